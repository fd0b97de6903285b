/- A part of the proof. -/
import Derived.Test.YtmndpgfbkicndaaCe1
import Derived.RangeFuncRecord
import Derived.Scope
import Derived.OpenShut
import Derived.FnData
import Derived.MakeChecks
import Derived.CallsIn
import Derived.Laws.Twins
set_option linter.all false
namespace Go.Ab
open Go
def qD:∀{l:YB Nat},zm l=true->l.Nodup
 | [],_=>List.nodup_nil
 | x::xs,h=>by
  simp only[zm,Va,Wa,List.contains_eq_mem,decide_eq_false_iff_not] at h;exact Ww.2 ⟨h.1,qD h.2⟩
def EU:∀{l:YB Oper} {x y:Nat} {a b:Oper} {d:Tmp},(l.filterMap (·.dst)).Nodup->l[x]? = some a->l[y]? = some b->a.dst=some d->b.dst=some d->x=y
 | [],x,y,a,b,d,_,h,_,_,_=>by simp at h
 | o::l,0,0,a,b,d,_,_,_,_,_=>rfl
 | o::l,0,y+1,a,b,d,hn,ha,hb,hda,hdb=>by
  simp at ha; subst ha;have hb':l[y]? = some b:=by simpa using hb
  rw[List.filterMap_cons_some hda] at hn;exact Vr (List.mem_filterMap.2 ⟨b,VD hb',hdb⟩) (Ww.1 hn).1
 | o::l,x+1,0,a,b,d,hn,ha,hb,hda,hdb=>by
  simp at hb; subst hb;have ha':l[x]? = some a:=by simpa using ha
  rw[List.filterMap_cons_some hdb] at hn;exact Vr (List.mem_filterMap.2 ⟨a,VD ha',hda⟩) (Ww.1 hn).1
 | o::l,x+1,y+1,a,b,d,hn,ha,hb,hda,hdb=>by
  have hn':(l.filterMap (·.dst)).Nodup:=by
   cases ho:o.dst with
   | none=>rw[List.filterMap_cons_none ho] at hn; exact hn
   | some d'=>rw[List.filterMap_cons_some ho] at hn; exact(Ww.1 hn).2
  exact Vs (· + 1) (EU hn' (by simpa using ha) (by simpa using hb) hda hdb)
def EZ(bs:YB Nat)(i j:Nat):Prop:=(bs.getD j 0).testBit i=true
structure OrderOk(ops:YD Oper)(bs:YB Nat):Prop where
 uniq:∀(x y:Nat) (a b:Oper) (d:Tmp),ops[x]? = some a->ops[y]? = some b->a.dst=some d->b.dst=some d->x=y
 edge:∀(j:Nat) (o:Oper),ops[j]? = some o->∀e∈cN o,e<j
 guard:∀(j:Nat) (o:Oper) (g:Nat) (want:Bool),ops[j]? = some o->o.guard=some (g,want)->g<j/\EZ bs g j
 anc:∀(i j:Nat) (o:Oper),i<j->ops[j]? = some o->EZ bs i j->∃e∈cN o,e=i\/(i<e/\EZ bs i e)
 apart:∀(i j:Nat) (a b:Oper),i<j->ops[i]? = some a->ops[j]? = some b->¬EZ bs i j->tW ops a b=true
def dL{ops:YD Oper}{i:Nat}{o:Oper}(h:ops[i]? = some o):ops.getD i default=o:=by
 rw[Array.getD_eq_getD_getElem?,h]; rfl
def CE{ops:YD Oper}{bs:YB Nat}(h:yR ops bs=true):OrderOk ops bs:=by
 simp only[yR,Va,Vo,Vy] at h;obtain⟨h1,h2⟩:=h;have hlt:∀{i:Nat} {o:Oper},ops[i]? = some o->i<ops.size:=fun h=>(Vh.1 h).1;refine⟨?_,?_,?_,?_,?_⟩
 intro x y a b d ha hb hda hdb;exact EU (qD h1) (by simpa using ha) (by simpa using hb) hda hdb
 intro j o ho e he;have:=(h2 j (hlt ho)).1.1;rw[dL ho] at this
 simpa using this e he
 intro j o g want ho hg;have:=(h2 j (hlt ho)).1.2;rw[dL ho,hg] at this;simp only[Va,Vm] at this;exact this
 intro i j o hij ho hb;have:=(h2 j (hlt ho)).2 i hij;rw[dL ho] at this;unfold EZ at hb;rw[U5 hb] at this;simp only[List.any_eq_true,Wv,beq_iff_eq,Va,Xn] at this;obtain⟨e,he,h3⟩:=this;exact⟨e,he,h3.imp id fun h=>⟨h.1,h.2⟩⟩
 intro i j a b hij ha hb hnb;have:=(h2 j (hlt hb)).2 i hij;rw[dL ha,dL hb] at this;unfold EZ at hnb;rw[U3 hnb] at this;exact this
def HU{ops:YD Oper}{bs:YB Nat}(hO:OrderOk ops bs){D:XH}(hD:∀j o,ops[j]? = some o->D j->∀e∈cN o,D e) :
  ∀(j:Nat) (o:Oper),ops[j]? = some o->(∀e∈cN o,D e)->∀i,i<j->EZ bs i j->D i:=by
 intro j
 induction j using Nat.strongRecOn with
 | _ j ih =>
  intro o ho he i hij hb;obtain⟨e,hee,rfl|⟨hie,hbe⟩⟩:=hO.anc i j o hij ho hb
  exact he _ hee
  have hej:=hO.edge j o ho e hee;have hsz:e<ops.size:=Nat.lt_trans hej (Vh.1 ho).1;have hoe:ops[e]? = some ops[e]:=by simp[hsz]
  exact ih e hej _ hoe (hD e _ hoe (he e hee)) i hie hbe
def nM{ops:YD Oper}{a b:Oper}(h:tW ops a b=true):(∀d,a.dst=some d->d∉looks ops b)/\(∀d,b.dst=some d->d∉looks ops a)/\¬(aA a.op=true/\aA b.op=true):=by
 simp only[tW,Va,Wa,Bool.and_eq_false_imp] at h;obtain⟨⟨h1,h2⟩,h3⟩:=h;refine⟨fun d hd=>?_,fun d hd=>?_,fun hh=>?_⟩
 rw[hd] at h2;simp only[Va,Wa,List.contains_eq_mem,decide_eq_false_iff_not] at h2;exact h2.1
 rw[hd] at h3
 simpa only[Wa,List.contains_eq_mem,decide_eq_false_iff_not] using h3
 have:=h1 hh.1;rw[hh.2] at this; cases this
def wE{E:Env}{t:Tm}{o:Op}{b:Nat}(h:aM E t o=some b):qY o=true:=by
 cases o<;>simp only[aM] at h<;>try(cases h; done)
 all_goals first|rfl|skip
 rename_i c;cases hc:c.callee with
 | builtin bb =>
  rw[hc] at h;cases bb<;>simp only[qY,hc]<;>first|rfl |(cases h; done)
 | _=>rw[hc] at h; cases h
section
variable{E:Env}{k:K}{ops:YD Oper}{n:Nat}
def Dx {t:Tm} {tmps:YD XI} {j:aR} (o:Oper) (h:∀g want d,o.guard=some (g,want)->(ops[g]?).bind (·.dst)=some d->VR j (t.at d) (tmps.getD d undef)):Region.wanted o (yielded ops tmps)=cg ops o t:=by
 unfold Region.wanted cg;cases hgd:o.guard with
 | none=>rfl
 | some p =>
  obtain⟨g,want⟩:=p;simp only;have key:yielded ops tmps g=fS ops t g:=by
   unfold yielded fS;cases hd:(ops[g]?).bind (·.dst) with
   | none=>rfl
   | some d =>
    simp only[VE];have hv:=h g want d hgd hd;unfold Tm.at at hv;cases hg:t.get d with
    | none =>
     rw[hg] at hv;simp only[Option.getD_none] at hv;have:tmps[d]? = none\/tmps[d]? = some undef:=by
      cases ha:tmps[d]? with
      | none=>exact .inl rfl
      | some x =>
       right
       have:tmps.getD d undef=x:=by simp[ha]
       rw[this] at hv;have:x=undef:=iE (by rfl) hv
       rw[this]
     rcases this with e|e<;>rw[e]<;>rfl
    | some x =>
     rw[hg] at hv;simp only[Option.getD_some] at hv;cases ha:tmps[d]? with
     | none =>
      have:tmps.getD d undef=undef:=by simp[ha]
      rw[this] at hv;cases x<;>first|rfl|cases hv
     | some y =>
      have:tmps.getD d undef=y:=by simp[ha]
      rw[this] at hv;cases hv with
      | junk hj=>cases y<;>first|rfl |(simp[AG,aP] at hj)
      | _=>rfl
  rw[key];cases fS ops t g with
  | none=>rfl
  | some b=>simp
structure Can(k:K)(E:Env)(n:Nat)(ops:YD Oper)(j0:aR)(w0:XM)(T:Nat->Tm)(M:Nat->Yq)(V:Nat->XI)(ns:YB Note):Prop where
 hk:∀tk r,k tk=some r->cX E tk r
 tr:Tr k E n ops 0 ops.size T M V ns
 mr:MR E j0 (M 0) w0
 ghost:∀i,i<=ops.size->∃jc wc tc,Sim E j0 (M 0) w0 jc (M i) wc/\TR n jc (T i) tc
def Fh(hk:∀tk r,k tk=some r->cX E tk r){j0:aR}{w0:XM}{T:Nat->Tm}{M:Nat->Yq}{V:Nat->XI}{ns:YB Note}(tr:Tr k E n ops 0 ops.size T M V ns)(h0:MR E j0 (M 0) w0){t0:YD XI}(ht0:TR n j0 (T 0) t0) :
  ∀i,i<=ops.size->∃jc wc tc,Sim E j0 (M 0) w0 jc (M i) wc/\TR n jc (T i) tc:=by
 intro i
 induction i with
 | zero=>exact fun _=>⟨j0,w0,t0,.refl h0,ht0⟩
 | succ i ih =>
  intro hi;obtain⟨jc,wc,tc,s,ht⟩:=ih (by omega)
  obtain⟨note,_,o,ho,hp,hst⟩:=tr.step i (by omega)
  rcases hst with⟨_,r,e,hm,_⟩|⟨_,hv,hm,_⟩
  have hd:=nv (a:={ tmps:=tc,defers:=[]}) hk (s.mr.xU (x:=(M i).next)) ht e
  obtain⟨v',w',j',s',hv'⟩:=hd.ends;exact⟨j',w',_,s.trans h0 (hm▸s'.QQ),TR.put (a:={ tmps:=tc,defers:=[]}) (ht.mono s'.le) hv' hp⟩
  rw[hm];exact⟨jc,wc,_,s,TR.put (a:={ tmps:=tc,defers:=[]}) ht (hv▸VR.undef jc) hp⟩
variable{j0:aR}{w0:XM}{T:Nat->Tm}{M:Nat->Yq}{V:Nat->XI}{ns:YB Note}
def Bw{t:Tm}{m:Yq}{o:Op}(h:aA o=false):eO k E t m o=fM E t m o:=by
 unfold eO;cases o with
 | call c =>
  simp only;cases hc:c.callee with
  | value f=>simp[aA,hc] at h
  | _=>rfl
 | _=>rfl
def zS{m m':Yq}{b o:Nat}{vs:YB XI}(h:m.cU b o vs=some m'){x:Nat}(hx:x≠b):m'.get x=m.get x:=by
 unfold Yq.cU at h
 split at h
 cases h; rfl
 split at h
 cases h
 split at h
 cases h; rw[Yq.bz,U3 hx]
 cases h
 cases h
def Dt{t:Tm}{m r:Yq}{o:Op}{v:XI}{b':Nat}(h:eO k E t m o=some (v,r))(hw:fj E t o=some b'):∀b,b≠b'->r.get b=m.get b:=by
 cases o<;>simp only[fj] at hw<;>try(cases hw; done)
 rename_i ty a x;simp only[eO,fM] at h
 split at h
 rename_i p v0 hp hv;obtain⟨m1,hm,he⟩:=map_some h;cases he;rw[hp] at hw;unfold ik at hm
 split at hm
 rename_i b o;simp only[Option.some.injEq] at hw;subst hw
 split at hm
 exact fun b hb=>zS hm hb
 cases hm
 cases hm
 cases h
def xz:∀{v u:XI},yQ v u=true->v=u:=by
 intro v u h;unfold yQ at h
 split at h
 simp only[Va,Vm] at h; rw[h.1,h.2]
 simp only[beq_iff_eq] at h; rw[h]
 simp only[Va,Vm,Nat.beq_eq] at h; rw[h.1,h.2.1,h.2.2]
 simp only[Vm] at h; rw[h]
 simp only[Vm] at h; rw[h]
 cases h
def sb:∀{v u:YB XI},u0 v u=true->v=u
 | [],[],_=>rfl
 | v::vs,u::us,h=>by
  simp only[u0,Va] at h;rw[xz h.1,sb h.2]
 | [],_::_,h=>by cases h
 | _::_,[],h=>by cases h
def vd:∀{v u:XI},AH v u=true->v=u:=by
 intro v u h;unfold AH at h
 split at h
 rename_i f a c f' a' c';simp only[Va] at h;have h1:=Wh h.1;have h2:=sb h.2.1;have h3:=sb h.2.2;subst h1;obtain⟨a⟩:=a;obtain⟨a'⟩:=a';obtain⟨c⟩:=c;obtain⟨c'⟩:=c';simp only at h2 h3;rw[h2,h3]
 exact xz h
def AL:∀{v u:YB XI},Er v u=true->v=u
 | [],[],_=>rfl
 | v::vs,u::us,h=>by
  simp only[Er,Va] at h;rw[vd h.1,AL h.2]
 | [],_::_,h=>by cases h
 | _::_,[],h=>by cases h
def w9:∀{v u:YB (XI×XI)},y9 v u=true->v=u
 | [],[],_=>rfl
 |(a,b)::vs,(c,d)::us,h=>by
  simp only[y9,Va] at h;rw[show a=c from vd h.1.1,show b=d from vd h.1.2,w9 h.2]
 | [],_::_,h=>by cases h
 | _::_,[],h=>by cases h
def IE{a b:YA Ys}(h:Jr a b=true):a=b:=by
 unfold Jr at h
 split at h
 simp only[Va,Vm] at h; rw[h.1,AL h.2]
 rw[w9 h]
 cases h
def LQ{m m':Yq}{b:Nat}(h:jX m m' b=true):m.get b=m'.get b:=by
 unfold jX at h;rcases(Wv _ _).mp h with h|h
 exact IE h
 exact @of_decide_eq_true _ (Classical.propDecidable _) h
inductive Kind(k:K)(E:Env)(ops:YD Oper)(M:Nat->Yq)(o:Oper)(i:Nat)(t:Tm)(v:XI):Prop
 | skip (hw:cg ops o t=false) (hv:v=undef) (hm:M (i+1)=M i)
 | quiet (hw:cg ops o t=true) (he:aA o.op=false) (hn:(M (i+1)).next=(M i).next) (hg:∀b,(M (i+1)).get b=(M i).get b)
   (ha:∀m2:Yq,(∀b0,aM E t o.op=some b0->m2.get b0=(M i).get b0)->fM E t m2 o.op=some (v,m2))
 | makes (hw:cg ops o t=true) (he:aA o.op=false) (vb:Nat->XI) (ao:Ys) (hv:v=vb (M i).next) (hn:(M (i+1)).next=(M i).next+1)
   (hg:∀b,(M (i+1)).get b=if b=(M i).next then some ao else(M i).get b) (ha:∀m2:Yq,fM E t m2 o.op=some (vb m2.next,m2.alloc ao))
 | effect (hw:cg ops o t=true) (he:aA o.op=true) (r:Yq) (hr:eO k E t { M i with wl:=(M i).next} o.op=some (v,r)) (hm:M (i+1) ={ r with wl:=min (M i).wl r.wl})
def Can.kind(c:Can k E n ops j0 w0 T M V ns){i:Nat}(hi:i<ops.size):∃o,ops[i]? = some o/\kZ n (T i) o.dst (V i)=some (T (i+1))/\Kind k E ops M o i (T i) (V i):=by
 obtain⟨note,_,o,ho,hp,hst⟩:=c.tr.step i hi;rw[VC] at ho;refine⟨o,ho,hp,?_⟩;rcases hst with⟨hw,r,e,hm,_⟩|⟨hw,hv,hm,_⟩
 ·cases he:aA o.op with
  | true=>exact .effect hw he r e hm
  | false =>
   rw[Bw he] at e;obtain⟨jc,wc,tc,s,ht⟩:=c.ghost i (by omega)
   rcases yF (a:={ tmps:=tc,defers:=[]}) (s.mr.xU (x:=(M i).next)) ht e with⟨h1,h2,_⟩|⟨ao,co,vb,v',h1,h2,_,_,_,h3⟩|⟨h1,_⟩
   subst h1;exact .quiet hw he (by rw[hm]) (fun b=>by rw[hm]; rfl) (fun m2 hm2=>h2 m2 hm2)
   subst h2;refine .makes hw he vb ao h1 (by rw[hm]; rfl) (fun b=>?_) h3
   rw[hm];exact Yq.aU { M i with wl:=(M i).next} ao b
   rw[he] at h1; cases h1
 exact .skip hw hv hm
def Can.ext(c:Can k E n ops j0 w0 T M V ns){i:Nat}(hi:i<ops.size):AExt (M i) (M (i+1)):=by
 obtain⟨note,_,o,ho,hp,hst⟩:=c.tr.step i hi;rcases hst with⟨hw,r,e,hm,_⟩|⟨hw,hv,hm,_⟩
 obtain⟨jc,wc,tc,s,ht⟩:=c.ghost i (by omega)
 obtain⟨v',w',j',s',hv'⟩:=(nv (a:={ tmps:=tc,defers:=[]}) c.hk (s.mr.xU (x:=(M i).next)) ht e).ends
 rw[hm]; exact s'.QQ.ext
 rw[hm]; exact .refl _
def Can.note(c:Can k E n ops j0 w0 T M V ns){i:Nat}(hi:i<ops.size):∃note o,ns[i]? = some note/\ops[i]? = some o/\note.next=(M i).next /\
  (∀b,b<(M i).next->(b<note.wl\/(∃b',note.wrote=some b'/\b≠b')\/note.kept b=true)->(M (i+1)).get b=(M i).get b)/\(cg ops o (T i)=true->note.read=aM E (T i) o.op):=by
 obtain⟨note,hn,o,ho,hp,hst⟩:=c.tr.step i hi;rw[VC] at ho;refine⟨note,o,hn,ho,?_⟩;rcases hst with⟨hw,r,e,hm,hnote⟩|⟨hw,hv,hm,hnote⟩
 obtain⟨jc,wc,tc,s,ht⟩:=c.ghost i (by omega)
 obtain⟨v',w',j',s',hv'⟩:=(nv (a:={ tmps:=tc,defers:=[]}) c.hk (s.mr.xU (x:=(M i).next)) ht e).ends
 subst hnote;refine⟨rfl,fun b hb hc=>?_,fun _=>rfl⟩;rw[hm];rcases hc with hc|⟨b',hc,hne⟩|hc
 exact s'.ext.same b hb hc
 exact Dt e hc b hne
 exact(LQ hc).symm
 subst hnote;exact⟨rfl,fun b hb _=>by rw[hm],fun h=>by rw[hw] at h; cases h⟩
def Can.keep(c:Can k E n ops j0 w0 T M V ns){i:Nat}{o:Oper}(ho:ops[i]? = some o)(he:aA o.op=false\/cg ops o (T i)=false):∀b,b<(M i).next->(M (i+1)).get b=(M i).get b:=by
 obtain⟨o',ho',_,hk⟩:=c.kind (Vh.1 ho).1;rw[ho] at ho'; cases ho';cases hk with
 | skip _ _ hm=>intro b _; rw[hm]
 | quiet _ _ _ hg _=>exact fun b _=>hg b
 | makes _ _ vb ao _ _ hg _=>intro b hb; rw[hg,XP]
 | effect hw he' _ _ _ =>
  rcases he with he|he
  rw[he] at he'; cases he'
  rw[he] at hw; cases hw
def Can.cC(c:Can k E n ops j0 w0 T M V ns){x y:Nat}(hy:y<=ops.size)(h:x<=y):(M x).next<=(M y).next:=by
 induction y with
 | zero =>
  have:x=0:=by omega
  subst this; exact U8 _
 | succ y ih =>
  rcases V3 y x with hlt|hge
  have:x=y+1:=by omega
  subst this; exact U8 _
  exact VK (ih (by omega) hge) (c.ext (by omega)).next
def Can.Rr(c:Can k E n ops j0 w0 T M V ns){x y:Nat}(hy:y<=ops.size)(h:x<=y):(M y).wl<=(M x).wl:=by
 induction y with
 | zero =>
  have:x=0:=by omega
  subst this; exact U8 _
 | succ y ih =>
  rcases V3 y x with hlt|hge
  have:x=y+1:=by omega
  subst this; exact U8 _
  exact VK (c.ext (by omega)).wl (ih (by omega) hge)
def Can.gp(_:Can k E n ops j0 w0 T M V ns){x y:Nat}(hy:y<=ops.size)(hxy:x<=y){b:Nat}(hb:b<(M x).next)(H:∀z,x<=z->z<y->(M (z+1)).get b=(M z).get b):(M y).get b=(M x).get b:=by
 induction y with
 | zero =>
  have:x=0:=by omega
  subst this; rfl
 | succ y ih =>
  rcases V3 y x with hlt|hge
  have:x=y+1:=by omega
  subst this; rfl
  rw[H y hge (by omega)]
  exact ih (by omega) hge fun z h1 h2=>H z h1 (by omega)
def Made(M:Nat->Yq)(i b:Nat):Prop:=(M i).next<=b/\b<(M (i+1)).next
def Can.xb(c:Can k E n ops j0 w0 T M V ns){i i' b:Nat}(hi:i<ops.size)(hi':i'<ops.size)(h:Made M i b)(h':Made M i' b):i=i':=by
 rcases Xk i i' with hlt|heq|hgt
 have:=c.cC (x:=i+1) (y:=i') (by omega) (by omega)
 have:=h.2; have:=h'.1; omega
 exact heq
 have:=c.cC (x:=i'+1) (y:=i) (by omega) (by omega)
 have:=h'.2; have:=h.1; omega
def tN:∀{y:Nat} {b x:Nat},x<=y->(M x).next<=b->b<(M y).next->∃i,x<=i/\i<y/\Made M i b
 | 0,b,x,hx,h1,h2=>by
  have:x=0:=by omega
  subst this; omega
 | y+1,b,x,hx,h1,h2=>by
  rcases V3 b (M y).next with hlt|hge
  rcases V3 y x with hyx|hyx
  have:x=y+1:=by omega
  subst this; omega
  obtain⟨i,a1,a2,a3⟩:=tN hyx h1 hlt;exact⟨i,a1,by omega,a3⟩
  rcases V3 y x with hyx|hyx
  have:x=y+1:=by omega
  subst this; omega
  exact⟨y,hyx,by omega,hge,h2⟩
def zj(M:Nat->Yq):Nat->Nat->YA Ys
 | 0,_=>none
 | x+1,b=>if(M x).next<=b/\b<(M (x+1)).next then(M (x+1)).get b else zj M x b
def cont(M:Nat->Yq)(N s b:Nat):YA Ys:=if b<(M s).next then(M s).get b else zj M N b
def px(M:Nat->Yq)(N s:Nat):Yq:={ next:=(M N).next,wl:=(M N).wl,objs:=.nil,base:=cont M N s}
def dD(N s b:Nat):(px M N s).get b=cont M N s b:=by simp[Yq.get,px,Heap.get_nil]
def Can.born(c:Can k E n ops j0 w0 T M V ns){i b:Nat}(h:Made M i b):∀{x:Nat},x<=ops.size->i<x->zj M x b=(M (i+1)).get b
 | 0,_,hi=>by omega
 | x+1,hx,hi=>by
  simp only[zj]
  split
  rename_i h2;rw[c.xb (i:=i) (i':=x) (by omega) (by omega) h h2]
  rename_i h2;rcases V3 i x with hlt|hge
  exact c.born h (by omega) hlt
  have:i=x:=by omega
  subst this; exact(h2 h).elim
def Can.dB(_:Can k E n ops j0 w0 T M V ns){s b:Nat}(h:b<(M s).next):cont M ops.size s b=(M s).get b:=by simp[cont,h]
def Can.rV(c:Can k E n ops j0 w0 T M V ns){s i b:Nat}(hi:i<ops.size)(h:Made M i b)(hs:(M s).next<=b):cont M ops.size s b=(M (i+1)).get b:=by
 unfold cont;rw[XP]
 exact c.born h (U8 _) hi
def Can.Da(c:Can k E n ops j0 w0 T M V ns){s s':Nat}(hs:s<=s')(hs':s'<=ops.size)(H:∀x,s<=x->x<s'->∀b,b<(M x).next->(M (x+1)).get b=(M x).get b):cont M ops.size s=cont M ops.size s':=by
 funext b
 rcases V3 b (M s).next with h1|h1
 rw[c.dB h1,c.dB (Vt h1 (c.cC hs' hs))];exact(c.gp hs' hs h1 fun z hz hz'=>H z hz hz' b (Vt h1 (c.cC (by omega) hz))).symm
 rcases V3 b (M s').next with h2|h2
 obtain⟨i,a1,a2,a3⟩:=tN hs h1 h2;rw[c.rV (by omega) a3 h1,c.dB h2]
 exact(c.gp (x:=i+1) hs' (by omega) a3.2 fun z hz hz'=>H z (by omega) hz' b (Vt a3.2 (c.cC (by omega) hz))).symm
 unfold cont;rw[XP,XP]
structure TD(n:Nat)(ops:YD Oper)(T:Nat->Tm)(V:Nat->XI)(D:XH)(j:aR)(tmps:YD XI):Prop where
 size:tmps.size=n
 done:∀x o d,ops[x]? = some o->D x->o.dst=some d->VR j (V x) (tmps.getD d undef)
 rest:∀d,(∀x o,ops[x]? = some o->D x->o.dst≠some d)->VR j ((T 0).at d) (tmps.getD d undef)
def TD.mono{D:XH}{j j':aR}{tmps:YD XI}(h:TD n ops T V D j tmps)(hj:j.le j'):TD n ops T V D j' tmps :=
 ⟨h.size,fun x o d a b c=>(h.done x o d a b c).mono hj,fun d hd=>(h.rest d hd).mono hj⟩
def Can.La(c:Can k E n ops j0 w0 T M V ns):∀{i:Nat},i<=ops.size->∀d,(∃x o,x<i/\ops[x]? = some o/\o.dst=some d/\(T i).at d=V x)\/((∀x o,x<i->ops[x]? = some o->o.dst≠some d)/\(T i).at d=(T 0).at d)
 | 0,_,d=>.inr ⟨fun x o h=>by omega,rfl⟩
 | i+1,hi,d=>by
  obtain⟨o,ho,hp,_⟩:=c.kind (i:=i) (by omega)
  unfold kZ at hp;cases hd:o.dst with
  | none =>
   rw[hd] at hp;simp only[Option.some.injEq] at hp;rw[<-hp];rcases c.La (i:=i) (by omega) d with⟨x,o',h1,h2,h3,h4⟩|⟨h1,h2⟩
   exact .inl ⟨x,o',by omega,h2,h3,h4⟩
   refine .inr ⟨fun x o' hx ho'=>?_,h2⟩;rcases V3 x i with hlt|hge
   exact h1 x o' hlt ho'
   have:x=i:=by omega
   subst this;rw[ho] at ho'; cases ho';rw[hd]; simp
  | some d0 =>
   rw[hd] at hp;simp only at hp
   split at hp
   simp only[Option.some.injEq] at hp;rw[<-hp]
   by_cases hdd:d=d0
   subst hdd;exact .inl ⟨i,o,by omega,ho,hd,by simp[Tm.at,Trie.bz]⟩
   have hat:Tm.at ((T i).set d0 (V i)) d=Tm.at (T i) d:=by simp[Tm.at,Trie.bz,hdd]
   rw[hat];rcases c.La (i:=i) (by omega) d with⟨x,o',h1,h2,h3,h4⟩|⟨h1,h2⟩
   exact .inl ⟨x,o',by omega,h2,h3,h4⟩
   refine .inr ⟨fun x o' hx ho'=>?_,h2⟩;rcases V3 x i with hlt|hge
   exact h1 x o' hlt ho'
   have:x=i:=by omega
   subst this;rw[ho] at ho'; cases ho';rw[hd]; simp only[ne_eq,Option.some.injEq]; exact fun h=>hdd h.symm
   cases hp
def Can.C7(c:Can k E n ops j0 w0 T M V ns){i:Nat}{o:Oper}(ho:ops[i]? = some o){d:Tmp}(hd:o.dst=some d):d<n:=by
 obtain⟨o',ho',hp,_⟩:=c.kind (Vh.1 ho).1;rw[ho] at ho'; cases ho';unfold kZ at hp;rw[hd] at hp;simp only at hp
 split at hp
 rename_i h; simpa using h
 cases hp
def TD.put{bs:YB Nat}(hO:OrderOk ops bs){D:XH}{j:aR}{a:Act}{i:Nat}{o:Oper}(h:TD n ops T V D j a.tmps)(ho:ops[i]? = some o)(hn:∀d,o.dst=some d->d<n){v':XI}(hv:VR j (V i) v') :
  TD n ops T V (fun x=>D x\/x=i) j (a.put o.dst v').tmps:=by
 cases hd:o.dst with
 | none =>
  refine⟨h.size,fun x o' d a1 a2 a3=>?_,fun d hd'=>h.rest d fun x o' a1 a2=>hd' x o' a1 (.inl a2)⟩;rcases a2 with a2|rfl
  exact h.done x o' d a1 a2 a3
  rw[ho] at a1; cases a1; rw[hd] at a3; cases a3
 | some d0 =>
  have hlt:d0<a.tmps.size:=by rw[h.size]; exact hn d0 hd
  have hget:∀d,(a.put (some d0) v').tmps.getD d undef=if d=d0 then v' else a.tmps.getD d undef:=by
   intro d
   show(a.tmps.setIfInBounds d0 v').getD d undef=_
   by_cases hdd:d=d0
   subst hdd; simp[hlt]
   rw[U3 hdd];simp[WI (Ne.symm hdd)]
  refine⟨by rw[<-h.size]; simp[Act.put],fun x o' d a1 a2 a3=>?_,fun d hd'=>?_⟩
  rw[hget]
  by_cases hdd:d=d0
  subst hdd;rw[U5 rfl];have:x=i:=hO.uniq x i o' o d a1 ho a3 hd;subst this; exact hv
  rw[U3 hdd];rcases a2 with a2|rfl
  exact h.done x o' d a1 a2 a3
  rw[ho] at a1; cases a1; rw[hd] at a3; cases a3; exact(hdd rfl).elim
  rw[hget]
  by_cases hdd:d=d0
  subst hdd; exact(hd' i o ho (.inr rfl) hd).elim
  rw[U3 hdd];exact h.rest d fun x o' a1 a2=>hd' x o' a1 (.inl a2)
structure Inv(E:Env)(n:Nat)(ops:YD Oper)(j0:aR)(w0:XM)(T:Nat->Tm)(M:Nat->Yq)(V:Nat->XI)(ds:YB Deferred)(D:XH)(s:Nat)(j:aR)(a:Act)(w:XM):Prop where
 le:s<=ops.size
 tmps:TD n ops T V D j a.tmps
 defers:a.defers=ds
 jle:j0.le j
 new:∀b kb,j b=some kb->j0 b=none->∃i,i<ops.size/\D i/\Made M i b
 mr:MR E j (px M ops.size s) w
 size:w0.heap.size<=w.heap.size
 full:∀i,i<ops.size->D i->∀b,Made M i b->(cont M ops.size s b).isSome=true->∃kb,j b=some kb
 fresh:∀b kb,j b=some kb->j0 b=none->w0.heap.size<=kb.c\/∃b0 k0,j0 b0=some k0/\((M 0).get b0).isSome=true/\k0.c=kb.c/\(M ops.size).wl<=b0
 frame:∀c,c<w0.heap.size->(∀b kb,j0 b=some kb->((M 0).get b).isSome=true->kb.c=c->b<(M ops.size).wl)->w.heap[c]? = w0.heap[c]?
 calm:j6 E w0 w
 unt:∀i,i<s->¬D i->∀b,Made M i b->(M s).get b=(M (i+1)).get b
variable{ds:YB Deferred}{D:Nat->Prop}{s:Nat}{j:aR}{a:Act}{w:XM}
def Inv.shift(c:Can k E n ops j0 w0 T M V ns)(h:Inv E n ops j0 w0 T M V ds D s j a w){s':Nat}(hs:s<=s')(hs':s'<=ops.size)(H:∀x,s<=x->x<s'->∀b,b<(M x).next->(M (x+1)).get b=(M x).get b) :
  Inv E n ops j0 w0 T M V ds D s' j a w:=by
 have hc:=c.Da hs hs' H;have hm:px M ops.size s'=px M ops.size s:=by simp only[px,hc]
 refine{ h with le:=hs',mr:=by rw[hm]; exact h.mr,full:=by rw[<-hc]; exact h.full,unt:=fun i hi hD b hb=>?_}
 rcases V3 i s with hlt|hge
 rw[<-h.unt i hlt hD b hb];have hb':b<(M s).next:=Vt hb.2 (c.cC (by omega) hlt)
 exact c.gp hs' hs hb' fun z hz hz'=>H z hz hz' b (Vt hb' (c.cC (by omega) hz))
 exact c.gp hs' (by omega) hb.2 fun z hz hz'=>H z (by omega) hz' b (Vt hb.2 (c.cC (by omega) hz))
def Inv.wo(c:Can k E n ops j0 w0 T M V ns)(h:Inv E n ops j0 w0 T M V ds D s j a w){i b:Nat}(hi:i<ops.size)(hD:¬D i)(hb:Made M i b):j b=none:=by
 cases hj:j b with
 | none=>rfl
 | some kb =>
  cases hj0:j0 b with
  | some k0 =>
   have:=(c.mr.lt b k0 hj0).1;have:=c.cC (x:=0) (y:=i) (by omega) (V9 _)
   have:=hb.1;omega
  | none =>
   obtain⟨i',hi',hD',hb'⟩:=h.new b kb hj hj0;exact Vr (c.xb hi hi' hb hb'▸hD') hD
def Inv.quiet{bs:YB Nat}(hO:OrderOk ops bs)(c:Can k E n ops j0 w0 T M V ns)(h:Inv E n ops j0 w0 T M V ds D s j a w){i:Nat}{o:Oper}(ho:ops[i]? = some o)(hn:(M (i+1)).next=(M i).next){v':XI}(hv:VR j (V i) v') :
  Inv E n ops j0 w0 T M V ds (fun x=>D x\/x=i) s j (a.put o.dst v') w where
 le:=h.le
 tmps:=h.tmps.put hO ho (fun d hd=>c.C7 ho hd) hv
 defers:=by rw[<-h.defers]; cases o.dst<;>rfl
 jle:=h.jle
 new:=fun b kb h1 h2=>let⟨x,a1,a2,a3⟩:=h.new b kb h1 h2;⟨x,a1,.inl a2,a3⟩
 mr:=h.mr
 size:=h.size
 full:=fun x hx hD b hb hl=>by
  rcases hD with hD|rfl
  exact h.full x hx hD b hb hl
  have:=hb.1; have:=hb.2; omega
 fresh:=h.fresh
 frame:=h.frame
 calm:=h.calm
 unt:=fun x hx hD b hb=>h.unt x hx (fun hd=>hD (.inl hd)) b hb
def Inv.makes{bs:YB Nat}(hO:OrderOk ops bs)(c:Can k E n ops j0 w0 T M V ns)(h:Inv E n ops j0 w0 T M V ds D s j a w){i:Nat}{o:Oper}(ho:ops[i]? = some o)(hD:¬D i){ao:Ys}(hn:(M (i+1)).next=(M i).next+1)
  (hg:(M (i+1)).get (M i).next=some ao) {co:Obj} (hor:OR j ⟨w.heap.size,none⟩ ao co) {v':XI} (hv:VR (j.set (M i).next ⟨w.heap.size,none⟩) (V i) v') :
  Inv E n ops j0 w0 T M V ds (fun x=>D x\/x=i) s (j.set (M i).next ⟨w.heap.size,none⟩) (a.put o.dst v') (w.alloc co):=by
 have hi:i<ops.size:=(Vh.1 ho).1;have hmade:Made M i (M i).next:=⟨U8 _,by omega⟩
 have hnone:j (M i).next=none:=h.wo c hi hD hmade
 have hle:j.le (j.set (M i).next ⟨w.heap.size,none⟩):=aR.qw _ hnone
 have hcont:cont M ops.size s (M i).next=some ao:=by
  rcases V3 i s with hlt|hge
  rw[c.dB (Vt hmade.2 (c.cC h.le hlt)),h.unt i hlt hD _ hmade,hg]
  rw[c.rV hi hmade (c.cC (by omega) hge),hg]
 have hheap:∀x,x<w.heap.size->(w.alloc co).heap[x]? = w.heap[x]?:=fun x hx=>by
  show(w.heap.push co)[x]? = w.heap[x]?
  rw[WO,XP]
 have hnew:(w.alloc co).heap[w.heap.size]? = some co:=World.alloc_heap_new w co;have hcase:∀b kb,(j.set (M i).next ⟨w.heap.size,none⟩) b=some kb->(b=(M i).next/\kb=⟨w.heap.size,none⟩)\/(b≠(M i).next/\j b=some kb):=by
  intro b kb hb
  by_cases hbx:b=(M i).next
  subst hbx; rw[aR.cn] at hb; cases hb; exact .inl ⟨rfl,rfl⟩
  rw[aR.bV _ _ hbx] at hb; exact .inr ⟨hbx,hb⟩
 refine⟨h.le,(h.tmps.mono hle).put hO ho (fun d hd=>c.C7 ho hd) hv,by rw[<-h.defers]; cases o.dst<;>rfl,h.jle.trans hle,?_,⟨?_,?_,?_,?_⟩,?_,?_,?_,?_,h.calm,fun x hx hDx b hb=>h.unt x hx (fun hd=>hDx (.inl hd)) b hb⟩
 intro b kb hb hb0;rcases hcase b kb hb with⟨rfl,rfl⟩|⟨_,hj⟩
 exact⟨i,hi,.inr rfl,hmade⟩
 obtain⟨x,a1,a2,a3⟩:=h.new b kb hj hb0;exact⟨x,a1,.inl a2,a3⟩
 intro b kb hb;rcases hcase b kb hb with⟨rfl,rfl⟩|⟨_,hj⟩
 exact⟨Vt hmade.2 (c.cC (U8 _) hi),by rw[World.size_alloc]; exact Xb _⟩
 exact⟨(h.mr.lt b kb hj).1,by rw[World.size_alloc]; exact Nat.lt_succ_of_lt (h.mr.lt b kb hj).2⟩
 intro b o1 kb hg1 hb;rcases hcase b kb hb with⟨rfl,rfl⟩|⟨_,hj⟩
 rw[dD,hcont] at hg1; cases hg1;exact⟨co,hnew,hor.mono hle⟩
 obtain⟨o',h1,h2⟩:=h.mr.obj b o1 kb hg1 hj;exact⟨o',by rw[hheap _ (h.mr.lt b kb hj).2]; exact h1,h2.mono hle⟩
 intro b b' kb kb' hb hb' hl hl' he;rcases hcase b kb hb with⟨rfl,rfl⟩|⟨_,hj⟩<;>rcases hcase b' kb' hb' with⟨rfl,rfl⟩|⟨_,hj'⟩
 rfl
 have:=(h.mr.lt b' kb' hj').2;simp only at he; omega
 have:=(h.mr.lt b kb hj).2;simp only at he; omega
 exact h.mr.inj b b' kb kb' hj hj' hl hl' he
 intro g hgl;exact hle g _ (h.mr.glob g hgl)
 rw[World.size_alloc]; exact Nat.le_succ_of_le h.size
 intro x hx hDx b hb hl;rcases hDx with hDx|rfl
 obtain⟨kb,hkb⟩:=h.full x hx hDx b hb hl;exact⟨kb,hle b kb hkb⟩
 have hbx:b=(M x).next:=by have:=hb.1; have:=hb.2; omega
 subst hbx;exact⟨_,aR.cn _ _ _⟩
 intro b kb hb hb0;rcases hcase b kb hb with⟨rfl,rfl⟩|⟨_,hj⟩
 exact .inl h.size
 exact h.fresh b kb hj hb0
 intro x hx H;rw[hheap x (Vt hx h.size)];exact h.frame x hx H
def Inv.RT(c:Can k E n ops j0 w0 T M V ns){e:Nat}(he:e<=ops.size)(h:Inv E n ops j0 w0 T M V ds D e j a w){x:Nat}:MR E (j.below (M e).next) { M e with wl:=x} w:=by
 obtain⟨jc,wc,tc,sg,_⟩:=c.ghost e he;have hcdom:∀b kb,jc b=some kb->b<(M e).next:=fun b kb hb=>(sg.mr.lt b kb hb).1
 refine⟨fun b kb hb=>?_,fun b o kb hg hb=>?_,fun b b' kb kb' hb hb' hl hl' hc=>?_,fun g hg=>?_⟩
 obtain⟨h1,h2⟩:=aR.bB.1 hb;exact⟨h1,(h.mr.lt b kb h2).2⟩
 ·obtain⟨h1,h2⟩:=aR.bB.1 hb;have hg':(M e).get b=some o:=hg;obtain⟨o',h3,h4⟩:=h.mr.obj b o kb (by rw[dD,c.dB h1]; exact hg') h2
  refine⟨o',h3,?_⟩;obtain⟨kc,hkc⟩:∃kc,jc b=some kc:=by
   cases hj0:j0 b with
   | some k0=>exact⟨k0,sg.le b k0 hj0⟩
   | none =>
    obtain⟨i,hi,_,hm⟩:=h.new b kb h2 hj0;have:=c.cC (x:=0) (y:=i) (by omega) (V9 _)
    exact sg.full b (VK this hm.1) h1 (by rw[hg']; rfl)
  obtain⟨o2,_,h6⟩:=sg.mr.obj b o kc hg' hkc;exact h4.cut hcdom h6
 obtain⟨h1,h2⟩:=aR.bB.1 hb;obtain⟨h1',h2'⟩:=aR.bB.1 hb';refine h.mr.inj b b' kb kb' h2 h2' ?_ ?_ hc
 rw[dD,c.dB h1]; exact hl
 rw[dD,c.dB h1']; exact hl'
 refine aR.bB.2 ⟨?_,h.mr.glob g hg⟩;exact Vt (c.mr.lt g _ (c.mr.glob g hg)).1 (c.cC he (V9 _))
def aR.over(j' j:aR)(y:Nat):aR:=fun b=>if b<y then j' b else j b
def Inv.effect{bs:YB Nat}(hO:OrderOk ops bs)(c:Can k E n ops j0 w0 T M V ns){e:Nat}(h:Inv E n ops j0 w0 T M V ds D e j a w){o:Oper}(ho:ops[e]? = some o)(hD:¬D e){r:Yq}(hm:M (e+1) ={ r with wl:=min (M e).wl r.wl})
  {j':aR} {w':XM} (sm:Sim E (j.below (M e).next) { M e with wl:=(M e).next} w j' r w') {v':XI} (hv:VR j' (V e) v') :
  Inv E n ops j0 w0 T M V ds (fun x=>D x\/x=e) (e+1) (j'.over j (M (e+1)).next) (a.put o.dst v') w':=by
 have hi:e<ops.size:=(Vh.1 ho).1;have hrn:r.next=(M (e+1)).next:=by rw[hm]
 have hrg:∀b,r.get b=(M (e+1)).get b:=fun b=>by rw[hm]; rfl
 have hrw:(M ops.size).wl<=r.wl:=by
  have h1:=c.Rr (x:=e+1) (y:=ops.size) (U8 _) hi;have h2:(M (e+1)).wl=min (M e).wl r.wl:=by rw[hm]
  omega
 have hnx:(M e).next<=(M (e+1)).next:=(c.ext hi).next
 have hjlow:∀b kb,j b=some kb->b<(M e).next\/(M (e+1)).next<=b:=by
  intro b kb hb;rcases V3 b (M e).next with h1|h1
  exact .inl h1
  rcases V3 b (M (e+1)).next with h2|h2
  rw[h.wo c hi hD ⟨h1,h2⟩] at hb; cases hb
  exact .inr h2
 have hj'lt:∀b kb,j' b=some kb->b<(M (e+1)).next:=fun b kb hb=>hrn ▸(sm.mr.lt b kb hb).1
 have hle':j'.le (j'.over j (M (e+1)).next):=fun b kb hb=>by
  unfold aR.over; rw[U5 (hj'lt b kb hb)]; exact hb
 have hlej:j.le (j'.over j (M (e+1)).next):=fun b kb hb=>by
  rcases hjlow b kb hb with h1|h1
  exact hle' b kb (sm.le b kb (aR.bB.2 ⟨h1,hb⟩))
  unfold aR.over; rw[XP]; exact hb
 have hcase:∀b kb,(j'.over j (M (e+1)).next) b=some kb->(b<(M (e+1)).next/\j' b=some kb)\/((M (e+1)).next<=b/\j b=some kb):=by
  intro b kb hb;unfold aR.over at hb
  split at hb
  exact .inl ⟨by assumption,hb⟩
  exact .inr ⟨by omega,hb⟩
 have hsplit:∀b kb,j' b=some kb->(j.below (M e).next b=some kb)\/(Made M e b/\j.below (M e).next b=none):=by
  intro b kb hb;cases hj:j.below (M e).next b with
  | some k0=>have:=sm.le b k0 hj; rw[hb] at this; cases this; exact .inl rfl
  | none=>exact .inr ⟨⟨sm.new b kb hb hj,hj'lt b kb hb⟩,rfl⟩
 have hcold:∀b,b<(M (e+1)).next->cont M ops.size (e+1) b=r.get b:=fun b hb=>by rw[c.dB hb,hrg]
 have hcnew:∀b,(M (e+1)).next<=b->cont M ops.size (e+1) b=cont M ops.size e b:=fun b hb=>by
  unfold cont; rw[XP,XP]
 have halive:∀b kb,j.below (M e).next b=some kb->(r.get b).isSome=true->((M e).get b).isSome=true:=by
  intro b kb hb hl;cases hg:(M e).get b with
  | some _=>rfl
  | none =>
   have:=sm.ext.dead b (aR.bB.1 hb).1 hg;rw[this] at hl; cases hl
 have hmemlow:∀b,b<(M e).next->(px M ops.size e).get b=(M e).get b:=fun b hb=>by rw[dD,c.dB hb]
 have hcross:∀b b' kb kb',b<(M (e+1)).next->j' b=some kb->(M (e+1)).next<=b'->j b'=some kb'->(r.get b).isSome=true->(cont M ops.size e b').isSome=true->kb.c≠kb'.c:=by
  intro b b' kb kb' h1 h2 h3 h4 hl hl' he;have old:∀b0 k0,j.below (M e).next b0=some k0->((M e).get b0).isSome=true->k0.c=kb'.c->False:=by
   intro b0 k0 hb0 hl0 he0;obtain⟨a1,a2⟩:=aR.bB.1 hb0;have:=h.mr.inj b0 b' k0 kb' a2 h4 (by rw[hmemlow b0 a1]; exact hl0) (by rw[dD]; exact hl') he0
   omega
  rcases hsplit b kb h2 with hs|⟨hs,hs0⟩
  exact old b kb hs (halive b kb hs hl) he
  rcases sm.fresh b kb h2 hs0 with hf|⟨b0,k0,a1,a2,a3,a4⟩
  have:=(h.mr.lt b' kb' h4).2;omega
  exact old b0 k0 a1 a2 (a3.trans he)
 have hframe:∀b' kb',(M (e+1)).next<=b'->j b'=some kb'->(cont M ops.size e b').isSome=true->w'.heap[kb'.c]? = w.heap[kb'.c]?:=by
  intro b' kb' h3 h4 hl';refine sm.frame kb'.c (h.mr.lt b' kb' h4).2 fun b0 k0 hb0 hl0 he0=>?_;obtain⟨a1,a2⟩:=aR.bB.1 hb0;have:=h.mr.inj b0 b' k0 kb' a2 h4 (by rw[hmemlow b0 a1]; exact hl0) (by rw[dD]; exact hl') he0
  omega
 refine⟨hi,((h.tmps.mono hlej).put hO ho (fun d hd=>c.C7 ho hd) (hv.mono hle')),by rw[<-h.defers]; cases o.dst<;>rfl,h.jle.trans hlej,?_,⟨?_,?_,?_,fun g hg=>hlej g _ (h.mr.glob g hg)⟩,VK h.size sm.size,?_,?_,?_,j6.trans h.calm sm.calm,?_⟩
 intro b kb hb hb0;rcases hcase b kb hb with⟨_,h2⟩|⟨_,h2⟩
 rcases hsplit b kb h2 with hs|⟨hs,_⟩
 obtain⟨x,a1,a2,a3⟩:=h.new b kb (aR.bB.1 hs).2 hb0;exact⟨x,a1,.inl a2,a3⟩
 exact⟨e,hi,.inr rfl,hs⟩
 obtain⟨x,a1,a2,a3⟩:=h.new b kb h2 hb0;exact⟨x,a1,.inl a2,a3⟩
 intro b kb hb;rcases hcase b kb hb with⟨h1,h2⟩|⟨h1,h2⟩
 exact⟨Vt h1 (c.cC (U8 _) hi),(sm.mr.lt b kb h2).2⟩
 exact⟨(h.mr.lt b kb h2).1,Vt (h.mr.lt b kb h2).2 sm.size⟩
 intro b o1 kb hg1 hb;rw[dD] at hg1;rcases hcase b kb hb with⟨h1,h2⟩|⟨h1,h2⟩
 rw[hcold b h1] at hg1;obtain⟨o',a1,a2⟩:=sm.mr.obj b o1 kb hg1 h2;exact⟨o',a1,a2.mono hle'⟩
 rw[hcnew b h1] at hg1;obtain⟨o',a1,a2⟩:=h.mr.obj b o1 kb (by rw[dD]; exact hg1) h2
 exact⟨o',by rw[hframe b kb h1 h2 (by rw[hg1]; rfl)]; exact a1,a2.mono hlej⟩
 intro b b' kb kb' hb hb' hl hl' he;rw[dD] at hl hl';rcases hcase b kb hb with⟨h1,h2⟩|⟨h1,h2⟩<;>rcases hcase b' kb' hb' with⟨h1',h2'⟩|⟨h1',h2'⟩
 exact sm.mr.inj b b' kb kb' h2 h2' (by rw[<-hcold b h1]; exact hl) (by rw[<-hcold b' h1']; exact hl') he
 exact(hcross b b' kb kb' h1 h2 h1' h2' (by rw[<-hcold b h1]; exact hl) (by rw[<-hcnew b' h1']; exact hl') he).elim
 exact(hcross b' b kb' kb h1' h2' h1 h2 (by rw[<-hcold b' h1']; exact hl') (by rw[<-hcnew b h1]; exact hl) he.symm).elim
 exact h.mr.inj b b' kb kb' h2 h2' (by rw[dD,<-hcnew b h1]; exact hl) (by rw[dD,<-hcnew b' h1']; exact hl') he
 ·intro x hx hDx b hb hl;rcases hDx with hDx|rfl
  ·have hold:(cont M ops.size e b).isSome=true:=by
    rcases V3 b (M (e+1)).next with h1|h1
    ·rw[hcold b h1] at hl;have hxe:x≠e:=fun hxe=>hD (hxe▸hDx);have hxlt:x<e:=by
      rcases V3 x e with hlt|hge
      exact hlt
      have:=c.cC (x:=e+1) (y:=x) (by omega) (by omega)
      have:=hb.1; omega
     have hb2:b<(M e).next:=Vt hb.2 (c.cC (by omega) hxlt)
     rw[c.dB hb2];cases hg:(M e).get b with
     | some _=>rfl
     | none =>
      have:=sm.ext.dead b hb2 hg;rw[this] at hl; cases hl
    rw[<-hcnew b h1]; exact hl
   obtain⟨kb,hkb⟩:=h.full x hx hDx b hb hold;exact⟨kb,hlej b kb hkb⟩
  rw[hcold b hb.2] at hl;obtain⟨kb,hkb⟩:=sm.full b hb.1 (by rw[hrn]; exact hb.2) hl
  exact⟨kb,hle' b kb hkb⟩
 ·
  have freshOf:∀b0 k0,j.below (M e).next b0=some k0->((M e).get b0).isSome=true->(M ops.size).wl<=b0->w0.heap.size<=k0.c\/∃b1 k1,j0 b1=some k1/\((M 0).get b1).isSome=true/\k1.c=k0.c/\(M ops.size).wl<=b1:=by
   intro b0 k0 hb0 hl0 hw;have hb0':=(aR.bB.1 hb0).2;cases hj0:j0 b0 with
   | some k1 =>
    have:=h.jle b0 k1 hj0;rw[hb0'] at this; cases this;refine .inr ⟨b0,k0,hj0,?_,rfl,hw⟩;obtain⟨jc,wc,tc,sg,_⟩:=c.ghost e (by omega)
    cases hg:(M 0).get b0 with
    | some _=>rfl
    | none =>
     have:=sg.ext.dead b0 (c.mr.lt b0 k0 hj0).1 hg;rw[this] at hl0; cases hl0
   | none=>exact h.fresh b0 k0 hb0' hj0
  intro b kb hb hb0;rcases hcase b kb hb with⟨_,h2⟩|⟨_,h2⟩
  rcases hsplit b kb h2 with hs|⟨_,hs0⟩
  exact h.fresh b kb (aR.bB.1 hs).2 hb0
  rcases sm.fresh b kb h2 hs0 with hf|⟨b0,k0,a1,a2,a3,a4⟩
  exact .inl (VK h.size hf)
  rcases freshOf b0 k0 a1 a2 (VK hrw a4) with hf|⟨b1,k1,c1,c2,c3,c4⟩
  exact .inl (a3▸hf)
  exact .inr ⟨b1,k1,c1,c2,c3.trans a3,c4⟩
  exact h.fresh b kb h2 hb0
 ·intro x hx H;rw[<-h.frame x hx H];refine sm.frame x (Vt hx h.size) fun b0 k0 hb0 hl0 he0=>?_;have hb0':=(aR.bB.1 hb0).2;cases hj0:j0 b0 with
  | some k1 =>
   have:=h.jle b0 k1 hj0;rw[hb0'] at this; cases this;refine Vt (H b0 k0 hj0 ?_ he0) hrw;obtain⟨jc,wc,tc,sg,_⟩:=c.ghost e (by omega)
   cases hg:(M 0).get b0 with
   | some _=>rfl
   | none =>
    have hl0':((M e).get b0).isSome=true:=hl0;have:=sg.ext.dead b0 (c.mr.lt b0 k0 hj0).1 hg;rw[this] at hl0'; cases hl0'
  | none =>
   rcases h.fresh b0 k0 hb0' hj0 with hf|⟨b1,k1,c1,c2,c3,c4⟩
   omega
   have:=H b1 k1 c1 c2 (c3.trans he0);omega
 ·intro x hx hDx b hb;have hDx':¬D x:=fun hd=>hDx (.inl hd);rcases V3 x e with hlt|hge
  ·have hb2:b<(M e).next:=Vt hb.2 (c.cC (by omega) hlt)
   rw[<-h.unt x hlt hDx' b hb,<-hrg];refine sm.away b hb2 ?_;cases hj:j.below (M e).next b with
   | none=>rfl
   | some kb =>
    have:=(aR.bB.1 hj).2;rw[h.wo c (by omega) hDx' hb] at this; cases this
  exact Vr (by omega:x=e) (fun hxe=>hDx (.inr hxe))
structure Ready(ops:YD Oper)(bs:YB Nat)(D:XH)(i:Nat)(o:Oper):Prop where
 op:ops[i]? = some o
 out:¬D i
 edges:∀e∈cN o,D e
 closed:∀j o,ops[j]? = some o->D j->∀e∈cN o,D e
def Ready.before{bs:YB Nat}(hO:OrderOk ops bs){i:Nat}{o:Oper}(hr:Ready ops bs D i o){x:Nat}(hx:x<i)(hb:EZ bs x i):D x:=HU hO hr.closed i o hr.op hr.edges x hx hb
def Ready.behind{bs:YB Nat}(hO:OrderOk ops bs){i:Nat}{o:Oper}(hr:Ready ops bs D i o){x:Nat}{ox:Oper}(hox:ops[x]? = some ox)(hx:i<x)(hD:D x):¬EZ bs i x:=fun hb =>
 hr.out (HU hO hr.closed x ox hox (hr.closed x ox hox hD) i hx hb)
def Ready.looked{bs:YB Nat}(hO:OrderOk ops bs)(c:Can k E n ops j0 w0 T M V ns){i:Nat}{o:Oper}(hr:Ready ops bs D i o){tmps:YD XI}(h:TD n ops T V D j tmps):∀d∈looks ops o,VR j ((T i).at d) (tmps.getD d undef):=by
 intro d hd;have hi:i<ops.size:=(Vh.1 hr.op).1;have seen:∀x ox,x<i->ops[x]? = some ox->ox.dst=some d->D x:=by
  intro x ox hx hox hdx
  by_cases hb:EZ bs x i
  exact hr.before hO hx hb
  exact((nM (hO.apart x i ox o hx hox hr.op hb)).1 d hdx hd).elim
 rcases c.La (i:=i) (by omega) d with⟨x,ox,h1,h2,h3,h4⟩|⟨h1,h2⟩
 rw[h4];exact h.done x ox d h2 (seen x ox h1 h2 h3) h3
 rw[h2];refine h.rest d fun x ox hox hDx hdx=>?_;rcases Xk x i with hlt|heq|hgt
 exact h1 x ox hlt hox hdx
 subst heq; exact hr.out hDx
 have hnb:=hr.behind hO hox hgt hDx;exact(nM (hO.apart i x o ox hgt hr.op hox hnb)).2.1 d hdx hd
def sQ{bs:YB Nat}{i j:Nat}{a b:Oper}(hij:i<j)(ha:ops[i]? = some a)(hb:ops[j]? = some b)(hn:¬EZ bs i j)(hc:clash a b=true):(i,j)∈oK ops bs:=by
 have hj:j<ops.size:=(Vh.1 hb).1;simp only[oK,VI,Vy,Vi,List.mem_filter,Va,Wa];refine⟨j,hj,i,⟨hij,?_,?_⟩,rfl⟩
 unfold EZ at hn
 simpa using hn
 rw[dL ha,dL hb]; exact hc
def Inv.reads{bs:YB Nat}(hO:OrderOk ops bs)(c:Can k E n ops j0 w0 T M V ns)(hpairs:(oK ops bs).all (eu ns ops)=true)(hnote:ns.all gi=true)(h:Inv E n ops j0 w0 T M V ds D s j a w)
  (heff:∀x o,ops[x]? = some o->aA o.op=true->(D x↔x<s)) {i:Nat} {o:Oper} (hr:Ready ops bs D i o) (hw:cg ops o (T i)=true) (_:aA o.op=false) {b:Nat} (hb:aM E (T i) o.op=some b) :
  cont M ops.size s b=(M i).get b:=by
 have hi:i<ops.size:=(Vh.1 hr.op).1;obtain⟨ni,o',hn1,ho',hn2,hn3,hn4⟩:=c.note hi;rw[hr.op] at ho'; cases ho';have hread:ni.read=some b:=by rw[hn4 hw,hb]
 have hblt:b<(M i).next:=by
  have:=Vo.1 hnote ni (VD hn1);unfold gi at this;rw[hread] at this;rw[<-hn2]; simpa using this
 have hrd:qY o.op=true:=wE hb;have okOf:∀x nx,ns[x]? = some nx->Note.ok ni nx=true->b<(M x).next->x<ops.size->(M (x+1)).get b=(M x).get b:=by
  intro x nx hnx hok hbx hx;obtain⟨nx',ox,g1,g2,g3,g4,g5⟩:=c.note hx;rw[hnx] at g1; cases g1;refine g4 b hbx ?_;unfold Note.ok at hok;rw[hread] at hok;simp only[Wv,Vm] at hok;rcases hok with((hok|hok)|hok)|hok
  exact .inl hok
  rw[g3] at hok; omega
  split at hok
  rename_i b' hb';exact .inr (.inl ⟨b',hb',by simpa using hok⟩)
  cases hok
  exact .inr (.inr hok)
 have pairAt:∀x y,(x,y)∈oK ops bs->∃nx ny,ns[x]? = some nx/\ns[y]? = some ny/\(aA (ops.getD y default).op=true->Note.ok nx ny=true)/\(aA (ops.getD x default).op=true->Note.ok ny nx=true):=by
  intro x y hxy;have:=Vo.1 hpairs _ hxy;unfold eu at this
  split at this
  rename_i nx ny g1 g2;simp only[Va,Wv,Wa] at this;exact⟨nx,ny,g1,g2,fun he=>this.1.resolve_left (fun hf=>Vr (he.symm.trans hf) (by simp)),fun he=>this.2.resolve_left (fun hf=>Vr (he.symm.trans hf) (by simp))⟩
  cases this
 have stepOk:∀x,x<ops.size->b<(M x).next->((x<i/\¬x<s)\/(i<=x/\x<s))->(M (x+1)).get b=(M x).get b:=by
  intro x hx hbx hcase;obtain⟨ox,hox⟩:∃ox,ops[x]? = some ox:=⟨ops[x],by simp[hx]⟩
  cases hex:aA ox.op with
  | false=>exact c.keep hox (.inl hex) b hbx
  | true =>
   rcases hcase with⟨h1,h2⟩|⟨h1,h2⟩
   have hnD:¬D x:=fun hd=>h2 ((heff x ox hox hex).1 hd);have hnb:¬EZ bs x i:=fun hb=>hnD (hr.before hO h1 hb);obtain⟨nx,ny,g1,g2,g3,g4⟩:=pairAt x i (sQ h1 hox hr.op hnb (by simp[clash,hex,hrd]))
   rw[hn1] at g2; cases g2;exact okOf x nx g1 (g4 (by rw[dL hox]; exact hex)) hbx hx
   have hD:D x:=(heff x ox hox hex).2 h2;have hxi:i≠x:=fun he=>hr.out (he▸hD);have hnb:=hr.behind hO hox (by omega) hD
   obtain⟨nx,ny,g1,g2,g3,g4⟩:=pairAt i x (sQ (by omega) hr.op hox hnb (by simp[clash,hex,hrd]))
   rw[hn1] at g1; cases g1;exact okOf x ny g2 (g3 (by rw[dL hox]; exact hex)) hbx hx
 rcases V3 i s with his|his
 have hbs:b<(M s).next:=Vt hblt (c.cC h.le (by omega))
 rw[c.dB hbs];exact c.gp h.le (by omega) hblt fun z h1 h2=>stepOk z (by have:=h.le; omega) (Vt hblt (c.cC (by have:=h.le; omega) h1)) (.inr ⟨h1,h2⟩)
 rcases V3 b (M s).next with h1|h1
 rw[c.dB h1];exact(c.gp (by omega) his h1 fun z h2 h3=>stepOk z (by omega) (Vt h1 (c.cC (by omega) h2)) (.inl ⟨h3,by omega⟩)).symm
 obtain⟨x,a1,a2,a3⟩:=tN his h1 hblt;rw[c.rV (by omega) a3 h1]
 exact(c.gp (x:=x+1) (by omega) (by omega) a3.2 fun z h2 h3=>stepOk z (by omega) (Vt a3.2 (c.cC (by omega) h2)) (.inl ⟨h3,by omega⟩)).symm
def uT{m:Yq}{t:Tm}{o:Oper}(h:MR E j m w)(ht:∀d∈tmpsOf o.op.operands.toList,VR j (t.at d) (a.tmps.getD d undef)){v:XI}{m':Yq}(e:fM E t m o.op=some (v,m'))(hne:aA o.op=false) :
  (m'=m/\∃v',mX E.P (execOp a.eval o) v' w w/\VR j v v') \/
  (∃(ao:Ys) (co:Obj) (vb:Nat->XI) (v':XI),mX E.P (execOp a.eval o) v' w (w.alloc co)/\OR j ⟨w.heap.size,none⟩ ao co/\(∀(j':aR) (b:Nat),j' b=some ⟨w.heap.size,none⟩->VR j' (vb b) v') /\
   ∀m2:Yq,fM E t m2 o.op=some (vb m2.next,m2.alloc ao)):=by
 have hT:TR (mL a.tmps (tmpsOf o.op.operands.toList)).size j (tl t (tmpsOf o.op.operands.toList)) ({ tmps:=mL a.tmps (tmpsOf o.op.operands.toList),defers:=a.defers}:Act).tmps:=by
  refine⟨rfl,fun d=>?_⟩
  show VR j _ ((mL a.tmps _).getD d undef)
  rw[nH,mA]
  split
  rename_i hd; exact ht d hd
  exact VR.undef j
 have hev:∀x∈o.op.operands.toList,an E (tl t (tmpsOf o.op.operands.toList)) x=an E t x:=by
  intro x hx;cases x with
  | tmp d=>simp only[an,nH,U5 (jU.2 hx)]
  | _=>rfl
 have hex:execOp ({ tmps:=mL a.tmps (tmpsOf o.op.operands.toList),defers:=a.defers}:Act).eval o=execOp a.eval o:=by
  refine execOp_congr o (fun cs b hs=>?_) fun x hx=>?_
  rw[hs] at e; simp[fM] at e
  ·cases x with
   | tmp d =>
    show(mL a.tmps _).getD d undef=a.tmps.getD d undef
    rw[mA,U5 (jU.2 (by simpa using hx))]
   | _=>rfl
 rcases yF h hT ((sB hev).trans e) with⟨h1,_,v',h2,h3⟩|⟨ao,co,vb,v',_,_,h2,h3,h4,h5⟩|⟨h1,_⟩
 rw[hex] at h2;exact .inl ⟨h1,v',h2,h3⟩
 rw[hex] at h2;exact .inr ⟨ao,co,vb,v',h2,h3,h4,fun m2=>(sB hev).symm.trans (h5 m2)⟩
 rw[hne] at h1; cases h1
def A3{listed:YD Bool}{o:Oper}(h:∀e∈o.after,Region.binds .any e=true->listed.getD e.on false=true):∀e∈cN o,listed.getD e false=true:=by
 intro e he;unfold cN at he;obtain⟨x,hx,hxe⟩:=List.mem_filterMap.1 he
 split at hxe
 rename_i hb;cases hxe;exact h x (by simpa using hx) hb
 cases hxe
def BN{listed:YD Bool}{o:Oper}(h:∀e∈cN o,listed.getD e false=true):∀e∈o.after,Region.binds .any e=true->listed.getD e.on false=true:=by
 intro e he hb;exact h e.on (List.mem_filterMap.2 ⟨e,by simpa using he,by rw[U5 hb]⟩)
def outs(listed:YD Bool)(N:Nat):Nat:=((List.range N).filter fun i=>!listed.getD i false).length
def filter_lt{l:YB Nat}{p q:Nat->Bool}(h:∀x,q x=true->p x=true):(l.filter q).length<=(l.filter p).length:=by
 induction l with
 | nil=>simp
 | cons x l ih =>
  simp only[List.filter_cons];cases hq:q x with
  | true=>simp[h x hq,ih]
  | false=>cases p x<;>simp<;>omega
def Ds{l:YB Nat}{p q:Nat->Bool}(h:∀x,q x=true->p x=true){y:Nat}(hy:y∈l)(hp:p y=true)(hq:q y=false):(l.filter q).length<(l.filter p).length:=by
 induction l with
 | nil=>simp at hy
 | cons x l ih =>
  simp only[List.filter_cons];rcases Vu.1 hy with rfl|hy
  have:=filter_lt (l:=l) h;simp[hp,hq]; omega
  ·have:=ih hy;cases hqx:q x with
   | true=>simp[h x hqx,this]
   | false=>cases p x<;>simp<;>omega
def vl{listed:YD Bool}{i:Nat}(hi:i<listed.size)(x:Nat):(listed.setIfInBounds i true).getD x false=true↔(listed.getD x false=true\/x=i):=by
 by_cases hx:i=x
 subst hx; simp[hi]
 rw[getD_set_ne false hx];constructor
 exact .inl
 rintro(h|h)
 exact h
 exact(hx h.symm).elim
def Kq{listed:YD Bool}{N i:Nat}(hs:listed.size=N)(hi:i<N)(h:listed.getD i false=false):outs (listed.setIfInBounds i true) N<outs listed N:=by
 refine Ds (y:=i) (fun x hx=>?_) (Vy.2 hi) (by simp[h]) ?_
 ·simp only[Wa] at hx ⊢;cases hl:listed.getD x false with
  | false=>rfl
  | true=>rw[(vl (by omega) x).2 (.inl hl)] at hx; cases hx
 simp only[Bool.not_eq_false'];exact(vl (by omega) i).2 (.inr rfl)
def FD{listed:YD Bool}{N:Nat}(h:outs listed N=0):∀i,i<N->listed.getD i false=true:=by
 intro i hi;unfold outs at h;have:=VJ.1 h;have:=(List.filter_eq_nil_iff.1 this) i (Vy.2 hi)
 simpa using this
def Inv.congr{D':XH}(h:Inv E n ops j0 w0 T M V ds D s j a w)(e:∀x,D x↔D' x):Inv E n ops j0 w0 T M V ds D' s j a w:=by
 have:D=D':=funext fun x=>propext (e x);rw[<-this]; exact h
def ON{bs:YB Nat}(hO:OrderOk ops bs)(c:Can k E n ops j0 w0 T M V ns)(hpairs:(oK ops bs).all (eu ns ops)=true)(hnote:ns.all gi=true){F:Fence}(hF:mG F){Q:Exit->Act->XM->Prop}
  (hQ:∀j' w' a',Sim E j0 (M 0) w0 j' (M ops.size) w'->TR n j' (T ops.size) a'.tmps->a'.defers=ds->Q .normal a' w') :
  ∀(fuel:Nat) (listed:YD Bool) (s:Nat) (j:aR) (a:Act) (w:XM),listed.size=ops.size->outs listed ops.size<=fuel->(∀x o,ops[x]? = some o->listed.getD x false=true->∀e∈cN o,listed.getD e false=true) ->
   Inv E n ops j0 w0 T M V ds (fun x=>listed.getD x false=true) s j a w->(∀x o,ops[x]? = some o->aA o.op=true->(listed.getD x false=true↔x<s)) ->
   wpAnyIn F 0 E.P .any ops Q fuel listed a w:=by
 have fin:∀(listed:YD Bool) (s:Nat) (j:aR) (a:Act) (w:XM),(∀i,i<ops.size->listed.getD i false=true)->Inv E n ops j0 w0 T M V ds (fun x=>listed.getD x false=true) s j a w ->
   (∀x o,ops[x]? = some o->aA o.op=true->(listed.getD x false=true↔x<s))->Q .normal a w:=by
  intro listed s j a w hall hinv heff;have hx:=hinv.shift c (s':=ops.size) hinv.le (U8 _) fun x h1 h2 b hb=>by
   obtain⟨ox,hox⟩:∃ox,ops[x]? = some ox:=⟨ops[x],by simp[h2]⟩
   refine c.keep hox (.inl ?_) b hb;cases he:aA ox.op with
   | false=>rfl
   | true=>have:=(heff x ox hox he).1 (hall x h2); omega
  obtain⟨jc,wc,tc,sg,_⟩:=c.ghost ops.size (U8 _);have hmem:∀b,b<(M ops.size).next->(px M ops.size ops.size).get b=(M ops.size).get b:=fun b hb=>by rw[dD,c.dB hb]
  refine hQ j w a ⟨sg.ext,hx.jle,fun b kb h1 h2=>?_,⟨fun b kb hb=>hx.mr.lt b kb hb,fun b o kb hg hb=>?_,fun b b' kb kb' hb hb' hl hl' he=>?_,hx.mr.glob⟩,hx.size,fun b h1 h2 hl=>?_,sg.away,hx.fresh,hx.frame,hx.calm⟩ ⟨hx.tmps.size,fun d=>?_⟩ hx.defers
  obtain⟨i,a1,_,a3⟩:=hx.new b kb h1 h2;exact VK (c.cC (by omega) (V9 _)) a3.1
  exact hx.mr.obj b o kb (by rw[hmem b (hx.mr.lt b kb hb).1]; exact hg) hb
  exact hx.mr.inj b b' kb kb' hb hb' (by rw[hmem b (hx.mr.lt b kb hb).1]; exact hl) (by rw[hmem b' (hx.mr.lt b' kb' hb').1]; exact hl') he
  obtain⟨i,a1,a2,a3⟩:=tN (V9 ops.size) h1 h2;exact hx.full i a2 (hall i a2) b a3 (by rw[c.dB h2]; exact hl)
  rcases c.La (i:=ops.size) (U8 _) d with⟨x,o,h1,h2,h3,h4⟩|⟨h1,h2⟩
  rw[h4]; exact hx.tmps.done x o d h2 (hall x h1) h3
  rw[h2]; exact hx.tmps.rest d fun x o ho _=>h1 x o (Vh.1 ho).1 ho
 intro fuel
 induction fuel with
 | zero =>
  intro listed s j a w hsz hout hcl hinv heff;have hall:=FD (Nat.le_zero.1 hout);refine⟨?_,fin listed s j a w hall hinv heff⟩;cases hr:Region.ready .any ops listed with
  | nil=>rfl
  | cons i l =>
   have hi:i∈Region.ready .any ops listed:=by rw[hr]; simp
   obtain⟨h1,o,ho,_⟩:=mem_ready.1 hi;have hlt:i<ops.size:=(Vh.1 ho).1;have h2:=hall i hlt;have:listed.getD i true=listed.getD i false:=by simp[hsz,hlt]
   rw[this,h2] at h1; cases h1
 | succ fuel ih =>
  intro listed s j a w hsz hout hcl hinv heff;refine⟨fun hnil=>fin listed s j a w (fun i hi=>?_) hinv heff,fun i hi=>?_⟩
  ·
   induction i using Nat.strongRecOn with
   | _ i ihi =>
    cases hl:listed.getD i false with
    | true=>rfl
    | false =>
     obtain⟨o,ho⟩:∃o,ops[i]? = some o:=⟨ops[i],by simp[hi]⟩
     have hmem:i∈Region.ready .any ops listed:=by
      refine mem_ready.2 ⟨?_,o,ho,BN fun e he=>ihi e (hO.edge i o ho e he) (Nat.lt_trans (hO.edge i o ho e he) hi)⟩;have:listed.getD i true=listed.getD i false:=by simp[hsz,hi]
      rw[this,hl]
     rw[hnil] at hmem; cases hmem
  ·obtain⟨h1,o,ho,h3⟩:=mem_ready.1 hi;have hlt:i<ops.size:=(Vh.1 ho).1;have hl:listed.getD i false=false:=by
    have:listed.getD i true=listed.getD i false:=by simp[hsz,hlt]
    rw[<-this]; exact h1
   have hr:Ready ops bs (fun x=>listed.getD x false=true) i o:=⟨ho,by simp[hl],A3 h3,hcl⟩
   have hlook:=hr.looked hO c hinv.tmps;have hwant:Region.wanted o (yielded ops a.tmps)=cg ops o (T i):=Dx o fun g want d hg hd=>hlook d (by
    unfold looks;rw[hg];exact Vv _ (by simp[hd]))
   have hoper:∀d∈tmpsOf o.op.operands.toList,VR j ((T i).at d) (a.tmps.getD d undef):=fun d hd=>hlook d (Vl _ hd);have next:∀(s':Nat) (j':aR) (a':Act) (w':XM),Inv E n ops j0 w0 T M V ds (fun x=>listed.getD x false=true\/x=i) s' j' a' w'->(∀x o,ops[x]? = some o->aA o.op=true->((listed.getD x false=true\/x=i)↔x<s')) ->
     wpAnyIn F 0 E.P .any ops Q fuel (listed.setIfInBounds i true) a' w':=by
    intro s' j' a' w' hinv' heff';have hiff:=vl (listed:=listed) (i:=i) (by omega)
    refine ih _ s' j' a' w' (by simp[hsz]) (by have:=Kq hsz hlt hl; omega) (fun x ox hox hx e he=>?_) (hinv'.congr fun x=>(hiff x).symm) fun x ox hox he=>(hiff x).trans (heff' x ox hox he)
    rcases(hiff x).1 hx with hx|rfl
    exact(hiff e).2 (.inl (hcl x ox hox hx e he))
    rw[ho] at hox; cases hox;exact(hiff e).2 (.inl (hr.edges e he))
   have effs:aA o.op=true->s<=i/\(∀x ox,ops[x]? = some ox->aA ox.op=true->s<=x->x<i->False)/\(∀x o,ops[x]? = some o->aA o.op=true->((listed.getD x false=true\/x=i)↔x<i+1)):=by
    intro he;have hsi:s<=i:=by
     rcases V3 i s with h|h
     have:=(heff i o ho he).2 h;rw[hl] at this; cases this
     exact h
    have hbefore:∀x ox,ops[x]? = some ox->aA ox.op=true->x<i->listed.getD x false=true:=by
     intro x ox hox hex hxi
     by_cases hb:EZ bs x i
     exact hr.before hO hxi hb
     exact((nM (hO.apart x i ox o hxi hox ho hb)).2.2 ⟨hex,he⟩).elim
    refine⟨hsi,fun x ox hox hex h1 h2=>?_,fun x ox hox hex=>⟨?_,fun hx=>?_⟩⟩
    have:=(heff x ox hox hex).1 (hbefore x ox hox hex h2);omega
    rintro(hx|rfl)
    have:=(heff x ox hox hex).1 hx; omega
    omega
    rcases V3 x i with h|h
    exact .inl (hbefore x ox hox hex h)
    exact .inr (by omega)
   have noEff:aA o.op=false->∀x ox,ops[x]? = some ox->aA ox.op=true->((listed.getD x false=true\/x=i)↔x<s):=by
    intro he x ox hox hex;rw[<-heff x ox hox hex];refine⟨fun h=>h.resolve_right fun hxi=>?_,.inl⟩;subst hxi;rw[ho] at hox; cases hox;rw[he] at hex; cases hex
   obtain⟨o',ho',hput,hkind⟩:=c.kind hlt;rw[ho] at ho'; cases ho';unfold wpOpIn;simp only[ho];cases hkind with
   | skip hw hv hm =>
    rw[hwant,hw];simp only[VG,if_false];refine⟨fun f _=>hF.fn f,?_⟩;have hvu:VR j (V i) undef:=by rw[hv]; exact VR.undef j
    have hinv':=hinv.quiet hO c ho (by rw[hm]) hvu
    cases he:aA o.op with
    | false=>exact next s j _ w hinv' (noEff he)
    | true =>
     obtain⟨e1,e2,e3⟩:=effs he;refine next (i+1) j _ w (hinv'.shift c (by omega) hlt fun x h1 h2 b hb=>?_) e3
     rcases V3 x i with hxi|hxi
     ·obtain⟨ox,hox⟩:∃ox,ops[x]? = some ox:=⟨ops[x]'(by omega),WE (by omega)⟩
      refine c.keep hox (.inl ?_) b hb;cases hex:aA ox.op with
      | false=>rfl
      | true=>exact(e2 x ox hox hex h1 hxi).elim
     have:x=i:=by omega
     subst this;rw[hm]
   | quiet hw he hn hg ha =>
    rw[hwant,hw];simp only[if_true];have hopA:=ha (px M ops.size s) fun b0 hb0=>by rw[dD]; exact hinv.reads hO c hpairs hnote heff hr hw he hb0
    rcases uT (a:=a) hinv.mr hoper hopA he with⟨_,v',h5,h6⟩|⟨ao,co,vb,v',_,_,_,h8⟩
    ·exact dS hF (oA hopA) h5 (next s j _ w (hinv.quiet hO c ho hn h6) (noEff he))
    have:=h8 (px M ops.size s);rw[hopA] at this;simp only[Option.some.injEq,Prod.mk.injEq] at this;have h9:=Vs Yq.next this.2
    simp only[Yq.alloc] at h9;omega
   | makes hw he vb ao hv hn hg ha =>
    rw[hwant,hw];simp only[if_true];have hopA:=ha (px M ops.size s);rcases uT (a:=a) hinv.mr hoper hopA he with⟨h4,_⟩|⟨ao',co,vb',v',h5,h6,h7,h8⟩
    have h9:=Vs Yq.next h4
    simp only[Yq.alloc] at h9;omega
    ·have hao:ao=ao':=by
      have:=(ha (px M ops.size s)).symm.trans (h8 (px M ops.size s));simp only[Option.some.injEq,Prod.mk.injEq] at this;have h9:=Vs (fun m=>Yq.get m (px M ops.size s).next) this.2
      simp only[Yq.aU,if_true,Option.some.injEq] at h9;exact h9
     subst hao;have hvb:V i=vb' (M i).next:=by
      have:=(ha (M i)).symm.trans (h8 (M i));simp only[Option.some.injEq,Prod.mk.injEq] at this;rw[hv]; exact this.1
     have hget:(M (i+1)).get (M i).next=some ao:=by rw[hg,U5 rfl]
     refine dS hF (oA hopA) h5 (next s _ _ _ (hinv.makes hO c ho (by simp[hl]) hn hget h6 ?_) (noEff he))
     rw[hvb];exact h7 _ _ (aR.cn _ _ _)
   | effect hw he r hr' hm =>
    rw[hwant,hw];simp only[if_true];obtain⟨e1,e2,e3⟩:=effs he;have hinv':=hinv.shift c (s':=i) e1 (by omega) fun x h1 h2 b hb=>by
     obtain⟨ox,hox⟩:∃ox,ops[x]? = some ox:=⟨ops[x]'(by omega),WE (by omega)⟩
     refine c.keep hox (.inl ?_) b hb;cases hex:aA ox.op with
     | false=>rfl
     | true=>exact(e2 x ox hox hex h1 h2).elim
    have hmr:=hinv'.RT c (by omega) (x:=(M i).next)
    obtain⟨jc,wc,tc,sg,htg⟩:=c.ghost i (by omega)
    have hops:∀d∈tmpsOf o.op.operands.toList,VR (j.below (M i).next) ((T i).at d) (a.tmps.getD d undef):=fun d hd =>
     (hoper d hd).cut (fun b kb hb=>(sg.mr.lt b kb hb).1) (htg.2 d)
    refine(AE (a:=a) c.hk hmr hops hr').wpIn hF (pY hr') ?_;rintro v' w' ⟨j',sm,hv'⟩;exact next (i+1) _ _ _ (hinv'.effect hO c ho (by simp[hl]) hm sm hv') e3
def Hd(hk:∀tk r,k tk=some r->cX E tk r)(hmix:E.P.follows .mixedOrders=true){ps:YB (Nat×Nat)}{t tf:Tm}{m mf:Yq}(hp:lQ ops=some ps)
  (hr:er k E n ops ops.toList t m=some (tf,mf,ns)) (hok:ps.all (eu ns ops)=true) (hnote:ns.all gi=true) {id:Nat} {F:Fence} {Q:Exit->Act->XM->Prop} (h:MR E j m w) (ht:TR n j t a.tmps) (hF:mG F)
  (hQ:∀j' w' a',Sim E j m w j' mf w'->TR n j' tf a'.tmps->a'.defers=a.defers->Q .normal a' w'):(Code.region id ops true).wpIn F 0 E.P Q a w:=by
 unfold lQ at hp
 split at hp
 rename_i hord;cases hp;have hO:=CE hord;obtain⟨T,M,V,htr,h4,h5,h2,h3⟩:=BM ops.toList 0 t m tf mf ns rfl hr;rw[WN] at htr h2 h3;subst h4 h5;have s0:Sim E j (M 0) w j (M 0) { w with drawn:=w.drawn+1}:=Sim.of_heap h rfl;have c:Can k E n ops j { w with drawn:=w.drawn+1} T M V ns:=⟨hk,htr,s0.mr,Fh hk htr s0.mr ht⟩;refine wpIn_region_any hmix ?_;refine ON (ds:=a.defers) hO c hok hnote hF (fun j' w' a' s' ht' hd'=>hQ j' w' a' (h3▸s0.trans h s') (h2▸ht') hd') ops.size _ 0 j a _ (by simp) ?_ ?_ ?_ ?_
 unfold outs;exact VK (List.length_filter_le _ _) (by simp)
 intro x o ho hx;simp[(Vh.1 ho).1] at hx
 have hnone:∀x,¬((Xy ops.size false).getD x false=true):=by
  intro x hx
  by_cases hlt:x<ops.size<;>simp[hlt] at hx
 have h6:MR E j (px M ops.size 0) { w with drawn:=w.drawn+1}:=by
  have hlow:∀b kb,j b=some kb->(px M ops.size 0).get b=(M 0).get b:=fun b kb hb=>by rw[dD,c.dB (h.lt b kb hb).1]
  refine⟨fun b kb hb=>⟨Vt (h.lt b kb hb).1 (c.cC (U8 _) (V9 _)),(h.lt b kb hb).2⟩,fun b o kb hg hb=>?_,fun b b' kb kb' hb hb' hl hl' he=>?_,h.glob⟩
  rw[hlow b kb hb] at hg;exact h.obj b o kb hg hb
  rw[hlow b kb hb] at hl;rw[hlow b' kb' hb'] at hl';exact h.inj b b' kb kb' hb hb' hl hl' he
 exact⟨V9 _,⟨ht.1,fun x o d _ hx=>(hnone x hx).elim,fun d _=>ht.2 d⟩,rfl,.refl j,fun b kb h0 h1=>(by rw[h1] at h0; cases h0),h6,U8 _,fun i _ hx=>(hnone i hx).elim,fun b kb h0 h1=>(by rw[h1] at h0; cases h0),fun _ _ _=>rfl,.refl _,fun i hi=>Vr hi (Nat.not_lt_zero i)⟩
 intro x o ho _;have:¬((Xy ops.size false).getD x false=true):=by
  intro hx
  by_cases hlt:x<ops.size<;>simp[hlt] at hx
 exact⟨fun hx=>(this hx).elim,fun hx=>Vr hx (Nat.not_lt_zero x)⟩
 cases hp
end
section
variable{E:Env}{k:K}
section
variable{P:XL}{F:Fence}{n:Nat}{b:Frame}{a:Act}{ks:YB Item}{cs:YB Frame}{w:XM}{Q:Exit->Act->XM->Prop}{c:Code}
def gD:Go.step P (lone (b.atR a (.code (.scope c)::ks)) cs w)=.next (lone (b.atR a (.code c::.inScope c::ks)) cs w) :=
 step_lone_go (by simp[stepG,stepG.exec,Frame.atR])
def wR:Go.step P (lone (b.atR a (.inScope c::ks)) cs w)=.next (lone (b.atR a ks) cs w) :=
 step_lone_go (by simp[stepG,stepG.exec,Frame.atR])
def Dg(h:c.wpIn F n P (Exit.noGoto Q) a w):(Code.scope c).wpIn F n P Q a w:=by
 intro b k cs hro hb hr;have h0:(lone (b.atR a (.code (.scope c)::k)) cs w).fenced P F:=fenced_calm hb hr rfl;obtain⟨e,a₁,w₁,hq,harr⟩:=h b (.inScope c::k) cs hro hb hr;cases e with
 | normal=>exact⟨.normal,a₁,w₁,hq,.head h0 gD (StepsIn.trans harr (.one (fenced_calm hb hr rfl) wR))⟩
 | exit id =>
  refine⟨.exit id,a₁,w₁,hq,fun k' hk=>.head h0 gD (harr.1 k' (by simpa [exitTo] using hk)),fun hr' hk=>?_⟩
  obtain⟨k₁,h1,h2⟩:=harr.2 hr' (by simpa [exitTo] using hk)
  exact⟨k₁,h1,.head h0 gD h2⟩
 | goto l=>exact hq.elim
 | ret=>exact⟨.ret,a₁,w₁,hq,ArrivesIn.of_steps (k:=k) (e:=.ret) (.one h0 gD) harr⟩
 | panic ch=>exact⟨.panic ch,a₁,w₁,hq,ArrivesIn.of_steps (k:=k) (e:=.panic ch) (.one h0 gD) harr⟩
 | outgrown=>exact⟨.outgrown,a₁,w₁,hq,ArrivesIn.of_steps (k:=k) (e:=.outgrown) (.one h0 gD) harr⟩
def nQ(h:qh F n P c Q a w):(Code.loop c).wpIn F n P Q a w:=fun b k cs hro hb hr =>
 let⟨e,a',w',hq,harr⟩:=h b k cs hro hb hr
 ⟨e,a',w',hq,.of_steps (.one (fenced_calm hb hr rfl) stepR_loop) harr⟩
def lY(h:c.wpIn F n P (Exit.then (fun a' w'=>qh F n P c Q a' w') Q) a w):qh F n P c Q a w:=by
 intro b k cs hro hb hr;obtain⟨e,a₁,w₁,hq,harr⟩:=h b (.inLoop c::k) cs hro hb hr;cases e with
 | normal =>
  obtain⟨e₂,a₂,w₂,hq₂,harr₂⟩:=hq b k cs hro hb hr;exact⟨e₂,a₂,w₂,hq₂,.of_steps (StepsIn.trans harr (.one (fenced_calm hb hr rfl) stepR_inLoop)) harr₂⟩
 | exit id=>exact⟨_,a₁,w₁,hq,.pass (x:=.inLoop c) rfl (fun _ _=>.inl (by simp)) harr⟩
 | goto l=>exact⟨_,a₁,w₁,hq,.pass (x:=.inLoop c) rfl (fun _ _=>.inl (by simp)) harr⟩
 | ret=>exact⟨_,a₁,w₁,hq,.pass (x:=.inLoop c) rfl (fun _ _=>.inl (by simp)) harr⟩
 | panic ch=>exact⟨_,a₁,w₁,hq,.pass (x:=.inLoop c) rfl (fun _ _=>.inl (by simp)) harr⟩
 | outgrown=>exact⟨_,a₁,w₁,hq,.pass (x:=.inLoop c) rfl (fun _ _=>.inl (by simp)) harr⟩
end
def nG.from{j j1:aR}{m m1 m':Yq}{w w1 w':XM}{N n:Nat}{e:Yr}{t:Tm}{e':Exit}{a':Act}(h:MR E j m w)(s:Sim E j m w j1 m1 w1)(q:nG E j1 m1 w1 N n e t m' e' a' w'):nG E j m w N n e t m' e' a' w' :=
 let⟨he,j2,s2,ht,hm⟩:=q
 ⟨he,j2,s.trans h s2,ht,hm⟩
def BZ{j:aR}{m:Yq}{w:XM}(h:MR E j m w){t:XJ}{x x' v:XI}(e:eB E.P t x m=some v)(hx:VR j x x') :
  ∃v',(do loadVar t (<-asAddr x'):Sem XI).run E.P w=.ok v' w/\VR j v v':=by
 obtain⟨v',h1,h2⟩:=Ba h e hx;refine⟨v',?_,h2⟩;unfold eB at e
 split at e
 ·cases hx with
  | ptr hj =>
   simp only[Instr.loadAt,Instr.sureAddr,YF,YG,YE] at h1;simp only[asAddr,YF,YG,YE];exact h1
 cases e
def lK{j:aR}{m:Yq}{w:XM}(h:MR E j m w){n:Nat}{t:Tm}{tmps:YD XI}(ht:TR n j t tmps){f:ResultVar->Sem XI}(h1:∀i,f (.tmp i)=pure (tmps.getD i undef))
  (h2:∀a ty,f (.cell a ty)=(do loadVar ty (<-asAddr (tmps.getD a undef)))) :
  ∀{rs:YB ResultVar} {vs:YB XI},cT E t m rs=some vs->∃vs',(rs.mapM f).run E.P w=.ok vs' w/\LR j vs vs'
 | [],vs,e=>by cases e; exact⟨[],rfl,.nil j⟩
 | .tmp i::rs,vs,e=>by
  simp only[cT] at e;obtain⟨vs0,e0,rfl⟩:=map_some e;obtain⟨vs',r1,r2⟩:=lK h ht h1 h2 e0;exact⟨tmps.getD i undef::vs',by simp only[List.mapM_cons,h1,YF,YG,YE,r1],.cons (ht.2 i) r2⟩
 | .cell a ty::rs,vs,e=>by
  simp only[cT] at e
  split at e
  rename_i v vs0 hv hvs;cases e;obtain⟨vs',r1,r2⟩:=lK h ht h1 h2 hvs;obtain⟨v',l1,l2⟩:=BZ h hv (ht.2 a);refine⟨v'::vs',?_,.cons l2 r2⟩;rw[List.mapM_cons,YF,h2,l1];simp only[YF,YG,YE,r1]
  cases e
def yV{j:aR}{m:Yq}{w:XM}(h:MR E j m w){n:Nat}{t:Tm}{tmps:YD XI}(ht:TR n j t tmps){f:ResultVar->Sem XI}(h1:∀i,f (.tmp i)=pure (tmps.getD i undef))
  (h2:∀a ty,f (.cell a ty)=(do loadVar ty (<-asAddr (tmps.getD a undef)))) {rs:YD ResultVar} {vs:YB XI} (e:cT E t m rs.toList=some vs) :
  ∃v',(do let vs <-rs.mapM f; pure (if h:vs.size=1 then vs[0] else .tuple vs):Sem XI).run E.P w=.ok v' w/\VR j (jr vs) v':=by
 obtain⟨l⟩:=rs;simp only[List.mapM_toArray,YF,Sem.run_map];obtain⟨vs',h1,h2⟩:=lK h ht h1 h2 e;rw[h1];simp only[YE,YG];cases h2':vs' with
 | nil =>
  subst h2';have hv:vs=[]:=by have:=h2.1; simp at this; exact this
  subst hv;exact⟨_,rfl,.tuple' (by simpa using LR.nil j)⟩
 | cons v' l' =>
  subst h2';cases hv:vs with
  | nil=>subst hv; exact Vr h2.1 (by simp)
  | cons v l =>
   subst hv;cases l' with
   | nil =>
    have hl:l=[]:=by have:=h2.1; simp at this; exact this
    subst hl;exact⟨_,rfl,h2.head⟩
   | cons v2' l2' =>
    cases l with
    | nil=>exact Vr h2.1 (by simp)
    | cons v2 l2=>exact⟨_,rfl,.tuple' (by simpa using h2)⟩
def tz{j:aR}{m:Yq}{w:XM}(h:MR E j m w){n:Nat}{t:Tm}{tmps:YD XI}(ht:TR n j t tmps){fn:Func}{vs:YB XI}(e:cT E t m fn.results.toList=some vs) :
  ∃v',(results fn tmps).run E.P w=.ok v' w/\VR j (jr vs) v' :=
 yV h ht (fun _=>rfl) (fun _ _=>rfl) e
def Sim.shut{j j':aR}{m m':Yq}{w w':XM}(s:Sim E j m w j' m' w'){r:Nat}(hr:w'.heap[r]? = some (.deferred (some [])))(hs:w.heap.size<=r)(o:Obj):Sim E j m w j' m' (w'.putObj r o) where
 ext:=s.ext
 le:=s.le
 new:=s.new
 mr:=⟨fun b k e=>⟨(s.mr.lt b k e).1,by simpa using(s.mr.lt b k e).2⟩,fun b o k hg e=>by
   obtain⟨o',h1,h2⟩:=s.mr.obj b o k hg e;have hne:k.c≠r:=Cf s.mr hr b k e (by rw[hg]; rfl)
   exact⟨o',by rw[World.putObj_heap_other hne]; exact h1,h2⟩,s.mr.inj,s.mr.glob⟩
 size:=by simpa using s.size
 full:=s.full
 away:=s.away
 fresh:=s.fresh
 frame:=fun c hc H=>by rw[World.putObj_heap_other (by omega)]; exact s.frame c hc H
 calm:=s.calm
def lZ{fn:Func}{tmps:YD XI}{R:Ending->XM->Prop}{j j':aR}{m m':Yq}{w:XM}
  (hR:∀w'',Sim E j m w j' m' w''->∃v,(results fn tmps).run E.P w''=.ok v w''/\R (.returned v) w'') :
  ∀(rs:YB Nat) (w':XM),Sim E j m w j' m' w'->rs.Nodup->(∀r∈rs,w.heap.size<=r/\w'.heap[r]? = some (.deferred (some [])))->LeavesInM Fence.wide 0 E.P fn tmps R (rs.map uM) .returning w'
 | [],w',s,_,_=>hR w' s
 | r::rs,w',s,hn,hr=>by
  have h0:=hr r (by simp)
  refine⟨by simp,.inl ⟨r,w'.putObj r (.deferred none),rfl,run_takeDeferred h0.2,?_⟩⟩
  refine lZ hR rs _ (s.shut h0.2 h0.1 _) (Ww.1 hn).2 fun x hx=>?_;have hne:x≠r:=fun e=>(Ww.1 hn).1 (e▸hx);have h1:=hr x (by simp[hx])
  exact⟨h1.1,by rw[World.putObj_heap_other hne]; exact h1.2⟩
def u6:∀(vs:YB XI) (i:Nat) (t:Tm) (d:Nat),(Trie.ofList vs i t).get d=if i<=d/\d<i+vs.length then vs[d-i]? else t.get d
 | [],i,t,d=>by
  have:¬(i<=d/\d<i+([]:YB XI).length):=by simp only[WJ]; omega
  rw[U3 this]; rfl
 | v::vs,i,t,d=>by
  simp only[Trie.ofList,u6 vs (i+1),Trie.bz]
  by_cases h:d=i
  subst h;rw[XP,U5 rfl,U5 (by simp)]; simp
  by_cases h2:i<=d/\d<i+(v::vs).length
  have h3:i+1<=d/\d<i+1+vs.length:=by simp at h2; omega
  rw[U5 h2,U5 h3];obtain⟨x,hx⟩:∃x,d-i=x+1:=⟨d-i-1,by omega⟩
  rw[hx,show d-(i+1)=x by omega]; rfl
  have h3:¬(i+1<=d/\d<i+1+vs.length):=by simp at h2; omega
  rw[U3 h2,U3 h3,U3 h]
def TR.enter{j:aR}{args args':YB XI}(h:LR j args args')(nt:Nat):TR (max args.length nt) j (Trie.ofList args 0 .nil) (args'.toArray++Xy (nt-args'.toArray.size) undef):=by
 refine⟨by simp[h.1]; omega,fun i=>?_⟩
 unfold Tm.at
 rw[u6]
 by_cases hi:i<args.length
 rw[XQ]
 have hi':i<args'.length:=h.1▸hi;obtain⟨v',h1,h2⟩:=h.2 i args[i] (by simp[hi])
 have e1:(args[i-0]?).getD undef=args[i]:=by simp[hi]
 have e2:(args'.toArray++Xy (nt-args'.toArray.size) undef).getD i undef=v':=by
  rw[Array.getD_eq_getD_getElem?,Array.getElem?_append_left (by simpa using hi')]
  simp[h1]
 rw[e1,e2]; exact h2
 rw[XP]
 have e2:(args'.toArray++Xy (nt-args'.toArray.size) undef).getD i undef=undef:=by
  rw[Array.getD_eq_getD_getElem?,Array.getElem?_append_right (by simp[<-h.1]; omega)]
  simp only[Array.getElem?_replicate]
  split<;>rfl
 rw[e2,Trie.get_nil]; exact VR.undef j
def zM(hE:EnvOk E)(hk:∀tk r,k tk=some r->cX E tk r){f:YI}{args:YB XI}{m:Yq}{r:Res}(h:step E k (.call f args m)=some r):cX E (.call f args m) r:=by
 simp only[step] at h
 split at h
 ·rename_i r0 hp;obtain⟨v,m'⟩:=r0;cases h;unfold xK at hp;cases hpf:E.cZ f with
  | none=>rw[hpf] at hp; cases hp
  | some p =>
   rw[hpf] at hp;exact⟨v,m',rfl,fun j w args' hm hl=>hE.cZ f p hpf args m v m' hp j w args' hm hl⟩
 ·rename_i hp
  split at h
  ·rename_i fn hfn
   split at h
   ·rename_i c hb
    split at h
    cases h
    ·rename_i e t m' hne hkc;obtain⟨vs,hvs,rfl⟩:=map_some h;obtain⟨e0,t0,m0,hr0,H⟩:=hk _ _ hkc;cases hr0;refine⟨jr vs,m',rfl,fun j w args' hm hl=>.inl ⟨hE.call f fn c hfn hb _ w,?_⟩⟩;refine callsIn_of_wp_marks hfn hb trivial ?_;refine wpIn_mono (H j w { tmps:=args'.toArray++Xy (fn.ntmps-args'.toArray.size) undef,defers:=[]} Fence.wide w.heap.size hm (TR.enter hl fn.ntmps) rfl (Marks.nil _ _) (U8 _)) ?_;rintro e' a' w' ⟨rfl,j',s,ht,rs,hnd,hds,hrs⟩;have hleave:LeavesInM Fence.wide 0 E.P fn a'.tmps (fun e w'=>∃v,e=.returned v/\jR E j m w (jr vs) m' v w') a'.defers .returning w':=by
      rw[hds];refine lZ (fun w'' s'=>?_) rs w' s hnd hrs;obtain⟨v',hv1,hv2⟩:=tz s'.mr ht hvs;exact⟨v',hv1,v',rfl,j',s',hv2⟩
     cases e with
     | normal=>exact hleave
     | ret=>exact hleave
     | exit id=>exact(hne id rfl).elim
    cases h
   cases h
  cases h
def TR.set{n:Nat}{j:aR}{t:Tm}{tmps:YD XI}{p:Tmp}{v v':XI}(h:TR n j t tmps)(hv:VR j v v')(hp:p<n):TR n j (t.set p v) (tmps.setIfInBounds p v') :=
 TR.put (a:={ tmps:=tmps,defers:=[]}) (dst:=some p) h hv (by
  have:Nat.blt p n=true:=by simpa using hp
  simp only[kZ,this])
def pM{n:Nat}{j:aR}:∀{ps:YB Tmp} {vs vs':YB XI} {t t':Tm} {tmps:YD XI},jF n t ps vs=some t'->LR j vs vs'->TR n j t tmps ->
  TR n j t' ((ps.zip vs').foldl (fun tm (x:Tmp×XI)=>tm.setIfInBounds x.1 x.2) tmps)
 | [],vs,vs',t,t',tmps,h,hl,ht=>by cases h; exact ht
 | p::ps,[],vs',t,t',tmps,h,hl,ht=>by
  cases h;cases hl.dI;exact ht
 | p::ps,v::vs,vs',t,t',tmps,h,hl,ht=>by
  obtain⟨v',l',rfl,h1,h2⟩:=hl.cons_inv;simp only[jF] at h
  split at h
  rename_i hlt
  show TR n j t' ((ps.zip l').foldl (fun tm (x:Tmp×XI)=>tm.setIfInBounds x.1 x.2) (tmps.setIfInBounds p v'))
  exact pM h h2 (ht.set h1 (by simpa using hlt))
  cases h
def uY(ps:YD Tmp)(vs:YB XI)(tmps:YD XI) :
  (ps.zip vs.toArray).foldl (fun tm (x:Tmp×XI)=>tm.setIfInBounds x.1 x.2) tmps=(ps.toList.zip vs).foldl (fun tm (x:Tmp×XI)=>tm.setIfInBounds x.1 x.2) tmps:=by
 rw[<-Array.foldl_toList,Array.toList_zip]
def MR.uN{j:aR}{m:Yq}{w:XM}(h:MR E j m w){b:Nat}{kb:Blk}(hk:j b=some kb){r:ALoop}(hg:m.get b=some (.loop r)) :
  ∃r',w.heap[kb.c]? = some (.loop r')/\r.state=r'.state/\r.pending=r'.pending/\r.params=r'.params/\r.assign=r'.assign/\r.body=r'.body/\TR r.n j r.tmps r'.tmps:=by
 obtain⟨o,h1,h2⟩:=h.obj b _ kb hg hk;cases o with
 | loop r'=>exact⟨r',h1,h2⟩
 | _=>exact h2.elim
def wN (hk:∀tk r,k tk=some r->cX E tk r) {l:Nat} {args:YB XI} {m:Yq} {r:Res} (h:step E k (.round l args m)=some r):cX E (.round l args m) r:=by
 simp only[step] at h
 split at h
 ·rename_i rec hl
  split at h
  ·rename_i hst
   split at h
   cases h
   ·rename_i hlen
    split at h
    cases h
    ·rename_i t0 hsp
     split at h
     ·rename_i t1 m1 hka
      split at h
      ·rename_i r1 h2
       split at h
       ·rename_i h5
        split at h
        ·rename_i e t2 m2 hkb
         split at h
         ·rename_i r2 h3;cases h;obtain⟨e0,t0',m0',h1,HA⟩:=hk _ _ hka;cases h1;obtain⟨e0,t0',m0',h1,HB⟩:=hk _ _ hkb;cases h1;refine⟨_,_,rfl,fun j w kb args' hm hj hargs=>?_⟩;obtain⟨rc,hrc,c4,c5,c0,c1,c2,c3⟩:=hm.uN hj hl;have hsz:args'.toArray.size=rc.params.size:=by
           rw[<-c0]; have:=hargs.1; simp; omega
          refine⟨_,_,_,_,run_yield hrc hsz,?_⟩;refine roundIn_of_wpIn trivial ?_;have htm:TR rec.n j t0 ((rc.params.zip args'.toArray).foldl (fun tm (x:Tmp×XI)=>tm.setIfInBounds x.1 x.2) rc.tmps):=by
           rw[uY,<-c0];exact pM hsp hargs c3
          have HA':=HA j w { tmps:=(rc.params.zip args'.toArray).foldl (fun tm (x:Tmp×XI)=>tm.setIfInBounds x.1 x.2) rc.tmps,defers:=[]} (Fence.wide.inRound kb.c) w.heap.size hm htm ⟨kb,hj,rfl⟩ (Marks.nil _ _) (U8 _);rw[<-c1,<-c2];refine wpIn_mono HA' ?_;rintro e' a0 w1 ⟨rfl,j1,s1,h6,h7⟩;have h0:=s1.le _ _ hj;obtain⟨r0,h8,d0,d1,d2,d3,d4,d5⟩:=s1.mr.uN h0 h2;refine⟨_,run_beginRound h8 (by rw[<-d0]; exact h5),?_⟩
          have s2:Sim E j1 m1 w1 j1 (m1.set l (.loop { r1 with state:=.busy})) (w1.putObj kb.c (.loop { r0 with state:=.busy})) :=
           jx s1.mr h0 (by rw[h2]; rfl) ⟨rfl,d1,d2,d3,d4,d5⟩
          have HB':=HB j1 (w1.putObj kb.c (.loop { r0 with state:=.busy})) a0 (Fence.wide.inRound kb.c) w.heap.size s2.mr h6 ⟨kb,h0,rfl⟩ (h7.Ie s1.mr s2) (VK s1.size s2.size);refine wpIn_mono HB' ?_;rintro e' a1 w2 ⟨rfl,j2,s3,h10,h11⟩;have h4:=s3.le _ _ h0;obtain⟨r3,h9,f3,f5,f0,f4,f1,f2⟩:=s3.mr.uN h4 h3;have fin:∀jump:YA Code,∃v w',(Instr.endRound kb.c jump).run E.P w2=.ok v w'/\∃v',Ending.returned v=.returned v'/\jR E j m w (.bool jump.isNone) (m2.set l (.loop { r2 with state:=if jump.isNone then .ready else .done,pending:=jump})) v' w':=by
           intro jump;refine⟨_,_,run_endRound jump h9,_,rfl,j2,?_,.bool _⟩;have s4:Sim E j2 m2 w2 j2 (m2.set l (.loop { r2 with state:=if jump.isNone then .ready else .done,pending:=jump})) (w2.putObj kb.c (.loop { r3 with state:=if jump.isNone then .ready else .done,pending:=jump})) :=
            jx s3.mr h4 (by rw[h3]; rfl) ⟨rfl,rfl,f0,f4,f1,f2⟩
           exact s1.trans hm (s2.trans s1.mr (s3.trans s2.mr s4))
          cases e with
          | normal=>exact fin none
          | ret=>exact fin (some .ret)
          | exit id=>exact fin (some (.exit id))
         cases h
        cases h
       cases h
      cases h
     cases h
  cases h
 cases h
def F1{j:aR}{m:Yq}{w:XM}(h:MR E j m w)(o:Obj):Sim E j m w j m (w.alloc o):=by
 have hget:∀c,c<w.heap.size->(w.alloc o).heap[c]? = w.heap[c]?:=fun c hc=>by
  show(w.heap.push o)[c]? = w.heap[c]?
  rw[WO,XP]
 exact{ Sim.refl h with
  mr:=⟨fun b k e=>⟨(h.lt b k e).1,by rw[World.size_alloc]; exact Nat.lt_succ_of_lt (h.lt b k e).2⟩,fun b o k hg e=>by
    obtain⟨o',h1,h2⟩:=h.obj b o k hg e;exact⟨o',by rw[hget _ (h.lt b k e).2]; exact h1,h2⟩,h.inj,h.glob⟩
  size:=by rw[World.size_alloc]; omega
  frame:=fun c hc _=>hget c hc}
def pE{P:XL}{w:XM}{l:Nat}{r:Loop}(h:w.heap[l]? = some (.loop r))(fn:YI)(tmps:YD XI)(ps:YD Tmp)(assign body:Code) :
  (Instr.enterLoop fn tmps ps assign body (some l)).run P w=.ok (w.heap.size,[]) (w.alloc (.loop { state:=.ready,pending:=none,fn,tmps,params:=ps,assign,body,defers:=r.defers})):=by
 unfold Instr.enterLoop;simp only[YF,run_getLoop h,run_newObj_alloc,Result.andThen,YG]
def wH (hk:∀tk r,k tk=some r->cX E tk r) {g:XK} {ps:YD Tmp} {assign body:Code} {fr:Fr} {m:Yq} {r:Res} (h:step E k (.code (.rangeFunc g ps assign body) fr m)=some r) :
  cX E (.code (.rangeFunc g ps assign body) fr m) r:=by
 simp only[step] at h
 split at h
 ·rename_i gf first captured hg har
  split at h
  ·rename_i v0 m2 hkc
   split at h
   ·rename_i r2 h2;obtain⟨v1,m1',h4,HC⟩:=hk _ _ hkc;cases h4;have common:r2.state≠.busy->∀(j:aR) (w:XM) (a:Act) (F:Fence) (N:Nat),MR E j m w->TR fr.n j fr.tmps a.tmps->lJ j fr.round F->Marks N w a.defers->N<=w.heap.size->∀Q:Exit->Act->XM->Prop,
      (∀(j2:aR) (w2:XM) (a0:Act),Sim E j m w j2 (m2.set m.next (.loop { r2 with state:=.exhausted})) w2->TR fr.n j2 fr.tmps a0.tmps->Marks N w2 a0.defers ->
       (r2.pending=none->Q .normal a0 w2)/\(∀c,r2.pending=some c->c.wpIn F 0 E.P Q a0 w2))->(Code.rangeFunc g ps assign body).wpIn F 0 E.P Q a w:=by
     intro hbusy j w a F N hm ht hro hmk hN Q hQ;have hF:=hro.wide;refine wpIn_rangeFunc fun fnId _=>?_;have hfv:=aV hm ht hg;generalize hfe:a.eval g=fv at hfv;cases hfv with
     | func h5 h6 h7 h8 =>
     rename_i ys ds;have enter:∃(l:Nat) (mark:YB Deferred) (w1:XM) (j1:aR) (kb:Blk),(Instr.enterLoop fnId a.tmps ps assign body F.round).run E.P w=.ok (l,mark) w1/\kb.c=l/\j1 m.next=some kb /\
       Sim E j m w j1 (m.alloc (.loop { state:=.ready,pending:=none,fn:=fr.fn,tmps:=fr.tmps,n:=fr.n,params:=ps,assign,body})) w1/\Marks N w1 (mark++a.defers):=by
      unfold lE at har;simp only[Va] at har;have hround:=har.2;cases hfr:fr.round with
      | none =>
       rw[hfr] at hro;have hFw:F=Fence.wide:=hro;subst hFw;have s0:=F1 hm (.deferred (some []));have s1:=oU s0.mr (ao:=.loop { state:=.ready,pending:=none,fn:=fr.fn,tmps:=fr.tmps,n:=fr.n,params:=ps,assign,body}) (mo:=none)
        (co:=.loop { state:=.ready,pending:=none,fn:=fnId,tmps:=a.tmps,params:=ps,assign,body,defers:=w.heap.size}) ⟨rfl,rfl,rfl,rfl,rfl,ht⟩
       refine⟨_,_,_,_,_,run_enterLoop_outer fnId a.tmps ps assign body,?_,aR.cn _ _ _,s0.trans hm s1,?_⟩
       show(w.alloc (.deferred (some []))).heap.size=_
       rw[World.size_alloc]
       obtain⟨rs,n1,n0,n3⟩:=(hmk.Ie hm s0).Ie s0.mr s1;obtain⟨rs',p2,p0,p1⟩:=hmk;have hrs:rs=rs':=by
        have e:=n0.symm.trans p0;refine List.map_inj_right (f:=uM) (fun x y hxy=>?_) |>.1 e
        simpa [uM] using hxy
       subst hrs;refine⟨w.heap.size::rs,Ww.2 ⟨fun hin=>?_,n1⟩,by simp[uM,n0],fun x hx=>?_⟩
       have:=(Vh.1 (p1 _ hin).2).1;omega
       rcases Vu.1 hx with rfl|hx
       refine⟨hN,?_⟩;have hlt:w.heap.size<(w.alloc (.deferred (some []))).heap.size:=by rw[World.size_alloc]; omega
       rw[s1.frame _ hlt fun b kb hb hl he=>Vr (hm.lt b kb hb).2 (by omega)]
       exact World.alloc_heap_new _ _
       exact n3 x hx
      | some l0 =>
       rw[hfr] at hro hround;obtain⟨k0,h9,rfl⟩:=hro;simp only at hround
       split at hround
       rename_i r3 h10;obtain⟨r1,h11,_⟩:=hm.uN h9 h10;have s1:=oU hm (ao:=.loop { state:=.ready,pending:=none,fn:=fr.fn,tmps:=fr.tmps,n:=fr.n,params:=ps,assign,body}) (mo:=none)
        (co:=.loop { state:=.ready,pending:=none,fn:=fnId,tmps:=a.tmps,params:=ps,assign,body,defers:=r1.defers}) ⟨rfl,rfl,rfl,rfl,rfl,ht⟩
       exact⟨_,_,_,_,_,pE h11 fnId a.tmps ps assign body,rfl,aR.cn _ _ _,s1,by simpa using hmk.Ie hm s1⟩
       cases hround
     obtain⟨l,mark,w1,j1,kb,e1,e2,e0,s1,h12⟩:=enter;subst e2;have hprim:(E.cZ gf).isSome=false:=by
      unfold lE at har;simp only[Va,hg] at har;cases hp:E.cZ gf with
      | none=>rfl
      | some p=>rw[hp] at har; simp at har
     have hl:LR j1 (first.toList++[Value.func (.yield m.next) #[] #[]]++captured.toList) (ys.toList++[Value.func (.yield kb.c) #[] #[]]++ds.toList) :=
      (((LR.gB h5 h6).mono s1.le).append (.cons (.yield e0 rfl (fun i a _=>by simp at a)) (.nil _))).append ((LR.gB h7 h8).mono s1.le)
     have hcs:=HC j1 w1 _ s1.mr hl;have harr:(ys.toList++[Value.func (.yield kb.c) #[] #[]]++ds.toList).toArray=ys++#[Value.func (.yield kb.c) #[] #[]]++ds:=by apply Wx.1; simp
     rw[harr] at hcs;rcases hcs with⟨hr,hci⟩|⟨hpr,_⟩
     ·refine⟨kb.c,mark,w1,{ target:=.fn (.func gf) ds,args:=ys++#[Value.func (.yield kb.c) #[] #[]]},w1,gf,ys++#[Value.func (.yield kb.c) #[] #[]]++ds,w1,e1,?_,fun f' _=>hF.fn f',?_,hF.depth,?_⟩
      have hmap:Array.map a.eval #[Operand.const (Value.func (Fn.yield kb.c) #[] #[])]=#[Value.func (Fn.yield kb.c) #[] #[]]:=by
       apply Wx.1; rw[Array.toList_map]; rfl
      simp only[resolve,hfe,Deferred.ofValue,YG,hmap]
      simp only[invoke]; exact hr
      ·refine CallsIn.mono (hF.calls hci) ?_;rintro e' w3 ⟨v',rfl,j3,s3,hv⟩;have h3:=s3.le _ _ e0;obtain⟨r0,h13,f1,f0,f2,f4,f3,f5⟩:=s3.mr.uN h3 h2;have s2:Sim E j3 m2 w3 j3 (m2.set m.next (.loop { r2 with state:=.exhausted})) (w3.putObj kb.c (.loop { r0 with state:=.exhausted})) :=
        jx s3.mr h3 (by rw[h2]; rfl) ⟨rfl,f0,f2,f4,f3,f5⟩
       have sall:=s1.trans hm (s3.trans s1.mr s2);refine⟨r0.pending,_,run_endLoop h13 (by rw[<-f1]; exact hbusy),?_⟩
       have hfin:=hQ j3 _ { a with defers:=mark++a.defers} sall (ht.mono sall.le) ((h12.Ie s1.mr s3).Ie s3.mr s2);rw[f0] at hfin;generalize(w3.putObj kb.c (.loop { r0 with state:=.exhausted}))=w4 at hfin ⊢;cases hp:r0.pending with
       | none=>exact hfin.1 hp
       | some c=>exact hfin.2 c hp
     rw[hprim] at hpr; cases hpr
    split at h
    cases h
    rename_i hbusy
    split at h
    rename_i hpend;cases h;refine⟨.normal,fr.tmps,_,rfl,fun j w a F N hm ht hro hmk hN=>?_⟩;refine common hbusy j w a F N hm ht hro hmk hN _ fun j2 w2 a0 s2 h0 h1=>?_;exact⟨fun _=>⟨rfl,j2,s2,h0,h1⟩,fun c hc=>Vr (hpend.symm.trans hc) (by simp)⟩
    rename_i c hpend
    split at h
    rename_i e t m' hkp;cases h;obtain⟨e3,t0,m0,h14,HP⟩:=hk _ _ hkp;cases h14;refine⟨e,t,m',rfl,fun j w a F N hm ht hro hmk hN=>?_⟩;refine common hbusy j w a F N hm ht hro hmk hN _ fun j2 w2 a0 s2 h0 h1=>?_;refine⟨fun hc=>Vr (hpend.symm.trans hc) (by simp),fun c' hc=>?_⟩
    rw[hpend] at hc; cases hc;exact wpIn_mono (HP j2 w2 a0 F N s2.mr h0 (hro.mono s2.le) h1 (VK hN s2.size)) fun e' a' w' q=>q.from hm s2
    cases h
   cases h
  cases h
 cases h
def zd(hE:EnvOk E)(hk:∀tk r,k tk=some r->cX E tk r){c:Code}{fr:Fr}{m:Yq}{r:Res}(h:step E k (.code c fr m)=some r):cX E (.code c fr m) r:=by
 cases c with
 | skip =>
  simp only[step,Option.some.injEq] at h;subst h;exact⟨.normal,fr.tmps,m,rfl,fun j w a F N hm ht hro hd hN=>wpIn_skip ⟨rfl,j,.refl hm,ht,hd⟩⟩
 | label l =>
  simp only[step,Option.some.injEq] at h;subst h;exact⟨.normal,fr.tmps,m,rfl,fun j w a F N hm ht hro hd hN=>wpIn_label ⟨rfl,j,.refl hm,ht,hd⟩⟩
 | exit id =>
  simp only[step,Option.some.injEq] at h;subst h;exact⟨.exit id,fr.tmps,m,rfl,fun j w a F N hm ht hro hd hN=>wpIn_exit ⟨rfl,j,.refl hm,ht,hd⟩⟩
 | ret =>
  simp only[step,Option.some.injEq] at h;subst h;exact⟨.ret,fr.tmps,m,rfl,fun j w a F N hm ht hro hd hN=>wpIn_ret ⟨rfl,j,.refl hm,ht,hd⟩⟩
 | seq x y =>
  simp only[step] at h
  split at h
  rename_i t1 m1 h1;obtain⟨e0,t0,m0,hr0,H1⟩:=hk _ _ h1;cases hr0;obtain⟨e2,t2,m2,rfl,H2⟩:=hk _ _ h;refine⟨e2,t2,m2,rfl,fun j w a F N hm ht hro hd hN=>wpIn_seq (wpIn_mono (H1 j w a F N hm ht hro hd hN) ?_)⟩;rintro e' a' w' ⟨rfl,j',s,ht',hd'⟩;exact wpIn_mono (H2 j' w' a' F N s.mr ht' (hro.mono s.le) hd' (VK hN s.size)) fun _ _ _ q=>q.from hm s
  ·rename_i e1 t1 m1 hne h1;cases h;obtain⟨e0,t0,m0,hr0,H1⟩:=hk _ _ h1;cases hr0;refine⟨e1,t1,m1,rfl,fun j w a F N hm ht hro hd hN=>wpIn_seq (wpIn_mono (H1 j w a F N hm ht hro hd hN) ?_)⟩;rintro e' a' w' q;have he:=q.1;subst he;cases e1 with
   | normal=>exact(hne rfl).elim
   | exit id=>exact q
   | ret=>exact q
  cases h
 | cond x a b =>
  simp only[step] at h
  split at h
  rename_i hx;obtain⟨e2,t2,m2,rfl,H⟩:=hk _ _ h;refine⟨e2,t2,m2,rfl,fun j w a F N hm ht hro hd hN=>?_⟩;have hv:=aV hm ht hx;generalize hxe:a.eval x=xv at hv;cases hv;exact wpIn_cond_true hxe (H j w a F N hm ht hro hd hN)
  rename_i hx;obtain⟨e2,t2,m2,rfl,H⟩:=hk _ _ h;refine⟨e2,t2,m2,rfl,fun j w a F N hm ht hro hd hN=>?_⟩;have hv:=aV hm ht hx;generalize hxe:a.eval x=xv at hv;cases hv;exact wpIn_cond_false hxe (H j w a F N hm ht hro hd hN)
  cases h
 | block id c =>
  simp only[step] at h
  split at h
  rename_i id' t1 m1 h1;obtain⟨e0,t0,m0,hr0,H⟩:=hk _ _ h1;cases hr0
  split at h
  rename_i hid;cases h;refine⟨.normal,t1,m1,rfl,fun j w a F N hm ht hro hd hN=>wpIn_block (wpIn_mono (H j w a F N hm ht hro hd hN) ?_)⟩;rintro e' a' w' ⟨rfl,q⟩;simp only[IA,Exit.inBlock,hid,if_true];exact⟨rfl,q⟩
  rename_i hid;cases h;refine⟨.exit id',t1,m1,rfl,fun j w a F N hm ht hro hd hN=>wpIn_block (wpIn_mono (H j w a F N hm ht hro hd hN) ?_)⟩;rintro e' a' w' ⟨rfl,q⟩;simp only[IA,Exit.inBlock,hid,if_false];exact⟨rfl,q⟩
  ·rename_i e1 t1 m1 hne h1;cases h;obtain⟨e0,t0,m0,hr0,H⟩:=hk _ _ h1;cases hr0;refine⟨e1,t1,m1,rfl,fun j w a F N hm ht hro hd hN=>wpIn_block (wpIn_mono (H j w a F N hm ht hro hd hN) ?_)⟩;rintro e' a' w' ⟨rfl,q⟩;cases e1 with
   | normal=>exact⟨rfl,q⟩
   | exit id=>exact(hne _ rfl).elim
   | ret=>exact⟨rfl,q⟩
  cases h
 | loop c =>
  simp only[step] at h;obtain⟨e2,t2,m2,rfl,H⟩:=hk _ _ h;exact⟨e2,t2,m2,rfl,fun j w a F N hm ht hro hd hN=>nQ (H j w a F N hm ht hro hd hN)⟩
 | scope c =>
  simp only[step] at h
  split at h
  rename_i e1 t1 m1 h1;cases h;obtain⟨e0,t0,m0,hr0,H⟩:=hk _ _ h1;cases hr0;refine⟨e1,t1,m1,rfl,fun j w a F N hm ht hro hd hN=>Dg (wpIn_mono (H j w a F N hm ht hro hd hN) ?_)⟩;rintro e' a' w' ⟨rfl,q⟩;cases e1<;>exact⟨rfl,q⟩
  cases h
 | region id ops draw =>
  simp only[step] at h
  split at h
  rename_i hdraw
  split at h
  rename_i ps hps
  split at h
  rename_i t1 m1 ns hr
  split at h
  rename_i hok;cases h;refine⟨.normal,t1,m1,rfl,fun j w a F N hm ht hro hd hN=>?_⟩;rw[hdraw];simp only[Va] at hok;exact Hd hk hE.mixed hps hr hok.1 hok.2 hm ht hro.wide fun j' w' a' s ht' hds=>⟨rfl,j',s,ht',by rw[hds]; exact hd.Ie hm s⟩
  cases h
  cases h
  cases h
  rename_i hdraw;have hdraw':draw=false:=by simpa using hdraw
  split at h
  rename_i t1 m1 hr;cases h;refine⟨.normal,t1,m1,rfl,fun j w a F N hm ht hro hd hN=>?_⟩;rw[hdraw'];refine wpIn_region ?_;have:=lO (ops:=ops) (n:=fr.n) (tf:=t1) (mf:=m1) hk hro.wide hm a.defers (Q:=nG E j m w N fr.n .normal t1 m1) (fun j' w' a' s ht' hds=>⟨rfl,j',s,ht',by rw[hds]; exact hd.Ie hm s⟩) ops.toList 0 fr.tmps m j w a rfl hr (.refl hm) ht rfl
  rw[List.range_eq_range']
  simpa using this
  cases h
 | rangeFunc g ps assign body=>exact wH hk h
 | goto l=>simp[step] at h
 | refuse why=>simp[step] at h
def yu(hk:∀tk r,k tk=some r->cX E tk r){c:Code}{fr:Fr}{m:Yq}{r:Res}(h:step E k (.loop c fr m)=some r):cX E (.loop c fr m) r:=by
 simp only[step] at h
 split at h
 rename_i t1 m1 h1;obtain⟨e0,t0,m0,hr0,H1⟩:=hk _ _ h1;cases hr0;obtain⟨e2,t2,m2,rfl,H2⟩:=hk _ _ h;refine⟨e2,t2,m2,rfl,fun j w a F N hm ht hro hd hN=>lY (wpIn_mono (H1 j w a F N hm ht hro hd hN) ?_)⟩;rintro e' a' w' ⟨rfl,j',s,ht',hd'⟩;intro b k' cs hro' hb hr;obtain⟨e3,a3,w3,q,harr⟩:=H2 j' w' a' F N s.mr ht' (hro.mono s.le) hd' (VK hN s.size) b k' cs hro' hb hr;exact⟨e3,a3,w3,q.from hm s,harr⟩
 ·rename_i e1 t1 m1 hne h1;cases h;obtain⟨e0,t0,m0,hr0,H1⟩:=hk _ _ h1;cases hr0;refine⟨e1,t1,m1,rfl,fun j w a F N hm ht hro hd hN=>lY (wpIn_mono (H1 j w a F N hm ht hro hd hN) ?_)⟩;rintro e' a' w' q;have he:=q.1;subst he;cases e1 with
  | normal=>exact(hne rfl).elim
  | exit id=>exact q
  | ret=>exact q
 cases h
def GF(hE:EnvOk E)(hk:∀tk r,k tk=some r->cX E tk r){tk:Task}{r:Res}(h:step E k tk=some r):cX E tk r:=by
 cases tk with
 | code c fr m=>exact zd hE hk h
 | loop c fr m=>exact yu hk h
 | call f args m=>exact zM hE hk h
 | round l args m=>exact wN hk h
def qC(hE:EnvOk E):∀(fuel:Nat) (tk:Task) (r:Res),run E fuel tk=some r->cX E tk r
 | 0,_,_,h=>by cases h
 | n+1,_,_,h=>GF hE (qC hE n) h
end
section
variable{E:Env}{k k':K}
def RY(k k':K):Prop:=∀tk r,k tk=some r->k' tk=some r
def mE (h:RY k k') {t:Tm} {m:Yq} {o:Op} {x:XI × Yq} (e:eO k E t m o=some x):eO k' E t m o=some x:=by
 unfold eO at e ⊢
 split at e
 ·rename_i c
  try simp only
  split at e
  ·rename_i f hc
   try simp only
   split at e
   ·rename_i g first captured args h1 h2
    try simp only[h1,h2]
    split at e
    rename_i v m' hk;rw[h _ _ hk]; exact e
    cases e
   ·rename_i l first cap args h1 h2
    try simp only[h1,h2]
    split at e
    rename_i v m' hk;rw[h _ _ hk]; exact e
    cases e
   cases e
  ·rename_i hne
   first
    | exact e
    | (split
       rename_i f hc; exact(hne f hc).elim
       exact e)
 ·rename_i hne
  first
   | exact e
   | (split
      rename_i c; exact(hne c rfl).elim
      exact e)
def kF(h:RY k k'){n:Nat}{ops:YD Oper}:∀{os:YB Oper} {t:Tm} {m:Yq} {x:Tm×Yq},jI k E n ops os t m=some x->jI k' E n ops os t m=some x
 | [],t,m,x,e=>e
 | o::os,t,m,x,e=>by
  simp only[jI] at e ⊢
  split at e
  ·rename_i hw;rw[U5 hw]
   split at e
   ·rename_i v m' ho;rw[mE h ho]
    try simp only
    split at e
    ·rename_i t' hp
     try simp only[hp]
     exact kF h e
    cases e
   cases e
  ·rename_i hw;rw[U3 hw]
   split at e
   ·rename_i t' hp
    try simp only[hp]
    exact kF h e
   cases e
def iM(h:RY k k'){n:Nat}{ops:YD Oper}:∀{os:YB Oper} {t:Tm} {m:Yq} {x:Tm×Yq×YB Note},er k E n ops os t m=some x->er k' E n ops os t m=some x
 | [],t,m,x,e=>e
 | o::os,t,m,x,e=>by
  simp only[er] at e ⊢
  split at e
  ·rename_i hw;rw[U5 hw]
   split at e
   ·rename_i v m' ho;rw[mE h ho]
    try simp only
    split at e
    ·rename_i t' hp
     try simp only[hp]
     split at e
     rename_i a b c hr;rw[iM h hr]; exact e
     cases e
    cases e
   cases e
  ·rename_i hw;rw[U3 hw]
   split at e
   ·rename_i t' hp
    try simp only[hp]
    split at e
    rename_i a b c hr;rw[iM h hr]; exact e
    cases e
   cases e
def FX (h:RY k k') {tk:Task} {r:Res} (e:step E k tk=some r):step E k' tk=some r:=by
 cases tk with
 | code c fr m =>
  cases c with
  | seq a b =>
   simp only[step] at e ⊢
   split at e
   rename_i t1 m1 h1;rw[h _ _ h1]; exact h _ _ e
   ·rename_i e1 t1 m1 hne h1;rw[h _ _ h1];cases e1 with
    | normal=>exact(hne rfl).elim
    | exit id=>exact e
    | ret=>exact e
   cases e
  | cond x a b =>
   simp only[step] at e ⊢
   split at e
   ·rename_i hx; try simp only[hx]
    exact h _ _ e
   ·rename_i hx; try simp only[hx]
    exact h _ _ e
   cases e
  | block id a =>
   simp only[step] at e ⊢
   split at e
   rename_i id' t1 m1 h1;rw[h _ _ h1]; exact e
   ·rename_i e1 t1 m1 hne h1;rw[h _ _ h1];cases e1 with
    | exit id'=>exact(hne _ rfl).elim
    | normal=>exact e
    | ret=>exact e
   cases e
  | loop a=>simp only[step] at e ⊢; exact h _ _ e
  | scope a =>
   simp only[step] at e ⊢
   split at e
   rename_i e1 t1 m1 h1;rw[h _ _ h1]; exact e
   cases e
  | region id ops draw =>
   simp only[step] at e ⊢
   split at e
   ·rename_i hd;rw[U5 hd]
    split at e
    ·rename_i ps hps
     try simp only[hps]
     split at e
     rename_i t1 m1 ns hr;rw[iM h hr]; exact e
     cases e
    cases e
   rename_i hd;rw[U3 hd]
   split at e
   rename_i t1 m1 hr;rw[kF h hr]; exact e
   cases e
  | rangeFunc f ps ars bd =>
   simp only[step] at e ⊢
   split at e
   ·rename_i g first captured hg har
    try simp only[hg,har]
    split at e
    ·rename_i v m2 hk;rw[h _ _ hk]
     try simp only
     split at e
     ·rename_i r2 hl
      try simp only[hl]
      split at e
      cases e
      ·rename_i hb;revert e;cases hs:r2.state
       case busy=>exact(hb hs).elim
       all_goals
        cases hp:r2.pending with
        | none=>intro e; exact e
        | some c =>
         intro e;simp only at e ⊢
         split at e
         rename_i e1 t1 m1 hk2;rw[h _ _ hk2]; exact e
         cases e
     cases e
    cases e
   cases e
  | _=>exact e
 | loop c fr m =>
  simp only[step] at e ⊢
  split at e
  rename_i t1 m1 h1;rw[h _ _ h1]; exact h _ _ e
  ·rename_i e1 t1 m1 hne h1;rw[h _ _ h1];cases e1 with
   | normal=>exact(hne rfl).elim
   | exit id=>exact e
   | ret=>exact e
  cases e
 | call f args m =>
  simp only[step] at e ⊢
  split at e
  ·rename_i p hp
   try simp only[hp]
   exact e
  ·rename_i hp
   try simp only[hp]
   split at e
   ·rename_i fn hf
    try simp only[hf]
    split at e
    ·rename_i c hb
     try simp only[hb]
     split at e
     cases e
     ·rename_i e1 t1 m1 hne h1;rw[h _ _ h1];cases e1 with
      | exit id=>exact(hne _ rfl).elim
      | normal=>exact e
      | ret=>exact e
     cases e
    cases e
   cases e
 | round l args m =>
  simp only[step] at e ⊢
  split at e
  ·rename_i r1 hl
   try simp only[hl]
   split at e
   ·rename_i hs
    try simp only[hs]
    split at e
    cases e
    ·rename_i hlen;rw[U3 hlen]
     split at e
     cases e
     ·rename_i t0 hsp
      try simp only[hsp]
      split at e
      ·rename_i t1 m1 h1;rw[h _ _ h1]
       try simp only
       split at e
       ·rename_i r2 hl2
        try simp only[hl2]
        split at e
        ·rename_i hs2
         try simp only[hs2]
         split at e
         rename_i e2 t2 m2 h2;rw[h _ _ h2]; exact e
         cases e
        cases e
       cases e
      cases e
   cases e
  cases e
def IS{n:Nat}{tk:Task}{r:Res}:run E n tk=some r->run E (n+1) tk=some r:=by
 induction n generalizing tk r with
 | zero=>intro h; cases h
 | succ n ih=>intro h; exact FX (fun _ _=>ih) h
def mI{n n':Nat}(hn:n<=n'){tk:Task}{r:Res}(h:run E n tk=some r):run E n' tk=some r:=by
 induction hn with
 | refl=>exact h
 | step _ ih=>exact IS ih
def IF(E:Env)(tk:Task)(r:Res):Prop:=∃n,run E n tk=some r
end
section
variable{E:Env}{n:Nat}{fn:YI}{ro:YA Nat}
def aK(E:Env)(f:YI)(args:YB XI)(m:Yq)(Q:XI->Yq->Prop):Prop:=∃v m',IF E (.call f args m) (.val v m')/\Q v m'
def DQ(E:Env)(l:Nat)(args:YB XI)(m:Yq)(Q:XI->Yq->Prop):Prop:=∃v m',IF E (.round l args m) (.val v m')/\Q v m'
def ck(E:Env)(n:Nat)(fn:YI)(ro:YA Nat)(c:Code)(Q:Yr->Tm->Yq->Prop)(t:Tm)(m:Yq):Prop:=∃e t' m',IF E (.code c ⟨t,n,fn,ro⟩ m) (.code e t' m')/\Q e t' m'
def E4(E:Env)(n:Nat)(fn:YI)(ro:YA Nat)(c:Code)(Q:Yr->Tm->Yq->Prop)(t:Tm)(m:Yq):Prop:=∃e t' m',IF E (.loop c ⟨t,n,fn,ro⟩ m) (.code e t' m')/\Q e t' m'
def aK.mono{f:YI}{args:YB XI}{m:Yq}{Q Q':XI->Yq->Prop}(h:aK E f args m Q)(hq:∀v m',Q v m'->Q' v m'):aK E f args m Q' :=
 let⟨v,m',r,q⟩:=h;⟨v,m',r,hq v m' q⟩
def ck.mono{c:Code}{Q Q':Yr->Tm->Yq->Prop}{t:Tm}{m:Yq}(h:ck E n fn ro c Q t m)(hq:∀e t m,Q e t m->Q' e t m):ck E n fn ro c Q' t m :=
 let⟨e,t',m',r,q⟩:=h;⟨e,t',m',r,hq _ _ _ q⟩
def pQ(K:Tm->Yq->Prop)(Q:Yr->Tm->Yq->Prop):Yr->Tm->Yq->Prop
 | .normal,t,m=>K t m
 | .exit id,t,m=>Q (.exit id) t m
 | .ret,t,m=>Q .ret t m
def iS(id:Nat)(Q:Yr->Tm->Yq->Prop):Yr->Tm->Yq->Prop
 | .normal,t,m=>Q .normal t m
 | .exit id',t,m=>if id'=id then Q .normal t m else Q (.exit id') t m
 | .ret,t,m=>Q .ret t m
variable{Q:Yr->Tm->Yq->Prop}{t:Tm}{m:Yq}
def bG{k:Nat}{tk:Task}{r:Res}(h:step E (run E k) tk=some r):IF E tk r:=⟨k+1,h⟩
def ck.skip(h:Q .normal t m):ck E n fn ro .skip Q t m:=⟨_,_,_,bG (k:=0) rfl,h⟩
def ck.exit{id:Nat}(h:Q (.exit id) t m):ck E n fn ro (.exit id) Q t m:=⟨_,_,_,bG (k:=0) rfl,h⟩
def ck.ret(h:Q .ret t m):ck E n fn ro .ret Q t m:=⟨_,_,_,bG (k:=0) rfl,h⟩
def ck.seq{a b:Code}(h:ck E n fn ro a (pQ (ck E n fn ro b Q) Q) t m):ck E n fn ro (.seq a b) Q t m:=by
 obtain⟨e,t1,m1,⟨k1,h1⟩,q⟩:=h;cases e with
 | normal =>
  obtain⟨e2,t2,m2,⟨k2,h2⟩,q2⟩:=q;refine⟨e2,t2,m2,bG (k:=max k1 k2) ?_,q2⟩;simp only[step,mI (Nat.le_max_left k1 k2) h1];exact mI (Nat.le_max_right k1 k2) h2
 | exit id=>exact⟨_,_,_,bG (k:=k1) (by simp only[step,h1]),q⟩
 | ret=>exact⟨_,_,_,bG (k:=k1) (by simp only[step,h1]),q⟩
def ck.cond{x:XK}{a b:Code}{c:Bool}(hx:an E t x=some (.bool c))(ht:c=true->ck E n fn ro a Q t m)(hf:c=false->ck E n fn ro b Q t m):ck E n fn ro (.cond x a b) Q t m:=by
 cases c with
 | true =>
  obtain⟨e,t1,m1,⟨k1,h1⟩,q⟩:=ht rfl;exact⟨e,t1,m1,bG (k:=k1) (by simp only[step,hx]; exact h1),q⟩
 | false =>
  obtain⟨e,t1,m1,⟨k1,h1⟩,q⟩:=hf rfl;exact⟨e,t1,m1,bG (k:=k1) (by simp only[step,hx]; exact h1),q⟩
def ck.block{id:Nat}{a:Code}(h:ck E n fn ro a (iS id Q) t m):ck E n fn ro (.block id a) Q t m:=by
 obtain⟨e,t1,m1,⟨k1,h1⟩,q⟩:=h;cases e with
 | normal=>exact⟨_,_,_,bG (k:=k1) (by simp only[step,h1]),q⟩
 | exit id' =>
  simp only[iS] at q
  by_cases hid:id'=id
  rw[U5 hid] at q;exact⟨_,_,_,bG (k:=k1) (by simp only[step,h1,U5 hid]),q⟩
  rw[U3 hid] at q;exact⟨_,_,_,bG (k:=k1) (by simp only[step,h1,U3 hid]),q⟩
 | ret=>exact⟨_,_,_,bG (k:=k1) (by simp only[step,h1]),q⟩
def ck.loop{a:Code}(h:E4 E n fn ro a Q t m):ck E n fn ro (.loop a) Q t m:=by
 obtain⟨e,t1,m1,⟨k1,h1⟩,q⟩:=h;exact⟨_,_,_,bG (k:=k1) (by simp only[step]; exact h1),q⟩
def E4.round{a:Code}(h:ck E n fn ro a (pQ (E4 E n fn ro a Q) Q) t m):E4 E n fn ro a Q t m:=by
 obtain⟨e,t1,m1,⟨k1,h1⟩,q⟩:=h;cases e with
 | normal =>
  obtain⟨e2,t2,m2,⟨k2,h2⟩,q2⟩:=q;refine⟨e2,t2,m2,bG (k:=max k1 k2) ?_,q2⟩;simp only[step,mI (Nat.le_max_left k1 k2) h1];exact mI (Nat.le_max_right k1 k2) h2
 | exit id=>exact⟨_,_,_,bG (k:=k1) (by simp only[step,h1]),q⟩
 | ret=>exact⟨_,_,_,bG (k:=k1) (by simp only[step,h1]),q⟩
def mJ(E:Env)(t:Tm)(m:Yq)(o:Op)(K:XI->Yq->Prop):Prop:=∃v m',(∃k,eO (run E k) E t m o=some (v,m'))/\K v m'
def ue{k k':Nat}(h:k<=k'):RY (run E k) (run E k'):=fun _ _=>mI h
def mJ.plain{o:Op}{v:XI}{m':Yq}{K:XI->Yq->Prop}(he:fM E t m o=some (v,m'))(h:K v m'):mJ E t m o K:=by
 refine⟨v,m',⟨0,?_⟩,h⟩;unfold eO
 split
 rename_i c
 split
 rename_i f hc;simp[fM,hc] at he
 exact he
 exact he
def mJ.call{c:Call}{f:XK}{g:YI}{first captured:YD XI}{args:YB XI}{K:XI->Yq->Prop}(hc:c.callee=.value f)(hf:an E t f=some (.func (.func g) first captured))(ha:bC E t c.args.toList=some args)
  (h:aK E g (first.toList++args++captured.toList) m K):mJ E t m (.call c) K:=by
 obtain⟨v,m',⟨k,hk⟩,q⟩:=h;exact⟨v,m',⟨k,by simp only[eO,hc,hf,ha,hk]⟩,q⟩
def mJ.round{c:Call}{f:XK}{l:Nat}{first cap:YD XI}{args:YB XI}{K:XI->Yq->Prop}(hc:c.callee=.value f)(hf:an E t f=some (.func (.yield l) first cap))(ha:bC E t c.args.toList=some args)
  (h:DQ E l (first.toList++args) m K):mJ E t m (.call c) K:=by
 obtain⟨v,m',⟨k,hk⟩,q⟩:=h;exact⟨v,m',⟨k,by simp only[eO,hc,hf,ha,hk]⟩,q⟩
def MY(n:Nat)(t:Tm)(dst:YA Tmp)(v:XI)(K:Tm->Prop):Prop:=∃t',kZ n t dst v=some t'/\K t'
def C3(E:Env)(n:Nat)(ops:YD Oper)(K:Tm->Yq->Prop):YB Oper->Tm->Yq->Prop
 | [],t,m=>K t m
 | o::os,t,m=>if cg ops o t then mJ E t m o.op fun v m'=>MY n t o.dst v fun t'=>C3 E n ops K os t' m' else MY n t o.dst undef fun t'=>C3 E n ops K os t' m
def pg{ops:YD Oper}{K:Tm->Yq->Prop}:∀{os:YB Oper} {t:Tm} {m:Yq},C3 E n ops K os t m->∃k t' m',jI (run E k) E n ops os t m=some (t',m')/\K t' m'
 | [],t,m,h=>⟨0,t,m,rfl,h⟩
 | o::os,t,m,h=>by
  simp only[C3] at h
  split at h
  rename_i hw;obtain⟨v,m1,⟨k1,h1⟩,t1,hp,h2⟩:=h;obtain⟨k2,t2,m2,h3,h4⟩:=pg h2;refine⟨max k1 k2,t2,m2,?_,h4⟩;simp only[jI,U5 hw,mE (ue (Nat.le_max_left k1 k2)) h1,hp];exact kF (ue (Nat.le_max_right k1 k2)) h3
  rename_i hw;obtain⟨t1,hp,h2⟩:=h;obtain⟨k2,t2,m2,h3,h4⟩:=pg h2;refine⟨k2,t2,m2,?_,h4⟩;simp only[jI,U3 hw,hp];exact h3
def ck.region{id:Nat}{ops:YD Oper}(h:C3 E n ops (Q .normal) ops.toList t m):ck E n fn ro (.region id ops false) Q t m:=by
 obtain⟨k,t',m',h1,h2⟩:=pg h;exact⟨_,_,_,bG (k:=k) (by simp only[step,VG,if_false,h1]),h2⟩
def jn(E:Env)(n:Nat)(ops:YD Oper)(K:Tm->Yq->YB Note->Prop):YB Oper->Tm->Yq->YB Note->Prop
 | [],t,m,ns=>K t m ns.reverse
 | o::os,t,m,ns =>
  if cg ops o t then mJ E t { m with wl:=m.next} o.op fun v m'=>MY n t o.dst v fun t' =>
   jn E n ops K os t' { m' with wl:=min m.wl m'.wl} ({ read:=aM E t o.op,wl:=m'.wl,next:=m.next,wrote:=fj E t o.op,kept:=jX m m'}::ns)
  else MY n t o.dst undef fun t'=>jn E n ops K os t' m ({ read:=none,wl:=m.next,next:=m.next,wrote:=none,kept:=fun _=>false}::ns)
def nW{ops:YD Oper}{K:Tm->Yq->YB Note->Prop}:∀{os:YB Oper} {t:Tm} {m:Yq} {ns:YB Note},jn E n ops K os t m ns->∃k t' m' ns',er (run E k) E n ops os t m=some (t',m',ns')/\K t' m' (ns.reverse++ns')
 | [],t,m,ns,h=>⟨0,t,m,[],rfl,by rw[VX]; exact h⟩
 | o::os,t,m,ns,h=>by
  simp only[jn] at h
  split at h
  rename_i hw;obtain⟨v,m1,⟨k1,h1⟩,t1,hp,h2⟩:=h;obtain⟨k2,t2,m2,ns2,h3,h4⟩:=nW h2;refine⟨max k1 k2,t2,m2,_::ns2,?_,by simpa using h4⟩
  simp only[er,U5 hw,mE (ue (Nat.le_max_left k1 k2)) h1,hp,iM (ue (Nat.le_max_right k1 k2)) h3]
  rename_i hw;obtain⟨t1,hp,h2⟩:=h;obtain⟨k2,t2,m2,ns2,h3,h4⟩:=nW h2;refine⟨k2,t2,m2,_::ns2,?_,by simpa using h4⟩
  simp only[er,U3 hw,hp,h3]
def ck.draw{id:Nat}{ops:YD Oper}{ps:YB (Nat×Nat)}(hp:lQ ops=some ps)(h:jn E n ops (fun t m ns=>(ps.all (eu ns ops)&&ns.all gi)=true/\Q .normal t m) ops.toList t m []):ck E n fn ro (.region id ops true) Q t m:=by
 obtain⟨k,t',m',ns,h1,h2,h3⟩:=nW h;simp only[List.reverse_nil,Wc] at h2;exact⟨_,_,_,bG (k:=k) (by simp only[step,if_true,hp,h1,h2]),h3⟩
def aK.enter{f:YI}{F:Func}{c:Code}{args:YB XI}{R:XI->Yq->Prop}(hp:E.cZ f=none)(hf:E.P.funcs[f]? = some F)(hb:F.body=some c)
  (h:ck E (max args.length F.ntmps) f none c (fun e t' m'=>(∀id,e≠.exit id)/\∃vs,cT E t' m' F.results.toList=some vs/\R (jr vs) m') (Trie.ofList args 0 .nil) m):aK E f args m R:=by
 obtain⟨e,t',m',⟨k,h1⟩,hne,vs,h2,h3⟩:=h;refine⟨_,m',bG (k:=k) ?_,h3⟩;have hpa:xK E f args m=none:=by unfold xK; rw[hp]; rfl
 simp only[step,hpa,hf,hb,h1];cases e with
 | exit id=>exact(hne id rfl).elim
 | normal=>simp only[h2,Vx]
 | ret=>simp only[h2,Vx]
end
section
variable{E:Env}{n:Nat}{fn:YI}{ro:YA Nat}{Q:Yr->Tm->Yq->Prop}{t:Tm}{m:Yq}
def fh(r:YA (XI×Yq))(K:XI->Yq->Prop):Prop :=
 match r with
 | some (v,m)=>K v m
 | none=>False
def G6(r:YA Tm)(K:Tm->Prop):Prop :=
 match r with
 | some t=>K t
 | none=>False
def lh(E:Env)(f:YA XI)(args:YA (YB XI))(m:Yq)(K:XI->Yq->Prop):Prop :=
 match f,args with
 | some (.func (.func g) first captured),some ars=>aK E g (first.toList++ars++captured.toList) m K
 | some (.func (.yield l) first _),some ars=>DQ E l (first.toList++ars) m K
 | _,_=>False
def qz(g:YI)(ars:YB XI)(K:XI->Yq->Prop):lh E (some (.func (.func g) #[] #[])) (some ars) m K=aK E g ars m K:=by
 simp[lh]
def qn(o:Op):YA (XK×YB XK) :=
 match o with
 | .call c=>match c.callee with
  | .value f=>some (f,c.args.toList)
  | _=>none
 | _=>none
def bj(E:Env)(t:Tm)(m:Yq)(o:Op)(K:XI->Yq->Prop):Prop :=
 match qn o with
 | some (f,ars)=>lh E (an E t f) (bC E t ars) m K
 | none=>fh (fM E t m o) K
def bj.A{o:Op}{K:XI->Yq->Prop}(h:bj E t m o K):mJ E t m o K:=by
 unfold bj at h
 split at h
 rename_i f ars hc;unfold qn at hc
 split at hc
 rename_i c
 split at hc
 rename_i f' hcal;cases hc;unfold lh at h
 split at h
 rename_i g first captured args h1 h2
 exact .call hcal h1 h2 h
 rename_i l first cap args h1 h2
 exact .round hcal h1 h2 h
 exact h.elim
 cases hc
 cases hc
 unfold fh at h
 split at h
 rename_i v m' he;exact .plain he h
 exact h.elim
def qi(E:Env)(n:Nat)(ops:YD Oper)(K:Tm->Yq->Prop):YB Oper->Tm->Yq->Prop
 | [],t,m=>K t m
 | o::os,t,m=>if cg ops o t then bj E t m o.op fun v m'=>G6 (kZ n t o.dst v) fun t'=>qi E n ops K os t' m' else G6 (kZ n t o.dst undef) fun t'=>qi E n ops K os t' m
def mJ.mono{o:Op}{K K':XI->Yq->Prop}(h:mJ E t m o K)(hk:∀v m',K v m'->K' v m'):mJ E t m o K' :=
 let⟨v,m',r,q⟩:=h;⟨v,m',r,hk v m' q⟩
def G6.A{r:YA Tm}{K:Tm->Prop}(h:G6 r K):∃t',r=some t'/\K t':=by
 cases r with
 | none=>exact h.elim
 | some t=>exact⟨t,rfl,h⟩
def pf{ops:YD Oper}{K:Tm->Yq->Prop}:∀{os:YB Oper} {t:Tm} {m:Yq},qi E n ops K os t m->C3 E n ops K os t m
 | [],t,m,h=>h
 | o::os,t,m,h=>by
  simp only[qi] at h;simp only[C3]
  split at h
  rename_i hw;rw[U5 hw];refine h.A.mono fun v m' hv=>?_;obtain⟨t',hp,h2⟩:=hv.A;exact⟨t',hp,pf h2⟩
  rename_i hw;rw[U3 hw];obtain⟨t',hp,h2⟩:=h.A;exact⟨t',hp,pf h2⟩
def ck.LW{id:Nat}{ops:YD Oper}(h:qi E n ops (Q .normal) ops.toList t m):ck E n fn ro (.region id ops false) Q t m:=.region (pf h)
def yK(E:Env)(n:Nat)(ops:YD Oper)(K:Tm->Yq->YB Note->Prop):YB Oper->Tm->Yq->YB Note->Prop
 | [],t,m,ns=>K t m ns.reverse
 | o::os,t,m,ns =>
  if cg ops o t then bj E t { m with wl:=m.next} o.op fun v m'=>G6 (kZ n t o.dst v) fun t' =>
   yK E n ops K os t' { m' with wl:=min m.wl m'.wl} ({ read:=aM E t o.op,wl:=m'.wl,next:=m.next,wrote:=fj E t o.op,kept:=jX m m'}::ns)
  else G6 (kZ n t o.dst undef) fun t'=>yK E n ops K os t' m ({ read:=none,wl:=m.next,next:=m.next,wrote:=none,kept:=fun _=>false}::ns)
end
section
variable{E:Env}{n:Nat}{fn:YI}{ro:YA Nat}{t:Tm}{m:Yq}
section
variable{Q:Yr->Tm->Yq->Prop}
def Ew{id id':Nat}:iS id Q (.exit id') t m=if id'=id then Q .normal t m else Q (.exit id') t m:=rfl
end
def A0(r:YA (YB XI))(R:XI->Prop):Prop :=
 match r with
 | some vs=>R (jr vs)
 | none=>False
def j5(E:Env)(rs:YB ResultVar)(R:XI->Yq->Prop):Yr->Tm->Yq->Prop
 | .exit _,_,_=>False
 | .normal,t,m=>A0 (cT E t m rs) fun v=>R v m
 | .ret,t,m=>A0 (cT E t m rs) fun v=>R v m
def Gj{rs:YB ResultVar}{R:XI->Yq->Prop}:j5 E rs R .normal t m=A0 (cT E t m rs) fun v=>R v m:=rfl
def Qn{rs:YB ResultVar}{R:XI->Yq->Prop}:j5 E rs R .ret t m=A0 (cT E t m rs) fun v=>R v m:=rfl
def aK.Oe{f:YI}{F:Func}{c:Code}{args:YB XI}{rs:YB ResultVar}{N:Nat}{R:XI->Yq->Prop}(hp:E.cZ f=none)(hf:E.P.funcs[f]? = some F)(hb:F.body=some c)(hrs:F.results.toList=rs)(hN:max args.length F.ntmps=N)
  (h:ck E N f none c (j5 E rs R) (Trie.ofList args 0 .nil) m):aK E f args m R:=by
 subst hrs hN;refine .enter hp hf hb (h.mono fun e t' m' hq=>?_);cases e with
 | exit id=>exact hq.elim
 | normal =>
  refine⟨fun id h=>(by cases h),?_⟩
  simp only[j5] at hq;unfold A0 at hq
  split at hq
  rename_i vs hv; exact⟨vs,hv,hq⟩
  exact hq.elim
 | ret =>
  refine⟨fun id h=>(by cases h),?_⟩
  simp only[j5] at hq;unfold A0 at hq
  split at hq
  rename_i vs hv; exact⟨vs,hv,hq⟩
  exact hq.elim
end
def at_set(t:Tm)(i j:Nat)(v:XI):Tm.at (Trie.set t i v) j=if j=i then v else Tm.at t j:=by
 unfold Tm.at; rw[Trie.bz]; split<;>rfl
def dq(n:Nat)(t:Tm)(d:Nat)(v:XI):kZ n t (some d) v=if d<n then some (Trie.set t d v) else none:=by
 unfold kZ
 by_cases h:d<n
 have:Nat.blt d n=true:=by simpa using h
 simp only[this,U5 h]
 ·have:Nat.blt d n=false:=by
   cases hb:Nat.blt d n with
   | false=>rfl
   | true=>exact(h (by simpa using hb)).elim
  simp only[this,U3 h]
section
variable{E:Env}{t:Tm}{ty:XJ}{P:XL}
def bD(k:IntKind)(a b:Int):bW .add ty P (.int k a) (.int k b)=some (.int k (k.wrap (a+b))):=by simp only[bW,if_true]
def df(k:IntKind)(a b:Int):bW .sub ty P (.int k a) (.int k b)=some (.int k (k.wrap (a-b))):=by simp only[bW,if_true]
def dV(k:IntKind)(a b:Int):bW .mul ty P (.int k a) (.int k b)=some (.int k (k.wrap (a*b))):=by simp only[bW,if_true]
def D0(k:IntKind)(a b:Int)(h:b≠0):bW .rem ty P (.int k a) (.int k b)=some (.int k (a.tmod b)):=by simp only[bW,if_true,U3 h]
def iJ(k:IntKind)(a b:Int):bW .lss ty P (.int k a) (.int k b)=some (.bool (decide (a<b))):=by simp only[bW,if_true]
def zA(k:IntKind)(a b:Int):bW .leq ty P (.int k a) (.int k b)=some (.bool (decide (a<=b))):=by simp only[bW,if_true]
def tM(k:IntKind)(a b:Int):bW .gtr ty P (.int k a) (.int k b)=some (.bool (decide (b<a))):=by simp only[bW,if_true,gt_iff_lt]
def EV(k:IntKind)(a b:Int):bW .geq ty P (.int k a) (.int k b)=some (.bool (decide (b<=a))):=by simp only[bW,if_true,ge_iff_le]
def jv(k:IntKind)(a b:Int):bW .eql ty P (.int k a) (.int k b)=some (.bool (decide (a=b))):=by simp only[bW,if_true]; rfl
def Ls(k:IntKind)(a b:Int):bW .neq ty P (.int k a) (.int k b)=some (.bool (decide (a≠b))):=by
 simp only[bW,if_true]
 by_cases h:a=b<;>simp[h]
end
structure Ext(m m':Yq):Prop where
 next:m.next<=m'.next
 same:∀b,b<m.next->m'.get b=m.get b
 wl:min m.wl m.next<=m'.wl
def Ext.refl(m:Yq):Ext m m:=⟨U8 _,fun _ _=>rfl,Nat.min_le_left _ _⟩
def Ext.trans{a b c:Yq}(h:Ext a b)(h':Ext b c):Ext a c :=
 ⟨VK h.next h'.next,fun x hx=>(h'.same x (Vt hx h.next)).trans (h.same x hx),by
  have h1:=h.wl; have h2:=h'.wl; have h3:=h.next; omega⟩
def Ext.alloc{m m':Yq}(h:Ext m m')(o:Ys):Ext m (m'.alloc o) :=
 ⟨Nat.le_succ_of_le h.next,fun b hb=>by
  rw[Yq.aU,U3 (by have:=h.next; omega)]; exact h.same b hb,h.wl⟩
def Ext.set{m m':Yq}(h:Ext m m'){b:Nat}(hb:m.next<=b)(o:Ys):Ext m (m'.set b o) :=
 ⟨h.next,fun x hx=>by rw[Yq.bz,XP]; exact h.same x hx,by
  show min m.wl m.next<=min m'.wl b
  have:=h.wl; omega⟩
inductive SlA(m:Yq)(w:Nat):XI->XF->Prop
 | nil:SlA m w (.slice none 0 0) []
 | at {b o cap:Nat} {cs:YB XI} {tag:Tag} {xs:XF} (hb:b<m.next) (hg:m.get b=some (.cells cs tag)) (hc:xs.length<=cap) (hx:∀i x,xs[i]? = some x->(cs.drop (o+i*w)).take w=x/\x.length=w) :
   SlA m w (.slice (some ⟨b,o,none⟩) xs.length cap) xs
def Cu (P : XL) : Bool := P.funcs.toList.all (fun fn => !(fn.name == "runtime.NumGoroutine")) && P.follows .mixedOrders
def Ax{E:Env}(h:Cu E.P=true)(hp:∀f p,E.cZ f=some p->∀args m v m',p.run args m=some (v,m')->∀(j:aR) (w:XM) (args':YB XI),MR E j m w->LR j args args'->iy E.P (E.cZ f).isSome f args'.toArray w (jR E j m w v m')):EnvOk E:=by
 simp only[Cu,Va] at h;refine⟨fun f fn c hf hb args w=>?_,h.2,hp⟩;have hnm:=Vo.1 h.1 fn (VD (by simpa using hf))
 have hname : (fn.name == "runtime.NumGoroutine") = false := by simpa using hnm
 have h1 : fn.name ≠ "runtime.NumGoroutine" := by simpa using hname
 simp[callFunc,hf,h1,hb]
def qP{E:Env}(hE:EnvOk E){fuel:Nat}{f:YI}{args:YB XI}{m m':Yq}{v:XI}(e:run E fuel (.call f args m)=some (.val v m'))(hp:E.cZ f=none){j:aR}{W:XM}{args':YB XI}(h:MR E j m W)(hl:LR j args args') :
  CallsIn Fence.wide 0 E.P f args'.toArray W fun e W'=>∃v',e=.returned v'/\∃j',Sim E j m W j' m' W'/\VR j' v v':=by
 obtain⟨v1,m1,hr,hs⟩:=qC hE fuel _ _ e;cases hr;rcases hs j W args' h hl with⟨_,h1⟩|⟨h1,_⟩
 exact h1
 rw[hp] at h1; cases h1
def Sim.grown{E:Env}{j j':aR}{m m':Yq}{w w':XM}(s:Sim E j m w j' m' w')(h:MR E j m w)(hwl:m.next<=m'.wl):∀c,c<w.heap.size->w'.heap[c]? = w.heap[c]? :=
 fun c hc=>s.frame c hc fun b k hb _ _=>Vt (h.lt b k hb).1 hwl
def tA{E:Env}{w w':XM}(h1:j6 E w w')(h2:∀c,c<w.heap.size->w'.heap[c]? = w.heap[c]?)(may:MemPlace->Prop):w.keptBut w' may:=by
 refine World.keptBut_mono (fun _ f=>f.elim) (?_:w.keptBut w' fun _=>False);refine⟨h1.1,h1.2.1,fun i hi=>?_⟩;rw[h2 i hi];exact(World.keptBut_refl w (fun _=>False)).2.2 i hi
def Fl(n:Nat)(gs:Nat->YA (YB XI)):Yq:={ next:=n,wl:=n,objs:=.nil,base:=fun b=>(gs b).map fun cs=>.cells cs .ro}
def Gh(n:Nat):aR:=fun b=>if b<n then some ⟨b,none⟩ else none
def Lb{E:Env}{n:Nat}{gs:Nat->YA (YB XI)}{W:XM}(hn:E.glob<=n)(hW:n<=W.heap.size)
  (hg:∀b cs,gs b=some cs->b<n->∃c t fz,W.heap[b]? = some (.cells c t fz)/\LR (Gh n) cs c.toList):MR E (Gh n) (Fl n gs) W:=by
 have hj:∀b k,Gh n b=some k->b<n/\k=⟨b,none⟩:=by
  intro b k h;unfold Gh at h
  split at h
  cases h; exact⟨by assumption,rfl⟩
  cases h
 refine⟨fun b k h=>?_,fun b o k hget h=>?_,fun b b' k k' h h' _ _ he=>?_,fun g hgl=>?_⟩
 obtain⟨h1,rfl⟩:=hj b k h;exact⟨h1,Vt h1 hW⟩
 obtain⟨h1,rfl⟩:=hj b k h;have hget':(gs b).map (fun cs=>Ys.cells cs .ro)=some o:=by simpa [Yq.get,Fl,Heap.get_nil] using hget
 obtain⟨cs,e1,rfl⟩:=map_some hget';obtain⟨c,t,fz,h2,h3⟩:=hg b cs e1 h1;refine⟨_,h2,⟨⟨rfl,by have:=h3.1; simpa using this.symm⟩,fun i v hi=>?_⟩⟩
 obtain⟨v',h4,h5⟩:=h3.get hi;exact⟨v',by simpa using h4,h5⟩
 obtain⟨_,rfl⟩:=hj b k h;obtain⟨_,rfl⟩:=hj b' k' h';exact he
 unfold Gh;rw[XQ]
structure Grown(m m1:Yq):Prop where
 next:m.next<=m1.next
 same:∀b,b<m.next->m1.get b=m.get b
 wl:m.next<=m1.wl
section
variable{E:Env}{j j1:aR}{m m1:Yq}{w w1:XM}
def MR.env{E E':Env}(hg:E'.glob=E.glob)(h:MR E j m w):MR E' j m w:=⟨h.lt,h.obj,h.inj,fun g hl=>h.glob g (hg▸hl)⟩
def Sim.env{E E':Env}{m':Yq}{w':XM}{j':aR}(hg:E'.glob=E.glob)(hm:E'.mono->E.mono)(s:Sim E j m w j' m' w'):Sim E' j m w j' m' w' :=
 ⟨s.ext,s.le,s.new,s.mr.env hg,s.size,s.full,s.away,s.fresh,s.frame,s.calm.1,s.calm.2.1,s.calm.2.2.1,fun e=>s.calm.2.2.2 (hm e)⟩
def Sim.old(h:MR E j m w)(s:Sim E j { m with wl:=m.next} w j1 m1 w1)(g:Grown m m1):∀c,c<w.heap.size->w1.heap[c]? = w.heap[c]? :=
 fun c hc=>s.frame c hc fun b k hb _ _=>Vt (h.lt b k hb).1 g.wl
def MR.after(h:MR E j m w)(s:Sim E j { m with wl:=m.next} w j1 m1 w1)(g:Grown m m1):MR E j m w1 where
 lt:=fun b k hb=>⟨(h.lt b k hb).1,Vt (h.lt b k hb).2 s.size⟩
 obj:=fun b o k ho hb=>by
  obtain⟨o',h1,h2⟩:=h.obj b o k ho hb;exact⟨o',(s.old h g k.c (h.lt b k hb).2).trans h1,h2⟩
 inj:=h.inj
 glob:=h.glob
def Sim.forget(h:MR E j m w)(s:Sim E j { m with wl:=m.next} w j1 m1 w1)(g:Grown m m1):Sim E j m w j m w1 where
 ext:=.refl m
 le:=.refl j
 new:=fun b k h h'=>by simp[h'] at h
 mr:=h.after s g
 size:=s.size
 full:=fun b h h' _=>Vr h (by omega)
 away:=fun _ _ _=>rfl
 fresh:=fun b k h h'=>by simp[h'] at h
 frame:=fun c hc _=>s.old h g c hc
 calm:=s.calm
def VR.Fm{j j':aR}{v v':XI}(hp:Ab.bH v=true)(h:VR j' v v'):VR j v v':=by
 unfold Ab.bH at hp
 split at hp
 ·cases h with
  | agg hs ha =>
   refine .agg hs fun i a b=>?_;have hpi:=Vo.1 hp _ (Vg (l:=Array.toList _) (by simpa using a))
   simp only[Array.getElem_toList] at hpi;have:=gI hpi (ha i a b);rw[this]; exact .aP hpi
 ·cases h with
  | tuple hs ha =>
   refine .tuple hs fun i a b=>?_;have hpi:=Vo.1 hp _ (Vg (l:=Array.toList _) (by simpa using a))
   simp only[Array.getElem_toList] at hpi;have:=gI hpi (ha i a b);rw[this]; exact .aP hpi
 have:=gI hp h;rw[this]; exact .aP hp
def nE{P:XL}{pr pr':Bool}{f:YI}{args:YD XI}{w:XM}{R R':XI->XM->Prop}(hp:pr=true->pr'=true)(h:iy P pr f args w R)(hR:∀v w',R v w'->R' v w'):iy P pr' f args w R':=by
 rcases h with⟨h1,h2⟩|⟨h1,v,w',h2,h3⟩
 exact .inl ⟨h1,h2.mono fun e w' ⟨v,he,hv⟩=>⟨v,he,hR v w' hv⟩⟩
 exact .inr ⟨hp h1,v,w',h2,hR v w' h3⟩
end
def Yq.ww(m:Yq)(x:Nat):Yq:={ m with wl:=x}
section
variable{E:Env}{n:Nat}{fn:YI}{ro:YA Nat}{Q:Yr->Tm->Yq->Prop}{t:Tm}{m:Yq}{P:XL}
@[simp] theorem Yq.get_ww (m:Yq) (x b:Nat):(m.ww x).get b=m.get b:=rfl
@[simp] theorem Yq.next_ww (m:Yq) (x:Nat):(m.ww x).next=m.next:=rfl
@[simp] theorem Yq.wl_ww (m:Yq) (x:Nat):(m.ww x).wl=x:=rfl
def gM(b:Bool)(A B:Prop):Prop:=if b then A else B
def vM{α:Type}(r:YA α)(K:α->Prop):Prop :=
 match r with
 | some v=>K v
 | none=>False
def dW{α:Type}(v:α)(K:α->Prop):vM (some v) K=K v:=rfl
def xy(c a b:YA XI)(K:XI->Prop):Prop :=
 match c with
 | some (.bool true)=>vM a K
 | some (.bool false)=>vM b K
 | _=>False
def DI(a b:YA XI)(K:XI->Prop):xy (some (.bool true)) a b K=vM a K:=rfl
def BY(a b:YA XI)(K:XI->Prop):xy (some (.bool false)) a b K=vM b K:=rfl
@[congr] theorem gM_congr {b b':Bool} {A B:Prop} (h:b=b'):gM b A B=gM b' A B:=by rw[h]
@[congr] theorem vM_congr {α:Type} {r r':YA α} {K:α->Prop} (h:r=r'):vM r K=vM r' K:=by rw[h]
@[congr] theorem pickM_congr {c c' a b:YA XI} {K:XI->Prop} (h:c=c'):xy c a b K=xy c' a b K:=by rw[h]
@[congr] theorem valM_congr {r r':YA (XI×Yq)} {K:XI->Yq->Prop} (h:r=r'):fh r K=fh r' K:=by rw[h]
@[congr] theorem tmM_congr {r:YA Tm} {K:Tm->Prop}:G6 r K=G6 r K:=rfl
@[congr] theorem callM_congr {f f':YA XI} {ars ars':YA (YB XI)} {K:XI->Yq->Prop} (h:f=f') (h':ars=ars'):lh E f ars m K=lh E f' ars' m K:=by rw[h,h']
@[congr] theorem callA_congr {f:YI} {ars ars':YB XI} {K:XI->Yq->Prop} (h:ars=ars'):aK E f ars m K=aK E f ars' m K:=by rw[h]
@[congr] theorem operM_congr {o:Op} {K:XI->Yq->Prop}:bj E t m o K=bj E t m o K:=rfl
@[congr] theorem wantedA_congr {ops:YD Oper} {o:Oper}:cg ops o t=cg ops o t:=rfl
@[congr] theorem opsM_congr {ops:YD Oper} {K:Tm->Yq->Prop} {os:YB Oper}:qi E n ops K os t m=qi E n ops K os t m:=rfl
@[congr] theorem notedM_congr {ops:YD Oper} {K:Tm->Yq->YB Note->Prop} {os:YB Oper} {ns:YB Note}:yK E n ops K os t m ns=yK E n ops K os t m ns:=rfl
@[congr] theorem codeA_congr {c:Code}:ck E n fn ro c Q t m=ck E n fn ro c Q t m:=rfl
def Ip{ops:YD Oper}{d:YA Tmp}{o:Op}{ty:XJ}{p:String}{a:YD Edge}{j:Nat}{b:Bool}:cg ops ⟨d,o,ty,p,a,some (j,b)⟩ t=(match fS ops t j with|some c=>c==b|none=>false):=rfl
section
variable{K:XI->Yq->Prop}
def K4{x:XK}:bj E t m (.move x) K=vM (an E t x) fun v=>K v m:=by show fh ((an E t x).map _) K=_; cases an E t x<;>rfl
def FY{x:XK}:bj E t m (.assign x) K=vM (an E t x) fun v=>K v m:=by show fh ((an E t x).map _) K=_; cases an E t x<;>rfl
def ED{c a b:XK}:bj E t m (.pick c a b) K=xy (an E t c) (an E t a) (an E t b) fun v=>K v m:=by
 show fh (match an E t c with|some (.bool true)=>(an E t a).map fun v=>(v,m)|some (.bool false)=>(an E t b).map fun v=>(v,m)|_=>none) K=_
 unfold xy
 split
 cases an E t a<;>rfl
 cases an E t b<;>rfl
 rfl
def OV{e:XJ}{x:XK}:bj E t m (.box e x) K=vM (an E t x) fun v=>K (ptr m.next 0) (m.alloc (.cells v.cells.toList .own)):=by show fh ((an E t x).map _) K=_; cases an E t x<;>rfl
def M6{e:XJ}{x:XK}:bj E t m (.load e x) K=vM (an E t x) fun p=>vM (eB E.P e p m) fun v=>K v m:=by
 show fh (match an E t x with|some p=>(eB E.P e p m).map fun v=>(v,m)|none=>none) K=_
 cases an E t x with
 | none=>rfl
 | some p=>show fh ((eB E.P e p m).map _) K=vM (eB E.P e p m) _; cases eB E.P e p m<;>rfl
def HH{e:XJ}{x y:XK}:bj E t m (.store e x y) K=vM (an E t x) fun p=>vM (an E t y) fun v=>vM (ik E.P e p v m) fun m'=>K undef m':=by
 show fh (match an E t x,an E t y with|some p,some v=>(ik E.P e p v m).map fun m'=>(undef,m')|_,_=>none) K=_
 cases an E t x with
 | none=>rfl
 | some p=>cases an E t y with
  | none=>rfl
  | some v=>show fh ((ik E.P e p v m).map _) K=vM (ik E.P e p v m) _; cases ik E.P e p v m<;>rfl
def HE{b:BinOp}{e e':XJ}{x y:XK}:bj E t m (.binOp b e x y e') K=vM (an E t x) fun p=>vM (an E t y) fun v=>vM (bW b e E.P p v) fun r=>K r m:=by
 show fh (match an E t x,an E t y with|some p,some v=>(bW b e E.P p v).map fun v=>(v,m)|_,_=>none) K=_
 cases an E t x with
 | none=>rfl
 | some p=>cases an E t y with
  | none=>rfl
  | some v=>show fh ((bW b e E.P p v).map _) K=vM (bW b e E.P p v) _; cases bW b e E.P p v<;>rfl
def LV{b:UnOp}{e:XJ}{x:XK}:bj E t m (.unOp b e x) K=vM (an E t x) fun p=>vM (Gq b p) fun r=>K r m:=by
 show fh (match an E t x with|some p=>(Gq b p).map fun v=>(v,m)|none=>none) K=_
 cases an E t x with
 | none=>rfl
 | some p=>show fh ((Gq b p).map _) K=vM (Gq b p) _; cases Gq b p<;>rfl
def CY{e e':XJ}{x:XK}:bj E t m (.convert e e' x) K=vM (an E t x) fun p=>vM (lj E.P e e' p) fun r=>K r m:=by
 show fh (match an E t x with|some p=>(lj E.P e e' p).map fun v=>(v,m)|none=>none) K=_
 cases an E t x with
 | none=>rfl
 | some p=>show fh ((lj E.P e e' p).map _) K=vM (lj E.P e e' p) _; cases lj E.P e e' p<;>rfl
def zf{e:XJ}{x:XK}{f:Nat}:bj E t m (.fieldAddr e x f) K=vM (an E t x) fun p=>vM (aG E.P e p f) fun r=>K r m:=by
 show fh (match an E t x with|some p=>(aG E.P e p f).map fun v=>(v,m)|none=>none) K=_
 cases an E t x with
 | none=>rfl
 | some p=>show fh ((aG E.P e p f).map _) K=vM (aG E.P e p f) _; cases aG E.P e p f<;>rfl
def JW{e:XJ}{x:XK}{f:Nat}:bj E t m (.field e x f) K=vM (an E t x) fun p=>vM (ji E.P e p f) fun r=>K r m:=by
 show fh (match an E t x with|some p=>(ji E.P e p f).map fun v=>(v,m)|none=>none) K=_
 cases an E t x with
 | none=>rfl
 | some p=>show fh ((ji E.P e p f).map _) K=vM (ji E.P e p f) _; cases ji E.P e p f<;>rfl
def zB{e:XJ}{x y:XK}:bj E t m (.indexAddr e x y) K=vM (an E t x) fun p=>vM (an E t y) fun v=>vM (cq E.P e p v) fun r=>K r m:=by
 show fh (match an E t x,an E t y with|some p,some v=>(cq E.P e p v).map fun v=>(v,m)|_,_=>none) K=_
 cases an E t x with
 | none=>rfl
 | some p=>cases an E t y with
  | none=>rfl
  | some v=>show fh ((cq E.P e p v).map _) K=vM (cq E.P e p v) _; cases cq E.P e p v<;>rfl
def Kp{e:XJ}{x y:XK}:bj E t m (.index e x y) K=vM (an E t x) fun p=>vM (an E t y) fun v=>vM (iB E.P e p v) fun r=>K r m:=by
 show fh (match an E t x,an E t y with|some p,some v=>(iB E.P e p v).map fun v=>(v,m)|_,_=>none) K=_
 cases an E t x with
 | none=>rfl
 | some p=>cases an E t y with
  | none=>rfl
  | some v=>show fh ((iB E.P e p v).map _) K=vM (iB E.P e p v) _; cases iB E.P e p v<;>rfl
def DF{x:XK}{i:Nat}{vs:YD XI}(h:an E t x=some (.tuple vs)):bj E t m (.extract x i) K=vM vs[i]? fun r=>K r m:=by
 show fh (match an E t x with|some (.tuple vs)=>(vs[i]?).map fun v=>(v,m)|_=>none) K=_
 rw[h]
 show fh ((vs[i]?).map _) K=_
 cases vs[i]?<;>rfl
def Kk{e:XJ}{x:XK}{a b c:YA XK}{v:XI}{l h k:YA XI}(h1:an E t x=some v)(h2:dY E t a=some l)(h3:dY E t b=some h)(h4:dY E t c=some k):bj E t m (.slice e x a b c) K=vM (cd E.P e v l h k m) fun r=>K r m:=by
 show fh (match an E t x,dY E t a,dY E t b,dY E t c with|some v,some l,some h,some k=>(cd E.P e v l h k m).map fun v=>(v,m)|_,_,_,_=>none) K=_
 rw[h1,h2,h3,h4]
 show fh ((cd E.P e v l h k m).map _) K=_
 cases cd E.P e v l h k m<;>rfl
def IH{e:XJ}:bj E t m (.alloc e) K=fh (fM E t m (.alloc e)) K:=rfl
def Ch{f:YI}{a b:YD XK}:bj E t m (.makeFunc (.func f) a b) K=vM (bC E t a.toList) fun fs=>vM (bC E t b.toList) fun cs=>K (.func (.func f) fs.toArray cs.toArray) m:=by
 show fh (match bC E t a.toList,bC E t b.toList with|some fs,some cs=>some (.func (.func f) fs.toArray cs.toArray,m)|_,_=>none) K=_
 cases bC E t a.toList with
 | none=>rfl
 | some fs=>cases bC E t b.toList<;>rfl
def CT{e:XJ}:bj E t m (.makeMap e none) K=K (.map (some m.next)) (m.alloc (.map [])):=rfl
def Dp{b:Builtin}{a:YD XK}{ts:YD XJ}:bj E t m (.call ⟨.builtin b,a,ts⟩) K=vM (bC E t a.toList) fun vs=>fh (bg E.P b ts vs m) K:=by
 show fh (match bC E t a.toList with|some vs=>bg E.P b ts vs m|none=>none) K=_
 cases bC E t a.toList<;>rfl
end
def Pw{ty len elem w b o i:Nat}{kd:IntKind}(hu:P.underlying ty=some (.array len elem))(hk:known P elem=true)(hs:aE P elem=w)(hi:i<len):cq P ty (ptr b o) (.int kd (i:Int))=some (ptr b (o+i*w)):=by
 have hd:decide ((0:Int)<=(i:Int)/\(i:Int)<(len:Nat))=true:=by simp; omega
 simp only[cq,ptr,hu,hk,hd,Wy,if_true,hs,VH]
def L7{ty b o:Nat}{cs:YB XI}{tag:Tag}{v:XI}(hk:known P ty=true)(ha:eh P ty=false)(hg:m.get b=some (.cells cs tag))(hv:cs[o]? = some v):eB P ty (ptr b o) m=some v:=by
 simp only[eB,ptr,hk,ha,hg,V4,VG,if_false,hv]
def Lp{ty b o w:Nat}{cs l:YB XI}{tag:Tag}(hk:known P ty=true)(ha:eh P ty=true)(hs:aE P ty=w)(hg:m.get b=some (.cells cs tag))(hl:(cs.drop o).take w=l)(hw:l.length=w):eB P ty (ptr b o) m=some (.agg l.toArray):=by
 simp only[eB,ptr,hk,ha,hs,V4,VG,if_false,if_true,Yq.ek,hg,hl,hw,Vx]
end
def wrap_i64(n:Int)(h1 : -9223372036854775808<=n)(h2:n<=9223372036854775807):IntKind.i64.wrap n=n:=by
 try unfold XN
 unfold IntKind.wrap IntKind.bits IntKind.signed;simp only;rw[show((2:Int) ^ 64)=18446744073709551616 by rfl,show((2:Int) ^ (64-1))=9223372036854775808 by rfl]
 split
 rename_i h; simp at h; omega
 rename_i h; simp at h; omega
structure Pick(α:Type) where
 run:F8 α->α
structure Upd(α:Type) where
 run:F8 α->(α->(α->Bool)->Bool)->(F8 α->Bool)->Bool
structure Get where
 run:Tm->(XI->Bool)->Bool
structure K3 where
 run:Tm->XI->(Tm->Bool)->Bool
structure OpSem where
 run:Tm->Yq->(XI->Yq->Bool)->Bool
section
variable{E:Env}{t:Tm}{m:Yq}
structure Gets where
 run:Tm->(YB XI->Bool)->Bool
structure Parts where
 run:Tm->(YB (Nat×XI)->Bool)->Bool
structure OptGet where
 run:Tm->(YA XI->Bool)->Bool
structure BinSem where
 run:XI->XI->(XI->Bool)->Bool
structure UnSem where
 run:XI->(XI->Bool)->Bool
structure LoadSem where
 run:XI->Yq->(XI->Bool)->Bool
structure StoreSem where
 run:XI->XI->Yq->(Yq->Bool)->Bool
structure AddrSem where
 run:XI->(XI->Bool)->Bool
structure IdxSem where
 run:XI->XI->(XI->Bool)->Bool
structure AppSem where
 run:XI->XI->Yq->(XI->Yq->Bool)->Bool
end
structure Look where
 run:XI->XI->Yq->(XI->Bool)->Bool
structure MapUp where
 run:XI->XI->XI->Yq->(Yq->Bool)->Bool
structure Hand where
 call:YI->YB XI->Yq->(XI->Yq->Bool)->Bool
 round:Nat->YB XI->Yq->(XI->Yq->Bool)->Bool
structure OperSem where
 run:Hand->Tm->Yq->(XI->Yq->Bool)->Bool
def Mw{t:Tm}{d:Nat}{b:Bool}(h:t.at d=.bool b):t.get d=some (.bool b):=by
 unfold Tm.at at h;cases hg:Trie.get t d with
 | none=>rw[hg] at h; cases h
 | some v=>rw[hg] at h; exact Vs some h
structure Guard where
 run:Tm->Bool->Bool->Bool
structure RegSem where
 run:Hand->Tm->Yq->(Tm->Yq->Bool)->Bool
structure NoteSem where
 run:Hand->Tm->Yq->YB Note->(Tm->Yq->YB Note->Bool)->Bool
structure Sem where
 run:Hand->YA Nat->Tm->Yq->(Yr->Tm->Yq->Bool)->Bool
section
variable{E:Env}{n:Nat}{fn:YI}{ro:YA Nat}{Q:Yr->Tm->Yq->Prop}{t:Tm}{m:Yq}
end
structure ResSem where
 run:Tm->Yq->(YB XI->Bool)->Bool
structure FunSem where
 run:Hand->YB XI->Yq->(XI->Yq->Bool)->Bool
structure PSem where
 run:YB XI->Yq->(XI->Yq->Bool)->Bool
def wW(E:Env)(F:YI->YA PSem):Prop:=∀{f:YI} {S:PSem},F f=some S->∃p,E.cZ f=some p/\∀{args:YB XI} {m:Yq} {K:XI->Yq->Bool},S.run args m K=true->∃v m',p.run args m=some (v,m')/\K v m'=true
def aK.cZ{E:Env}{f:YI}{p:Prim}{args:YB XI}{m m':Yq}{v:XI}{R:XI->Yq->Prop}(hp:E.cZ f=some p)(h:p.run args m=some (v,m'))(hR:R v m'):aK E f args m R:=by
 have hpa:xK E f args m=some (v,m'):=by
  unfold xK;rw[hp];exact h
 exact⟨v,m',bG (k:=0) (by simp only[step,hpa]),hR⟩
section
variable{E:Env}{n:Nat}{t:Tm}{m:Yq}{K:Tm->Yq->Prop}{ops:YD Oper}{os:YB Oper}{ty:XJ}{p:String}{af:YD Edge}{d:Nat}
variable{L:Tm->Yq->YB Note->Prop}{ns:YB Note}
variable{a b r v:XI}{x y:XK}{e e':XJ}
def PT(h:an E t x=some v)(K':XI->Yq->Prop):bj E t m (.move x) K'=K' v m:=by rw[K4,h]; rfl
def Jo(h:an E t x=some v)(K':XI->Yq->Prop):bj E t m (.assign x) K'=K' v m:=by rw[FY,h]; rfl
def LP{c:XK}(hc:an E t c=some (.bool true))(h:an E t x=some v)(K':XI->Yq->Prop):bj E t m (.pick c x y) K'=K' v m:=by rw[ED,hc,DI,h]; rfl
def LM{c:XK}(hc:an E t c=some (.bool false))(h:an E t y=some v)(K':XI->Yq->Prop):bj E t m (.pick c x y) K'=K' v m:=by rw[ED,hc,BY,h]; rfl
def RU(h:an E t x=some v)(K':XI->Yq->Prop):bj E t m (.box e x) K'=K' (ptr m.next 0) (m.alloc (.cells v.cells.toList .own)):=by rw[OV,h]; rfl
def QX{op:BinOp}(h:an E t x=some a)(h':an E t y=some b)(hr:bW op e E.P a b=some r)(K':XI->Yq->Prop):bj E t m (.binOp op e x y e') K'=K' r m:=by rw[HE,h,dW,h',dW,hr]; rfl
def FG{op:UnOp}(h:an E t x=some a)(hr:Gq op a=some r)(K':XI->Yq->Prop):bj E t m (.unOp op e x) K'=K' r m:=by rw[LV,h,dW,hr]; rfl
def Pe(h:an E t x=some a)(hr:lj E.P e e' a=some r)(K':XI->Yq->Prop):bj E t m (.convert e e' x) K'=K' r m:=by rw[CY,h,dW,hr]; rfl
def HL(h:an E t x=some a)(hr:eB E.P e a m=some r)(K':XI->Yq->Prop):bj E t m (.load e x) K'=K' r m:=by rw[M6,h,dW,hr]; rfl
def Lj{m':Yq}(h:an E t x=some a)(h':an E t y=some b)(hr:ik E.P e a b m=some m')(K':XI->Yq->Prop):bj E t m (.store e x y) K'=K' undef m':=by rw[HH,h,dW,h',dW,hr]; rfl
def AW{f:Nat}(h:an E t x=some a)(hr:aG E.P e a f=some r)(K':XI->Yq->Prop):bj E t m (.fieldAddr e x f) K'=K' r m:=by rw[zf,h,dW,hr]; rfl
def ML{f:Nat}(h:an E t x=some a)(hr:ji E.P e a f=some r)(K':XI->Yq->Prop):bj E t m (.field e x f) K'=K' r m:=by rw[JW,h,dW,hr]; rfl
def Bj(h:an E t x=some a)(h':an E t y=some b)(hr:cq E.P e a b=some r)(K':XI->Yq->Prop):bj E t m (.indexAddr e x y) K'=K' r m:=by rw[zB,h,dW,h',dW,hr]; rfl
def MI(h:an E t x=some a)(h':an E t y=some b)(hr:iB E.P e a b=some r)(K':XI->Yq->Prop):bj E t m (.index e x y) K'=K' r m:=by rw[Kp,h,dW,h',dW,hr]; rfl
def Fy{i:Nat}{vs:YD XI}(h:an E t x=some (.tuple vs))(hr:vs[i]? = some r)(K':XI->Yq->Prop):bj E t m (.extract x i) K'=K' r m:=by rw[DF h,hr]; rfl
def pa{l h k:YA XK}{l' h' k':YA XI}(h1:an E t x=some a)(h2:dY E t l=some l')(h3:dY E t h=some h')(h4:dY E t k=some k')(hr:cd E.P e a l' h' k' m=some r)(K':XI->Yq->Prop):bj E t m (.slice e x l h k) K'=K' r m:=by rw[Kk h1 h2 h3 h4,hr]; rfl
def L6{z:XI}(hz:bp E.P e=some z)(hp:bH z=true)(K':XI->Yq->Prop):bj E t m (.alloc e) K'=K' (ptr m.next 0) (m.alloc (.cells z.cells.toList .own)):=by
 rw[IH]; simp only[fM,hz,hp,if_true]; rfl
def dn{bi:Builtin}{ars:YD XK}{ts:YD XJ}{vs:YB XI}{m':Yq}(h:bC E t ars.toList=some vs)(hr:bg E.P bi ts vs m=some (r,m'))(K':XI->Yq->Prop):bj E t m (.call ⟨.builtin bi,ars,ts⟩) K'=K' r m':=by rw[Dp,h,dW,hr]; rfl
def NF{op:Op}{m':Yq}(hc:qn op=none)(hr:fM E t m op=some (r,m'))(K':XI->Yq->Prop):bj E t m op K'=K' r m':=by
 unfold bj; rw[hc]; simp only[hr]; rfl
def TY{ops:YD Oper}{t:Tm}{dst:YA Tmp}{o:Op}{ty:XJ}{p:String}{a:YD Edge}{j d:Nat}{b c:Bool}(hd:(ops[j]?).bind (·.dst)=some d)(h:t.at d=.bool c):cg ops ⟨dst,o,ty,p,a,some (j,b)⟩ t=(c==b):=by
 rw[Ip]; unfold fS; rw[hd]; simp only[Mw h]
end
section
variable{E:Env}{n:Nat}{fn:YI}{ro:YA Nat}{Q:Yr->Tm->Yq->Prop}{t:Tm}{m:Yq}{w:Nat}
def jS(E:Env)(n:Nat)(ops:YD Oper)(K:Tm->Yq->Prop):YB Oper->Tm->Yq->Nat->Prop
 | [],t,m,w=>K t (m.ww w)
 | o::os,t,m,w =>
  if cg ops o t then(∀b,aM E t o.op=some b->b<m.next)/\bj E t (m.ww m.next) o.op fun v m'=>G6 (kZ n t o.dst v) fun t'=>jS E n ops K os t' m' (min w m'.wl)
  else G6 (kZ n t o.dst undef) fun t'=>jS E n ops K os t' m w
def xY{r:YA Nat}{x y:Nat}{z:YA Nat}{u:Nat->Bool}(h:∀b,r=some b->b<y):gi { read:=r,wl:=x,next:=y,wrote:=z,kept:=u}=true:=by
 cases r with
 | none=>rfl
 | some b =>
  have:=h b rfl
  show Nat.blt b y=true
  rw[Xn]; exact this
def qy{ops:YD Oper}{K:Tm->Yq->Prop}:∀{os:YB Oper} {t:Tm} {m:Yq} {w:Nat} {ns:YB Note},jS E n ops K os t m w->ns.all gi=true->jn E n ops (fun t m ns=>ns.all gi=true/\K t m) os t (m.ww w) ns
 | [],t,m,w,ns,h,hn=>⟨by simpa using hn,h⟩
 | o::os,t,m,w,ns,h,hn=>by
  simp only[jS] at h;simp only[jn]
  split at h
  ·rename_i hw;rw[U5 hw];obtain⟨h1,h2⟩:=h;refine h2.A.mono fun v m' hv=>?_;obtain⟨t',hp,h3⟩:=hv.A;refine⟨t',hp,?_⟩;have:=qy (ns:={ read:=aM E t o.op,wl:=m'.wl,next:=m.next,wrote:=fj E t o.op,kept:=jX m m'}::ns) h3 (by rw[W0,hn,Bool.and_true]; exact xY h1)
   exact this
  rename_i hw;rw[U3 hw];obtain⟨t',hp,h2⟩:=h.A;exact⟨t',hp,qy h2 (by rw[W0,hn]; rfl)⟩
def ck.QJ{id:Nat}{ops:YD Oper}(hp:lQ ops=some [])(h:∀K:Tm->Yq->Prop,(∀t m,Q .normal t m->K t m)->jS E n ops K ops.toList t m m.wl):ck E n fn ro (.region id ops true) Q t m:=by
 refine .draw hp ?_;have h1:=qy (ns:=[]) (h (fun t m=>Q .normal t m) fun _ _ h=>h) rfl;have mono:∀{os:YB Oper} {t:Tm} {m:Yq} {ns:YB Note},jn E n ops (fun t m ns=>ns.all gi=true/\Q .normal t m) os t m ns->jn E n ops (fun t m ns=>(([]:YB (Nat×Nat)).all (eu ns ops)&&ns.all gi)=true/\Q .normal t m) os t m ns:=by
  intro os t m ns h
  simpa using h
 exact mono h1
variable{K:Tm->Yq->Prop}{ops:YD Oper}{os:YB Oper}{ty:XJ}{p:String}{af:YD Edge}{d:Nat}{g:YA (Nat×Bool)}{v a b r:XI}{x y:XK}{e:XJ}
def KT{xs:YB XK}{vs:YB XI}(h:an E t x=some v)(hs:bC E t xs=some vs):bC E t (x::xs)=some (v::vs):=by simp only[bC,h,hs]
end
end Go.Ab
section
namespace Go.Ab.W
open Go Go.Ab
abbrev Fs:=YB (Nat×XI)
def lk:Fs->Nat->YA XI
 | [],_=>none
 | p::l,i=>match Nat.beq p.1 i with
  | true=>some p.2
  | false=>lk l i
def Fr(t:Tm)(fs:Fs):Prop:=∀i v,lk fs i=some v->t.at i=v
def Fr.nil(t:Tm):Fr t []:=fun i v h=>by cases h
def Fr.set{t:Tm}{fs:Fs}{d:Nat}{v:XI}(h:Fr t fs):Fr (Trie.set t d v) ((d,v)::fs):=by
 intro i x hx;unfold lk at hx;rw[at_set]
 split at hx
 rename_i e;have:d=i:=Wh e;rw[U5 this.symm]; exact U9 hx
 rename_i e;have:d≠i:=Xq e;rw[U3 (Ne.symm this)]; exact h i x hx
def sub(fs:Fs):Fs->Prop
 | []=>True
 | p::l=>lk fs p.1=some p.2/\sub fs l
def Fr.sub{t:Tm}{fs:Fs}:∀{fs':Fs},Fr t fs->sub fs fs'->Fr t fs'
 | [],_,_=>Fr.nil t
 | p::l,h,hs=>by
  intro i v hv;unfold lk at hv
  split at hv
  rename_i e;have:p.1=i:=Wh e;subst this;cases hv;exact h _ _ hs.1
  exact Fr.sub h hs.2 i v hv
def ev(E:Env)(fs:Fs):XK->YA XI
 | .tmp i=>lk fs i
 | .const v=>match bH v with
  | true=>some v
  | false=>none
 | .global g=>match Nat.blt g E.glob with
  | true=>some (ptr g 0)
  | false=>none
 | .func f=>some (.func (.func f) #[] #[])
def ia(E:Env)(fs:Fs):YB XK->YA (YB XI)
 | []=>some []
 | x::xs=>match ev E fs x with
  | some v=>match ia E fs xs with
   | some vs=>some (v::vs)
   | none=>none
  | none=>none
def jJ(E:Env)(fs:Fs):YA XK->YA (YA XI)
 | none=>some none
 | some x=>match ev E fs x with
  | some v=>some (some v)
  | none=>none
def KK(E:Env)(fs:Fs):YB (Nat×XK)->YA (YB (Nat×XI))
 | []=>some []
 | x::xs=>match ev E fs x.2 with
  | some v=>match KK E fs xs with
   | some vs=>some ((x.1,v)::vs)
   | none=>none
  | none=>none
section
variable{E:Env}{t:Tm}{fs:Fs}
def Fr.ev(h:Fr t fs):∀{x:XK} {v:XI},ev E fs x=some v->an E t x=some v
 | .tmp i,v,e=>by show some (t.at i)=some v; rw[h i v e]
 | .const c,v,e=>by
  simp only[Go.Ab.W.ev] at e
  split at e
  rename_i hp; cases e; simp only[an]; rw[U5 hp]
  cases e
 | .global g,v,e=>by
  simp only[Go.Ab.W.ev] at e
  split at e
  rename_i hp; cases e; simp only[an]; rw[U5 (by rwa[Xn] at hp)]
  cases e
 | .func f,v,e=>by simp only[Go.Ab.W.ev] at e; exact e
def Fr.ia(h:Fr t fs):∀{xs:YB XK} {vs:YB XI},ia E fs xs=some vs->bC E t xs=some vs
 | [],vs,e=>by simp only[Go.Ab.W.ia] at e; exact e
 | x::xs,vs,e=>by
  simp only[Go.Ab.W.ia] at e
  split at e
  rename_i v hv
  split at e
  rename_i ws hw;cases e;exact KT (h.ev hv) (Fr.ia h hw)
  cases e
  cases e
def Fr.jJ(h:Fr t fs):∀{x:YA XK} {v:YA XI},jJ E fs x=some v->dY E t x=some v
 | none,v,e=>by simp only[Go.Ab.W.jJ] at e; exact e
 | some x,v,e=>by
  simp only[Go.Ab.W.jJ] at e
  split at e
  rename_i w hw; cases e; simp only[dY]; rw[h.ev hw]; rfl
  cases e
def Fr.KK(h:Fr t fs):∀{xs:YB (Nat×XK)} {vs:YB (Nat×XI)},KK E fs xs=some vs->eT E t xs=some vs
 | [],vs,e=>by simp only[Go.Ab.W.KK] at e; exact e
 | x::xs,vs,e=>by
  simp only[Go.Ab.W.KK] at e
  split at e
  rename_i v hv
  split at e
  rename_i ws hw;cases e;obtain⟨i,y⟩:=x;unfold eT;rw[h.ev hv,Fr.KK h hw]
  cases e
  cases e
end
def rM(m:Yq)(b o w:Nat)(es:XF):Prop :=
 b<m.next/\∃all tg,m.get b=some (.cells all tg)/\(∀sz,tg=.more sz->sz=w)/\∀i e,es[i]? = some e->(all.drop (o+i*w)).take w=e/\e.length=w
def mz:XG->YA Nat
 | some a=>some a.block
 | none=>none
def Rd(m:Yq)(a:XG)(cap w n:Nat)(es:XF):Prop :=
 es.length=n/\n<=cap/\((a=none/\n=0)\/(∃b sp,a=some ⟨b,0,some sp⟩/\n=0/\cap=0/\b<m.next)\/∃b o,a=some ⟨b,o,none⟩/\rM m b o w es)
def Rd.lt{m:Yq}{a:XG}{cap w n:Nat}{es:XF}(h:Rd m a cap w n es){b:Nat}(hb:mz a=some b):b<m.next:=by
 rcases h.2.2 with⟨rfl,_⟩|⟨b',sp,rfl,_,_,h4⟩|⟨b',o,rfl,h4⟩
 cases hb
 cases hb; exact h4
 cases hb; exact h4.1
def Eb(lo:Nat)(m:Yq)(b w n:Nat)(es:XF)(tg:Tag):Prop :=
 lo<=b/\b<m.next/\m.get b=some (.cells es.flatten tg)/\es.length=n/\(∀e∈es,e.length=w)/\(tg=.own\/tg=.more w)/\0<w
structure GPc where
 ow:Nat->Prop
 rd:Nat->Prop
 P:Yq->Prop
 st:∀m m':Yq,P m->m.next<=m'.next->(∀b,ow b\/rd b->b<m.next->m'.get b=m.get b)->P m'
 lt:∀(m:Yq) b,P m->ow b\/rd b->b<m.next
 fr:Bool:=false
inductive Pc
 | obj (b:Nat) (o:Ys)
 | arr (b w n:Nat) (es:XF) (tg:Tag)
 | sl (a:XG) (w n:Nat) (es:XF)
 | rd (a:XG) (cap w n:Nat) (es:XF)
 | ro (b o w n:Nat) (es:XF)
 | gen (g:GPc)
def Pc.tQ:Pc->YA Nat
 | .obj b _=>some b
 | .arr b _ _ _ _=>some b
 | .sl a _ _ _=>mz a
 | .rd a _ _ _ _=>mz a
 | .ro b _ _ _ _=>some b
 | .gen _=>none
def Pc.own:Pc->Bool
 | .obj _ _|.arr _ _ _ _ _|.sl _ _ _ _=>true
 | _=>false
def Pc.Uo:Pc->Nat->Prop
 | .gen g=>g.ow
 | _=>fun _=>False
def Pc.FB:Pc->Nat->Prop
 | .gen g=>fun b=>g.ow b\/g.rd b
 | _=>fun _=>False
def Pc.ow(p:Pc)(b:Nat):Prop:=(p.own=true/\p.tQ=some b)\/p.Uo b
def Pc.any(p:Pc)(b:Nat):Prop:=p.tQ=some b\/p.FB b
def Pc.jo{p:Pc}{b:Nat}(h:p.ow b):p.any b:=by
 rcases h with h|h
 exact .inl h.2
 ·cases p with
  | gen g=>exact .inr (.inl h)
  | _=>exact h.elim
def Pc.Rj{p:Pc}{b:Nat}(ho:p.own=true)(hb:p.tQ=some b):p.ow b:=.inl ⟨ho,hb⟩
def Pc.yI{p:Pc}{b:Nat}(ho:p.own=true)(h:p.any b):p.tQ=some b:=by
 rcases h with h|h
 exact h
 ·cases p with
  | gen g=>cases ho
  | _=>exact h.elim
def Pc.ok(lo:Nat)(m:Yq):Pc->Prop
 | .obj b o=>lo<=b/\b<m.next/\m.get b=some o
 | .arr b w n es tg=>Eb lo m b w n es tg
 | .sl a w n es=>(n=0/\es=[]/\a=none/\0<w)\/∃b tg,a=some ⟨b,0,none⟩/\Eb lo m b w n es tg
 | .rd a cap w n es=>Rd m a cap w n es
 | .ro b o w n es=>es.length=n/\rM m b o w es
 | .gen g=>g.P m/\(g.fr=false->∀b,g.ow b->lo<=b)
def Pc.bound:Pc->Bool
 | .gen g=>!g.fr
 | _=>true
def Pc.apart(p q:Pc):Prop:=(∀b,p.ow b->q.any b->False)/\∀b,q.ow b->p.any b->False
structure Hp(m0 m:Yq)(ps:YB Pc):Prop where
 ext:Ext m0 m
 ok:∀p∈ps,p.ok m0.next m
 apart:ps.Pairwise Pc.apart
def pk:YB Pc->Nat->YA Pc
 | [],_=>none
 | p::_,0=>some p
 | _::l,k+1=>pk l k
def bJ:YB Pc->Nat->Pc->YB Pc
 | [],_,_=>[]
 | _::l,0,p=>p::l
 | q::l,k+1,p=>q::bJ l k p
def jA(p:Pc)(l:YB Pc):pk (p::l) 0=some p:=rfl
def eE(p:Pc)(l:YB Pc)(k:Nat):pk (p::l) (k+1)=pk l k:=rfl
def jO:∀{ps:YB Pc} {k:Nat} {p:Pc},pk ps k=some p->p∈ps:=by
 intro ps
 induction ps with
 | nil=>intro k p h; simp[pk] at h
 | cons q l ih =>
  intro k p h;cases k with
  | zero=>rw[jA] at h; have:=U9 h; simp[this]
  | succ k=>rw[eE] at h; have:=ih h; simp[this]
def iv(q:Pc)(l:YB Pc)(p:Pc):bJ (q::l) 0 p=p::l:=rfl
def dK(q:Pc)(l:YB Pc)(k:Nat)(p:Pc):bJ (q::l) (k+1) p=q::bJ l k p:=rfl
def xw:∀{l:YB Pc} {k:Nat} {p r:Pc},r∈bJ l k p->r∈l\/r=p:=by
 intro l
 induction l with
 | nil=>intro k p r h; simp[bJ] at h
 | cons a l ih =>
  intro k p r h;cases k with
  | zero =>
   rw[iv,Vu] at h;rcases h with h|h
   exact .inr h
   exact .inl (by simp[h])
  | succ k =>
   rw[dK,Vu] at h;rcases h with h|h
   exact .inl (by simp[h])
   rcases ih h with h1|h1
   exact .inl (by simp[h1])
   exact .inr h1
def rM.lS{m m':Yq}{b o w:Nat}{es:XF}(h:rM m b o w es)(hn:m.next<=m'.next)(hg:m'.get b=m.get b):rM m' b o w es:=by
 obtain⟨h1,all,tg,h2,h3⟩:=h;exact⟨by omega,all,tg,by rw[hg]; exact h2,h3⟩
def Eb.lS{lo:Nat}{m m':Yq}{b w n:Nat}{es:XF}{tg:Tag}(h:Eb lo m b w n es tg)(hn:m.next<=m'.next)(hg:m'.get b=m.get b):Eb lo m' b w n es tg:=by
 obtain⟨h1,h2,h3,h4⟩:=h;exact⟨h1,by omega,by rw[hg]; exact h3,h4⟩
def Rd.lS{m m':Yq}{a:XG}{cap w n:Nat}{es:XF}(h:Rd m a cap w n es)(hn:m.next<=m'.next)(hg:∀b,mz a=some b->b<m.next->m'.get b=m.get b):Rd m' a cap w n es:=by
 obtain⟨h1,h2,h4⟩:=h;refine⟨h1,h2,?_⟩;rcases h4 with h4|⟨b,sp,rfl,a1,a2,a3⟩|⟨b,o,rfl,h⟩
 exact .inl h4
 exact .inr (.inl ⟨b,sp,rfl,a1,a2,Vt a3 hn⟩)
 exact .inr (.inr ⟨b,o,rfl,h.lS hn (hg b rfl h.1)⟩)
def Pc.gJ{lo:Nat}{m m':Yq}{p:Pc}(h:p.ok lo m)(hn:m.next<=m'.next)(hg:∀b,p.any b->b<m.next->m'.get b=m.get b):p.ok lo m':=by
 cases p with
 | obj b o=>exact⟨h.1,by have:=h.2.1; omega,by rw[hg b (.inl rfl) h.2.1]; exact h.2.2⟩
 | arr b w n es tg=>exact Eb.lS h hn (hg b (.inl rfl) h.2.1)
 | sl a w n es =>
  rcases h with h|⟨b,tg,rfl,h⟩
  exact .inl h
  exact .inr ⟨b,tg,rfl,h.lS hn (hg b (.inl rfl) h.2.1)⟩
 | rd a cap w n es=>exact Rd.lS h hn fun b hb=>hg b (.inl hb)
 | ro b o w n es=>exact⟨h.1,h.2.lS hn (hg b (.inl rfl) h.2.1)⟩
 | gen g=>exact⟨g.st m m' h.1 hn fun b hb=>hg b (.inr hb),h.2⟩
def Pc.fY{lo:Nat}{m:Yq}{p:Pc}(h:p.ok lo m){b:Nat}(hb:p.any b):b<m.next:=by
 cases p with
 | obj b' o=>rcases hb with hb|hb; cases hb; exact h.2.1; exact hb.elim
 | arr b' w n es tg=>rcases hb with hb|hb; cases hb; exact h.2.1; exact hb.elim
 | sl a w n es =>
  rcases hb with hb|hb
  rcases h with⟨_,_,rfl,_⟩|⟨b',tg,rfl,h⟩
  cases hb
  cases hb; exact h.2.1
  exact hb.elim
 | rd a cap w n es=>rcases hb with hb|hb; exact Rd.lt h hb; exact hb.elim
 | ro b' o w n es=>rcases hb with hb|hb; cases hb; exact h.2.1; exact hb.elim
 | gen g=>rcases hb with hb|hb; cases hb; exact g.lt m b h.1 hb
def Pc.PM{lo:Nat}{m:Yq}{p:Pc}(h:p.ok lo m){b:Nat}(hb:p.tQ=some b):b<m.next:=Pc.fY h (.inl hb)
def Pc.s9{lo:Nat}{m:Yq}{p:Pc}(h:p.ok lo m)(hf:p.bound=true){b:Nat}(hb:p.ow b):lo<=b:=by
 rcases hb with⟨ho,hb⟩|hb
 ·cases p with
  | obj b' o=>cases hb; exact h.1
  | arr b' w n es tg=>cases hb; exact h.1
  | sl a w n es =>
   rcases h with⟨_,_,rfl,_⟩|⟨b',tg,rfl,h⟩
   cases hb
   cases hb; exact h.1
  | rd a cap w n es=>cases ho
  | ro b' o w n es=>cases ho
  | gen g=>cases ho
 ·cases p with
  | gen g=>exact h.2 (by simpa [Pc.bound] using hf) b hb
  | _=>exact hb.elim
def Pc.JS{lo:Nat}{m:Yq}{p:Pc}(h:p.ok lo m)(ho:p.own=true){b:Nat}(hb:p.tQ=some b):lo<=b:=Pc.s9 h (by cases p<;>first|rfl|cases ho) (.inl ⟨ho,hb⟩)
section
variable{m0 m m':Yq}{ps:YB Pc}
def Hp.get(h:Hp m0 m ps){k:Nat}{p:Pc}(hp:pk ps k=some p):p.ok m0.next m:=h.ok p (jO hp)
def Pc.iw{p r:Pc}(h:Pc.apart p r):Pc.apart r p:=⟨h.2,h.1⟩
def jK:∀{ps:YB Pc} {k:Nat} {p p':Pc},pk ps k=some p->(∀r∈ps,Pc.apart p r->Pc.apart p' r)->ps.Pairwise Pc.apart->(bJ ps k p').Pairwise Pc.apart:=by
 intro ps
 induction ps with
 | nil=>intro k p p' hk; simp[pk] at hk
 | cons q l ih =>
  intro k p p' hk hr h;rw[VA] at h;cases k with
  | zero =>
   rw[jA] at hk;have hk:=U9 hk;subst hk;rw[iv];exact VA.2 ⟨fun r hm=>hr r (by simp[hm]) (h.1 r hm),h.2⟩
  | succ k =>
   rw[eE] at hk;rw[dK];refine VA.2 ⟨fun r hm=>?_,ih hk (fun r hm=>hr r (by simp[hm])) h.2⟩
   rcases xw hm with hm|hm
   exact h.1 r hm
   rw[hm]; exact Pc.iw (hr q (by simp) (Pc.iw (h.1 p (jO hk))))
def Av:∀{ps:YB Pc} {k:Nat} {p p' r:Pc},pk ps k=some p->ps.Pairwise Pc.apart->r∈bJ ps k p'->r=p'\/(r∈ps/\Pc.apart r p):=by
 intro ps
 induction ps with
 | nil=>intro k p p' r hk; simp[pk] at hk
 | cons q l ih =>
  intro k p p' r hk h hr;rw[VA] at h;cases k with
  | zero =>
   rw[jA] at hk;have hk:=U9 hk;subst hk;rw[iv,Vu] at hr;rcases hr with hr|hr
   exact .inl hr
   exact .inr ⟨by simp[hr],Pc.iw (h.1 r hr)⟩
  | succ k =>
   rw[eE] at hk;rw[dK,Vu] at hr;rcases hr with hr|hr
   rw[hr]; exact .inr ⟨by simp,h.1 p (jO hk)⟩
   rcases ih hk h.2 hr with h1|⟨h1,h2⟩
   exact .inl h1
   exact .inr ⟨by simp[h1],h2⟩
def Hp.Gm(h:Hp m0 m ps){k:Nat}{p p':Pc}(hp:pk ps k=some p)(k5:∀b,p'.ow b->p.ow b\/m.next<=b)(hany:∀b,p'.any b->p.any b\/m.next<=b)(hn:m.next<=m'.next)(hext:Ext m0 m')
  (hok:p'.ok m0.next m') (hg:∀b,¬p.ow b->b<m.next->m'.get b=m.get b):Hp m0 m' (bJ ps k p') where
 ext:=hext
 apart:=jK hp (fun r hr ha=>⟨fun b a c=>(k5 b a).elim (fun a=>ha.1 b a c) fun a=>by have:=Pc.fY (h.ok r hr) c; omega,fun b a c=>(hany b c).elim (fun c=>ha.2 b a c) fun c=>by have:=Pc.fY (h.ok r hr) (Pc.jo a); omega⟩) h.apart
 ok:=fun r hr=>by
  rcases Av hp h.apart hr with rfl|⟨h1,h2⟩
  exact hok
  exact Pc.gJ (h.ok r h1) hn fun b hb' hlt=>hg b (fun e=>h2.2 b e hb') hlt
def Hp.put(h:Hp m0 m ps){k:Nat}{p p':Pc}(hp:pk ps k=some p)(ho:p.own=true)(hb:p'.tQ=p.tQ)(ho':p'.own=true)(hn:m.next<=m'.next)(hext:Ext m0 m')
  (hok:p'.ok m0.next m') (hg:∀b,p.tQ≠some b->b<m.next->m'.get b=m.get b):Hp m0 m' (bJ ps k p') :=
 h.Gm hp (fun b a=>.inl (.inl ⟨ho,by rw[<-hb]; exact Pc.yI ho' (Pc.jo a)⟩)) (fun b a=>.inl (.inl (by rw[<-hb]; exact Pc.yI ho' a))) hn hext hok fun b hb' hlt=>hg b (fun e=>hb' (.inl ⟨ho,e⟩)) hlt
def Hp.NC(h:Hp m0 m ps){p:Pc}(hn:m.next<=m'.next)(hext:Ext m0 m')(hsame:∀b,b<m.next->m'.get b=m.get b)(hp:p.ok m0.next m')(hb:∀b,p.any b->m.next<=b):Hp m0 m' (p::ps) where
 ext:=hext
 ok:=fun q hq=>by
  rcases Vu.1 hq with rfl|hq
  exact hp
  exact Pc.gJ (h.ok q hq) hn fun b hb' hlt=>hsame b hlt
 apart:=VA.2 ⟨fun q hq=>⟨fun b h1 h2=>by
  have:=Pc.fY (h.ok q hq) h2;have:=hb b (Pc.jo h1);omega,fun b h1 h2=>by
  have:=Pc.fY (h.ok q hq) (Pc.jo h1);have:=hb b h2;omega⟩,h.apart⟩
def Hp.cons(h:Hp m0 m ps){p:Pc}(hn:m.next<=m'.next)(hext:Ext m0 m')(hsame:∀b,b<m.next->m'.get b=m.get b)(hp:p.ok m0.next m')(hb:∀b,p.tQ=some b->m.next<=b)(hng:∀b,¬p.FB b:=by exact fun _ h=>h):Hp m0 m' (p::ps) :=
 h.NC hn hext hsame hp fun b hb'=>hb'.elim (hb b) fun h=>Vr h (hng b)
def aq(ps:YB Pc):YB Nat->YA (YB Pc)
 | []=>some []
 | k::ks=>match pk ps k with
  | some p=>match aq ps ks with
   | some qs=>some (p::qs)
   | none=>none
  | none=>none
def mD:YB Nat->Bool
 | []=>true
 | k::ks=>!(ks.any (Nat.beq k))&&mD ks
def rQ:∀{ks:YB Nat} {qs:YB Pc},aq ps ks=some qs->∀q∈qs,∃k∈ks,pk ps k=some q:=by
 intro ks
 induction ks with
 | nil=>intro qs h q hq; simp only[aq,Option.some.injEq] at h; subst h; cases hq
 | cons k ks ih =>
  intro qs h q hq;simp only[aq] at h
  split at h
  rename_i p hp
  split at h
  rename_i qs' hqs;simp only[Option.some.injEq] at h;subst h;rcases Vu.1 hq with rfl|hq
  exact⟨k,by simp,hp⟩
  obtain⟨k',h1,h2⟩:=ih hqs q hq;exact⟨k',by simp[h1],h2⟩
  cases h
  cases h
def fN:∀{ps:YB Pc} {i j:Nat} {p q:Pc},ps.Pairwise Pc.apart->pk ps i=some p->pk ps j=some q->i≠j->Pc.apart p q:=by
 intro ps
 induction ps with
 | nil=>intro i j p q _ h; simp[pk] at h
 | cons r l ih =>
  intro i j p q h hi hj hne;rw[VA] at h;cases i with
  | zero =>
   cases j with
   | zero=>exact Vr rfl hne
   | succ j =>
    rw[jA] at hi;rw[eE] at hj;rw[<-U9 hi];exact h.1 q (jO hj)
  | succ i =>
   cases j with
   | zero =>
    rw[jA] at hj;rw[eE] at hi;rw[<-U9 hj];exact Pc.iw (h.1 p (jO hi))
   | succ j=>rw[eE] at hi hj; exact ih h.2 hi hj (fun e=>hne (by rw[e]))
def kY:∀{ps:YB Pc} {r:Pc},r∈ps->∃k,pk ps k=some r:=by
 intro ps
 induction ps with
 | nil=>intro r h; cases h
 | cons p l ih =>
  intro r h;rcases Vu.1 h with rfl|h
  exact⟨0,rfl⟩
  obtain⟨k,hk⟩:=ih h; exact⟨k+1,hk⟩
def Hp.Bi(h:Hp m0 m ps){k:Nat}{p q:Pc}(hp:pk ps k=some p)(hpo:∀b,¬p.ow b)(hq:q.ok m0.next m)(hqo:∀b,¬q.ow b)(hb:∀b,q.any b->p.any b):Hp m0 m (q::ps) where
 ext:=h.ext
 ok:=fun r hr=>by
  rcases Vu.1 hr with rfl|hr
  exact hq
  exact h.ok r hr
 apart:=VA.2 ⟨fun r hr=>⟨fun b h1 _=>hqo b h1,fun b h1 h2=>by
  obtain⟨k',hk'⟩:=kY hr;have hne:k≠k':=fun e=>by
   rw[<-e,hp] at hk';exact hpo b (by rw[U9 hk']; exact h1)
  exact(fN h.apart hp hk' hne).2 b h1 (hb b h2)⟩,h.apart⟩
def Hp.more(h:Hp m0 m ps){k:Nat}{p q:Pc}(hp:pk ps k=some p)(hpo:p.own=false)(hq:q.ok m0.next m)(hqo:q.own=false)(hb:∀b,q.tQ=some b->p.tQ=some b)(hpg:∀b,¬p.Uo b:=by exact fun _ h=>h)(hqg:∀b,¬q.FB b:=by exact fun _ h=>h):Hp m0 m (q::ps) :=
 h.Bi hp (fun b h=>h.elim (fun h=>by rw[hpo] at h; cases h.1) (hpg b)) hq (fun b h=>h.elim (fun h=>by rw[hqo] at h; cases h.1) fun h=>hqg b (by cases q with|gen g=>exact .inl h|_=>exact h)) fun b h=>h.elim (fun h=>.inl (hb b h)) fun h=>Vr h (hqg b)
def Az(h:ps.Pairwise Pc.apart):∀{ks:YB Nat} {qs:YB Pc},mD ks=true->aq ps ks=some qs->qs.Pairwise Pc.apart:=by
 intro ks
 induction ks with
 | nil=>intro qs _ e; simp only[aq,Option.some.injEq] at e; subst e; exact .nil
 | cons k ks ih =>
  intro qs hnd e;simp only[mD,Va,Wa,List.any_eq_false] at hnd;simp only[aq] at e
  split at e
  rename_i p hp
  split at e
  rename_i qs' hqs;simp only[Option.some.injEq] at e;subst e;refine VA.2 ⟨fun q hq=>?_,ih hnd.2 hqs⟩;obtain⟨k',h1,h2⟩:=rQ hqs q hq;exact fN h hp h2 fun e=>hnd.1 k' h1 (by rw[e]; exact Nat.beq_refl _)
  cases e
  cases e
def Hp.aq(h:Hp m0 m ps)(ks:YB Nat){qs:YB Pc}(hnd:mD ks=true)(e:W.aq ps ks=some qs):Hp m0 m qs where
 ext:=h.ext
 ok:=fun q hq=>by
  obtain⟨k,_,hk⟩:=rQ e q hq;exact h.ok q (jO hk)
 apart:=Az h.apart hnd e
def Pc.EX{lo lo':Nat}{m:Yq}{p:Pc}(h:p.ok lo m)(hle:lo'<=lo):p.ok lo' m:=by
 have up:∀{b w n es tg},Eb lo m b w n es tg->Eb lo' m b w n es tg:=fun ho=>⟨VK hle ho.1,ho.2⟩;cases p with
 | obj b o=>exact⟨VK hle h.1,h.2⟩
 | arr b w n es tg=>exact up h
 | sl a w n es =>
  rcases h with h1|⟨b,tg,e,h1⟩
  exact .inl h1
  exact .inr ⟨b,tg,e,up h1⟩
 | rd a cap w n es=>exact h
 | ro b o w n es=>exact h
 | gen g=>exact⟨h.1,fun hf b hb=>VK hle (h.2 hf b hb)⟩
def Hp.DC(h:Hp m0 m ps){new:YB Pc}(h':Hp m m' new)(hbd:∀p∈new,p.bound=true)(hro:∀p∈new,∀b,p.any b->m.next<=b\/(¬p.ow b/\∃q∈ps,(∀b,¬q.ow b)/\q.any b)):Hp m0 m' (new++ps) where
 ext:=h.ext.trans h'.ext
 ok:=fun q hq=>by
  rcases Vq.1 hq with hq|hq
  exact Pc.EX (h'.ok q hq) h.ext.next
  exact Pc.gJ (h.ok q hq) h'.ext.next fun b _ hlt=>h'.ext.same b hlt
 apart:=Wd.2 ⟨h'.apart,h.apart,fun p hp q hq=>⟨fun b h1 h2=>by
  have:=Pc.s9 (h'.ok p hp) (hbd p hp) h1;have:=Pc.fY (h.ok q hq) h2;omega,fun b h1 h2=>by
  rcases hro p hp b h2 with h3|⟨_,r,hr,hr1,hr2⟩
  have:=Pc.fY (h.ok q hq) (Pc.jo h1);omega
  obtain⟨i,hi⟩:=kY hq;obtain⟨j,hj⟩:=kY hr;have hne:i≠j:=fun e=>by
   rw[e,hj] at hi;exact hr1 b (by rw[U9 hi]; exact h1)
  exact(fN h.apart hi hj hne).1 b h1 hr2⟩⟩
def Hp.after(h:Hp m0 m ps){new:YB Pc}(h':Hp m m' new)(hro:∀p∈new,p.own=true):Hp m0 m' (new++ps) :=
 h.DC h' (fun p hp=>by have:=hro p hp; cases p<;>first|rfl|cases this) fun p hp b hb=>.inl (Pc.JS (h'.ok p hp) (hro p hp) (Pc.yI (hro p hp) hb))
def nA(ps:YB Pc)(b:Nat):Prop:=∃p∈ps,p.ow b
def Hp.dX(h:Hp m0 m ps):∀b,nA ps b->b<m.next:=fun _ ⟨p,hp,hb⟩=>Pc.fY (h.ok p hp) (Pc.jo hb)
def wG(H:XH):GPc:={ ow:=H,rd:=fun _=>False,P:=fun m=>∀b,H b->b<m.next,fr:=true,st:=fun _ _ h hn _ b hb=>Vt (h b hb) hn,lt:=fun _ b h hb=>hb.elim (h b) fun h=>h.elim}
def Hp.uF(m:Yq){H:XH}(hH:∀b,H b->b<m.next):Hp m m [.gen (wG H)]:=⟨.refl m,fun p h=>by rw[Vb.1 h]; exact⟨hH,fun h=>by cases h⟩,List.pairwise_singleton ..⟩
def Hp.It(h:Hp m0 m ps){new:YB Pc}(h':Hp m m' (new++[.gen (wG (nA ps))]))(hbd:∀p∈new,p.bound=true):Hp m0 m' (new++ps) where
 ext:=h.ext.trans h'.ext
 ok:=fun q hq=>by
  rcases Vq.1 hq with hq|hq
  exact Pc.EX (h'.ok q (Vl _ hq)) h.ext.next
  exact Pc.gJ (h.ok q hq) h'.ext.next fun b _ hlt=>h'.ext.same b hlt
 apart:=Wd.2 ⟨(Wd.1 h'.apart).1,h.apart,fun p hp q hq=>⟨fun b h1 h2=>by
  have:=Pc.s9 (h'.ok p (Vl _ hp)) (hbd p hp) h1;have:=Pc.fY (h.ok q hq) h2;omega,fun b h1 h2=>((Wd.1 h'.apart).2.2 p hp _ (Vb.2 rfl)).2 b (.inr ⟨q,hq,h1⟩) h2⟩⟩
def Hp.R0(h:Hp m0 m ps){k cap w n:Nat}{a:XG}{es:XF}(hp:pk ps k=some (.rd a cap w n es)):∀b,mz a=some b->¬nA ps b:=fun b hb ⟨q,hq,h1⟩=>by
 obtain⟨i,hi⟩:=kY hq;have hne:i≠k:=fun e=>by
  rw[e,hp] at hi;cases hi;exact h1.elim (fun h=>by cases h.1) fun h=>h.elim
 exact(fN h.apart hi hp hne).1 b h1 (.inl hb)
end
structure TyI(P:XL)(ty:XJ)(ag:Bool)(sz:Nat):Prop where
 known:known P ty=true
 agg:eh P ty=ag
 size:aE P ty=sz
structure SlT(P:XL)(ty elem:XJ)(w:Nat):Prop where
 und:P.underlying ty=some (.slice elem)
 known:known P elem=true
 size:aE P elem=w
 pos:0<w
 zero:(bp P elem).any (fun z=>z.cells.size==w&&z.cells.toList.all aP)=true
 bytes:∃i,P.info? elem=some i/\i.bytes≠0/\i.bytes<=1024
structure ArT(P:XL)(ty elem:XJ)(len w:Nat):Prop where
 und:P.underlying ty=some (.array len elem)
 known:known P elem=true
 size:aE P elem=w
def RG(P:XL)(ty elem:XJ)(w:Nat):Bool :=
 (match P.underlying ty with|some (.slice e)=>Nat.beq e elem|_=>false)&&known P elem&&Nat.beq (aE P elem) w&&Nat.blt 0 w &&(bp P elem).any (fun z=>z.cells.size==w&&z.cells.toList.all aP) &&(match P.info? elem with|some i=>!(Nat.beq i.bytes 0)&&Nat.ble i.bytes 1024|none=>false)
def SlT.of{P:XL}{ty elem:XJ}{w:Nat}(h:RG P ty elem w=true):SlT P ty elem w:=by
 simp only[RG,Va] at h;obtain⟨⟨⟨⟨⟨h1,h2⟩,h3⟩,h4⟩,h5⟩,h6⟩:=h;refine⟨?_,h2,Wh h3,by rwa[Xn] at h4,h5,?_⟩
 split at h1
 rename_i e he; rw[he,Wh h1]
 cases h1
 split at h6
 rename_i i hi;simp only[Va,Wa] at h6;exact⟨i,hi,Xq h6.1,V7 h6.2⟩
 cases h6
section
variable{E:Env}{n:Nat}{m0:Yq}{fs:Fs}{ps:YB Pc}
def Od(E:Env)(m0:Yq)(fs:Fs)(ps:YB Pc)(o:Op)(v:XI)(ps':YB Pc):Prop :=
 ∀t m,Fr t fs->Hp m0 m ps->(∀b,aM E t o=some b->b<m.next)/\∀K:XI->Yq->Prop,(∀m',Hp m0 m' ps'->K v m')->bj E t m o K
def Ox(E:Env)(m0:Yq)(fs:Fs)(ps:YB Pc)(o:Op){α:Type}(V:α->XI)(N:α->YB Pc):Prop :=
 ∀t m,Fr t fs->Hp m0 m ps->(∀b,aM E t o=some b->b<m.next)/\∀K:XI->Yq->Prop,(∀x m',Hp m0 m' (N x)->K (V x) m')->bj E t m o K
def Od.pure{o:Op}{v:XI}(hr:∀t,aM E t o=none)(h:∀t m,Fr t fs->∀K,bj E t m o K=K v m):Od E m0 fs ps o v ps :=
 fun t m hf hp=>⟨fun b hb=>(by rw[hr] at hb; cases hb),fun K hK=>by rw[h t m hf]; exact hK m hp⟩
variable{x y z:XK}{a b r v:XI}{ty ty':XJ}
def aX(h:ev E fs x=some v):Od E m0 fs ps (.move x) v ps:=.pure (fun _=>rfl) fun _ _ hf=>Go.Ab.PT (hf.ev h)
def bE(h:ev E fs x=some v):Od E m0 fs ps (.assign x) v ps:=.pure (fun _=>rfl) fun _ _ hf=>Go.Ab.Jo (hf.ev h)
def Iw{c:XK}(hc:ev E fs c=some (.bool true))(h:ev E fs x=some v):Od E m0 fs ps (.pick c x y) v ps:=.pure (fun _=>rfl) fun _ _ hf=>Go.Ab.LP (hf.ev hc) (hf.ev h)
def SA{c:XK}(hc:ev E fs c=some (.bool false))(h:ev E fs y=some v):Od E m0 fs ps (.pick c x y) v ps:=.pure (fun _=>rfl) fun _ _ hf=>Go.Ab.LM (hf.ev hc) (hf.ev h)
def aL{op:BinOp}(h:ev E fs x=some a)(h':ev E fs y=some b)(hr:bW op ty E.P a b=some r):Od E m0 fs ps (.binOp op ty x y ty') r ps:=.pure (fun _=>rfl) fun _ _ hf=>Go.Ab.QX (hf.ev h) (hf.ev h') hr
def FG{op:UnOp}(h:ev E fs x=some a)(hr:Gq op a=some r):Od E m0 fs ps (.unOp op ty x) r ps:=.pure (fun _=>rfl) fun _ _ hf=>Go.Ab.FG (hf.ev h) hr
def lT(h:ev E fs x=some a)(hr:lj E.P ty ty' a=some r):Od E m0 fs ps (.convert ty ty' x) r ps:=.pure (fun _=>rfl) fun _ _ hf=>Go.Ab.Pe (hf.ev h) hr
def aI{f:Nat}(h:ev E fs x=some a)(hr:aG E.P ty a f=some r):Od E m0 fs ps (.fieldAddr ty x f) r ps:=.pure (fun _=>rfl) fun _ _ hf=>Go.Ab.AW (hf.ev h) hr
def Tt{f:Nat}(h:ev E fs x=some a)(hr:ji E.P ty a f=some r):Od E m0 fs ps (.field ty x f) r ps:=.pure (fun _=>rfl) fun _ _ hf=>Go.Ab.ML (hf.ev h) hr
def OX(h:ev E fs x=some a)(h':ev E fs y=some b)(hr:cq E.P ty a b=some r):Od E m0 fs ps (.indexAddr ty x y) r ps:=.pure (fun _=>rfl) fun _ _ hf=>Go.Ab.Bj (hf.ev h) (hf.ev h') hr
def LU{i:Nat}{vs:YD XI}(h:ev E fs x=some (.tuple vs))(hr:vs[i]? = some r):Od E m0 fs ps (.extract x i) r ps:=.pure (fun _=>rfl) fun _ _ hf=>Go.Ab.Fy (hf.ev h) hr
def kX{f:YI}{xs ys:YD XK}{vs ws:YB XI}(h:ia E fs xs.toList=some vs)(h':ia E fs ys.toList=some ws):Od E m0 fs ps (.makeFunc (.func f) xs ys) (.func (.func f) vs.toArray ws.toArray) ps :=
 .pure (fun _=>rfl) fun _ _ hf K=>by rw[Go.Ab.Ch,hf.ia h,Go.Ab.dW,hf.ia h',Go.Ab.dW]
def nI{bi:Builtin}{ars:YD XK}{ts:YD XJ}{vs:YB XI}(h:ia E fs ars.toList=some vs)(hn:(match bi with|.len|.cap=>false|_=>true)=true)(hr:∀m,bg E.P bi ts vs m=some (r,m)):Od E m0 fs ps (.call ⟨.builtin bi,ars,ts⟩) r ps :=
 .pure (fun _=>by cases bi<;>first|rfl|cases hn) fun _ _ hf K=>Go.Ab.dn (hf.ia h) (hr _) K
def cR{parts:YD (Nat×XK)}{vs:YB (Nat×XI)}{z:XI}(h:KK E fs parts.toList=some vs)(hz:bp E.P ty=some z)(hpz:bH z=true)(hr:nw E.P ty vs=some r):Od E m0 fs ps (.build ty parts) r ps :=
 .pure (fun _=>rfl) fun t m hf K=>by
  have:fM E t m (.build ty parts)=some (r,m):=by simp only[fM,hf.KK h,hz,hpz,if_true,hr,Vx]
  exact Go.Ab.NF rfl this K
def Ag(ag:Bool)(sz:Nat)(cs:YB XI)(o:Nat):YA XI :=
 match ag with
 | true=>match Nat.beq ((cs.drop o).take sz).length sz with
  | true=>some (.agg ((cs.drop o).take sz).toArray)
  | false=>none
 | false=>cs[o]?
def tI{P:XL}{m:Yq}{ag:Bool}{sz b o:Nat}{cs:YB XI}{tg:Tag}(ht:TyI P ty ag sz)(hg:m.get b=some (.cells cs tg))(h:Ag ag sz cs o=some v):eB P ty (ptr b o) m=some v:=by
 cases ag with
 | false=>exact L7 ht.known ht.agg hg h
 | true =>
  simp only[Ag] at h
  split at h
  rename_i e;cases h;exact Lp ht.known ht.agg ht.size hg rfl (Wh e)
  cases h
def yO(ag:Bool)(sz c w:Nat):Bool:=(match ag with|true=>true|false=>Nat.beq sz 1)&&Nat.ble (c+sz) w
def yh{ag:Bool}{sz c w:Nat}(h:yO ag sz c w=true):(ag=false->sz=1)/\c+sz<=w:=by
 simp only[yO,Va] at h;exact⟨fun e=>by subst e; exact Wh h.1,V7 h.2⟩
def Od.load{b o:Nat}(hx:ev E fs x=some (ptr b o))(h:∀m,Hp m0 m ps->b<m.next/\eB E.P ty (ptr b o) m=some v):Od E m0 fs ps (.load ty x) v ps :=
 fun t m hf hp=>⟨fun b' hb=>by
  simp only[aM,hf.ev hx] at hb;cases hb; exact(h m hp).1,fun K hK=>by
  rw[Go.Ab.HL (hf.ev hx) (h m hp).2]; exact hK m hp⟩
def aJ{ag:Bool}{sz b o k:Nat}{cs:YB XI}{tg:Tag}(ht:TyI E.P ty ag sz)(hx:ev E fs x=some (ptr b o))(hp:pk ps k=some (.obj b (.cells cs tg)))(hv:Ag ag sz cs o=some v):Od E m0 fs ps (.load ty x) v ps :=
 .load hx fun m h=>⟨(h.get hp).2.1,tI ht (h.get hp).2.2 hv⟩
def Mj{ag:Bool}{sz o w c:Nat}{all e:YB XI}(he:(all.drop o).take w=e)(hsz:ag=false->sz=1)(hc:c+sz<=w)(h:Ag ag sz e c=some v):Ag ag sz all (o+c)=some v:=by
 subst he;have key:((List.take w (List.drop o all)).drop c).take sz=(all.drop (o+c)).take sz:=by
  rw[List.drop_take,List.take_take,Xj,Nat.min_eq_left (by omega)]
 cases ag with
 | true=>simp only[Ag,key] at h ⊢; exact h
 | false =>
  simp only[Ag,Wj,Wl] at h ⊢
  split at h
  exact h
  cases h
def rN{P:XL}{m:Yq}{ag:Bool}{sz b o w j c:Nat}{es:XF}{e:YB XI}(ht:TyI P ty ag sz)(hl:rM m b o w es)(he:es[j]? = some e)(hv:Ag ag sz e c=some v)(hsz:ag=false->sz=1)(hc:c+sz<=w):eB P ty (ptr b (o+j*w+c)) m=some v:=by
 obtain⟨_,all,tg,hg,_,h⟩:=hl;exact tI ht hg (Mj (h j e he).1 hsz hc hv)
def qM{w:Nat}:∀{es:XF} {j:Nat} {e:YB XI},(∀e∈es,e.length=w)->es[j]? = some e->(es.flatten.drop (j*w)).take w=e:=by
 intro es
 induction es with
 | nil=>intro j e _ h; simp at h
 | cons x es ih =>
  intro j e hw h;have hx:=hw x (by simp)
  cases j with
  | zero =>
   simp only[VB,Option.some.injEq] at h;subst h;rw[V0,Xg,W3,List.take_left' hx]
  | succ j =>
   rw[VV] at h;rw[V0,V2,Nat.add_comm,<-Xj,List.drop_left' hx];exact ih (fun e he=>hw e (by simp[he])) h
def Eb.Rb{lo:Nat}{m:Yq}{b w n:Nat}{es:XF}{tg:Tag}(h:Eb lo m b w n es tg):rM m b 0 w es :=
 ⟨h.2.1,_,tg,h.2.2.1,fun sz e=>(by rcases h.2.2.2.2.2.1 with h1|h1<;>rw[h1] at e<;>cases e; rfl),fun i e he=>⟨by rw[VC]; exact qM h.2.2.2.2.1 he,h.2.2.2.2.1 e (VD he)⟩⟩
def gH{ag:Bool}{sz b w n j c k:Nat}{es:XF}{tg:Tag}{e:YB XI}(ht:TyI E.P ty ag sz)(hx:ev E fs x=some (ptr b (j*w+c)))(hp:pk ps k=some (.arr b w n es tg))(he:es[j]? = some e)(hv:Ag ag sz e c=some v)(hs:yO ag sz c w=true):Od E m0 fs ps (.load ty x) v ps:=by
 have hs:=yh hs;refine .load hx fun m h=>⟨(h.get hp).2.1,?_⟩;have:=rN (P:=E.P) ht (Eb.Rb (h.get hp)) he hv hs.1 hs.2;rwa[VC] at this
def sY{ag:Bool}{sz b o w n j c k:Nat}{es:XF}{e:YB XI}(ht:TyI E.P ty ag sz)(hx:ev E fs x=some (ptr b (o+j*w+c)))(hp:pk ps k=some (.ro b o w n es))(he:es[j]? = some e)(hv:Ag ag sz e c=some v)(hs:yO ag sz c w=true):Od E m0 fs ps (.load ty x) v ps:=by
 have hs:=yh hs;exact .load hx fun m h=>⟨(h.get hp).2.1,rN (P:=E.P) ht (h.get hp).2 he hv hs.1 hs.2⟩
def qX{elem:XJ}{b o w n cap:Nat}{i:Int}{kd:IntKind}(ht:SlT E.P ty elem w)(hx:ev E fs x=some (.slice (some ⟨b,o,none⟩) n cap))(hy:ev E fs y=some (.int kd i))(hi:0<=i/\i.toNat<n):Od E m0 fs ps (.indexAddr ty x y) (ptr b (o+i.toNat*w+0)) ps:=by
 refine OX hx hy ?_;have hd:decide ((0:Int)<=i/\i<(n:Nat))=true:=by simp; omega
 simp only[cq,ht.und,ht.known,hd,Wy,if_true,ht.size,Wf]
def uW{elem:XJ}{b w n cap:Nat}{i:Int}{kd:IntKind}(ht:SlT E.P ty elem w)(hx:ev E fs x=some (.slice (some ⟨b,0,none⟩) n cap))(hy:ev E fs y=some (.int kd i))(hi:0<=i/\i.toNat<n):Od E m0 fs ps (.indexAddr ty x y) (ptr b (i.toNat*w+0)) ps:=by
 have:=qX (m0:=m0) (ps:=ps) ht hx hy hi;rwa[VC] at this
def Hp.write{m:Yq}(h:Hp m0 m ps){k b:Nat}{p p':Pc}{o':Ys}(hp:pk ps k=some p)(ho:p.own=true)(hb:p.tQ=some b)(hb':p'.tQ=some b)(ho':p'.own=true)(hok:p'.ok m0.next (m.set b o')):Hp m0 (m.set b o') (bJ ps k p') :=
 h.put hp ho (hb'.trans hb.symm) ho' (U8 _) (h.ext.set (Pc.JS (h.get hp) ho hb) _) hok fun x hx _=>by
  rw[Yq.bz,U3 (fun e=>hx (by rw[e]; exact hb))]
def LY(cs:YB XI)(o:Nat)(v:XI)(sz:Nat):YA (YB XI) :=
 match Nat.beq v.cells.toList.length sz&&Nat.blt 0 sz&&aZ v.cells.toList&&Nat.ble (o+sz) cs.length with
 | true=>some (aB cs o v.cells.toList)
 | false=>none
def jG:∀(cs:YB XI) (o:Nat) (vs:YB XI),o+vs.length<=cs.length->(aB cs o vs).length=cs.length
 | cs,0,[],_=>by cases cs<;>rfl
 | [],0,v::vs,h=>by simp at h
 | c::cs,0,v::vs,h=>by simp only[aB,VF]; rw[jG cs 0 vs (by simpa using h)]
 | [],o+1,vs,h=>by simp at h
 | c::cs,o+1,vs,h=>by simp only[aB,VF]; rw[jG cs o vs (by simp at h; omega)]
def A6{P:XL}{m:Yq}{ag:Bool}{sz b o:Nat}{cs cs':YB XI}{tg:Tag}(ht:TyI P ty ag sz)(hg:m.get b=some (.cells cs tg))(htg:tg≠.ro)(h:LY cs o v sz=some cs'):ik P ty (ptr b o) v m=some (m.set b (.cells cs' tg)):=by
 simp only[LY] at h
 split at h
 ·rename_i e;cases h;simp only[Va] at e;obtain⟨⟨⟨h1,h2⟩,h3⟩,h4⟩:=e;have h1:=Wh h1;have h2:0<sz:=by rwa[Xn] at h2
  have h4:=V7 h4;have hs:(v.cells.size==aE P ty)=true:=by rw[ht.size,<-h1]; simp
  simp only[ik,ptr,ht.known,hs,h3,Wy,if_true,Yq.cU];cases hc:v.cells.toList with
  | nil=>rw[hc] at h1; simp at h1; omega
  | cons x xs =>
   rw[hc] at h1;simp only[hg];cases tg with
   | ro=>exact Vr rfl htg
   | own=>rw[U5 (by rw[h1]; exact h4)]
   | more s=>rw[U5 (by rw[h1]; exact h4)]
 cases h
def Od.store{bk o:Nat}{p':YB Pc}(hx:ev E fs x=some (ptr bk o))(hy:ev E fs y=some v)(h:∀m,Hp m0 m ps->∃m',ik E.P ty (ptr bk o) v m=some m'/\Hp m0 m' p'):Od E m0 fs ps (.store ty x y) undef p' :=
 fun t m hf hp=>⟨fun b hb=>by simp[aM] at hb,fun K hK=>by
  obtain⟨m',h1,h2⟩:=h m hp;rw[Go.Ab.Lj (hf.ev hx) (hf.ev hy) h1]; exact hK m' h2⟩
def tv:Tag->Bool
 | .ro=>false
 | _=>true
def fe{ag:Bool}{sz b o k:Nat}{cs cs':YB XI}{tg:Tag}(ht:TyI E.P ty ag sz)(hx:ev E fs x=some (ptr b o))(hy:ev E fs y=some v)(hp:pk ps k=some (.obj b (.cells cs tg)))(htg:tv tg=true)(hv:LY cs o v sz=some cs'):Od E m0 fs ps (.store ty x y) undef (bJ ps k (.obj b (.cells cs' tg))) :=
 .store hx hy fun m h=>⟨_,A6 ht (h.get hp).2.2 (fun e=>by rw[e] at htg; cases htg) hv,h.write hp rfl rfl rfl rfl ⟨(h.get hp).1,(h.get hp).2.1,by rw[Yq.bz,U5 rfl]⟩⟩
def DN:∀(l r vs:YB XI) (c:Nat),c+vs.length<=l.length->aB (l++r) c vs=aB l c vs++r:=by
 intro l r
 induction l with
 | nil =>
  intro vs c h;have h0:c+vs.length<=0:=h;have h1:c=0:=by omega
  have h2:vs=[]:=VJ.1 (by omega)
  subst h1 h2;cases r<;>rfl
 | cons a l ihl =>
  intro vs c h;cases c with
  | zero=>cases vs with
   | nil=>rfl
   | cons v vs=>simp only[WY,aB]; rw[ihl vs 0 (by simpa using h)]
  | succ c=>simp only[WY,aB]; rw[ihl vs c (by simp at h; omega)]
def sR:∀(l r vs:YB XI) (o:Nat),aB (l++r) (l.length+o) vs=l++aB r o vs:=by
 intro l r vs
 induction l with
 | nil=>intro o; simp
 | cons a l ihl=>intro o; rw[WY,VF,show l.length+1+o=(l.length+o)+1 by omega,aB,ihl o]; rfl
def Cp{w c:Nat}{vs:YB XI}:∀{es:XF} {j:Nat} {e:YB XI},(∀e∈es,e.length=w)->es[j]? = some e->c+vs.length<=w->aB es.flatten (j*w+c) vs=(es.set j (aB e c vs)).flatten:=by
 intro es
 induction es with
 | nil=>intro j e _ h; simp at h
 | cons x es ih =>
  intro j e hw h hc;have hx:=hw x (by simp)
  cases j with
  | zero =>
   simp only[VB,Option.some.injEq] at h;subst h;rw[V0,Xg,VC,DN _ _ _ _ (by omega)]
   simp[V0]
  | succ j =>
   rw[VV] at h;rw[V0,V2,show j*w+w+c=x.length+(j*w+c) by omega,sR,ih (fun e he=>hw e (by simp[he])) h hc]
   simp[V0]
def pV{ag:Bool}{sz b w n j c k:Nat}{es:XF}{e e':YB XI}{tg:Tag}(ht:TyI E.P ty ag sz)(hx:ev E fs x=some (ptr b (j*w+c)))(hy:ev E fs y=some v)(hp:pk ps k=some (.arr b w n es tg))(he:es[j]? = some e)(hv:LY e c v sz=some e'):Od E m0 fs ps (.store ty x y) undef (bJ ps k (.arr b w n (es.set j e') tg)):=by
 refine .store hx hy fun m h=>?_;obtain⟨g1,g2,g3,g4,g5,g6,g7⟩:=h.get hp;have hew:=g5 e (VD he);simp only[LY] at hv
 split at hv
 ·rename_i e1;cases hv;simp only[Va] at e1;obtain⟨⟨⟨h1,h2⟩,h3⟩,h4⟩:=e1;have h1:=Wh h1;have h2':0<sz:=by rwa[Xn] at h2
  have h4:=V7 h4;have hj:j<es.length:=(Vn.1 he).1;have hfl:∀(l:XF),(∀e∈l,e.length=w)->l.flatten.length=l.length*w:=by
   intro l
   induction l with
   | nil=>intro _; simp
   | cons x l ih=>intro hl; rw[V0,Vd,ih (fun e he=>hl e (by simp[he])),hl x (by simp),VF,V2]; omega
  have hmul:(j+1)*w<=es.length*w:=V1 w hj;rw[V2] at hmul;have hst:LY es.flatten (j*w+c) v sz=some (aB es.flatten (j*w+c) v.cells.toList):=by
   have:(Nat.beq v.cells.toList.length sz&&Nat.blt 0 sz&&aZ v.cells.toList&&Nat.ble (j*w+c+sz) es.flatten.length)=true:=by
    simp only[Va];exact⟨⟨⟨by rw[h1]; exact Nat.beq_refl _,h2⟩,h3⟩,Nat.ble_eq_true_of_le (by rw[hfl es g5]; omega)⟩
   simp only[LY,this]
  refine⟨_,A6 ht g3 (by rcases g6 with rfl|rfl<;>simp) hst,h.write hp rfl rfl rfl rfl ?_⟩
  refine⟨g1,g2,?_,by simpa using g4,fun e'' he''=>?_,g6,g7⟩
  rw[Yq.bz,U5 rfl,Cp g5 he (by omega)]
  rcases List.mem_or_eq_of_mem_set he'' with h5|h5
  exact g5 _ h5
  rw[h5,jG _ _ _ (by omega)]; exact hew
 cases hv
def Ox.made{o:Op}{ob:Nat->Ys}{p:Nat->Pc}{V:Nat->XI}(hr:∀t,aM E t o=none)(h:∀t m,Fr t fs->∀K,bj E t m o K=K (V m.next) (m.alloc (ob m.next)))
  (hb:∀b,(p b).tQ=some b) (hp:∀lo m b,lo<=b->b<m.next->m.get b=some (ob b)->(p b).ok lo m) (hpg:∀b x,¬(p b).FB x:=by exact fun _ _ h=>h):Ox E m0 fs ps o V (fun b=>p b::ps) :=
 fun t m hf hm=>⟨fun b hb=>(by rw[hr] at hb; cases hb),fun K hK=>by
  rw[h t m hf];refine hK m.next _ (hm.cons (Nat.le_succ _) (hm.ext.alloc _) (fun b hlt=>by rw[Yq.aU,XP]) (hp _ _ _ hm.ext.next (Xb _) (by rw[Yq.aU,U5 rfl])) (fun b' h'=>?_) (hpg _))
  rw[hb] at h'; cases h'; exact U8 _⟩
def Bg{z:XI}(hz:bp E.P ty=some z)(hp:bH z=true):Ox E m0 fs ps (.alloc ty) (fun b=>ptr b 0) (fun b=>.obj b (.cells z.cells.toList .own)::ps) :=
 .made (ob:=fun _=>.cells z.cells.toList .own) (p:=fun b=>.obj b (.cells z.cells.toList .own)) (fun _=>rfl) (fun _ _ _ K=>Go.Ab.L6 hz hp K) (fun _=>rfl) fun _ _ _ h1 h2 h3=>⟨h1,h2,h3⟩
def Qg(h:ev E fs x=some v):Ox E m0 fs ps (.box ty x) (fun b=>ptr b 0) (fun b=>.obj b (.cells v.cells.toList .own)::ps) :=
 .made (ob:=fun _=>.cells v.cells.toList .own) (p:=fun b=>.obj b (.cells v.cells.toList .own)) (fun _=>rfl) (fun _ _ hf K=>Go.Ab.RU (hf.ev h) K) (fun _=>rfl) fun _ _ _ h1 h2 h3=>⟨h1,h2,h3⟩
def Hc:Ox E m0 fs ps (.makeMap ty none) (fun b=>.map (some b)) (fun b=>.obj b (.map [])::ps) :=
 .made (ob:=fun _=>.map []) (p:=fun b=>.obj b (.map [])) (fun _=>rfl) (fun _ _ _ _=>Go.Ab.CT) (fun _=>rfl) fun _ _ _ h1 h2 h3=>⟨h1,h2,h3⟩
def SP(P:XL)(elem:XJ)(w len:Nat)(vs:YB (Nat×XI)):YA (YB XI) :=
 match gq P elem len with
 | some zs=>match zs.all aP&&Nat.ble (len*w) 16777216 with
  | true=>jZ (fun i=>some (i*w,w)) zs vs
  | false=>none
 | none=>none
def Ro(w:Nat)(es:XF):Bool:=es.all fun e=>Nat.beq e.length w
def Mc{w:Nat}{es:XF}(h:Ro w es=true):∀e∈es,e.length=w:=fun e he=>Wh (Vo.1 h e he)
def cB{elem:XJ}{w len:Nat}{parts:YD (Nat×XK)}{vs:YB (Nat×XI)}{es:XF}(ht:SlT E.P ty elem w)(h:KK E fs parts.toList=some vs)(hf:SP E.P elem w len vs=some es.flatten)(hl:Nat.beq es.length len=true)(hw:Ro w es=true) :
  Ox E m0 fs ps (.buildSlice ty len parts) (fun b=>.slice (some ⟨b,0,none⟩) len len) (fun b=>.arr b w len es .own::ps):=by
 refine .made (ob:=fun _=>.cells es.flatten .own) (p:=fun b=>.arr b w len es .own) (fun _=>rfl) (fun t m hfr K=>?_) (fun _=>rfl) fun _ _ _ h1 h2 h3=>⟨h1,h2,h3,Wh hl,Mc hw,.inl rfl,ht.pos⟩;simp only[SP] at hf
 split at hf
 rename_i zs hz
 split at hf
 rename_i hc;simp only[Va] at hc;have:fM E t m (.buildSlice ty len parts)=some (.slice (some ⟨m.next,0,none⟩) len len,m.alloc (.cells es.flatten .own)):=by
  have h2:¬(len*w>2 ^ 24):=by have:=V7 hc.2; omega
  simp only[fM,ht.und,hfr.KK h,ht.known,ht.size,hz,hc.1,hf,V4,Bool.false_or,Vj h2,if_true,Vx]
  rfl
 exact Go.Ab.NF rfl this K
 cases hf
 cases hf
def lim(n:Nat):Bool:=Nat.ble n 1073741824
def sJ{z:YB XI}:∀n,bl z n=(List.replicate n z).flatten
 | 0=>rfl
 | n+1=>by rw[bl,sJ n,List.replicate_succ,V0]
end
attribute [local irreducible] Tm.at Trie.set Trie.get Yq.get Yq.set Yq.alloc Yq.ww Yq.kill
section
variable{E:Env}{n:Nat}{m0 m m':Yq}{fs:Fs}{ps:YB Pc}{x y:XK}{v:XI}{ty:XJ}
def Eb.rd{lo b w n:Nat}{es:XF}{tg:Tag}(h:Eb lo m b w n es tg):Rd m (some ⟨b,0,none⟩) n w n es :=
 ⟨h.2.2.2.1,U8 _,.inr (.inr ⟨b,0,rfl,h.Rb⟩)⟩
inductive IsRd:Pc->XG->Nat->Nat->Nat->XF->Prop
 | arr (b w n:Nat) (es:XF) (tg:Tag):IsRd (.arr b w n es tg) (some ⟨b,0,none⟩) n w n es
 | sl (a:XG) (w n:Nat) (es:XF):IsRd (.sl a w n es) a n w n es
 | rd (a:XG) (cap w n:Nat) (es:XF):IsRd (.rd a cap w n es) a cap w n es
 | nil {p:Pc} (w:Nat):IsRd p none 0 w 0 []
def Pc.FK{p:Pc}{a:XG}{lo cap w n:Nat}{es:XF}(h:p.ok lo m)(hi:IsRd p a cap w n es):Rd m a cap w n es:=by
 cases hi with
 | arr b w n es tg=>exact Eb.rd h
 | sl a w n es =>
  rcases h with⟨rfl,rfl,rfl,_⟩|⟨b,tg,rfl,h⟩
  exact⟨rfl,U8 _,.inl ⟨rfl,rfl⟩⟩
  exact h.rd
 | rd a cap w n es=>exact h
 | nil w=>exact⟨rfl,U8 _,.inl ⟨rfl,rfl⟩⟩
def Hp.rd(h:Hp m0 m ps){k:Nat}{p:Pc}{a:XG}{cap w n:Nat}{es:XF}(hp:pk ps k=some p)(hi:IsRd p a cap w n es):Rd m a cap w n es:=Pc.FK (h.get hp) hi
def Rd.nil(m:Yq)(w:Nat):Rd m none 0 w 0 []:=⟨rfl,U8 _,.inl ⟨rfl,rfl⟩⟩
def Rd.cells{a:XG}{cap w n:Nat}{es:XF}(h:Rd m a cap w n es):cW w (.slice a n cap) n m=some es.flatten:=by
 obtain⟨h1,h2,h4⟩:=h
 by_cases hn:n=0
 ·subst hn;have:es=[]:=VJ.1 h1;subst this;cases a with
  | none=>rfl
  | some a=>obtain⟨b,o,sp⟩:=a; cases sp<;>rfl
 ·rcases h4 with h4|⟨b,sp,rfl,h4,_⟩|⟨b,o,rfl,_,all,tg,hg,_,hl⟩
  exact Vr h4.2 hn
  exact Vr h4 hn
  ·simp only[cW,U3 hn,Yq.ek,hg];have key:∀(es:XF) (k:Nat),(∀i e,es[i]? = some e->(all.drop (o+(k+i)*w)).take w=e/\e.length=w)->(all.drop (o+k*w)).take (es.length*w)=es.flatten/\es.flatten.length=es.length*w:=by
    intro es
    induction es with
    | nil=>intro k _; simp
    | cons e es ih =>
     intro k hk;obtain⟨a1,a2⟩:=hk 0 e rfl;obtain⟨b1,b2⟩:=ih (k+1) fun i e' he'=>by
      have:=hk (i+1) e' (by simpa using he')
      rwa[show k+(i+1)=k+1+i by omega] at this
     rw[Wf] at a1;refine⟨?_,by rw[V0,Vd,a2,b2,VF,V2]; omega⟩
     rw[VF,V2,Nat.add_comm,List.take_add,a1,Xj,V0,<-b1,V2,Nat.add_assoc]
   have:=key es 0 (fun i e he=>by rw[VC]; exact hl i e he)
   rw[Xg,Wf,h1] at this;rw[this.1,U5 this.2]
def Hp.renew(h:Hp m0 m ps){k:Nat}{p p':Pc}(hp:pk ps k=some p)(hn:m.next<=m'.next)(hext:Ext m0 m')(hok:p'.ok m0.next m')(hb:∀b,p'.tQ=some b->m.next<=b)(hpo:p.own=true)(hg:∀b,p.tQ≠some b->b<m.next->m'.get b=m.get b)(hng:∀b,¬p'.FB b:=by exact fun _ h=>h):Hp m0 m' (bJ ps k p') :=
 h.Gm hp (fun b a=>.inr ((Pc.jo a).elim (hb b) fun h=>Vr h (hng b))) (fun b a=>.inr (a.elim (hb b) fun h=>Vr h (hng b))) hn hext hok fun b hb' hlt=>hg b (fun e=>hb' (.inl ⟨hpo,e⟩)) hlt
def db(es:XF):Prop:=∀e∈es,e.all mh=true
def Dj{α:Type}{f:α->YB XI}(h:∀x,(f x).all mh=true)(xs:YB α):db (xs.map f):=fun e he=>by
 obtain⟨x,_,rfl⟩:=Vi.1 he; exact h x
def gF{es:XF}(h:db es):aZ es.flatten=true:=by
 unfold aZ;rw[Vo];intro v hv;obtain⟨l,h1,h2⟩:=List.mem_flatten.1 hv;exact Vo.1 (h l h1) v h2
def cF{w:Nat}:∀{l:XF},(∀e∈l,e.length=w)->l.flatten.length=l.length*w:=by
 intro l
 induction l with
 | nil=>intro _; simp
 | cons x l ih=>intro hl; rw[V0,Vd,ih (fun e he=>hl e (by simp[he])),hl x (by simp),VF,V2]; omega
def rB {P:XL} {elem ty2:XJ} {w k n0 c0:Nat} {a a0:XG} {es es2:XF} (ht:SlT P ty elem w) (h2:∃e2,P.underlying ty2=some (.slice e2)) (h:Hp m0 m ps) (hp:pk ps k=some (.sl a w n es)) (hr:Rd m a0 c0 w n0 es2) (h1:∀e ∈ es2,e.length=w) (ho:db es2) (hl:lim (n+n0)=true) :
  ∃a' m',bS P ty (some ty2) (.slice a n n) (.slice a0 n0 c0) m=some (.slice a' (n+n0) (n+n0),m')/\Hp m0 m' (bJ ps k (.sl a' w (n+n0) (es++es2))):=by
 obtain⟨e2,h3⟩:=h2;obtain⟨inf,h4,h5,h6⟩:=ht.bytes;have hln:n+n0<=1073741824:=V7 hl;have hc:=hr.cells;have hlen2:es2.flatten.length=n0*w:=by rw[cF h1,hr.1]
 have hnew:dZ P elem (some ty2) (.slice a0 n0 c0) m=some (n0,es2.flatten):=by
  simp only[dZ,VE,h3,ht.size];have:cW w (.slice a0 n0 c0) n0 m=some es2.flatten:=hc;rw[this]; rfl
 have hfit:(P.info? elem).any (fun i=>cS i.bytes (n+n0)&&i.bytes != 0)=true:=by
  rw[h4];have hmul:(2*(n+n0)+2000)*inf.bytes<=(2*1073741824+2000)*1024:=Wr (by omega) h6
  simp only[Xx,cS,Va,Vm,bne_iff_ne,ne_eq];exact⟨by omega,h5⟩
 have hzero:(bp P elem).any (fun z=>z.cells.size==w&&z.cells.toList.all aP)=true:=ht.zero;have hpos:=ht.pos;have h7:(w==0)=false:=by simp; omega
 have hguard:(!(known P elem)||aE P elem==0 || !aZ es2.flatten || !(P.info? elem).any (fun i=>cS i.bytes (n+n0)&&i.bytes != 0)||es2.flatten.length != n0*aE P elem || !(bp P elem).any (fun z=>z.cells.size==aE P elem&&z.cells.toList.all aP))=false:=by
  rw[ht.size,ht.known,hfit,hzero,gF ho,h7,hlen2]; simp
 have hres:∀a',(∃m',(.slice a' (n+n0) (n+n0),m')=((.slice a' (n+n0) (n+n0),m'):XI×Yq)):=fun a'=>⟨m,rfl⟩;have hpc:=h.get hp;have hext:=h.ext;rcases hpc with⟨rfl,rfl,rfl,_⟩|⟨b,tg,rfl,hb⟩
 ·
  by_cases h0:n0=0
  ·subst h0;have hes:es2=[]:=VJ.1 hr.1;subst hes;refine⟨none,m,?_,?_⟩
   unfold bS;simp only[ht.und,hnew];rw[U3 (by rw[hguard]; exact VS)]
   rfl
   ·have:bJ ps k (.sl none w (0+0) ([]++[]))=ps:=by
     have:∀(l:YB Pc) (k:Nat) (p:Pc),pk l k=some p->bJ l k p=l:=by
      intro l
      induction l with
      | nil=>intro k p h; simp[pk] at h
      | cons q l ih =>
       intro k p h;cases k with
       | zero=>rw[jA] at h; rw[iv,U9 h]
       | succ k=>rw[eE] at h; rw[dK,ih k p h]
     exact this ps k _ hp
    rw[this]; exact h
  refine⟨some ⟨m.next,0,none⟩,m.alloc (.cells es2.flatten (.more w)),?_,?_⟩
  unfold bS;simp only[ht.und,hnew];rw[U3 (by rw[hguard]; exact VS)]
  simp only[ht.size];rw[U3 (by simp),U3 h0,VC]
  refine h.renew hp (by simp only[Yq.next_alloc]; omega) (hext.alloc _) (.inr ⟨m.next,.more w,rfl,hext.next,(by rw[Yq.next_alloc]; omega),?_,?_,?_,.inr rfl,hpos⟩) (fun b' hb'=>?_) rfl fun b' _ hlt=>?_
  rw[Yq.aU,U5 rfl,Wc]
  rw[Wc,hr.1,VC]
  rw[Wc]; exact h1
  cases hb'; exact U8 _
  rw[Yq.aU,XP]
 ·obtain⟨g5,g2,g0,g1,g3,g4,g6⟩:=hb;have hlen:es.flatten.length=n*w:=by rw[cF g3,g1]
  by_cases h0:n0=0
  ·subst h0;have hes:es2=[]:=VJ.1 hr.1;subst hes;refine⟨some ⟨b,0,none⟩,m,?_,?_⟩
   unfold bS;simp only[ht.und,hnew];rw[U3 (by rw[hguard]; exact VS)]
   simp only[g0];rw[U5 (Xr (Wf n))];simp[Yq.cU]
   ·rw[VX,Wf];have:bJ ps k (.sl (some ⟨b,0,none⟩) w n es)=ps:=by
     have:∀(l:YB Pc) (k:Nat) (p:Pc),pk l k=some p->bJ l k p=l:=by
      intro l
      induction l with
      | nil=>intro k p h; simp[pk] at h
      | cons q l ih =>
       intro k p h;cases k with
       | zero=>rw[jA] at h; rw[iv,U9 h]
       | succ k=>rw[eE] at h; rw[dK,ih k p h]
     exact this ps k _ hp
    rw[this]; exact h
  have hcap:¬(n+n0<=n):=by omega
  have htake:es.flatten.take (n*w)=es.flatten:=WG (by omega)
  have hok:∀(mm:Yq),m.next<=mm.next->Pc.ok m0.next (mm.alloc (.cells (es.flatten++es2.flatten) (.more w))) (.sl (some ⟨mm.next,0,none⟩) w (n+n0) (es++es2)):=fun mm hmm =>
   .inr ⟨mm.next,.more w,rfl,VK hext.next hmm,(by rw[Yq.next_alloc]; omega),by rw[Yq.aU,U5 rfl,Wz],by rw[Vd,g1,hr.1],fun e he=>by
    rcases Vq.1 he with he|he
    exact g3 e he
    exact h1 e he,.inr rfl,hpos⟩
  rcases g4 with rfl|rfl
  refine⟨some ⟨m.next,0,none⟩,m.alloc (.cells (es.flatten++es2.flatten) (.more w)),?_,?_⟩
  unfold bS;simp only[ht.und,hnew];rw[U3 (by rw[hguard]; exact VS)]
  simp only[ht.size,g0];rw[U3 hcap];have hld:m.ek b 0 (n*w)=some es.flatten:=by
   simp only[Yq.ek,g0,W3,htake];rw[U5 hlen]
  simp only[hld]
  refine h.renew hp (by simp only[Yq.next_alloc]; omega) (hext.alloc _) (hok m (U8 _)) (fun b' hb'=>?_) rfl fun b' _ hlt=>?_
  cases hb'; exact U8 _
  rw[Yq.aU,XP]
  refine⟨some ⟨(m.kill b).next,0,none⟩,(m.kill b).alloc (.cells (es.flatten++es2.flatten) (.more w)),?_,?_⟩
  unfold bS;simp only[ht.und,hnew];rw[U3 (by rw[hguard]; exact VS)]
  simp only[ht.size,g0];rw[U3 hcap];simp only[and_self,if_true,htake,hlen,Yq.next_kill]
  have hk:Ext m0 (m.kill b):=⟨by rw[Yq.next_kill]; exact hext.next,fun x hx=>by rw[Yq.dv,XP]; exact hext.same x hx,by
   rw[Yq.wl_kill];have:=hext.wl; omega⟩
  refine h.renew hp (by simp only[Yq.next_alloc,Yq.next_kill]; omega) (hk.alloc _) (hok (m.kill b) (by rw[Yq.next_kill]; exact U8 _)) (fun b' hb'=>?_) rfl fun b' hb' hlt=>?_
  cases hb'; rw[Yq.next_kill]; exact U8 _
  rw[Yq.aU,U3 (by simp; omega),Yq.dv,U3 (fun e=>hb' (by rw[e]; rfl))]
def MA{elem ty2:XJ}{w k k2 n0 c0:Nat}{a a0:XG}{es es2:XF}{ars:YD XK}{p0:Pc}(ht:SlT E.P ty elem w)(h0:∃e2,E.P.underlying ty2=some (.slice e2))(ha:ia E fs ars.toList=some [.slice a n n,.slice a0 n0 c0])(hp:pk ps k=some (.sl a w n es))(h1:pk ps k2=some p0)(hr:IsRd p0 a0 c0 w n0 es2)(h2:∀e∈es2,e.length=w)(ho:db es2)(hl:lim (n+n0)=true) :
  Ox E m0 fs ps (.call ⟨.builtin .append,ars,#[ty,ty2]⟩) (fun a':XG=>.slice a' (n+n0) (n+n0)) (fun a'=>bJ ps k (.sl a' w (n+n0) (es++es2))) :=
 fun t m hf h=>⟨fun b hb=>(by simp[aM] at hb),fun K hK=>by
  obtain⟨a',m',h3,h4⟩:=rB (n:=n) ht h0 h hp (h.rd h1 hr) h2 ho hl;have:bg E.P .append #[ty,ty2] [.slice a n n,.slice a0 n0 c0] m=some (.slice a' (n+n0) (n+n0),m'):=h3;rw[Go.Ab.dn (hf.ia ha) this];exact hK a' m' h4⟩
def qv{k cap:Nat}{a:XG}{ars:YD XK}{p:Pc}{elem:XJ}(hu:E.P.underlying ty=some (.slice elem))(ha:ia E fs ars.toList=some [.slice a n cap])(hp:pk ps k=some p)(hb:mz a=p.tQ\/a=none) :
  Od E m0 fs ps (.call ⟨.builtin .len,ars,#[ty]⟩) (.int .i64 (n:Int)) ps :=
 fun t m hf h=>⟨fun b hb'=>by
  simp only[aM,hf.ia ha] at hb';have hab:dT (.slice a n cap)=mz a:=by cases a<;>rfl
  rw[hab] at hb';exact hb.elim (fun hb=>Pc.PM (h.get hp) (hb▸hb')) (fun hb=>by rw[hb] at hb'; exact nomatch hb'),fun K hK=>by
  have:bg E.P .len #[ty] [.slice a n cap] m=some (.int .i64 (n:Int),m):=by
   have ht:(#[ty]:YD XJ)[0]? = some ty:=rfl;simp only[bg,ht,VE,hu]
  rw[Go.Ab.dn (hf.ia ha) this]; exact hK m h⟩
def oV{n cap lo hi:Nat}(h1:lo<=hi)(h2:hi<=cap){l h:YA XI}(hl:l=none/\lo=0\/∃k,l=some (.int k (lo:Int)))(hh:h=none/\hi=n\/∃k,h=some (.int k (hi:Int))):bT n cap l h none=some (lo,hi,cap):=by
 have hb:∀(k:IntKind) (x y:Nat),x<=y->kg (.int k (x:Int)) y=some x:=fun k x y hxy=>by
  simp only[kg]; rw[U5 ⟨by omega,by omega⟩,VH]
 rcases hl with⟨rfl,rfl⟩|⟨k1,rfl⟩<;>rcases hh with⟨rfl,rfl⟩|⟨k2,rfl⟩<;>(unfold bT; simp only[hb _ _ _ h1,hb _ _ _ h2])
def rM.drop{b o w:Nat}{es:XF}(h:rM m b o w es)(lo k:Nat):rM m b (o+lo*w) w ((es.drop lo).take k):=by
 obtain⟨h1,all,tg,h2,hs,h3⟩:=h;refine⟨h1,all,tg,h2,hs,fun i e he=>?_⟩;rw[Wj] at he
 split at he
 rw[Wl] at he;have:=h3 (lo+i) e he;rwa[WW,<-Nat.add_assoc] at this
 cases he
def Hg{P:XL}{elem:XJ}{cap w lo hi:Nat}{a:XG}{es:XF}{l h:YA XI}(ht:SlT P ty elem w)(hr:Rd m a cap w n es)(h1:lo<=hi)(h2:hi<=n)(hl:l=none/\lo=0\/∃k,l=some (.int k (lo:Int)))(hh:h=none/\hi=n\/∃k,h=some (.int k (hi:Int))) :
  ∃a' cap',cd P ty (.slice a n cap) l h none m=some (.slice a' (hi-lo) cap')/\Rd m a' cap' w (hi-lo) ((es.drop lo).take (hi-lo))/\(mz a'=mz a):=by
 obtain⟨r1,r2,r4⟩:=hr;have hlen:((es.drop lo).take (hi-lo)).length=hi-lo:=by rw[Vw,VZ,r1]; omega
 have hb:=oV (n:=n) (cap:=cap) h1 (VK h2 r2) hl hh;rcases r4 with⟨rfl,rfl⟩|⟨b,sp,rfl,rfl,rfl,hlt⟩|⟨b,o,rfl,hli⟩
 refine⟨none,cap-lo,?_,⟨hlen,by omega,.inl ⟨rfl,by omega⟩⟩,rfl⟩
 simp only[cd,ht.und,ht.known,if_true,hb]
 have e1:lo=0:=by omega
 have e2:hi=0:=by omega
 subst e1 e2;refine⟨some ⟨b,0,some sp⟩,0,?_,⟨hlen,U8 _,.inr (.inl ⟨b,sp,rfl,rfl,rfl,hlt⟩)⟩,rfl⟩;simp only[cd,ht.und,ht.known,if_true,hb,WK]
 ·have hli':=hli.drop lo (hi-lo);obtain⟨hlt,all,tg,hg,hs,hall⟩:=hli;have plain:(∀sz,tg≠.more sz)->∃a' cap',cd P ty (.slice (some ⟨b,o,none⟩) n cap) l h none m=some (.slice a' (hi-lo) cap')/\Rd m a' cap' w (hi-lo) ((es.drop lo).take (hi-lo))/\(mz a'=mz (some ⟨b,o,none⟩)):=by
   intro hne;have:cd P ty (.slice (some ⟨b,o,none⟩) n cap) l h none m=some (.slice (some (if cap=lo then⟨b,o,none⟩ else⟨b,o+lo*w,none⟩)) (hi-lo) (cap-lo)):=by
    cases tg with
    | more sz=>exact Vr rfl (hne sz)
    | ro=>simp only[cd,ht.und,ht.known,if_true,hg,hb,ht.size]
    | own=>simp only[cd,ht.und,ht.known,if_true,hg,hb,ht.size]
   by_cases hc:cap=lo
   rw[U5 hc] at this;have e0:hi-lo=0:=by omega
   refine⟨_,_,this,⟨hlen,by omega,.inr (.inr ⟨b,o,rfl,hlt,all,tg,hg,hs,fun i e he=>?_⟩)⟩,rfl⟩
   rw[e0,List.take_zero] at he; simp at he
   rw[U3 hc] at this;exact⟨_,_,this,⟨hlen,by omega,.inr (.inr ⟨b,_,rfl,hli'⟩)⟩,rfl⟩
  cases tg with
  | ro=>exact plain fun sz e=>(by cases e)
  | own=>exact plain fun sz e=>(by cases e)
  | more sz =>
   have hsz:=hs sz rfl;subst hsz;have hb':=oV (n:=n) (cap:=cap) h1 (VK h2 r2) hl hh
   by_cases hc:cap=lo
   have e0:hi-lo=0:=by omega
   have e1:((es.drop lo).take (hi-lo))=[]:=by rw[e0]; rfl
   refine⟨some ⟨b,0,some 0⟩,0,?_,⟨hlen,by omega,.inr (.inl ⟨b,0,rfl,e0,rfl,hlt⟩)⟩,rfl⟩
   simp only[cd,ht.und,ht.known,if_true,hg,hb',ht.size,ne_eq,not_true_eq_false,if_false,e0,gV];rw[U5 hc]
   refine⟨some ⟨b,o+lo*sz,none⟩,cap-lo,?_,⟨hlen,by omega,.inr (.inr ⟨b,_,rfl,hli'⟩)⟩,rfl⟩
   simp only[cd,ht.und,ht.known,if_true,hg,hb',ht.size,hc,ne_eq,not_true_eq_false,if_false]
def QO{elem:XJ}{k cap w lo hi:Nat}{a:XG}{es:XF}{x:XK}{lx hx:YA XK}{l h:YA XI}(ht:SlT E.P ty elem w)(hv:ev E fs x=some (.slice a n cap))(e1:jJ E fs lx=some l)(e2:jJ E fs hx=some h)(hp:pk ps k=some (.rd a cap w n es))(h1:lo<=hi)(h2:hi<=n)(hl:l=none/\lo=0\/∃k,l=some (.int k (lo:Int)))(hh:h=none/\hi=n\/∃k,h=some (.int k (hi:Int))) :
  Ox E m0 fs ps (.slice ty x lx hx none) (fun r:XG×Nat=>.slice r.1 (hi-lo) r.2) (fun r=>.rd r.1 r.2 w (hi-lo) ((es.drop lo).take (hi-lo))::ps) :=
 fun t m hf hm=>by
  obtain⟨a',cap',s1,s2,s3⟩:=Hg ht (hm.get hp) h1 h2 hl hh;refine⟨fun b hb=>?_,fun K hK=>?_⟩
  have hab:dT (.slice a n cap)=mz a:=by cases a<;>rfl
  simp only[aM,hf.ev hv,VE,hab] at hb;exact Rd.lt (hm.get hp) hb
  rw[Go.Ab.pa (hf.ev hv) (hf.jJ e1) (hf.jJ e2) rfl s1];exact hK (a',cap') m (hm.more hp rfl s2 rfl fun b hb=>by
   have:mz a'=some b:=hb;rw[s3] at this; exact this)
def yp(ps:YB Pc):Bool:=ps.all Pc.own
def nq{α:Type}{V:α->XI}{N:α->YB Pc}{f:XK}{g:YI}{first cap:YD XI}{ars:YD XK}{ts:YD XJ}{args:YB XI}(hf:ev E fs f=some (.func (.func g) first cap))(ha:ia E fs ars.toList=some args)(hc:∀m,Hp m0 m ps->aK E g (first.toList++args++cap.toList) m (fun v m'=>∃x,v=V x/\Hp m0 m' (N x))):Ox E m0 fs ps (.call ⟨.value f,ars,ts⟩) V N :=
 fun t m hfr hm=>⟨fun b hb=>(by simp[aM] at hb),fun K hK=>by
  have hev:an E t f=some (.func (.func g) first cap):=by
   cases f with
   | tmp i=>exact hfr.ev hf
   | const c=>exact hfr.ev hf
   | global g=>exact hfr.ev hf
   | func g=>exact hfr.ev hf
  show lh E (an E t f) (bC E t ars.toList) m _
  rw[hev,hfr.ia ha]
  show aK E g (first.toList++args++cap.toList) m K
  exact(hc m hm).mono fun v m' ⟨x,e,h⟩=>by rw[e]; exact hK x m' h⟩
def TU{α:Type}{V:α->XI}{N:α->YB Pc}{f:XK}{g:YI}{ars:YD XK}{ts:YD XJ}{args:YB XI}(hf:ev E fs f=some (.func (.func g) #[] #[]))(ha:ia E fs ars.toList=some args)(hc:∀m,Hp m0 m ps->aK E g args m (fun v m'=>∃x,v=V x/\Hp m m' (N x)))(ho:∀x,yp (N x)=true):Ox E m0 fs ps (.call ⟨.value f,ars,ts⟩) V (fun x=>N x++ps) :=
 nq hf ha fun m hm=>by
  simp only[Wc,VX];exact(hc m hm).mono fun v m' ⟨x,e,h⟩=>⟨x,e,hm.after h fun p hp=>Vo.1 (ho x) p hp⟩
end
def Ext.Rm{m0 m:Yq}(h:Ext m0 m){w:Nat}(hw:min m0.wl m0.next<=w):Ext m0 (m.ww w):=⟨by rw[Yq.next_ww]; exact h.next,fun b hb=>by rw[Yq.get_ww]; exact h.same b hb,by rw[Yq.wl_ww]; exact hw⟩
def Hp.ww{m0 m:Yq}{ps:YB Pc}(h:Hp m0 m ps){w:Nat}(hw:min m0.wl m0.next<=w):Hp m0 (m.ww w) ps :=
 ⟨Ext.Rm h.ext hw,fun p hp=>Pc.gJ (h.ok p hp) (by rw[Yq.next_ww]; exact U8 _) (fun b _ _=>by rw[Yq.get_ww]),h.apart⟩
section
variable{E:Env}{n:Nat}{m0:Yq}{fs:Fs}{ps ps':YB Pc}{ops:YD Oper}{os:YB Oper}{K:Tm->Yq->Prop}{dr:Bool}
def Wo(dr:Bool)(E:Env)(n:Nat)(ops:YD Oper)(K:Tm->Yq->Prop)(os:YB Oper)(m0:Yq)(fs:Fs)(ps:YB Pc):Prop :=
 match dr with
 | false=>∀t m,Fr t fs->Hp m0 m ps->qi E n ops K os t m
 | true=>∀t m w,Fr t fs->Hp m0 m ps->min m0.wl m0.next<=w->jS E n ops K os t m w
variable{ty:XJ}{p:String}{af:YD Edge}{d:Nat}{o:Op}{g:YA (Nat×Bool)}{v:XI}
def xJ(ops:YD Oper)(fs:Fs)(g:YA (Nat×Bool))(b:Bool):Prop:=∀t d o ty p af,Fr t fs->cg ops ⟨d,o,ty,p,af,g⟩ t=b
def gn:xJ ops fs none true:=fun _ _ _ _ _ _ _=>rfl
def gg{j d:Nat}{b c r:Bool}(hd:(ops[j]?).bind (·.dst)=some d)(h:lk fs d=some (.bool c))(hr:(c==b)=r):xJ ops fs (some (j,b)) r:=fun t d' o ty p af hf=>by
 rw[<-hr]; exact TY hd (hf d _ h)
def Wo.x{α:Type}{V:α->XI}{N:α->YB Pc}(h:Ox E m0 fs ps o V N)(hg:xJ ops fs g true)(hd:Nat.blt d n=true)(k:∀x,Wo dr E n ops K os m0 ((d,V x)::fs) (N x)):Wo dr E n ops K (⟨some d,o,ty,p,af,g⟩::os) m0 fs ps:=by
 have hd':d<n:=by rwa[Xn] at hd
 cases dr with
 | false =>
  intro t m hf hm;simp only[qi,hg t _ _ _ _ _ hf,if_true];refine(h t m hf hm).2 _ fun x m' hm'=>?_;rw[dq,U5 hd'];exact k x _ m' hf.set hm'
 | true =>
  intro t m w hf hm hw;simp only[jS,hg t _ _ _ _ _ hf,if_true];have hx:=hm.ext.next
  have hm':Hp m0 (m.ww m.next) ps:=hm.ww (by omega)
  refine⟨fun b hb=>?_,?_⟩
  have:=(h t _ hf hm').1 b hb;rwa[Yq.next_ww] at this
  refine(h t _ hf hm').2 _ fun x m' hm''=>?_;rw[dq,U5 hd'];have:=hm''.ext.wl;exact k x _ m' _ hf.set hm'' (by omega)
def Wo.x0{α:Type}{V:α->XI}{N:α->YB Pc}(h:Ox E m0 fs ps o V N)(hg:xJ ops fs g true)(k:∀x,Wo dr E n ops K os m0 fs (N x)):Wo dr E n ops K (⟨none,o,ty,p,af,g⟩::os) m0 fs ps:=by
 cases dr with
 | false =>
  intro t m hf hm;simp only[qi,hg t _ _ _ _ _ hf,if_true];refine(h t m hf hm).2 _ fun x m' hm'=>?_;exact k x _ m' hf hm'
 | true =>
  intro t m w hf hm hw;simp only[jS,hg t _ _ _ _ _ hf,if_true];have hx:=hm.ext.next
  have hm':Hp m0 (m.ww m.next) ps:=hm.ww (by omega)
  refine⟨fun b hb=>?_,?_⟩
  have:=(h t _ hf hm').1 b hb;rwa[Yq.next_ww] at this
  refine(h t _ hf hm').2 _ fun x m' hm''=>?_;have:=hm''.ext.wl;exact k x _ m' _ hf hm'' (by omega)
def Od.x(h:Od E m0 fs ps o v ps'):Ox E m0 fs ps o (fun _:YC=>v) (fun _=>ps'):=fun t m hf hm=>⟨(h t m hf hm).1,fun K hK=>(h t m hf hm).2 K fun m' hm'=>hK () m' hm'⟩
def Wo.od(h:Od E m0 fs ps o v ps')(hd:Nat.blt d n=true)(k:Wo dr E n ops K os m0 ((d,v)::fs) ps'):Wo dr E n ops K (⟨some d,o,ty,p,af,none⟩::os) m0 fs ps:=Wo.x h.x gn hd fun _=>k
def Wo.o0(h:Od E m0 fs ps o v ps')(k:Wo dr E n ops K os m0 fs ps'):Wo dr E n ops K (⟨none,o,ty,p,af,none⟩::os) m0 fs ps:=Wo.x0 h.x gn fun _=>k
def Wo.og(h:Od E m0 fs ps o v ps')(hg:xJ ops fs g true)(hd:Nat.blt d n=true)(k:Wo dr E n ops K os m0 ((d,v)::fs) ps'):Wo dr E n ops K (⟨some d,o,ty,p,af,g⟩::os) m0 fs ps:=Wo.x h.x hg hd fun _=>k
def Wo.s(hg:xJ ops fs g false)(hd:Nat.blt d n=true)(k:Wo dr E n ops K os m0 ((d,undef)::fs) ps):Wo dr E n ops K (⟨some d,o,ty,p,af,g⟩::os) m0 fs ps:=by
 have hd':d<n:=by rwa[Xn] at hd
 cases dr with
 | false =>
  intro t m hf hm;simp only[qi,hg t _ _ _ _ _ hf,VG,if_false];rw[dq,U5 hd'];exact k _ m hf.set hm
 | true =>
  intro t m w hf hm hw;simp only[jS,hg t _ _ _ _ _ hf,VG,if_false];rw[dq,U5 hd'];exact k _ m w hf.set hm hw
def ai(m0:Yq)(ps:YB Pc)(qs:YB Pc):Prop:=∀m,Hp m0 m ps->Hp m0 m qs
def Wo.au(h:ai m0 ps ps')(k:Wo dr E n ops K os m0 fs ps'):Wo dr E n ops K os m0 fs ps:=by
 cases dr with
 | false=>exact fun t m hf hm=>k t m hf (h m hm)
 | true=>exact fun t m w hf hm hw=>k t m w hf (h m hm) hw
def Wo.open{k w l:Nat}{a:XG}{es:XF}(hp:pk ps k=some (.sl a w l es))(hl:0<l)(h:∀b tg,a=some ⟨b,0,none⟩->tv tg=true->Wo dr E n ops K os m0 fs (bJ ps k (.arr b w l es tg))):Wo dr E n ops K os m0 fs ps:=by
 have key:∀m,Hp m0 m ps->∃b tg,a=some ⟨b,0,none⟩/\tv tg=true/\Hp m0 m (bJ ps k (.arr b w l es tg)):=by
  intro m hm;have h0:=hm.get hp;rcases h0 with⟨h1,_⟩|⟨b,tg,rfl,h1⟩
  omega
  refine⟨b,tg,rfl,by rcases h1.2.2.2.2.2.1 with rfl|rfl<;>rfl,hm.put hp rfl rfl rfl (U8 _) hm.ext h1 fun _ _ _=>rfl⟩
 cases dr with
 | false=>intro t m hf hm; obtain⟨b,tg,h1,h2,h3⟩:=key m hm; exact h b tg h1 h2 t m hf h3
 | true=>intro t m w' hf hm hw; obtain⟨b,tg,h1,h2,h3⟩:=key m hm; exact h b tg h1 h2 t m w' hf h3 hw
def Wo.bP{k w l cap:Nat}{a:XG}{es:XF}(hp:pk ps k=some (.rd a cap w l es))(hl:0<l)(h:∀b o,a=some ⟨b,o,none⟩->Wo dr E n ops K os m0 fs (.ro b o w l es::ps)):Wo dr E n ops K os m0 fs ps:=by
 have key:∀m,Hp m0 m ps->∃b o,a=some ⟨b,o,none⟩/\Hp m0 m (.ro b o w l es::ps):=by
  intro m hm;obtain⟨h1,h2,h3⟩:=hm.get hp;rcases h3 with⟨_,h3⟩|⟨_,_,_,h3,_⟩|⟨b,o,rfl,h3⟩
  omega
  omega
  exact⟨b,o,rfl,hm.more hp rfl ⟨h1,h3⟩ rfl fun b' hb=>hb⟩
 cases dr with
 | false=>intro t m hf hm; obtain⟨b,o,h1,h3⟩:=key m hm; exact h b o h1 t m hf h3
 | true=>intro t m w' hf hm hw; obtain⟨b,o,h1,h3⟩:=key m hm; exact h b o h1 t m w' hf h3 hw
def ai.trans{ps'':YB Pc}(h:ai m0 ps ps')(h':ai m0 ps' ps''):ai m0 ps ps'':=fun m hm=>h' m (h m hm)
def ai.aq(ks:YB Nat)(hnd:mD ks=true)(e:W.aq ps ks=some ps'):ai m0 ps ps':=fun _ h=>h.aq ks hnd e
def ai.close{k b w l:Nat}{es:XF}{tg:Tag}(hp:pk ps k=some (.arr b w l es tg)):ai m0 ps (bJ ps k (.sl (some ⟨b,0,none⟩) w l es)):=fun _ h =>
 h.put hp rfl rfl rfl (U8 _) h.ext (.inr ⟨b,tg,rfl,h.get hp⟩) fun _ _ _=>rfl
def ai.nil(w:Nat)(hw:Nat.blt 0 w=true):ai m0 ps (.sl none w 0 []::ps):=fun m h =>
 h.cons (U8 _) h.ext (fun _ _=>rfl) (.inl ⟨rfl,rfl,rfl,by rwa[Xn] at hw⟩) fun b hb=>(by cases hb)
def wJ{ps:YB Pc}{k:Nat}{p p':Pc}(hk:pk ps k=some p)(ho:p'.own=false)(hb:∀b,p'.tQ=some b->p.tQ=some b/\p.own=true)(h:ps.Pairwise Pc.apart)(hng:∀b,¬p'.FB b:=by exact fun _ h=>h):(bJ ps k p').Pairwise Pc.apart :=
 jK hk (fun r _ ha=>⟨fun b a c=>a.elim (fun a=>by rw[ho] at a; cases a.1) fun a=>hng b (by cases p' with|gen g=>exact .inl a|_=>exact a),fun b a c=>ha.2 b a (c.elim (fun c=>.inl (hb b c).1) fun c=>Vr c (hng b))⟩) h
def ai.freeze{k w l:Nat}{a:XG}{es:XF}(hp:pk ps k=some (.sl a w l es)):ai m0 ps (bJ ps k (.rd a l w l es)):=fun m h =>
 ⟨h.ext,fun q hq=>by
  rcases Av hp h.apart hq with rfl|⟨h1,_⟩
  exact Pc.FK (h.get hp) (.sl a w l es)
  exact h.ok q h1,wJ hp rfl (fun b hb=>⟨hb,rfl⟩) h.apart⟩
variable{fn:YI}{ro:YA Nat}{Q:Yr->Tm->Yq->Prop}
def Wk(E:Env)(n:Nat)(fn:YI)(ro:YA Nat)(c:Code)(Q:Yr->Tm->Yq->Prop)(m0:Yq)(fs:Fs)(ps:YB Pc):Prop:=∀t m,Fr t fs->Hp m0 m ps->ck E n fn ro c Q t m
def At(Q:Yr->Tm->Yq->Prop)(e:Yr)(m0:Yq)(fs:Fs)(ps:YB Pc):Prop:=∀t m,Fr t fs->Hp m0 m ps->Q e t m
variable{a b c:Code}{id id':Nat}
def Wk.seq(h:Wk E n fn ro a (pQ (ck E n fn ro b Q) Q) m0 fs ps):Wk E n fn ro (.seq a b) Q m0 fs ps:=fun t m hf hm=>.seq (h t m hf hm)
def Wk.skip(h:At Q .normal m0 fs ps):Wk E n fn ro .skip Q m0 fs ps:=fun t m hf hm=>.skip (h t m hf hm)
def Wk.exit(h:At Q (.exit id) m0 fs ps):Wk E n fn ro (.exit id) Q m0 fs ps:=fun t m hf hm=>.exit (h t m hf hm)
def Wk.ret(h:At Q .ret m0 fs ps):Wk E n fn ro .ret Q m0 fs ps:=fun t m hf hm=>.ret (h t m hf hm)
def Wk.cond{x:XK}{r:Bool}(hx:ev E fs x=some (.bool r))(ht:r=true->Wk E n fn ro a Q m0 fs ps)(hf:r=false->Wk E n fn ro b Q m0 fs ps):Wk E n fn ro (.cond x a b) Q m0 fs ps:=fun t m hfr hm=>.cond (hfr.ev hx) (fun h=>ht h t m hfr hm) (fun h=>hf h t m hfr hm)
def Wk.cP{x:XK}{r:Bool}(hx:ev E fs x=some (.bool r))(hr:r=true)(ht:Wk E n fn ro a Q m0 fs ps):Wk E n fn ro (.cond x a b) Q m0 fs ps:=.cond hx (fun _=>ht) (fun h=>by rw[hr] at h; cases h)
def Wk.ez{x:XK}{r:Bool}(hx:ev E fs x=some (.bool r))(hr:r=false)(ht:Wk E n fn ro b Q m0 fs ps):Wk E n fn ro (.cond x a b) Q m0 fs ps:=.cond hx (fun h=>by rw[hr] at h; cases h) (fun _=>ht)
def Wk.block(h:Wk E n fn ro a (iS id Q) m0 fs ps):Wk E n fn ro (.block id a) Q m0 fs ps:=fun t m hf hm=>.block (h t m hf hm)
def Wk.region(h:Wo false E n ops (Q .normal) ops.toList m0 fs ps):Wk E n fn ro (.region id ops false) Q m0 fs ps:=fun t m hf hm=>.LW (h t m hf hm)
def De{t:Tm}{m:Yq}{o:Op}{K K':XI->Yq->Prop}(h:bj E t m o K)(hk:∀v m',K v m'->K' v m'):bj E t m o K':=by
 unfold bj at h ⊢;cases hc:qn o with
 | some p =>
  obtain⟨f,ars⟩:=p;rw[hc] at h;simp only at h ⊢;cases hf:an E t f with
  | none=>rw[hf] at h; exact h.elim
  | some v =>
   cases ha:bC E t ars with
   | none=>rw[hf,ha] at h; unfold lh at h; split at h<;>first |(rename_i h1 h2; cases h2)|exact h.elim
   | some vs =>
    rw[hf,ha] at h;unfold lh at h ⊢
    split at h
    rename_i h1 h2;cases h1; cases h2;exact h.mono hk
    rename_i h1 h2;cases h1; cases h2;obtain⟨v,m',h5,hv⟩:=h;exact⟨v,m',h5,hk v m' hv⟩
    exact h.elim
 | none =>
  rw[hc] at h;simp only at h ⊢;cases he:fM E t m o with
  | none=>rw[he] at h; exact h.elim
  | some r=>rw[he] at h; exact hk r.1 r.2 h
def DB{K K':Tm->Yq->Prop}(hK:∀t m,K t m->K' t m):∀(os:YB Oper) (t:Tm) (m:Yq) (w:Nat),jS E n ops K os t m w->jS E n ops K' os t m w:=by
 intro os
 induction os with
 | nil=>intro t m w hk; exact hK _ _ hk
 | cons o os ih =>
  intro t m w hk;simp only[jS] at hk ⊢
  split at hk
  rename_i hw;rw[U5 hw];refine⟨hk.1,De hk.2 fun v m' hv=>?_⟩;obtain⟨t',e,h4⟩:=hv.A
  show G6 (kZ n t o.dst v) fun t'=>jS E n ops K' os t' m' (min w m'.wl)
  rw[e]; exact ih _ _ _ h4
  rename_i hw;rw[U3 hw];obtain⟨t',e,h4⟩:=hk.A;rw[e]; exact ih _ _ _ h4
def Wk.draw(hp:lQ ops=some [])(h:Wo true E n ops (Q .normal) ops.toList m0 fs ps):Wk E n fn ro (.region id ops true) Q m0 fs ps:=fun t m hf hm=>.QJ hp fun K hK=>by
 exact DB hK _ _ _ _ (h t m m.wl hf hm hm.ext.wl)
def Wo.nil(h:At Q .normal m0 fs ps):Wo dr E n ops (Q .normal) [] m0 fs ps:=by
 cases dr with
 | false=>exact fun t m hf hm=>h t m hf hm
 | true=>exact fun t m w hf hm hw=>h t _ hf (hm.ww hw)
def At.tn(h:Wk E n fn ro b Q m0 fs ps):At (pQ (ck E n fn ro b Q) Q) .normal m0 fs ps:=h
def At.te{K:Tm->Yq->Prop}(h:At Q (.exit id) m0 fs ps):At (pQ K Q) (.exit id) m0 fs ps:=h
def At.tr{K:Tm->Yq->Prop}(h:At Q .ret m0 fs ps):At (pQ K Q) .ret m0 fs ps:=h
def At.bn(h:At Q .normal m0 fs ps):At (iS id Q) .normal m0 fs ps:=h
def At.be(h:At Q .normal m0 fs ps):At (iS id Q) (.exit id) m0 fs ps:=fun t m hf hm=>by rw[Ew,U5 rfl]; exact h t m hf hm
def At.bx(hne:Nat.beq id' id=false)(h:At Q (.exit id') m0 fs ps):At (iS id Q) (.exit id') m0 fs ps:=fun t m hf hm=>by rw[Ew,U3 (Xq hne)]; exact h t m hf hm
def At.br(h:At Q .ret m0 fs ps):At (iS id Q) .ret m0 fs ps:=h
def At.au{e:Yr}(h:ai m0 ps ps')(k:At Q e m0 fs ps'):At Q e m0 fs ps:=fun t m hf hm=>k t m hf (h m hm)
def Wk.H4{fs':Fs}(hs:sub fs fs')(h:ai m0 ps ps')(k:Wk E n fn ro c Q m0 fs' ps'):Wk E n fn ro c Q m0 fs ps:=fun t m hf hm=>k t m (hf.sub hs) (h m hm)
structure En where
 e:Yr
 fs:Fs
 ps:YB Pc
def oa(m0:Yq){γ:Type}(G:γ->En)(e:Yr)(t:Tm)(m:Yq):Prop:=∃g,e=(G g).e/\Fr t (G g).fs/\Hp m0 m (G g).ps
def At.en{γ:Type}{G:γ->En}{e:Yr}(g:γ)(he:e=(G g).e)(hs:sub fs (G g).fs)(ht:ai m0 ps (G g).ps):At (oa m0 G) e m0 fs ps:=fun _ m hf hm=>⟨g,he,hf.sub hs,ht m hm⟩
def Wk.cut{γ:Type}{G:γ->En}(h:Wk E n fn ro c (oa m0 G) m0 fs ps)(k:∀g,At Q (G g).e m0 (G g).fs (G g).ps):Wk E n fn ro c Q m0 fs ps:=fun t m hf hm =>
 (h t m hf hm).mono fun e t' m' ⟨g,h1,h2,h3⟩=>by rw[h1]; exact k g t' m' h2 h3
def bL{σ ρ:Type}(body:σ->YA (σ⊕ρ)):Nat->σ->YA ρ
 | 0,_=>none
 | k+1,s=>match body s with
  | some (.inl s')=>bL body k s'
  | some (.inr r)=>some r
  | none=>none
def Wk.loop{σ ρ γ:Type}{δ:ρ->Type}(body:σ->YA (σ⊕ρ))(I:σ->γ->En)(X:(r:ρ)->δ r->En)
  (hb:∀s g r,body s=some r->Wk E n fn ro c (match r with|.inl s'=>oa m0 (I s')|.inr r=>oa m0 (X r)) m0 (I s g).fs (I s g).ps)
  (hn:∀s g,(I s g).e=.normal) (hx:∀r g,(X r g).e≠.normal) :
  ∀(N:Nat) (s:σ) (r:ρ),bL body N s=some r->∀g,Wk E n fn ro (.loop c) (oa m0 (X r)) m0 (I s g).fs (I s g).ps:=by
 intro N
 induction N with
 | zero=>intro s r h; cases h
 | succ N ih =>
  intro s r h g t m hf hm;refine .loop (.round ?_);simp only[bL] at h
  split at h
  ·rename_i s' hs;refine(hb s g _ hs t m hf hm).mono fun e t' m' ⟨g',h1,h2,h3⟩=>?_;rw[h1,hn];have:=ih s' r h g' t' m' h2 h3;obtain⟨e2,t2,m2,⟨k2,hk2⟩,q2⟩:=this;cases k2 with
   | zero=>cases hk2
   | succ k2=>exact⟨e2,t2,m2,⟨k2,hk2⟩,q2⟩
  ·rename_i r' hs;simp only[Option.some.injEq] at h;subst h;refine(hb s g _ hs t m hf hm).mono fun e t' m' ⟨g',h1,h2,h3⟩=>?_;have hq:oa m0 (X r') e t' m':=⟨g',h1,h2,h3⟩;cases he:e with
   | normal=>rw[h1] at he; exact Vr he (hx _ _)
   | exit id=>rw[he] at hq; exact hq
   | ret=>rw[he] at hq; exact hq
  cases h
def pL:YB XI->Nat->Fs->Fs
 | [],_,fs=>fs
 | v::vs,i,fs=>pL vs (i+1) ((i,v)::fs)
def Fr.args:∀(vs:YB XI) (i:Nat) (fs:Fs) (t:Tm),Fr t fs->Fr (Trie.ofList vs i t) (pL vs i fs)
 | [],_,_,_,h=>h
 | _::vs,i,_,_,h=>Fr.args vs (i+1) _ _ h.set
def aS{f:YI}{F:Func}{c:Code}{args:YB XI}{rs:YB ResultVar}{N:Nat}{R:XI->Yq->Prop}(hp:E.cZ f=none)(hf:E.P.funcs[f]? = some F)(hb:F.body=some c)(hrs:F.results.toList=rs)(hN:max args.length F.ntmps=N)
  {m:Yq} (hm:Hp m0 m ps) (h:Wk E N f none c (j5 E rs R) m0 (pL args 0 []) ps):aK E f args m R :=
 aK.Oe hp hf hb hrs hN (h _ m (Fr.args args 0 [] _ (Fr.nil _)) hm)
def Hp.start(m:Yq):Hp m m []:=⟨.refl m,fun p h=>(by cases h),.nil⟩
inductive Res1(E:Env)(fs:Fs)(ps:YB Pc):YB ResultVar->YB XI->Prop
 | nil:Res1 E fs ps [] []
 | tmp {i:Nat} {v:XI} {rs:YB ResultVar} {vs:YB XI} (h:lk fs i=some v) (k:Res1 E fs ps rs vs):Res1 E fs ps (.tmp i::rs) (v::vs)
 | cell {i k b o sz:Nat} {ty:XJ} {v:XI} {rs:YB ResultVar} {vs:YB XI} {cs:YB XI} {tg:Tag} {ag:Bool} (ht:TyI E.P ty ag sz) (h:lk fs i=some (ptr b o)) (hp:pk ps k=some (.obj b (.cells cs tg))) (hv:Ag ag sz cs o=some v) (k:Res1 E fs ps rs vs):Res1 E fs ps (.cell i ty::rs) (v::vs)
def Res1.ok{fs:Fs}{ps:YB Pc}{t:Tm}{m:Yq}(hf:Fr t fs)(hm:Hp m0 m ps):∀{rs:YB ResultVar} {vs:YB XI},Res1 E fs ps rs vs->cT E t m rs=some vs:=by
 intro rs vs h
 induction h with
 | nil=>rfl
 | tmp h _ ih=>simp only[cT,ih,hf _ _ h,Vx]
 | cell ht h hp hv _ ih=>simp only[cT,hf _ _ h,tI ht (hm.get hp).2.2 hv,ih]
def At.ret{rs:YB ResultVar}{vs:YB XI}{R:XI->Yq->Prop}(h:Res1 E fs ps rs vs)(k:∀m,Hp m0 m ps->R (jr vs) m):At (j5 E rs R) .ret m0 fs ps:=fun t m hf hm=>by
 rw[Qn,h.ok hf hm]; exact k m hm
def At.fin{rs:YB ResultVar}{vs:YB XI}{R:XI->Yq->Prop}(h:Res1 E fs ps rs vs)(k:∀m,Hp m0 m ps->R (jr vs) m):At (j5 E rs R) .normal m0 fs ps:=fun t m hf hm=>by
 rw[Gj,h.ok hf hm]; exact k m hm
end
end Go.Ab.W
section
open Go Go.Ab Go.Ab.W
abbrev X1:=@Wo.x
abbrev XR:=@Wo.od
abbrev X8:=@Wo.o0
abbrev X3:=@Wo.og
abbrev X0:=@Wo.au
abbrev Yg:=@Wo.open
abbrev X4:=@Wo.bP
abbrev XS:=@Wk.seq
abbrev X9:=@Wk.skip
abbrev Yb:=@Wk.ret
abbrev X7:=@Wk.cP
abbrev Yc:=@Wk.ez
abbrev XV:=@Wk.block
abbrev XT:=@Wk.region
abbrev XW:=@Wo.nil
abbrev XX:=@At.tn
abbrev Yi:=@At.be
abbrev XY:=@At.au
abbrev XZ:=@Hp.start
abbrev X2:=@At.ret
end
end
