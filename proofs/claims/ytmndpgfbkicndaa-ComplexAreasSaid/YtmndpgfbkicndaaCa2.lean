/- A part of the proof. -/
import Derived.Test.YtmndpgfbkicndaaCa1
import Derived.RangeFuncRecord
import Derived.Scope
import Derived.OpenShut
import Derived.FnData
import Derived.MakeChecks
import Derived.CallsIn
import Derived.Laws.Twins
set_option linter.all false
namespace Go.Ab
open Go
def pZ:∀{l:VB Nat},w9 l=true->l.Nodup
 | [],_=>List.nodup_nil
 | x::xs,h=>by
  simp only[w9,R9,Td,List.contains_eq_mem,decide_eq_false_iff_not] at h;exact TI.2 ⟨h.1,pZ h.2⟩
def CX:∀{l:VB Oper} {x y:Nat} {a b:Oper} {d:Tmp},(l.filterMap (·.dst)).Nodup->l[x]? = some a->l[y]? = some b->a.dst=some d->b.dst=some d->x=y
 | [],x,y,a,b,d,_,h,_,_,_=>by simp at h
 | o::l,0,0,a,b,d,_,_,_,_,_=>rfl
 | o::l,0,y+1,a,b,d,hn,ha,hb,hda,hdb=>by
  simp at ha; subst ha;have hb':l[y]? = some b:=by simpa using hb
  rw[List.filterMap_cons_some hda] at hn;exact Sw (List.mem_filterMap.2 ⟨b,SA hb',hdb⟩) (TI.1 hn).1
 | o::l,x+1,0,a,b,d,hn,ha,hb,hda,hdb=>by
  simp at hb; subst hb;have ha':l[x]? = some a:=by simpa using ha
  rw[List.filterMap_cons_some hdb] at hn;exact Sw (List.mem_filterMap.2 ⟨a,SA ha',hda⟩) (TI.1 hn).1
 | o::l,x+1,y+1,a,b,d,hn,ha,hb,hda,hdb=>by
  have hn':(l.filterMap (·.dst)).Nodup:=by
   cases ho:o.dst with
   | none=>rw[List.filterMap_cons_none ho] at hn; exact hn
   | some d'=>rw[List.filterMap_cons_some ho] at hn; exact(TI.1 hn).2
  exact SH (· + 1) (CX hn' (by simpa using ha) (by simpa using hb) hda hdb)
def CN(bs:VB Nat)(i j:Nat):Prop:=(bs.getD j 0).testBit i=true
structure OrderOk(ops:VD Oper)(bs:VB Nat):Prop where
 uniq:∀(x y:Nat) (a b:Oper) (d:Tmp),ops[x]? = some a->ops[y]? = some b->a.dst=some d->b.dst=some d->x=y
 edge:∀(j:Nat) (o:Oper),ops[j]? = some o->∀e∈cF o,e<j
 guard:∀(j:Nat) (o:Oper) (g:Nat) (want:Bool),ops[j]? = some o->o.guard=some (g,want)->g<j/\CN bs g j
 anc:∀(i j:Nat) (o:Oper),i<j->ops[j]? = some o->CN bs i j->∃e∈cF o,e=i\/(i<e/\CN bs i e)
 apart:∀(i j:Nat) (a b:Oper),i<j->ops[i]? = some a->ops[j]? = some b->¬CN bs i j->rT ops a b=true
def dy{ops:VD Oper}{i:Nat}{o:Oper}(h:ops[i]? = some o):ops.getD i default=o:=by
 rw[Array.getD_eq_getD_getElem?,h]; rfl
def Be{ops:VD Oper}{bs:VB Nat}(h:xA ops bs=true):OrderOk ops bs:=by
 simp only[xA,R9,Sp,SM] at h;obtain⟨h1,h2⟩:=h;have hlt:∀{i:Nat} {o:Oper},ops[i]? = some o->i<ops.size:=fun h=>(Sh.1 h).1;refine⟨?_,?_,?_,?_,?_⟩
 intro x y a b d ha hb hda hdb;exact CX (pZ h1) (by simpa using ha) (by simpa using hb) hda hdb
 intro j o ho e he;have:=(h2 j (hlt ho)).1.1;rw[dy ho] at this
 simpa using this e he
 intro j o g want ho hg;have:=(h2 j (hlt ho)).1.2;rw[dy ho,hg] at this;simp only[R9,Sj] at this;exact this
 intro i j o hij ho hb;have:=(h2 j (hlt ho)).2 i hij;rw[dy ho] at this;unfold CN at hb;rw[R7 hb] at this;simp only[List.any_eq_true,Tv,beq_iff_eq,R9,Ua] at this;obtain⟨e,he,h3⟩:=this;exact⟨e,he,h3.imp id fun h=>⟨h.1,h.2⟩⟩
 intro i j a b hij ha hb hnb;have:=(h2 j (hlt hb)).2 i hij;rw[dy ha,dy hb] at this;unfold CN at hnb;rw[R5 hnb] at this;exact this
def Gp{ops:VD Oper}{bs:VB Nat}(hO:OrderOk ops bs){D:Uy}(hD:∀j o,ops[j]? = some o->D j->∀e∈cF o,D e) :
  ∀(j:Nat) (o:Oper),ops[j]? = some o->(∀e∈cF o,D e)->∀i,i<j->CN bs i j->D i:=by
 intro j
 induction j using Nat.strongRecOn with
 | _ j ih =>
  intro o ho he i hij hb;obtain⟨e,hee,rfl|⟨hie,hbe⟩⟩:=hO.anc i j o hij ho hb
  exact he _ hee
  have hej:=hO.edge j o ho e hee;have hsz:e<ops.size:=Nat.lt_trans hej (Sh.1 ho).1;have hoe:ops[e]? = some ops[e]:=by simp[hsz]
  exact ih e hej _ hoe (hD e _ hoe (he e hee)) i hie hbe
def mA{ops:VD Oper}{a b:Oper}(h:rT ops a b=true):(∀d,a.dst=some d->d∉looks ops b)/\(∀d,b.dst=some d->d∉looks ops a)/\¬(aw a.op=true/\aw b.op=true):=by
 simp only[rT,R9,Td,Bool.and_eq_false_imp] at h;obtain⟨⟨h1,h2⟩,h3⟩:=h;refine⟨fun d hd=>?_,fun d hd=>?_,fun hh=>?_⟩
 rw[hd] at h2;simp only[R9,Td,List.contains_eq_mem,decide_eq_false_iff_not] at h2;exact h2.1
 rw[hd] at h3
 simpa only[Td,List.contains_eq_mem,decide_eq_false_iff_not] using h3
 have:=h1 hh.1;rw[hh.2] at this; cases this
def uM{E:Env}{t:Tm}{o:Op}{b:Nat}(h:aL E t o=some b):qb o=true:=by
 cases o<;>simp only[aL] at h<;>try(cases h; done)
 all_goals first|rfl|skip
 rename_i c;cases hc:c.callee with
 | builtin bb =>
  rw[hc] at h;cases bb<;>simp only[qb,hc]<;>first|rfl |(cases h; done)
 | _=>rw[hc] at h; cases h
section
variable{E:Env}{k:K}{ops:VD Oper}{n:Nat}
def Bh {t:Tm} {tmps:VD Uz} {j:aP} (o:Oper) (h:∀g want d,o.guard=some (g,want)->(ops[g]?).bind (·.dst)=some d->VR j (t.at d) (tmps.getD d undef)):Region.wanted o (yielded ops tmps)=bW ops o t:=by
 unfold Region.wanted bW;cases hgd:o.guard with
 | none=>rfl
 | some p =>
  obtain⟨g,want⟩:=p;simp only;have key:yielded ops tmps g=fk ops t g:=by
   unfold yielded fk;cases hd:(ops[g]?).bind (·.dst) with
   | none=>rfl
   | some d =>
    simp only[SD];have hv:=h g want d hgd hd;unfold Tm.at at hv;cases hg:t.get d with
    | none =>
     rw[hg] at hv;simp only[Option.getD_none] at hv;have:tmps[d]? = none\/tmps[d]? = some undef:=by
      cases ha:tmps[d]? with
      | none=>exact .inl rfl
      | some x =>
       right
       have:tmps.getD d undef=x:=by simp[ha]
       rw[this] at hv;have:x=undef:=gK (by rfl) hv
       rw[this]
     rcases this with e|e<;>rw[e]<;>rfl
    | some x =>
     rw[hg] at hv;simp only[Option.getD_some] at hv;cases ha:tmps[d]? with
     | none =>
      have:tmps.getD d undef=undef:=by simp[ha]
      rw[this] at hv;cases x<;>first|rfl|cases hv
     | some y =>
      have:tmps.getD d undef=y:=by simp[ha]
      rw[this] at hv;cases hv with
      | junk hj=>cases y<;>first|rfl |(simp[An,aQ] at hj)
      | _=>rfl
  rw[key];cases fk ops t g with
  | none=>rfl
  | some b=>simp
structure Can(k:K)(E:Env)(n:Nat)(ops:VD Oper)(j0:aP)(w0:UD)(T:Nat->Tm)(M:Nat->Vn)(V:Nat->Uz)(ns:VB Note):Prop where
 hk:∀tk r,k tk=some r->cO E tk r
 tr:Tr k E n ops 0 ops.size T M V ns
 mr:MR E j0 (M 0) w0
 ghost:∀i,i<=ops.size->∃jc wc tc,Sim E j0 (M 0) w0 jc (M i) wc/\TR n jc (T i) tc
def Dy(hk:∀tk r,k tk=some r->cO E tk r){j0:aP}{w0:UD}{T:Nat->Tm}{M:Nat->Vn}{V:Nat->Uz}{ns:VB Note}(tr:Tr k E n ops 0 ops.size T M V ns)(h0:MR E j0 (M 0) w0){t0:VD Uz}(ht0:TR n j0 (T 0) t0) :
  ∀i,i<=ops.size->∃jc wc tc,Sim E j0 (M 0) w0 jc (M i) wc/\TR n jc (T i) tc:=by
 intro i
 induction i with
 | zero=>exact fun _=>⟨j0,w0,t0,.refl h0,ht0⟩
 | succ i ih =>
  intro hi;obtain⟨jc,wc,tc,s,ht⟩:=ih (by omega)
  obtain⟨note,_,o,ho,hp,hst⟩:=tr.step i (by omega)
  rcases hst with⟨_,r,e,hm,_⟩|⟨_,hv,hm,_⟩
  have hd:=mF (a:={ tmps:=tc,defers:=[]}) hk (s.mr.vc (x:=(M i).next)) ht e
  obtain⟨v',w',j',s',hv'⟩:=hd.ends;exact⟨j',w',_,s.trans h0 (hm▸s'.PK),TR.put (a:={ tmps:=tc,defers:=[]}) (ht.mono s'.le) hv' hp⟩
  rw[hm];exact⟨jc,wc,_,s,TR.put (a:={ tmps:=tc,defers:=[]}) ht (hv▸VR.undef jc) hp⟩
variable{j0:aP}{w0:UD}{T:Nat->Tm}{M:Nat->Vn}{V:Nat->Uz}{ns:VB Note}
def zJ{t:Tm}{m:Vn}{o:Op}(h:aw o=false):ek k E t m o=fj E t m o:=by
 unfold ek;cases o with
 | call c =>
  simp only;cases hc:c.callee with
  | value f=>simp[aw,hc] at h
  | _=>rfl
 | _=>rfl
def xw{m m':Vn}{b o:Nat}{vs:VB Uz}(h:m.cQ b o vs=some m'){x:Nat}(hx:x≠b):m'.get x=m.get x:=by
 unfold Vn.cQ at h
 split at h
 cases h; rfl
 split at h
 cases h
 split at h
 cases h; rw[Vn.bp,R5 hx]
 cases h
 cases h
def A6{t:Tm}{m r:Vn}{o:Op}{v:Uz}{b':Nat}(h:ek k E t m o=some (v,r))(hw:eS E t o=some b'):∀b,b≠b'->r.get b=m.get b:=by
 cases o<;>simp only[eS] at hw<;>try(cases hw; done)
 rename_i ty a x;simp only[ek,fj] at h
 split at h
 rename_i p v0 hp hv;obtain⟨m1,hm,he⟩:=map_some h;cases he;rw[hp] at hw;unfold gT at hm
 split at hm
 rename_i b o;simp only[Option.some.injEq] at hw;subst hw
 split at hm
 exact fun b hb=>xw hm hb
 cases hm
 cases hm
 cases h
def vt:∀{v u:Uz},wB v u=true->v=u:=by
 intro v u h;unfold wB at h
 split at h
 simp only[R9,Sj] at h; rw[h.1,h.2]
 simp only[beq_iff_eq] at h; rw[h]
 simp only[R9,Sj,Nat.beq_eq] at h; rw[h.1,h.2.1,h.2.2]
 simp only[Sj] at h; rw[h]
 simp only[Sj] at h; rw[h]
 cases h
def qB:∀{v u:VB Uz},tV v u=true->v=u
 | [],[],_=>rfl
 | v::vs,u::us,h=>by
  simp only[tV,R9] at h;rw[vt h.1,qB h.2]
 | [],_::_,h=>by cases h
 | _::_,[],h=>by cases h
def tp:∀{v u:Uz},yV v u=true->v=u:=by
 intro v u h;unfold yV at h
 split at h
 rename_i f a c f' a' c';simp only[R9] at h;have h1:=Ti h.1;have h2:=qB h.2.1;have h3:=qB h.2.2;subst h1;obtain⟨a⟩:=a;obtain⟨a'⟩:=a';obtain⟨c⟩:=c;obtain⟨c'⟩:=c';simp only at h2 h3;rw[h2,h3]
 exact vt h
def Ae:∀{v u:VB Uz},CR v u=true->v=u
 | [],[],_=>rfl
 | v::vs,u::us,h=>by
  simp only[CR,R9] at h;rw[tp h.1,Ae h.2]
 | [],_::_,h=>by cases h
 | _::_,[],h=>by cases h
def vX:∀{v u:VB (Uz×Uz)},xG v u=true->v=u
 | [],[],_=>rfl
 |(a,b)::vs,(c,d)::us,h=>by
  simp only[xG,R9] at h;rw[show a=c from tp h.1.1,show b=d from tp h.1.2,vX h.2]
 | [],_::_,h=>by cases h
 | _::_,[],h=>by cases h
def HV{a b:VA Vp}(h:FL a b=true):a=b:=by
 unfold FL at h
 split at h
 simp only[R9,Sj] at h; rw[h.1,Ae h.2]
 rw[vX h]
 cases h
def KR{m m':Vn}{b:Nat}(h:jo m m' b=true):m.get b=m'.get b:=by
 unfold jo at h;rcases(Tv _ _).mp h with h|h
 exact HV h
 exact @of_decide_eq_true _ (Classical.propDecidable _) h
inductive Kind(k:K)(E:Env)(ops:VD Oper)(M:Nat->Vn)(o:Oper)(i:Nat)(t:Tm)(v:Uz):Prop
 | skip (hw:bW ops o t=false) (hv:v=undef) (hm:M (i+1)=M i)
 | quiet (hw:bW ops o t=true) (he:aw o.op=false) (hn:(M (i+1)).next=(M i).next) (hg:∀b,(M (i+1)).get b=(M i).get b)
   (ha:∀m2:Vn,(∀b0,aL E t o.op=some b0->m2.get b0=(M i).get b0)->fj E t m2 o.op=some (v,m2))
 | makes (hw:bW ops o t=true) (he:aw o.op=false) (vb:Nat->Uz) (ao:Vp) (hv:v=vb (M i).next) (hn:(M (i+1)).next=(M i).next+1)
   (hg:∀b,(M (i+1)).get b=if b=(M i).next then some ao else(M i).get b) (ha:∀m2:Vn,fj E t m2 o.op=some (vb m2.next,m2.alloc ao))
 | effect (hw:bW ops o t=true) (he:aw o.op=true) (r:Vn) (hr:ek k E t { M i with wl:=(M i).next} o.op=some (v,r)) (hm:M (i+1) ={ r with wl:=min (M i).wl r.wl})
def Can.kind(c:Can k E n ops j0 w0 T M V ns){i:Nat}(hi:i<ops.size):∃o,ops[i]? = some o/\kj n (T i) o.dst (V i)=some (T (i+1))/\Kind k E ops M o i (T i) (V i):=by
 obtain⟨note,_,o,ho,hp,hst⟩:=c.tr.step i hi;rw[SE] at ho;refine⟨o,ho,hp,?_⟩;rcases hst with⟨hw,r,e,hm,_⟩|⟨hw,hv,hm,_⟩
 ·cases he:aw o.op with
  | true=>exact .effect hw he r e hm
  | false =>
   rw[zJ he] at e;obtain⟨jc,wc,tc,s,ht⟩:=c.ghost i (by omega)
   rcases xM (a:={ tmps:=tc,defers:=[]}) (s.mr.vc (x:=(M i).next)) ht e with⟨h1,h2,_⟩|⟨ao,co,vb,v',h1,h2,_,_,_,h3⟩|⟨h1,_⟩
   subst h1;exact .quiet hw he (by rw[hm]) (fun b=>by rw[hm]; rfl) (fun m2 hm2=>h2 m2 hm2)
   subst h2;refine .makes hw he vb ao h1 (by rw[hm]; rfl) (fun b=>?_) h3
   rw[hm];exact Vn.aW { M i with wl:=(M i).next} ao b
   rw[he] at h1; cases h1
 exact .skip hw hv hm
def Can.ext(c:Can k E n ops j0 w0 T M V ns){i:Nat}(hi:i<ops.size):AExt (M i) (M (i+1)):=by
 obtain⟨note,_,o,ho,hp,hst⟩:=c.tr.step i hi;rcases hst with⟨hw,r,e,hm,_⟩|⟨hw,hv,hm,_⟩
 obtain⟨jc,wc,tc,s,ht⟩:=c.ghost i (by omega)
 obtain⟨v',w',j',s',hv'⟩:=(mF (a:={ tmps:=tc,defers:=[]}) c.hk (s.mr.vc (x:=(M i).next)) ht e).ends
 rw[hm]; exact s'.PK.ext
 rw[hm]; exact .refl _
def Can.note(c:Can k E n ops j0 w0 T M V ns){i:Nat}(hi:i<ops.size):∃note o,ns[i]? = some note/\ops[i]? = some o/\note.next=(M i).next /\
  (∀b,b<(M i).next->(b<note.wl\/(∃b',note.wrote=some b'/\b≠b')\/note.kept b=true)->(M (i+1)).get b=(M i).get b)/\(bW ops o (T i)=true->note.read=aL E (T i) o.op):=by
 obtain⟨note,hn,o,ho,hp,hst⟩:=c.tr.step i hi;rw[SE] at ho;refine⟨note,o,hn,ho,?_⟩;rcases hst with⟨hw,r,e,hm,hnote⟩|⟨hw,hv,hm,hnote⟩
 obtain⟨jc,wc,tc,s,ht⟩:=c.ghost i (by omega)
 obtain⟨v',w',j',s',hv'⟩:=(mF (a:={ tmps:=tc,defers:=[]}) c.hk (s.mr.vc (x:=(M i).next)) ht e).ends
 subst hnote;refine⟨rfl,fun b hb hc=>?_,fun _=>rfl⟩;rw[hm];rcases hc with hc|⟨b',hc,hne⟩|hc
 exact s'.ext.same b hb hc
 exact A6 e hc b hne
 exact(KR hc).symm
 subst hnote;exact⟨rfl,fun b hb _=>by rw[hm],fun h=>by rw[hw] at h; cases h⟩
def Can.keep(c:Can k E n ops j0 w0 T M V ns){i:Nat}{o:Oper}(ho:ops[i]? = some o)(he:aw o.op=false\/bW ops o (T i)=false):∀b,b<(M i).next->(M (i+1)).get b=(M i).get b:=by
 obtain⟨o',ho',_,hk⟩:=c.kind (Sh.1 ho).1;rw[ho] at ho'; cases ho';cases hk with
 | skip _ _ hm=>intro b _; rw[hm]
 | quiet _ _ _ hg _=>exact fun b _=>hg b
 | makes _ _ vb ao _ _ hg _=>intro b hb; rw[hg,UG]
 | effect hw he' _ _ _ =>
  rcases he with he|he
  rw[he] at he'; cases he'
  rw[he] at hw; cases hw
def Can.ck(c:Can k E n ops j0 w0 T M V ns){x y:Nat}(hy:y<=ops.size)(h:x<=y):(M x).next<=(M y).next:=by
 induction y with
 | zero =>
  have:x=0:=by omega
  subst this; exact Sa _
 | succ y ih =>
  rcases S8 y x with hlt|hge
  have:x=y+1:=by omega
  subst this; exact Sa _
  exact SI (ih (by omega) hge) (c.ext (by omega)).next
def Can.Ph(c:Can k E n ops j0 w0 T M V ns){x y:Nat}(hy:y<=ops.size)(h:x<=y):(M y).wl<=(M x).wl:=by
 induction y with
 | zero =>
  have:x=0:=by omega
  subst this; exact Sa _
 | succ y ih =>
  rcases S8 y x with hlt|hge
  have:x=y+1:=by omega
  subst this; exact Sa _
  exact SI (c.ext (by omega)).wl (ih (by omega) hge)
def Can.fH(_:Can k E n ops j0 w0 T M V ns){x y:Nat}(hy:y<=ops.size)(hxy:x<=y){b:Nat}(hb:b<(M x).next)(H:∀z,x<=z->z<y->(M (z+1)).get b=(M z).get b):(M y).get b=(M x).get b:=by
 induction y with
 | zero =>
  have:x=0:=by omega
  subst this; rfl
 | succ y ih =>
  rcases S8 y x with hlt|hge
  have:x=y+1:=by omega
  subst this; rfl
  rw[H y hge (by omega)]
  exact ih (by omega) hge fun z h1 h2=>H z h1 (by omega)
def Made(M:Nat->Vn)(i b:Nat):Prop:=(M i).next<=b/\b<(M (i+1)).next
def Can.vF(c:Can k E n ops j0 w0 T M V ns){i i' b:Nat}(hi:i<ops.size)(hi':i'<ops.size)(h:Made M i b)(h':Made M i' b):i=i':=by
 rcases Nat.lt_trichotomy i i' with hlt|heq|hgt
 have:=c.ck (x:=i+1) (y:=i') (by omega) (by omega)
 have:=h.2; have:=h'.1; omega
 exact heq
 have:=c.ck (x:=i'+1) (y:=i) (by omega) (by omega)
 have:=h'.2; have:=h.1; omega
def so:∀{y:Nat} {b x:Nat},x<=y->(M x).next<=b->b<(M y).next->∃i,x<=i/\i<y/\Made M i b
 | 0,b,x,hx,h1,h2=>by
  have:x=0:=by omega
  subst this; omega
 | y+1,b,x,hx,h1,h2=>by
  rcases S8 b (M y).next with hlt|hge
  rcases S8 y x with hyx|hyx
  have:x=y+1:=by omega
  subst this; omega
  obtain⟨i,a1,a2,a3⟩:=so hyx h1 hlt;exact⟨i,a1,by omega,a3⟩
  rcases S8 y x with hyx|hyx
  have:x=y+1:=by omega
  subst this; omega
  exact⟨y,hyx,by omega,hge,h2⟩
def xf(M:Nat->Vn):Nat->Nat->VA Vp
 | 0,_=>none
 | x+1,b=>if(M x).next<=b/\b<(M (x+1)).next then(M (x+1)).get b else xf M x b
def cont(M:Nat->Vn)(N s b:Nat):VA Vp:=if b<(M s).next then(M s).get b else xf M N b
def nW(M:Nat->Vn)(N s:Nat):Vn:={ next:=(M N).next,wl:=(M N).wl,objs:=.nil,base:=cont M N s}
def cZ(N s b:Nat):(nW M N s).get b=cont M N s b:=by simp[Vn.get,nW,Heap.get_nil]
def Can.born(c:Can k E n ops j0 w0 T M V ns){i b:Nat}(h:Made M i b):∀{x:Nat},x<=ops.size->i<x->xf M x b=(M (i+1)).get b
 | 0,_,hi=>by omega
 | x+1,hx,hi=>by
  simp only[xf]
  split
  rename_i h2;rw[c.vF (i:=i) (i':=x) (by omega) (by omega) h h2]
  rename_i h2;rcases S8 i x with hlt|hge
  exact c.born h (by omega) hlt
  have:i=x:=by omega
  subst this; exact(h2 h).elim
def Can.dj(_:Can k E n ops j0 w0 T M V ns){s b:Nat}(h:b<(M s).next):cont M ops.size s b=(M s).get b:=by simp[cont,h]
def Can.qL(c:Can k E n ops j0 w0 T M V ns){s i b:Nat}(hi:i<ops.size)(h:Made M i b)(hs:(M s).next<=b):cont M ops.size s b=(M (i+1)).get b:=by
 unfold cont;rw[UG]
 exact c.born h (Sa _) hi
def Can.BX(c:Can k E n ops j0 w0 T M V ns){s s':Nat}(hs:s<=s')(hs':s'<=ops.size)(H:∀x,s<=x->x<s'->∀b,b<(M x).next->(M (x+1)).get b=(M x).get b):cont M ops.size s=cont M ops.size s':=by
 funext b
 rcases S8 b (M s).next with h1|h1
 rw[c.dj h1,c.dj (Sk h1 (c.ck hs' hs))];exact(c.fH hs' hs h1 fun z hz hz'=>H z hz hz' b (Sk h1 (c.ck (by omega) hz))).symm
 rcases S8 b (M s').next with h2|h2
 obtain⟨i,a1,a2,a3⟩:=so hs h1 h2;rw[c.qL (by omega) a3 h1,c.dj h2]
 exact(c.fH (x:=i+1) hs' (by omega) a3.2 fun z hz hz'=>H z (by omega) hz' b (Sk a3.2 (c.ck (by omega) hz))).symm
 unfold cont;rw[UG,UG]
structure TD(n:Nat)(ops:VD Oper)(T:Nat->Tm)(V:Nat->Uz)(D:Uy)(j:aP)(tmps:VD Uz):Prop where
 size:tmps.size=n
 done:∀x o d,ops[x]? = some o->D x->o.dst=some d->VR j (V x) (tmps.getD d undef)
 rest:∀d,(∀x o,ops[x]? = some o->D x->o.dst≠some d)->VR j ((T 0).at d) (tmps.getD d undef)
def TD.mono{D:Uy}{j j':aP}{tmps:VD Uz}(h:TD n ops T V D j tmps)(hj:j.le j'):TD n ops T V D j' tmps :=
 ⟨h.size,fun x o d a b c=>(h.done x o d a b c).mono hj,fun d hd=>(h.rest d hd).mono hj⟩
def Can.Ky(c:Can k E n ops j0 w0 T M V ns):∀{i:Nat},i<=ops.size->∀d,(∃x o,x<i/\ops[x]? = some o/\o.dst=some d/\(T i).at d=V x)\/((∀x o,x<i->ops[x]? = some o->o.dst≠some d)/\(T i).at d=(T 0).at d)
 | 0,_,d=>.inr ⟨fun x o h=>by omega,rfl⟩
 | i+1,hi,d=>by
  obtain⟨o,ho,hp,_⟩:=c.kind (i:=i) (by omega)
  unfold kj at hp;cases hd:o.dst with
  | none =>
   rw[hd] at hp;simp only[Option.some.injEq] at hp;rw[<-hp];rcases c.Ky (i:=i) (by omega) d with⟨x,o',h1,h2,h3,h4⟩|⟨h1,h2⟩
   exact .inl ⟨x,o',by omega,h2,h3,h4⟩
   refine .inr ⟨fun x o' hx ho'=>?_,h2⟩;rcases S8 x i with hlt|hge
   exact h1 x o' hlt ho'
   have:x=i:=by omega
   subst this;rw[ho] at ho'; cases ho';rw[hd]; simp
  | some d0 =>
   rw[hd] at hp;simp only at hp
   split at hp
   simp only[Option.some.injEq] at hp;rw[<-hp]
   by_cases hdd:d=d0
   subst hdd;exact .inl ⟨i,o,by omega,ho,hd,by simp[Tm.at,Trie.bp]⟩
   have hat:Tm.at ((T i).set d0 (V i)) d=Tm.at (T i) d:=by simp[Tm.at,Trie.bp,hdd]
   rw[hat];rcases c.Ky (i:=i) (by omega) d with⟨x,o',h1,h2,h3,h4⟩|⟨h1,h2⟩
   exact .inl ⟨x,o',by omega,h2,h3,h4⟩
   refine .inr ⟨fun x o' hx ho'=>?_,h2⟩;rcases S8 x i with hlt|hge
   exact h1 x o' hlt ho'
   have:x=i:=by omega
   subst this;rw[ho] at ho'; cases ho';rw[hd]; simp only[ne_eq,Option.some.injEq]; exact fun h=>hdd h.symm
   cases hp
def Can.Br(c:Can k E n ops j0 w0 T M V ns){i:Nat}{o:Oper}(ho:ops[i]? = some o){d:Tmp}(hd:o.dst=some d):d<n:=by
 obtain⟨o',ho',hp,_⟩:=c.kind (Sh.1 ho).1;rw[ho] at ho'; cases ho';unfold kj at hp;rw[hd] at hp;simp only at hp
 split at hp
 rename_i h; simpa using h
 cases hp
def TD.put{bs:VB Nat}(hO:OrderOk ops bs){D:Uy}{j:aP}{a:Act}{i:Nat}{o:Oper}(h:TD n ops T V D j a.tmps)(ho:ops[i]? = some o)(hn:∀d,o.dst=some d->d<n){v':Uz}(hv:VR j (V i) v') :
  TD n ops T V (fun x=>D x\/x=i) j (a.put o.dst v').tmps:=by
 cases hd:o.dst with
 | none =>
  refine⟨h.size,fun x o' d a1 a2 a3=>?_,fun d hd'=>h.rest d fun x o' a1 a2=>hd' x o' a1 (.inl a2)⟩;rcases a2 with a2|rfl
  exact h.done x o' d a1 a2 a3
  rw[ho] at a1; cases a1; rw[hd] at a3; cases a3
 | some d0 =>
  have hlt:d0<a.tmps.size:=by rw[h.size]; exact hn d0 hd
  have hget:∀d,(a.put (some d0) v').tmps.getD d undef=if d=d0 then v' else a.tmps.getD d undef:=by
   intro d
   show(a.tmps.setIfInBounds d0 v').getD d undef=_
   by_cases hdd:d=d0
   subst hdd; simp[hlt]
   rw[R5 hdd];simp[TK (Ne.symm hdd)]
  refine⟨by rw[<-h.size]; simp[Act.put],fun x o' d a1 a2 a3=>?_,fun d hd'=>?_⟩
  rw[hget]
  by_cases hdd:d=d0
  subst hdd;rw[R7 rfl];have:x=i:=hO.uniq x i o' o d a1 ho a3 hd;subst this; exact hv
  rw[R5 hdd];rcases a2 with a2|rfl
  exact h.done x o' d a1 a2 a3
  rw[ho] at a1; cases a1; rw[hd] at a3; cases a3; exact(hdd rfl).elim
  rw[hget]
  by_cases hdd:d=d0
  subst hdd; exact(hd' i o ho (.inr rfl) hd).elim
  rw[R5 hdd];exact h.rest d fun x o' a1 a2=>hd' x o' a1 (.inl a2)
structure Inv(E:Env)(n:Nat)(ops:VD Oper)(j0:aP)(w0:UD)(T:Nat->Tm)(M:Nat->Vn)(V:Nat->Uz)(ds:VB Deferred)(D:Uy)(s:Nat)(j:aP)(a:Act)(w:UD):Prop where
 le:s<=ops.size
 tmps:TD n ops T V D j a.tmps
 defers:a.defers=ds
 jle:j0.le j
 new:∀b kb,j b=some kb->j0 b=none->∃i,i<ops.size/\D i/\Made M i b
 mr:MR E j (nW M ops.size s) w
 size:w0.heap.size<=w.heap.size
 full:∀i,i<ops.size->D i->∀b,Made M i b->(cont M ops.size s b).isSome=true->∃kb,j b=some kb
 fresh:∀b kb,j b=some kb->j0 b=none->w0.heap.size<=kb.c\/∃b0 k0,j0 b0=some k0/\((M 0).get b0).isSome=true/\k0.c=kb.c/\(M ops.size).wl<=b0
 frame:∀c,c<w0.heap.size->(∀b kb,j0 b=some kb->((M 0).get b).isSome=true->kb.c=c->b<(M ops.size).wl)->w.heap[c]? = w0.heap[c]?
 calm:jt E w0 w
 unt:∀i,i<s->¬D i->∀b,Made M i b->(M s).get b=(M (i+1)).get b
variable{ds:VB Deferred}{D:Nat->Prop}{s:Nat}{j:aP}{a:Act}{w:UD}
def Inv.shift(c:Can k E n ops j0 w0 T M V ns)(h:Inv E n ops j0 w0 T M V ds D s j a w){s':Nat}(hs:s<=s')(hs':s'<=ops.size)(H:∀x,s<=x->x<s'->∀b,b<(M x).next->(M (x+1)).get b=(M x).get b) :
  Inv E n ops j0 w0 T M V ds D s' j a w:=by
 have hc:=c.BX hs hs' H;have hm:nW M ops.size s'=nW M ops.size s:=by simp only[nW,hc]
 refine{ h with le:=hs',mr:=by rw[hm]; exact h.mr,full:=by rw[<-hc]; exact h.full,unt:=fun i hi hD b hb=>?_}
 rcases S8 i s with hlt|hge
 rw[<-h.unt i hlt hD b hb];have hb':b<(M s).next:=Sk hb.2 (c.ck (by omega) hlt)
 exact c.fH hs' hs hb' fun z hz hz'=>H z hz hz' b (Sk hb' (c.ck (by omega) hz))
 exact c.fH hs' (by omega) hb.2 fun z hz hz'=>H z (by omega) hz' b (Sk hb.2 (c.ck (by omega) hz))
def Inv.uh(c:Can k E n ops j0 w0 T M V ns)(h:Inv E n ops j0 w0 T M V ds D s j a w){i b:Nat}(hi:i<ops.size)(hD:¬D i)(hb:Made M i b):j b=none:=by
 cases hj:j b with
 | none=>rfl
 | some kb =>
  cases hj0:j0 b with
  | some k0 =>
   have:=(c.mr.lt b k0 hj0).1;have:=c.ck (x:=0) (y:=i) (by omega) (Tn _)
   have:=hb.1;omega
  | none =>
   obtain⟨i',hi',hD',hb'⟩:=h.new b kb hj hj0;exact Sw (c.vF hi hi' hb hb'▸hD') hD
def Inv.quiet{bs:VB Nat}(hO:OrderOk ops bs)(c:Can k E n ops j0 w0 T M V ns)(h:Inv E n ops j0 w0 T M V ds D s j a w){i:Nat}{o:Oper}(ho:ops[i]? = some o)(hn:(M (i+1)).next=(M i).next){v':Uz}(hv:VR j (V i) v') :
  Inv E n ops j0 w0 T M V ds (fun x=>D x\/x=i) s j (a.put o.dst v') w where
 le:=h.le
 tmps:=h.tmps.put hO ho (fun d hd=>c.Br ho hd) hv
 defers:=by rw[<-h.defers]; cases o.dst<;>rfl
 jle:=h.jle
 new:=fun b kb h1 h2=>let⟨x,a1,a2,a3⟩:=h.new b kb h1 h2;⟨x,a1,.inl a2,a3⟩
 mr:=h.mr
 size:=h.size
 full:=fun x hx hD b hb hl=>by
  rcases hD with hD|rfl
  exact h.full x hx hD b hb hl
  have:=hb.1; have:=hb.2; omega
 fresh:=h.fresh
 frame:=h.frame
 calm:=h.calm
 unt:=fun x hx hD b hb=>h.unt x hx (fun hd=>hD (.inl hd)) b hb
def Inv.makes{bs:VB Nat}(hO:OrderOk ops bs)(c:Can k E n ops j0 w0 T M V ns)(h:Inv E n ops j0 w0 T M V ds D s j a w){i:Nat}{o:Oper}(ho:ops[i]? = some o)(hD:¬D i){ao:Vp}(hn:(M (i+1)).next=(M i).next+1)
  (hg:(M (i+1)).get (M i).next=some ao) {co:Obj} (hor:OR j ⟨w.heap.size,none⟩ ao co) {v':Uz} (hv:VR (j.set (M i).next ⟨w.heap.size,none⟩) (V i) v') :
  Inv E n ops j0 w0 T M V ds (fun x=>D x\/x=i) s (j.set (M i).next ⟨w.heap.size,none⟩) (a.put o.dst v') (w.alloc co):=by
 have hi:i<ops.size:=(Sh.1 ho).1;have hmade:Made M i (M i).next:=⟨Sa _,by omega⟩
 have hnone:j (M i).next=none:=h.uh c hi hD hmade
 have hle:j.le (j.set (M i).next ⟨w.heap.size,none⟩):=aP.oK _ hnone
 have hcont:cont M ops.size s (M i).next=some ao:=by
  rcases S8 i s with hlt|hge
  rw[c.dj (Sk hmade.2 (c.ck h.le hlt)),h.unt i hlt hD _ hmade,hg]
  rw[c.qL hi hmade (c.ck (by omega) hge),hg]
 have hheap:∀x,x<w.heap.size->(w.alloc co).heap[x]? = w.heap[x]?:=fun x hx=>by
  show(w.heap.push co)[x]? = w.heap[x]?
  rw[TT,UG]
 have hnew:(w.alloc co).heap[w.heap.size]? = some co:=World.alloc_heap_new w co;have hcase:∀b kb,(j.set (M i).next ⟨w.heap.size,none⟩) b=some kb->(b=(M i).next/\kb=⟨w.heap.size,none⟩)\/(b≠(M i).next/\j b=some kb):=by
  intro b kb hb
  by_cases hbx:b=(M i).next
  subst hbx; rw[aP.cd] at hb; cases hb; exact .inl ⟨rfl,rfl⟩
  rw[aP.bS _ _ hbx] at hb; exact .inr ⟨hbx,hb⟩
 refine⟨h.le,(h.tmps.mono hle).put hO ho (fun d hd=>c.Br ho hd) hv,by rw[<-h.defers]; cases o.dst<;>rfl,h.jle.trans hle,?_,⟨?_,?_,?_,?_⟩,?_,?_,?_,?_,h.calm,fun x hx hDx b hb=>h.unt x hx (fun hd=>hDx (.inl hd)) b hb⟩
 intro b kb hb hb0;rcases hcase b kb hb with⟨rfl,rfl⟩|⟨_,hj⟩
 exact⟨i,hi,.inr rfl,hmade⟩
 obtain⟨x,a1,a2,a3⟩:=h.new b kb hj hb0;exact⟨x,a1,.inl a2,a3⟩
 intro b kb hb;rcases hcase b kb hb with⟨rfl,rfl⟩|⟨_,hj⟩
 exact⟨Sk hmade.2 (c.ck (Sa _) hi),by rw[World.size_alloc]; exact T3 _⟩
 exact⟨(h.mr.lt b kb hj).1,by rw[World.size_alloc]; exact Nat.lt_succ_of_lt (h.mr.lt b kb hj).2⟩
 intro b o1 kb hg1 hb;rcases hcase b kb hb with⟨rfl,rfl⟩|⟨_,hj⟩
 rw[cZ,hcont] at hg1; cases hg1;exact⟨co,hnew,hor.mono hle⟩
 obtain⟨o',h1,h2⟩:=h.mr.obj b o1 kb hg1 hj;exact⟨o',by rw[hheap _ (h.mr.lt b kb hj).2]; exact h1,h2.mono hle⟩
 intro b b' kb kb' hb hb' hl hl' he;rcases hcase b kb hb with⟨rfl,rfl⟩|⟨_,hj⟩<;>rcases hcase b' kb' hb' with⟨rfl,rfl⟩|⟨_,hj'⟩
 rfl
 have:=(h.mr.lt b' kb' hj').2;simp only at he; omega
 have:=(h.mr.lt b kb hj).2;simp only at he; omega
 exact h.mr.inj b b' kb kb' hj hj' hl hl' he
 intro g hgl;exact hle g _ (h.mr.glob g hgl)
 rw[World.size_alloc]; exact Nat.le_succ_of_le h.size
 intro x hx hDx b hb hl;rcases hDx with hDx|rfl
 obtain⟨kb,hkb⟩:=h.full x hx hDx b hb hl;exact⟨kb,hle b kb hkb⟩
 have hbx:b=(M x).next:=by have:=hb.1; have:=hb.2; omega
 subst hbx;exact⟨_,aP.cd _ _ _⟩
 intro b kb hb hb0;rcases hcase b kb hb with⟨rfl,rfl⟩|⟨_,hj⟩
 exact .inl h.size
 exact h.fresh b kb hj hb0
 intro x hx H;rw[hheap x (Sk hx h.size)];exact h.frame x hx H
def Inv.Qb(c:Can k E n ops j0 w0 T M V ns){e:Nat}(he:e<=ops.size)(h:Inv E n ops j0 w0 T M V ds D e j a w){x:Nat}:MR E (j.below (M e).next) { M e with wl:=x} w:=by
 obtain⟨jc,wc,tc,sg,_⟩:=c.ghost e he;have hcdom:∀b kb,jc b=some kb->b<(M e).next:=fun b kb hb=>(sg.mr.lt b kb hb).1
 refine⟨fun b kb hb=>?_,fun b o kb hg hb=>?_,fun b b' kb kb' hb hb' hl hl' hc=>?_,fun g hg=>?_⟩
 obtain⟨h1,h2⟩:=aP.bu.1 hb;exact⟨h1,(h.mr.lt b kb h2).2⟩
 ·obtain⟨h1,h2⟩:=aP.bu.1 hb;have hg':(M e).get b=some o:=hg;obtain⟨o',h3,h4⟩:=h.mr.obj b o kb (by rw[cZ,c.dj h1]; exact hg') h2
  refine⟨o',h3,?_⟩;obtain⟨kc,hkc⟩:∃kc,jc b=some kc:=by
   cases hj0:j0 b with
   | some k0=>exact⟨k0,sg.le b k0 hj0⟩
   | none =>
    obtain⟨i,hi,_,hm⟩:=h.new b kb h2 hj0;have:=c.ck (x:=0) (y:=i) (by omega) (Tn _)
    exact sg.full b (SI this hm.1) h1 (by rw[hg']; rfl)
  obtain⟨o2,_,h6⟩:=sg.mr.obj b o kc hg' hkc;exact h4.cut hcdom h6
 obtain⟨h1,h2⟩:=aP.bu.1 hb;obtain⟨h1',h2'⟩:=aP.bu.1 hb';refine h.mr.inj b b' kb kb' h2 h2' ?_ ?_ hc
 rw[cZ,c.dj h1]; exact hl
 rw[cZ,c.dj h1']; exact hl'
 refine aP.bu.2 ⟨?_,h.mr.glob g hg⟩;exact Sk (c.mr.lt g _ (c.mr.glob g hg)).1 (c.ck he (Tn _))
def aP.over(j' j:aP)(y:Nat):aP:=fun b=>if b<y then j' b else j b
def Inv.effect{bs:VB Nat}(hO:OrderOk ops bs)(c:Can k E n ops j0 w0 T M V ns){e:Nat}(h:Inv E n ops j0 w0 T M V ds D e j a w){o:Oper}(ho:ops[e]? = some o)(hD:¬D e){r:Vn}(hm:M (e+1) ={ r with wl:=min (M e).wl r.wl})
  {j':aP} {w':UD} (sm:Sim E (j.below (M e).next) { M e with wl:=(M e).next} w j' r w') {v':Uz} (hv:VR j' (V e) v') :
  Inv E n ops j0 w0 T M V ds (fun x=>D x\/x=e) (e+1) (j'.over j (M (e+1)).next) (a.put o.dst v') w':=by
 have hi:e<ops.size:=(Sh.1 ho).1;have hrn:r.next=(M (e+1)).next:=by rw[hm]
 have hrg:∀b,r.get b=(M (e+1)).get b:=fun b=>by rw[hm]; rfl
 have hrw:(M ops.size).wl<=r.wl:=by
  have h1:=c.Ph (x:=e+1) (y:=ops.size) (Sa _) hi;have h2:(M (e+1)).wl=min (M e).wl r.wl:=by rw[hm]
  omega
 have hnx:(M e).next<=(M (e+1)).next:=(c.ext hi).next
 have hjlow:∀b kb,j b=some kb->b<(M e).next\/(M (e+1)).next<=b:=by
  intro b kb hb;rcases S8 b (M e).next with h1|h1
  exact .inl h1
  rcases S8 b (M (e+1)).next with h2|h2
  rw[h.uh c hi hD ⟨h1,h2⟩] at hb; cases hb
  exact .inr h2
 have hj'lt:∀b kb,j' b=some kb->b<(M (e+1)).next:=fun b kb hb=>hrn ▸(sm.mr.lt b kb hb).1
 have hle':j'.le (j'.over j (M (e+1)).next):=fun b kb hb=>by
  unfold aP.over; rw[R7 (hj'lt b kb hb)]; exact hb
 have hlej:j.le (j'.over j (M (e+1)).next):=fun b kb hb=>by
  rcases hjlow b kb hb with h1|h1
  exact hle' b kb (sm.le b kb (aP.bu.2 ⟨h1,hb⟩))
  unfold aP.over; rw[UG]; exact hb
 have hcase:∀b kb,(j'.over j (M (e+1)).next) b=some kb->(b<(M (e+1)).next/\j' b=some kb)\/((M (e+1)).next<=b/\j b=some kb):=by
  intro b kb hb;unfold aP.over at hb
  split at hb
  exact .inl ⟨by assumption,hb⟩
  exact .inr ⟨by omega,hb⟩
 have hsplit:∀b kb,j' b=some kb->(j.below (M e).next b=some kb)\/(Made M e b/\j.below (M e).next b=none):=by
  intro b kb hb;cases hj:j.below (M e).next b with
  | some k0=>have:=sm.le b k0 hj; rw[hb] at this; cases this; exact .inl rfl
  | none=>exact .inr ⟨⟨sm.new b kb hb hj,hj'lt b kb hb⟩,rfl⟩
 have hcold:∀b,b<(M (e+1)).next->cont M ops.size (e+1) b=r.get b:=fun b hb=>by rw[c.dj hb,hrg]
 have hcnew:∀b,(M (e+1)).next<=b->cont M ops.size (e+1) b=cont M ops.size e b:=fun b hb=>by
  unfold cont; rw[UG,UG]
 have halive:∀b kb,j.below (M e).next b=some kb->(r.get b).isSome=true->((M e).get b).isSome=true:=by
  intro b kb hb hl;cases hg:(M e).get b with
  | some _=>rfl
  | none =>
   have:=sm.ext.dead b (aP.bu.1 hb).1 hg;rw[this] at hl; cases hl
 have hmemlow:∀b,b<(M e).next->(nW M ops.size e).get b=(M e).get b:=fun b hb=>by rw[cZ,c.dj hb]
 have hcross:∀b b' kb kb',b<(M (e+1)).next->j' b=some kb->(M (e+1)).next<=b'->j b'=some kb'->(r.get b).isSome=true->(cont M ops.size e b').isSome=true->kb.c≠kb'.c:=by
  intro b b' kb kb' h1 h2 h3 h4 hl hl' he;have old:∀b0 k0,j.below (M e).next b0=some k0->((M e).get b0).isSome=true->k0.c=kb'.c->False:=by
   intro b0 k0 hb0 hl0 he0;obtain⟨a1,a2⟩:=aP.bu.1 hb0;have:=h.mr.inj b0 b' k0 kb' a2 h4 (by rw[hmemlow b0 a1]; exact hl0) (by rw[cZ]; exact hl') he0
   omega
  rcases hsplit b kb h2 with hs|⟨hs,hs0⟩
  exact old b kb hs (halive b kb hs hl) he
  rcases sm.fresh b kb h2 hs0 with hf|⟨b0,k0,a1,a2,a3,a4⟩
  have:=(h.mr.lt b' kb' h4).2;omega
  exact old b0 k0 a1 a2 (a3.trans he)
 have hframe:∀b' kb',(M (e+1)).next<=b'->j b'=some kb'->(cont M ops.size e b').isSome=true->w'.heap[kb'.c]? = w.heap[kb'.c]?:=by
  intro b' kb' h3 h4 hl';refine sm.frame kb'.c (h.mr.lt b' kb' h4).2 fun b0 k0 hb0 hl0 he0=>?_;obtain⟨a1,a2⟩:=aP.bu.1 hb0;have:=h.mr.inj b0 b' k0 kb' a2 h4 (by rw[hmemlow b0 a1]; exact hl0) (by rw[cZ]; exact hl') he0
  omega
 refine⟨hi,((h.tmps.mono hlej).put hO ho (fun d hd=>c.Br ho hd) (hv.mono hle')),by rw[<-h.defers]; cases o.dst<;>rfl,h.jle.trans hlej,?_,⟨?_,?_,?_,fun g hg=>hlej g _ (h.mr.glob g hg)⟩,SI h.size sm.size,?_,?_,?_,jt.trans h.calm sm.calm,?_⟩
 intro b kb hb hb0;rcases hcase b kb hb with⟨_,h2⟩|⟨_,h2⟩
 rcases hsplit b kb h2 with hs|⟨hs,_⟩
 obtain⟨x,a1,a2,a3⟩:=h.new b kb (aP.bu.1 hs).2 hb0;exact⟨x,a1,.inl a2,a3⟩
 exact⟨e,hi,.inr rfl,hs⟩
 obtain⟨x,a1,a2,a3⟩:=h.new b kb h2 hb0;exact⟨x,a1,.inl a2,a3⟩
 intro b kb hb;rcases hcase b kb hb with⟨h1,h2⟩|⟨h1,h2⟩
 exact⟨Sk h1 (c.ck (Sa _) hi),(sm.mr.lt b kb h2).2⟩
 exact⟨(h.mr.lt b kb h2).1,Sk (h.mr.lt b kb h2).2 sm.size⟩
 intro b o1 kb hg1 hb;rw[cZ] at hg1;rcases hcase b kb hb with⟨h1,h2⟩|⟨h1,h2⟩
 rw[hcold b h1] at hg1;obtain⟨o',a1,a2⟩:=sm.mr.obj b o1 kb hg1 h2;exact⟨o',a1,a2.mono hle'⟩
 rw[hcnew b h1] at hg1;obtain⟨o',a1,a2⟩:=h.mr.obj b o1 kb (by rw[cZ]; exact hg1) h2
 exact⟨o',by rw[hframe b kb h1 h2 (by rw[hg1]; rfl)]; exact a1,a2.mono hlej⟩
 intro b b' kb kb' hb hb' hl hl' he;rw[cZ] at hl hl';rcases hcase b kb hb with⟨h1,h2⟩|⟨h1,h2⟩<;>rcases hcase b' kb' hb' with⟨h1',h2'⟩|⟨h1',h2'⟩
 exact sm.mr.inj b b' kb kb' h2 h2' (by rw[<-hcold b h1]; exact hl) (by rw[<-hcold b' h1']; exact hl') he
 exact(hcross b b' kb kb' h1 h2 h1' h2' (by rw[<-hcold b h1]; exact hl) (by rw[<-hcnew b' h1']; exact hl') he).elim
 exact(hcross b' b kb' kb h1' h2' h1 h2 (by rw[<-hcold b' h1']; exact hl') (by rw[<-hcnew b h1]; exact hl) he.symm).elim
 exact h.mr.inj b b' kb kb' h2 h2' (by rw[cZ,<-hcnew b h1]; exact hl) (by rw[cZ,<-hcnew b' h1']; exact hl') he
 ·intro x hx hDx b hb hl;rcases hDx with hDx|rfl
  ·have hold:(cont M ops.size e b).isSome=true:=by
    rcases S8 b (M (e+1)).next with h1|h1
    ·rw[hcold b h1] at hl;have hxe:x≠e:=fun hxe=>hD (hxe▸hDx);have hxlt:x<e:=by
      rcases S8 x e with hlt|hge
      exact hlt
      have:=c.ck (x:=e+1) (y:=x) (by omega) (by omega)
      have:=hb.1; omega
     have hb2:b<(M e).next:=Sk hb.2 (c.ck (by omega) hxlt)
     rw[c.dj hb2];cases hg:(M e).get b with
     | some _=>rfl
     | none =>
      have:=sm.ext.dead b hb2 hg;rw[this] at hl; cases hl
    rw[<-hcnew b h1]; exact hl
   obtain⟨kb,hkb⟩:=h.full x hx hDx b hb hold;exact⟨kb,hlej b kb hkb⟩
  rw[hcold b hb.2] at hl;obtain⟨kb,hkb⟩:=sm.full b hb.1 (by rw[hrn]; exact hb.2) hl
  exact⟨kb,hle' b kb hkb⟩
 ·
  have freshOf:∀b0 k0,j.below (M e).next b0=some k0->((M e).get b0).isSome=true->(M ops.size).wl<=b0->w0.heap.size<=k0.c\/∃b1 k1,j0 b1=some k1/\((M 0).get b1).isSome=true/\k1.c=k0.c/\(M ops.size).wl<=b1:=by
   intro b0 k0 hb0 hl0 hw;have hb0':=(aP.bu.1 hb0).2;cases hj0:j0 b0 with
   | some k1 =>
    have:=h.jle b0 k1 hj0;rw[hb0'] at this; cases this;refine .inr ⟨b0,k0,hj0,?_,rfl,hw⟩;obtain⟨jc,wc,tc,sg,_⟩:=c.ghost e (by omega)
    cases hg:(M 0).get b0 with
    | some _=>rfl
    | none =>
     have:=sg.ext.dead b0 (c.mr.lt b0 k0 hj0).1 hg;rw[this] at hl0; cases hl0
   | none=>exact h.fresh b0 k0 hb0' hj0
  intro b kb hb hb0;rcases hcase b kb hb with⟨_,h2⟩|⟨_,h2⟩
  rcases hsplit b kb h2 with hs|⟨_,hs0⟩
  exact h.fresh b kb (aP.bu.1 hs).2 hb0
  rcases sm.fresh b kb h2 hs0 with hf|⟨b0,k0,a1,a2,a3,a4⟩
  exact .inl (SI h.size hf)
  rcases freshOf b0 k0 a1 a2 (SI hrw a4) with hf|⟨b1,k1,c1,c2,c3,c4⟩
  exact .inl (a3▸hf)
  exact .inr ⟨b1,k1,c1,c2,c3.trans a3,c4⟩
  exact h.fresh b kb h2 hb0
 ·intro x hx H;rw[<-h.frame x hx H];refine sm.frame x (Sk hx h.size) fun b0 k0 hb0 hl0 he0=>?_;have hb0':=(aP.bu.1 hb0).2;cases hj0:j0 b0 with
  | some k1 =>
   have:=h.jle b0 k1 hj0;rw[hb0'] at this; cases this;refine Sk (H b0 k0 hj0 ?_ he0) hrw;obtain⟨jc,wc,tc,sg,_⟩:=c.ghost e (by omega)
   cases hg:(M 0).get b0 with
   | some _=>rfl
   | none =>
    have hl0':((M e).get b0).isSome=true:=hl0;have:=sg.ext.dead b0 (c.mr.lt b0 k0 hj0).1 hg;rw[this] at hl0'; cases hl0'
  | none =>
   rcases h.fresh b0 k0 hb0' hj0 with hf|⟨b1,k1,c1,c2,c3,c4⟩
   omega
   have:=H b1 k1 c1 c2 (c3.trans he0);omega
 ·intro x hx hDx b hb;have hDx':¬D x:=fun hd=>hDx (.inl hd);rcases S8 x e with hlt|hge
  ·have hb2:b<(M e).next:=Sk hb.2 (c.ck (by omega) hlt)
   rw[<-h.unt x hlt hDx' b hb,<-hrg];refine sm.away b hb2 ?_;cases hj:j.below (M e).next b with
   | none=>rfl
   | some kb =>
    have:=(aP.bu.1 hj).2;rw[h.uh c (by omega) hDx' hb] at this; cases this
  exact Sw (by omega:x=e) (fun hxe=>hDx (.inr hxe))
structure Ready(ops:VD Oper)(bs:VB Nat)(D:Uy)(i:Nat)(o:Oper):Prop where
 op:ops[i]? = some o
 out:¬D i
 edges:∀e∈cF o,D e
 closed:∀j o,ops[j]? = some o->D j->∀e∈cF o,D e
def Ready.before{bs:VB Nat}(hO:OrderOk ops bs){i:Nat}{o:Oper}(hr:Ready ops bs D i o){x:Nat}(hx:x<i)(hb:CN bs x i):D x:=Gp hO hr.closed i o hr.op hr.edges x hx hb
def Ready.behind{bs:VB Nat}(hO:OrderOk ops bs){i:Nat}{o:Oper}(hr:Ready ops bs D i o){x:Nat}{ox:Oper}(hox:ops[x]? = some ox)(hx:i<x)(hD:D x):¬CN bs i x:=fun hb =>
 hr.out (Gp hO hr.closed x ox hox (hr.closed x ox hox hD) i hx hb)
def Ready.looked{bs:VB Nat}(hO:OrderOk ops bs)(c:Can k E n ops j0 w0 T M V ns){i:Nat}{o:Oper}(hr:Ready ops bs D i o){tmps:VD Uz}(h:TD n ops T V D j tmps):∀d∈looks ops o,VR j ((T i).at d) (tmps.getD d undef):=by
 intro d hd;have hi:i<ops.size:=(Sh.1 hr.op).1;have seen:∀x ox,x<i->ops[x]? = some ox->ox.dst=some d->D x:=by
  intro x ox hx hox hdx
  by_cases hb:CN bs x i
  exact hr.before hO hx hb
  exact((mA (hO.apart x i ox o hx hox hr.op hb)).1 d hdx hd).elim
 rcases c.Ky (i:=i) (by omega) d with⟨x,ox,h1,h2,h3,h4⟩|⟨h1,h2⟩
 rw[h4];exact h.done x ox d h2 (seen x ox h1 h2 h3) h3
 rw[h2];refine h.rest d fun x ox hox hDx hdx=>?_;rcases Nat.lt_trichotomy x i with hlt|heq|hgt
 exact h1 x ox hlt hox hdx
 subst heq; exact hr.out hDx
 have hnb:=hr.behind hO hox hgt hDx;exact(mA (hO.apart i x o ox hgt hr.op hox hnb)).2.1 d hdx hd
def re{bs:VB Nat}{i j:Nat}{a b:Oper}(hij:i<j)(ha:ops[i]? = some a)(hb:ops[j]? = some b)(hn:¬CN bs i j)(hc:clash a b=true):(i,j)∈nT ops bs:=by
 have hj:j<ops.size:=(Sh.1 hb).1;simp only[nT,SR,SM,Sy,List.mem_filter,R9,Td];refine⟨j,hj,i,⟨hij,?_,?_⟩,rfl⟩
 unfold CN at hn
 simpa using hn
 rw[dy ha,dy hb]; exact hc
def Inv.reads{bs:VB Nat}(hO:OrderOk ops bs)(c:Can k E n ops j0 w0 T M V ns)(hpairs:(nT ops bs).all (dM ns ops)=true)(hnote:ns.all fG=true)(h:Inv E n ops j0 w0 T M V ds D s j a w)
  (heff:∀x o,ops[x]? = some o->aw o.op=true->(D x↔x<s)) {i:Nat} {o:Oper} (hr:Ready ops bs D i o) (hw:bW ops o (T i)=true) (_:aw o.op=false) {b:Nat} (hb:aL E (T i) o.op=some b) :
  cont M ops.size s b=(M i).get b:=by
 have hi:i<ops.size:=(Sh.1 hr.op).1;obtain⟨ni,o',hn1,ho',hn2,hn3,hn4⟩:=c.note hi;rw[hr.op] at ho'; cases ho';have hread:ni.read=some b:=by rw[hn4 hw,hb]
 have hblt:b<(M i).next:=by
  have:=Sp.1 hnote ni (SA hn1);unfold fG at this;rw[hread] at this;rw[<-hn2]; simpa using this
 have hrd:qb o.op=true:=uM hb;have okOf:∀x nx,ns[x]? = some nx->Note.ok ni nx=true->b<(M x).next->x<ops.size->(M (x+1)).get b=(M x).get b:=by
  intro x nx hnx hok hbx hx;obtain⟨nx',ox,g1,g2,g3,g4,g5⟩:=c.note hx;rw[hnx] at g1; cases g1;refine g4 b hbx ?_;unfold Note.ok at hok;rw[hread] at hok;simp only[Tv,Sj] at hok;rcases hok with((hok|hok)|hok)|hok
  exact .inl hok
  rw[g3] at hok; omega
  split at hok
  rename_i b' hb';exact .inr (.inl ⟨b',hb',by simpa using hok⟩)
  cases hok
  exact .inr (.inr hok)
 have pairAt:∀x y,(x,y)∈nT ops bs->∃nx ny,ns[x]? = some nx/\ns[y]? = some ny/\(aw (ops.getD y default).op=true->Note.ok nx ny=true)/\(aw (ops.getD x default).op=true->Note.ok ny nx=true):=by
  intro x y hxy;have:=Sp.1 hpairs _ hxy;unfold dM at this
  split at this
  rename_i nx ny g1 g2;simp only[R9,Tv,Td] at this;exact⟨nx,ny,g1,g2,fun he=>this.1.resolve_left (fun hf=>Sw (he.symm.trans hf) (by simp)),fun he=>this.2.resolve_left (fun hf=>Sw (he.symm.trans hf) (by simp))⟩
  cases this
 have stepOk:∀x,x<ops.size->b<(M x).next->((x<i/\¬x<s)\/(i<=x/\x<s))->(M (x+1)).get b=(M x).get b:=by
  intro x hx hbx hcase;obtain⟨ox,hox⟩:∃ox,ops[x]? = some ox:=⟨ops[x],by simp[hx]⟩
  cases hex:aw ox.op with
  | false=>exact c.keep hox (.inl hex) b hbx
  | true =>
   rcases hcase with⟨h1,h2⟩|⟨h1,h2⟩
   have hnD:¬D x:=fun hd=>h2 ((heff x ox hox hex).1 hd);have hnb:¬CN bs x i:=fun hb=>hnD (hr.before hO h1 hb);obtain⟨nx,ny,g1,g2,g3,g4⟩:=pairAt x i (re h1 hox hr.op hnb (by simp[clash,hex,hrd]))
   rw[hn1] at g2; cases g2;exact okOf x nx g1 (g4 (by rw[dy hox]; exact hex)) hbx hx
   have hD:D x:=(heff x ox hox hex).2 h2;have hxi:i≠x:=fun he=>hr.out (he▸hD);have hnb:=hr.behind hO hox (by omega) hD
   obtain⟨nx,ny,g1,g2,g3,g4⟩:=pairAt i x (re (by omega) hr.op hox hnb (by simp[clash,hex,hrd]))
   rw[hn1] at g1; cases g1;exact okOf x ny g2 (g3 (by rw[dy hox]; exact hex)) hbx hx
 rcases S8 i s with his|his
 have hbs:b<(M s).next:=Sk hblt (c.ck h.le (by omega))
 rw[c.dj hbs];exact c.fH h.le (by omega) hblt fun z h1 h2=>stepOk z (by have:=h.le; omega) (Sk hblt (c.ck (by have:=h.le; omega) h1)) (.inr ⟨h1,h2⟩)
 rcases S8 b (M s).next with h1|h1
 rw[c.dj h1];exact(c.fH (by omega) his h1 fun z h2 h3=>stepOk z (by omega) (Sk h1 (c.ck (by omega) h2)) (.inl ⟨h3,by omega⟩)).symm
 obtain⟨x,a1,a2,a3⟩:=so his h1 hblt;rw[c.qL (by omega) a3 h1]
 exact(c.fH (x:=x+1) (by omega) (by omega) a3.2 fun z h2 h3=>stepOk z (by omega) (Sk a3.2 (c.ck (by omega) h2)) (.inl ⟨h3,by omega⟩)).symm
def tW{m:Vn}{t:Tm}{o:Oper}(h:MR E j m w)(ht:∀d∈tmpsOf o.op.operands.toList,VR j (t.at d) (a.tmps.getD d undef)){v:Uz}{m':Vn}(e:fj E t m o.op=some (v,m'))(hne:aw o.op=false) :
  (m'=m/\∃v',lS E.P (execOp a.eval o) v' w w/\VR j v v') \/
  (∃(ao:Vp) (co:Obj) (vb:Nat->Uz) (v':Uz),lS E.P (execOp a.eval o) v' w (w.alloc co)/\OR j ⟨w.heap.size,none⟩ ao co/\(∀(j':aP) (b:Nat),j' b=some ⟨w.heap.size,none⟩->VR j' (vb b) v') /\
   ∀m2:Vn,fj E t m2 o.op=some (vb m2.next,m2.alloc ao)):=by
 have hT:TR (lL a.tmps (tmpsOf o.op.operands.toList)).size j (rl t (tmpsOf o.op.operands.toList)) ({ tmps:=lL a.tmps (tmpsOf o.op.operands.toList),defers:=a.defers}:Act).tmps:=by
  refine⟨rfl,fun d=>?_⟩
  show VR j _ ((lL a.tmps _).getD d undef)
  rw[mZ,ln]
  split
  rename_i hd; exact ht d hd
  exact VR.undef j
 have hev:∀x∈o.op.operands.toList,al E (rl t (tmpsOf o.op.operands.toList)) x=al E t x:=by
  intro x hx;cases x with
  | tmp d=>simp only[al,mZ,R7 (jw.2 hx)]
  | _=>rfl
 have hex:execOp ({ tmps:=lL a.tmps (tmpsOf o.op.operands.toList),defers:=a.defers}:Act).eval o=execOp a.eval o:=by
  refine execOp_congr o (fun cs b hs=>?_) fun x hx=>?_
  rw[hs] at e; simp[fj] at e
  ·cases x with
   | tmp d =>
    show(lL a.tmps _).getD d undef=a.tmps.getD d undef
    rw[ln,R7 (jw.2 (by simpa using hx))]
   | _=>rfl
 rcases xM h hT ((qe hev).trans e) with⟨h1,_,v',h2,h3⟩|⟨ao,co,vb,v',_,_,h2,h3,h4,h5⟩|⟨h1,_⟩
 rw[hex] at h2;exact .inl ⟨h1,v',h2,h3⟩
 rw[hex] at h2;exact .inr ⟨ao,co,vb,v',h2,h3,h4,fun m2=>(qe hev).symm.trans (h5 m2)⟩
 rw[hne] at h1; cases h1
def y7{listed:VD Bool}{o:Oper}(h:∀e∈o.after,Region.binds .any e=true->listed.getD e.on false=true):∀e∈cF o,listed.getD e false=true:=by
 intro e he;unfold cF at he;obtain⟨x,hx,hxe⟩:=List.mem_filterMap.1 he
 split at hxe
 rename_i hb;cases hxe;exact h x (by simpa using hx) hb
 cases hxe
def yN{listed:VD Bool}{o:Oper}(h:∀e∈cF o,listed.getD e false=true):∀e∈o.after,Region.binds .any e=true->listed.getD e.on false=true:=by
 intro e he hb;exact h e.on (List.mem_filterMap.2 ⟨e,by simpa using he,by rw[R7 hb]⟩)
def outs(listed:VD Bool)(N:Nat):Nat:=((List.range N).filter fun i=>!listed.getD i false).length
def filter_lt{l:VB Nat}{p q:Nat->Bool}(h:∀x,q x=true->p x=true):(l.filter q).length<=(l.filter p).length:=by
 induction l with
 | nil=>simp
 | cons x l ih =>
  simp only[List.filter_cons];cases hq:q x with
  | true=>simp[h x hq,ih]
  | false=>cases p x<;>simp<;>omega
def AS{l:VB Nat}{p q:Nat->Bool}(h:∀x,q x=true->p x=true){y:Nat}(hy:y∈l)(hp:p y=true)(hq:q y=false):(l.filter q).length<(l.filter p).length:=by
 induction l with
 | nil=>simp at hy
 | cons x l ih =>
  simp only[List.filter_cons];rcases Sr.1 hy with rfl|hy
  have:=filter_lt (l:=l) h;simp[hp,hq]; omega
  ·have:=ih hy;cases hqx:q x with
   | true=>simp[h x hqx,this]
   | false=>cases p x<;>simp<;>omega
def uk{listed:VD Bool}{i:Nat}(hi:i<listed.size)(x:Nat):(listed.setIfInBounds i true).getD x false=true↔(listed.getD x false=true\/x=i):=by
 by_cases hx:i=x
 subst hx; simp[hi]
 rw[getD_set_ne false hx];constructor
 exact .inl
 rintro(h|h)
 exact h
 exact(hx h.symm).elim
def GX{listed:VD Bool}{N i:Nat}(hs:listed.size=N)(hi:i<N)(h:listed.getD i false=false):outs (listed.setIfInBounds i true) N<outs listed N:=by
 refine AS (y:=i) (fun x hx=>?_) (SM.2 hi) (by simp[h]) ?_
 ·simp only[Td] at hx ⊢;cases hl:listed.getD x false with
  | false=>rfl
  | true=>rw[(uk (by omega) x).2 (.inl hl)] at hx; cases hx
 simp only[Bool.not_eq_false'];exact(uk (by omega) i).2 (.inr rfl)
def DU{listed:VD Bool}{N:Nat}(h:outs listed N=0):∀i,i<N->listed.getD i false=true:=by
 intro i hi;unfold outs at h;have:=SL.1 h;have:=(List.filter_eq_nil_iff.1 this) i (SM.2 hi)
 simpa using this
def Inv.congr{D':Uy}(h:Inv E n ops j0 w0 T M V ds D s j a w)(e:∀x,D x↔D' x):Inv E n ops j0 w0 T M V ds D' s j a w:=by
 have:D=D':=funext fun x=>propext (e x);rw[<-this]; exact h
def Nq{bs:VB Nat}(hO:OrderOk ops bs)(c:Can k E n ops j0 w0 T M V ns)(hpairs:(nT ops bs).all (dM ns ops)=true)(hnote:ns.all fG=true){F:Fence}(hF:lD F){Q:Exit->Act->UD->Prop}
  (hQ:∀j' w' a',Sim E j0 (M 0) w0 j' (M ops.size) w'->TR n j' (T ops.size) a'.tmps->a'.defers=ds->Q .normal a' w') :
  ∀(fuel:Nat) (listed:VD Bool) (s:Nat) (j:aP) (a:Act) (w:UD),listed.size=ops.size->outs listed ops.size<=fuel->(∀x o,ops[x]? = some o->listed.getD x false=true->∀e∈cF o,listed.getD e false=true) ->
   Inv E n ops j0 w0 T M V ds (fun x=>listed.getD x false=true) s j a w->(∀x o,ops[x]? = some o->aw o.op=true->(listed.getD x false=true↔x<s)) ->
   wpAnyIn F 0 E.P .any ops Q fuel listed a w:=by
 have fin:∀(listed:VD Bool) (s:Nat) (j:aP) (a:Act) (w:UD),(∀i,i<ops.size->listed.getD i false=true)->Inv E n ops j0 w0 T M V ds (fun x=>listed.getD x false=true) s j a w ->
   (∀x o,ops[x]? = some o->aw o.op=true->(listed.getD x false=true↔x<s))->Q .normal a w:=by
  intro listed s j a w hall hinv heff;have hx:=hinv.shift c (s':=ops.size) hinv.le (Sa _) fun x h1 h2 b hb=>by
   obtain⟨ox,hox⟩:∃ox,ops[x]? = some ox:=⟨ops[x],by simp[h2]⟩
   refine c.keep hox (.inl ?_) b hb;cases he:aw ox.op with
   | false=>rfl
   | true=>have:=(heff x ox hox he).1 (hall x h2); omega
  obtain⟨jc,wc,tc,sg,_⟩:=c.ghost ops.size (Sa _);have hmem:∀b,b<(M ops.size).next->(nW M ops.size ops.size).get b=(M ops.size).get b:=fun b hb=>by rw[cZ,c.dj hb]
  refine hQ j w a ⟨sg.ext,hx.jle,fun b kb h1 h2=>?_,⟨fun b kb hb=>hx.mr.lt b kb hb,fun b o kb hg hb=>?_,fun b b' kb kb' hb hb' hl hl' he=>?_,hx.mr.glob⟩,hx.size,fun b h1 h2 hl=>?_,sg.away,hx.fresh,hx.frame,hx.calm⟩ ⟨hx.tmps.size,fun d=>?_⟩ hx.defers
  obtain⟨i,a1,_,a3⟩:=hx.new b kb h1 h2;exact SI (c.ck (by omega) (Tn _)) a3.1
  exact hx.mr.obj b o kb (by rw[hmem b (hx.mr.lt b kb hb).1]; exact hg) hb
  exact hx.mr.inj b b' kb kb' hb hb' (by rw[hmem b (hx.mr.lt b kb hb).1]; exact hl) (by rw[hmem b' (hx.mr.lt b' kb' hb').1]; exact hl') he
  obtain⟨i,a1,a2,a3⟩:=so (Tn ops.size) h1 h2;exact hx.full i a2 (hall i a2) b a3 (by rw[c.dj h2]; exact hl)
  rcases c.Ky (i:=ops.size) (Sa _) d with⟨x,o,h1,h2,h3,h4⟩|⟨h1,h2⟩
  rw[h4]; exact hx.tmps.done x o d h2 (hall x h1) h3
  rw[h2]; exact hx.tmps.rest d fun x o ho _=>h1 x o (Sh.1 ho).1 ho
 intro fuel
 induction fuel with
 | zero =>
  intro listed s j a w hsz hout hcl hinv heff;have hall:=DU (Nat.le_zero.1 hout);refine⟨?_,fin listed s j a w hall hinv heff⟩;cases hr:Region.ready .any ops listed with
  | nil=>rfl
  | cons i l =>
   have hi:i∈Region.ready .any ops listed:=by rw[hr]; simp
   obtain⟨h1,o,ho,_⟩:=mem_ready.1 hi;have hlt:i<ops.size:=(Sh.1 ho).1;have h2:=hall i hlt;have:listed.getD i true=listed.getD i false:=by simp[hsz,hlt]
   rw[this,h2] at h1; cases h1
 | succ fuel ih =>
  intro listed s j a w hsz hout hcl hinv heff;refine⟨fun hnil=>fin listed s j a w (fun i hi=>?_) hinv heff,fun i hi=>?_⟩
  ·
   induction i using Nat.strongRecOn with
   | _ i ihi =>
    cases hl:listed.getD i false with
    | true=>rfl
    | false =>
     obtain⟨o,ho⟩:∃o,ops[i]? = some o:=⟨ops[i],by simp[hi]⟩
     have hmem:i∈Region.ready .any ops listed:=by
      refine mem_ready.2 ⟨?_,o,ho,yN fun e he=>ihi e (hO.edge i o ho e he) (Nat.lt_trans (hO.edge i o ho e he) hi)⟩;have:listed.getD i true=listed.getD i false:=by simp[hsz,hi]
      rw[this,hl]
     rw[hnil] at hmem; cases hmem
  ·obtain⟨h1,o,ho,h3⟩:=mem_ready.1 hi;have hlt:i<ops.size:=(Sh.1 ho).1;have hl:listed.getD i false=false:=by
    have:listed.getD i true=listed.getD i false:=by simp[hsz,hlt]
    rw[<-this]; exact h1
   have hr:Ready ops bs (fun x=>listed.getD x false=true) i o:=⟨ho,by simp[hl],y7 h3,hcl⟩
   have hlook:=hr.looked hO c hinv.tmps;have hwant:Region.wanted o (yielded ops a.tmps)=bW ops o (T i):=Bh o fun g want d hg hd=>hlook d (by
    unfold looks;rw[hg];exact SJ _ (by simp[hd]))
   have hoper:∀d∈tmpsOf o.op.operands.toList,VR j ((T i).at d) (a.tmps.getD d undef):=fun d hd=>hlook d (Sx _ hd);have next:∀(s':Nat) (j':aP) (a':Act) (w':UD),Inv E n ops j0 w0 T M V ds (fun x=>listed.getD x false=true\/x=i) s' j' a' w'->(∀x o,ops[x]? = some o->aw o.op=true->((listed.getD x false=true\/x=i)↔x<s')) ->
     wpAnyIn F 0 E.P .any ops Q fuel (listed.setIfInBounds i true) a' w':=by
    intro s' j' a' w' hinv' heff';have hiff:=uk (listed:=listed) (i:=i) (by omega)
    refine ih _ s' j' a' w' (by simp[hsz]) (by have:=GX hsz hlt hl; omega) (fun x ox hox hx e he=>?_) (hinv'.congr fun x=>(hiff x).symm) fun x ox hox he=>(hiff x).trans (heff' x ox hox he)
    rcases(hiff x).1 hx with hx|rfl
    exact(hiff e).2 (.inl (hcl x ox hox hx e he))
    rw[ho] at hox; cases hox;exact(hiff e).2 (.inl (hr.edges e he))
   have effs:aw o.op=true->s<=i/\(∀x ox,ops[x]? = some ox->aw ox.op=true->s<=x->x<i->False)/\(∀x o,ops[x]? = some o->aw o.op=true->((listed.getD x false=true\/x=i)↔x<i+1)):=by
    intro he;have hsi:s<=i:=by
     rcases S8 i s with h|h
     have:=(heff i o ho he).2 h;rw[hl] at this; cases this
     exact h
    have hbefore:∀x ox,ops[x]? = some ox->aw ox.op=true->x<i->listed.getD x false=true:=by
     intro x ox hox hex hxi
     by_cases hb:CN bs x i
     exact hr.before hO hxi hb
     exact((mA (hO.apart x i ox o hxi hox ho hb)).2.2 ⟨hex,he⟩).elim
    refine⟨hsi,fun x ox hox hex h1 h2=>?_,fun x ox hox hex=>⟨?_,fun hx=>?_⟩⟩
    have:=(heff x ox hox hex).1 (hbefore x ox hox hex h2);omega
    rintro(hx|rfl)
    have:=(heff x ox hox hex).1 hx; omega
    omega
    rcases S8 x i with h|h
    exact .inl (hbefore x ox hox hex h)
    exact .inr (by omega)
   have noEff:aw o.op=false->∀x ox,ops[x]? = some ox->aw ox.op=true->((listed.getD x false=true\/x=i)↔x<s):=by
    intro he x ox hox hex;rw[<-heff x ox hox hex];refine⟨fun h=>h.resolve_right fun hxi=>?_,.inl⟩;subst hxi;rw[ho] at hox; cases hox;rw[he] at hex; cases hex
   obtain⟨o',ho',hput,hkind⟩:=c.kind hlt;rw[ho] at ho'; cases ho';unfold wpOpIn;simp only[ho];cases hkind with
   | skip hw hv hm =>
    rw[hwant,hw];simp only[SC,if_false];refine⟨fun f _=>hF.fn f,?_⟩;have hvu:VR j (V i) undef:=by rw[hv]; exact VR.undef j
    have hinv':=hinv.quiet hO c ho (by rw[hm]) hvu
    cases he:aw o.op with
    | false=>exact next s j _ w hinv' (noEff he)
    | true =>
     obtain⟨e1,e2,e3⟩:=effs he;refine next (i+1) j _ w (hinv'.shift c (by omega) hlt fun x h1 h2 b hb=>?_) e3
     rcases S8 x i with hxi|hxi
     ·obtain⟨ox,hox⟩:∃ox,ops[x]? = some ox:=⟨ops[x]'(by omega),TQ (by omega)⟩
      refine c.keep hox (.inl ?_) b hb;cases hex:aw ox.op with
      | false=>rfl
      | true=>exact(e2 x ox hox hex h1 hxi).elim
     have:x=i:=by omega
     subst this;rw[hm]
   | quiet hw he hn hg ha =>
    rw[hwant,hw];simp only[if_true];have hopA:=ha (nW M ops.size s) fun b0 hb0=>by rw[cZ]; exact hinv.reads hO c hpairs hnote heff hr hw he hb0
    rcases tW (a:=a) hinv.mr hoper hopA he with⟨_,v',h5,h6⟩|⟨ao,co,vb,v',_,_,_,h8⟩
    ·exact dA hF (mj hopA) h5 (next s j _ w (hinv.quiet hO c ho hn h6) (noEff he))
    have:=h8 (nW M ops.size s);rw[hopA] at this;simp only[Option.some.injEq,Prod.mk.injEq] at this;have h9:=SH Vn.next this.2
    simp only[Vn.alloc] at h9;omega
   | makes hw he vb ao hv hn hg ha =>
    rw[hwant,hw];simp only[if_true];have hopA:=ha (nW M ops.size s);rcases tW (a:=a) hinv.mr hoper hopA he with⟨h4,_⟩|⟨ao',co,vb',v',h5,h6,h7,h8⟩
    have h9:=SH Vn.next h4
    simp only[Vn.alloc] at h9;omega
    ·have hao:ao=ao':=by
      have:=(ha (nW M ops.size s)).symm.trans (h8 (nW M ops.size s));simp only[Option.some.injEq,Prod.mk.injEq] at this;have h9:=SH (fun m=>Vn.get m (nW M ops.size s).next) this.2
      simp only[Vn.aW,if_true,Option.some.injEq] at h9;exact h9
     subst hao;have hvb:V i=vb' (M i).next:=by
      have:=(ha (M i)).symm.trans (h8 (M i));simp only[Option.some.injEq,Prod.mk.injEq] at this;rw[hv]; exact this.1
     have hget:(M (i+1)).get (M i).next=some ao:=by rw[hg,R7 rfl]
     refine dA hF (mj hopA) h5 (next s _ _ _ (hinv.makes hO c ho (by simp[hl]) hn hget h6 ?_) (noEff he))
     rw[hvb];exact h7 _ _ (aP.cd _ _ _)
   | effect hw he r hr' hm =>
    rw[hwant,hw];simp only[if_true];obtain⟨e1,e2,e3⟩:=effs he;have hinv':=hinv.shift c (s':=i) e1 (by omega) fun x h1 h2 b hb=>by
     obtain⟨ox,hox⟩:∃ox,ops[x]? = some ox:=⟨ops[x]'(by omega),TQ (by omega)⟩
     refine c.keep hox (.inl ?_) b hb;cases hex:aw ox.op with
     | false=>rfl
     | true=>exact(e2 x ox hox hex h1 h2).elim
    have hmr:=hinv'.Qb c (by omega) (x:=(M i).next)
    obtain⟨jc,wc,tc,sg,htg⟩:=c.ghost i (by omega)
    have hops:∀d∈tmpsOf o.op.operands.toList,VR (j.below (M i).next) ((T i).at d) (a.tmps.getD d undef):=fun d hd =>
     (hoper d hd).cut (fun b kb hb=>(sg.mr.lt b kb hb).1) (htg.2 d)
    refine(AK (a:=a) c.hk hmr hops hr').wpIn hF (oG hr') ?_;rintro v' w' ⟨j',sm,hv'⟩;exact next (i+1) _ _ _ (hinv'.effect hO c ho (by simp[hl]) hm sm hv') e3
def EL(hk:∀tk r,k tk=some r->cO E tk r)(hmix:E.P.follows .mixedOrders=true){ps:VB (Nat×Nat)}{t tf:Tm}{m mf:Vn}(hp:lh ops=some ps)
  (hr:dK k E n ops ops.toList t m=some (tf,mf,ns)) (hok:ps.all (dM ns ops)=true) (hnote:ns.all fG=true) {id:Nat} {F:Fence} {Q:Exit->Act->UD->Prop} (h:MR E j m w) (ht:TR n j t a.tmps) (hF:lD F)
  (hQ:∀j' w' a',Sim E j m w j' mf w'->TR n j' tf a'.tmps->a'.defers=a.defers->Q .normal a' w'):(Code.region id ops true).wpIn F 0 E.P Q a w:=by
 unfold lh at hp
 split at hp
 rename_i hord;cases hp;have hO:=Be hord;obtain⟨T,M,V,htr,h4,h5,h2,h3⟩:=yR ops.toList 0 t m tf mf ns rfl hr;rw[TS] at htr h2 h3;subst h4 h5;have s0:Sim E j (M 0) w j (M 0) { w with drawn:=w.drawn+1}:=Sim.of_heap h rfl;have c:Can k E n ops j { w with drawn:=w.drawn+1} T M V ns:=⟨hk,htr,s0.mr,Dy hk htr s0.mr ht⟩;refine wpIn_region_any hmix ?_;refine Nq (ds:=a.defers) hO c hok hnote hF (fun j' w' a' s' ht' hd'=>hQ j' w' a' (h3▸s0.trans h s') (h2▸ht') hd') ops.size _ 0 j a _ (by simp) ?_ ?_ ?_ ?_
 unfold outs;exact SI (List.length_filter_le _ _) (by simp)
 intro x o ho hx;simp[(Sh.1 ho).1] at hx
 have hnone:∀x,¬((Un ops.size false).getD x false=true):=by
  intro x hx
  by_cases hlt:x<ops.size<;>simp[hlt] at hx
 have h6:MR E j (nW M ops.size 0) { w with drawn:=w.drawn+1}:=by
  have hlow:∀b kb,j b=some kb->(nW M ops.size 0).get b=(M 0).get b:=fun b kb hb=>by rw[cZ,c.dj (h.lt b kb hb).1]
  refine⟨fun b kb hb=>⟨Sk (h.lt b kb hb).1 (c.ck (Sa _) (Tn _)),(h.lt b kb hb).2⟩,fun b o kb hg hb=>?_,fun b b' kb kb' hb hb' hl hl' he=>?_,h.glob⟩
  rw[hlow b kb hb] at hg;exact h.obj b o kb hg hb
  rw[hlow b kb hb] at hl;rw[hlow b' kb' hb'] at hl';exact h.inj b b' kb kb' hb hb' hl hl' he
 exact⟨Tn _,⟨ht.1,fun x o d _ hx=>(hnone x hx).elim,fun d _=>ht.2 d⟩,rfl,.refl j,fun b kb h0 h1=>(by rw[h1] at h0; cases h0),h6,Sa _,fun i _ hx=>(hnone i hx).elim,fun b kb h0 h1=>(by rw[h1] at h0; cases h0),fun _ _ _=>rfl,.refl _,fun i hi=>Sw hi (Nat.not_lt_zero i)⟩
 intro x o ho _;have:¬((Un ops.size false).getD x false=true):=by
  intro hx
  by_cases hlt:x<ops.size<;>simp[hlt] at hx
 exact⟨fun hx=>(this hx).elim,fun hx=>Sw hx (Nat.not_lt_zero x)⟩
 cases hp
end
section
variable{E:Env}{k:K}
section
variable{P:UC}{F:Fence}{n:Nat}{b:Frame}{a:Act}{ks:VB Item}{cs:VB Frame}{w:UD}{Q:Exit->Act->UD->Prop}{c:Code}
def fQ:Go.step P (lone (b.atR a (.code (.scope c)::ks)) cs w)=.next (lone (b.atR a (.code c::.inScope c::ks)) cs w) :=
 step_lone_go (by simp[stepG,stepG.exec,Frame.atR])
def uT:Go.step P (lone (b.atR a (.inScope c::ks)) cs w)=.next (lone (b.atR a ks) cs w) :=
 step_lone_go (by simp[stepG,stepG.exec,Frame.atR])
def Cf(h:c.wpIn F n P (Exit.noGoto Q) a w):(Code.scope c).wpIn F n P Q a w:=by
 intro b k cs hro hb hr;have h0:(lone (b.atR a (.code (.scope c)::k)) cs w).fenced P F:=fenced_calm hb hr rfl;obtain⟨e,a₁,w₁,hq,harr⟩:=h b (.inScope c::k) cs hro hb hr;cases e with
 | normal=>exact⟨.normal,a₁,w₁,hq,.head h0 fQ (StepsIn.trans harr (.one (fenced_calm hb hr rfl) uT))⟩
 | exit id =>
  refine⟨.exit id,a₁,w₁,hq,fun k' hk=>.head h0 fQ (harr.1 k' (by simpa [exitTo] using hk)),fun hr' hk=>?_⟩
  obtain⟨k₁,h1,h2⟩:=harr.2 hr' (by simpa [exitTo] using hk)
  exact⟨k₁,h1,.head h0 fQ h2⟩
 | goto l=>exact hq.elim
 | ret=>exact⟨.ret,a₁,w₁,hq,ArrivesIn.of_steps (k:=k) (e:=.ret) (.one h0 fQ) harr⟩
 | panic ch=>exact⟨.panic ch,a₁,w₁,hq,ArrivesIn.of_steps (k:=k) (e:=.panic ch) (.one h0 fQ) harr⟩
 | outgrown=>exact⟨.outgrown,a₁,w₁,hq,ArrivesIn.of_steps (k:=k) (e:=.outgrown) (.one h0 fQ) harr⟩
def me(h:oY F n P c Q a w):(Code.loop c).wpIn F n P Q a w:=fun b k cs hro hb hr =>
 let⟨e,a',w',hq,harr⟩:=h b k cs hro hb hr
 ⟨e,a',w',hq,.of_steps (.one (fenced_calm hb hr rfl) stepR_loop) harr⟩
def lB(h:c.wpIn F n P (Exit.then (fun a' w'=>oY F n P c Q a' w') Q) a w):oY F n P c Q a w:=by
 intro b k cs hro hb hr;obtain⟨e,a₁,w₁,hq,harr⟩:=h b (.inLoop c::k) cs hro hb hr;cases e with
 | normal =>
  obtain⟨e₂,a₂,w₂,hq₂,harr₂⟩:=hq b k cs hro hb hr;exact⟨e₂,a₂,w₂,hq₂,.of_steps (StepsIn.trans harr (.one (fenced_calm hb hr rfl) stepR_inLoop)) harr₂⟩
 | exit id=>exact⟨_,a₁,w₁,hq,.pass (x:=.inLoop c) rfl (fun _ _=>.inl (by simp)) harr⟩
 | goto l=>exact⟨_,a₁,w₁,hq,.pass (x:=.inLoop c) rfl (fun _ _=>.inl (by simp)) harr⟩
 | ret=>exact⟨_,a₁,w₁,hq,.pass (x:=.inLoop c) rfl (fun _ _=>.inl (by simp)) harr⟩
 | panic ch=>exact⟨_,a₁,w₁,hq,.pass (x:=.inLoop c) rfl (fun _ _=>.inl (by simp)) harr⟩
 | outgrown=>exact⟨_,a₁,w₁,hq,.pass (x:=.inLoop c) rfl (fun _ _=>.inl (by simp)) harr⟩
end
def mM.from{j j1:aP}{m m1 m':Vn}{w w1 w':UD}{N n:Nat}{e:Vo}{t:Tm}{e':Exit}{a':Act}(h:MR E j m w)(s:Sim E j m w j1 m1 w1)(q:mM E j1 m1 w1 N n e t m' e' a' w'):mM E j m w N n e t m' e' a' w' :=
 let⟨he,j2,s2,ht,hm⟩:=q
 ⟨he,j2,s.trans h s2,ht,hm⟩
def yC{j:aP}{m:Vn}{w:UD}(h:MR E j m w){t:UA}{x x' v:Uz}(e:dT E.P t x m=some v)(hx:VR j x x') :
  ∃v',(do loadVar t (<-asAddr x'):Sem Uz).run E.P w=.ok v' w/\VR j v v':=by
 obtain⟨v',h1,h2⟩:=AL h e hx;refine⟨v',?_,h2⟩;unfold dT at e
 split at e
 ·cases hx with
  | ptr hj =>
   simp only[Instr.loadAt,Instr.sureAddr,VF,VG,VE] at h1;simp only[asAddr,VF,VG,VE];exact h1
 cases e
def kO{j:aP}{m:Vn}{w:UD}(h:MR E j m w){n:Nat}{t:Tm}{tmps:VD Uz}(ht:TR n j t tmps){f:ResultVar->Sem Uz}(h1:∀i,f (.tmp i)=pure (tmps.getD i undef))
  (h2:∀a ty,f (.cell a ty)=(do loadVar ty (<-asAddr (tmps.getD a undef)))) :
  ∀{rs:VB ResultVar} {vs:VB Uz},cM E t m rs=some vs->∃vs',(rs.mapM f).run E.P w=.ok vs' w/\LR j vs vs'
 | [],vs,e=>by cases e; exact⟨[],rfl,.nil j⟩
 | .tmp i::rs,vs,e=>by
  simp only[cM] at e;obtain⟨vs0,e0,rfl⟩:=map_some e;obtain⟨vs',r1,r2⟩:=kO h ht h1 h2 e0;exact⟨tmps.getD i undef::vs',by simp only[List.mapM_cons,h1,VF,VG,VE,r1],.cons (ht.2 i) r2⟩
 | .cell a ty::rs,vs,e=>by
  simp only[cM] at e
  split at e
  rename_i v vs0 hv hvs;cases e;obtain⟨vs',r1,r2⟩:=kO h ht h1 h2 hvs;obtain⟨v',l1,l2⟩:=yC h hv (ht.2 a);refine⟨v'::vs',?_,.cons l2 r2⟩;rw[List.mapM_cons,VF,h2,l1];simp only[VF,VG,VE,r1]
  cases e
def w8{j:aP}{m:Vn}{w:UD}(h:MR E j m w){n:Nat}{t:Tm}{tmps:VD Uz}(ht:TR n j t tmps){f:ResultVar->Sem Uz}(h1:∀i,f (.tmp i)=pure (tmps.getD i undef))
  (h2:∀a ty,f (.cell a ty)=(do loadVar ty (<-asAddr (tmps.getD a undef)))) {rs:VD ResultVar} {vs:VB Uz} (e:cM E t m rs.toList=some vs) :
  ∃v',(do let vs <-rs.mapM f; pure (if h:vs.size=1 then vs[0] else .tuple vs):Sem Uz).run E.P w=.ok v' w/\VR j (iA vs) v':=by
 obtain⟨l⟩:=rs;simp only[List.mapM_toArray,VF,Sem.run_map];obtain⟨vs',h1,h2⟩:=kO h ht h1 h2 e;rw[h1];simp only[VE,VG];cases h2':vs' with
 | nil =>
  subst h2';have hv:vs=[]:=by have:=h2.1; simp at this; exact this
  subst hv;exact⟨_,rfl,.tuple' (by simpa using LR.nil j)⟩
 | cons v' l' =>
  subst h2';cases hv:vs with
  | nil=>subst hv; exact Sw h2.1 (by simp)
  | cons v l =>
   subst hv;cases l' with
   | nil =>
    have hl:l=[]:=by have:=h2.1; simp at this; exact this
    subst hl;exact⟨_,rfl,h2.head⟩
   | cons v2' l2' =>
    cases l with
    | nil=>exact Sw h2.1 (by simp)
    | cons v2 l2=>exact⟨_,rfl,.tuple' (by simpa using h2)⟩
def q6{j:aP}{m:Vn}{w:UD}(h:MR E j m w){n:Nat}{t:Tm}{tmps:VD Uz}(ht:TR n j t tmps){fn:Func}{vs:VB Uz}(e:cM E t m fn.results.toList=some vs) :
  ∃v',(results fn tmps).run E.P w=.ok v' w/\VR j (iA vs) v' :=
 w8 h ht (fun _=>rfl) (fun _ _=>rfl) e
def Sim.shut{j j':aP}{m m':Vn}{w w':UD}(s:Sim E j m w j' m' w'){r:Nat}(hr:w'.heap[r]? = some (.deferred (some [])))(hs:w.heap.size<=r)(o:Obj):Sim E j m w j' m' (w'.putObj r o) where
 ext:=s.ext
 le:=s.le
 new:=s.new
 mr:=⟨fun b k e=>⟨(s.mr.lt b k e).1,by simpa using(s.mr.lt b k e).2⟩,fun b o k hg e=>by
   obtain⟨o',h1,h2⟩:=s.mr.obj b o k hg e;have hne:k.c≠r:=Az s.mr hr b k e (by rw[hg]; rfl)
   exact⟨o',by rw[World.putObj_heap_other hne]; exact h1,h2⟩,s.mr.inj,s.mr.glob⟩
 size:=by simpa using s.size
 full:=s.full
 away:=s.away
 fresh:=s.fresh
 frame:=fun c hc H=>by rw[World.putObj_heap_other (by omega)]; exact s.frame c hc H
 calm:=s.calm
def lp{fn:Func}{tmps:VD Uz}{R:Ending->UD->Prop}{j j':aP}{m m':Vn}{w:UD}
  (hR:∀w'',Sim E j m w j' m' w''->∃v,(results fn tmps).run E.P w''=.ok v w''/\R (.returned v) w'') :
  ∀(rs:VB Nat) (w':UD),Sim E j m w j' m' w'->rs.Nodup->(∀r∈rs,w.heap.size<=r/\w'.heap[r]? = some (.deferred (some [])))->LeavesInM Fence.wide 0 E.P fn tmps R (rs.map tU) .returning w'
 | [],w',s,_,_=>hR w' s
 | r::rs,w',s,hn,hr=>by
  have h0:=hr r (by simp)
  refine⟨by simp,.inl ⟨r,w'.putObj r (.deferred none),rfl,run_takeDeferred h0.2,?_⟩⟩
  refine lp hR rs _ (s.shut h0.2 h0.1 _) (TI.1 hn).2 fun x hx=>?_;have hne:x≠r:=fun e=>(TI.1 hn).1 (e▸hx);have h1:=hr x (by simp[hx])
  exact⟨h1.1,by rw[World.putObj_heap_other hne]; exact h1.2⟩
def sJ:∀(vs:VB Uz) (i:Nat) (t:Tm) (d:Nat),(Trie.ofList vs i t).get d=if i<=d/\d<i+vs.length then vs[d-i]? else t.get d
 | [],i,t,d=>by
  have:¬(i<=d/\d<i+([]:VB Uz).length):=by simp only[List.length_nil]; omega
  rw[R5 this]; rfl
 | v::vs,i,t,d=>by
  simp only[Trie.ofList,sJ vs (i+1),Trie.bp]
  by_cases h:d=i
  subst h;rw[UG,R7 rfl,R7 (by simp)]; simp
  by_cases h2:i<=d/\d<i+(v::vs).length
  have h3:i+1<=d/\d<i+1+vs.length:=by simp at h2; omega
  rw[R7 h2,R7 h3];obtain⟨x,hx⟩:∃x,d-i=x+1:=⟨d-i-1,by omega⟩
  rw[hx,show d-(i+1)=x by omega]; rfl
  have h3:¬(i+1<=d/\d<i+1+vs.length):=by simp at h2; omega
  rw[R5 h2,R5 h3,R5 h]
def TR.enter{j:aP}{args args':VB Uz}(h:LR j args args')(nt:Nat):TR (max args.length nt) j (Trie.ofList args 0 .nil) (args'.toArray++Un (nt-args'.toArray.size) undef):=by
 refine⟨by simp[h.1]; omega,fun i=>?_⟩
 unfold Tm.at
 rw[sJ]
 by_cases hi:i<args.length
 rw[UH]
 have hi':i<args'.length:=h.1▸hi;obtain⟨v',h1,h2⟩:=h.2 i args[i] (by simp[hi])
 have e1:(args[i-0]?).getD undef=args[i]:=by simp[hi]
 have e2:(args'.toArray++Un (nt-args'.toArray.size) undef).getD i undef=v':=by
  rw[Array.getD_eq_getD_getElem?,Array.getElem?_append_left (by simpa using hi')]
  simp[h1]
 rw[e1,e2]; exact h2
 rw[UG]
 have e2:(args'.toArray++Un (nt-args'.toArray.size) undef).getD i undef=undef:=by
  rw[Array.getD_eq_getD_getElem?,Array.getElem?_append_right (by simp[<-h.1]; omega)]
  simp only[Array.getElem?_replicate]
  split<;>rfl
 rw[e2,Trie.get_nil]; exact VR.undef j
def xn(hE:EnvOk E)(hk:∀tk r,k tk=some r->cO E tk r){f:VI}{args:VB Uz}{m:Vn}{r:Res}(h:step E k (.call f args m)=some r):cO E (.call f args m) r:=by
 simp only[step] at h
 split at h
 ·rename_i r0 hp;obtain⟨v,m'⟩:=r0;cases h;unfold vV at hp;cases hpf:E.cP f with
  | none=>rw[hpf] at hp; cases hp
  | some p =>
   rw[hpf] at hp;exact⟨v,m',rfl,fun j w args' hm hl=>hE.cP f p hpf args m v m' hp j w args' hm hl⟩
 ·rename_i hp
  split at h
  ·rename_i fn hfn
   split at h
   ·rename_i c hb
    split at h
    cases h
    ·rename_i e t m' hne hkc;obtain⟨vs,hvs,rfl⟩:=map_some h;obtain⟨e0,t0,m0,hr0,H⟩:=hk _ _ hkc;cases hr0;refine⟨iA vs,m',rfl,fun j w args' hm hl=>.inl ⟨hE.call f fn c hfn hb _ w,?_⟩⟩;refine callsIn_of_wp_marks hfn hb trivial ?_;refine wpIn_mono (H j w { tmps:=args'.toArray++Un (fn.ntmps-args'.toArray.size) undef,defers:=[]} Fence.wide w.heap.size hm (TR.enter hl fn.ntmps) rfl (Marks.nil _ _) (Sa _)) ?_;rintro e' a' w' ⟨rfl,j',s,ht,rs,hnd,hds,hrs⟩;have hleave:LeavesInM Fence.wide 0 E.P fn a'.tmps (fun e w'=>∃v,e=.returned v/\jx E j m w (iA vs) m' v w') a'.defers .returning w':=by
      rw[hds];refine lp (fun w'' s'=>?_) rs w' s hnd hrs;obtain⟨v',hv1,hv2⟩:=q6 s'.mr ht hvs;exact⟨v',hv1,v',rfl,j',s',hv2⟩
     cases e with
     | normal=>exact hleave
     | ret=>exact hleave
     | exit id=>exact(hne id rfl).elim
    cases h
   cases h
  cases h
def TR.set{n:Nat}{j:aP}{t:Tm}{tmps:VD Uz}{p:Tmp}{v v':Uz}(h:TR n j t tmps)(hv:VR j v v')(hp:p<n):TR n j (t.set p v) (tmps.setIfInBounds p v') :=
 TR.put (a:={ tmps:=tmps,defers:=[]}) (dst:=some p) h hv (by
  have:Nat.blt p n=true:=by simpa using hp
  simp only[kj,this])
def oi{n:Nat}{j:aP}:∀{ps:VB Tmp} {vs vs':VB Uz} {t t':Tm} {tmps:VD Uz},iT n t ps vs=some t'->LR j vs vs'->TR n j t tmps ->
  TR n j t' ((ps.zip vs').foldl (fun tm (x:Tmp×Uz)=>tm.setIfInBounds x.1 x.2) tmps)
 | [],vs,vs',t,t',tmps,h,hl,ht=>by cases h; exact ht
 | p::ps,[],vs',t,t',tmps,h,hl,ht=>by
  cases h;cases hl.dm;exact ht
 | p::ps,v::vs,vs',t,t',tmps,h,hl,ht=>by
  obtain⟨v',l',rfl,h1,h2⟩:=hl.cons_inv;simp only[iT] at h
  split at h
  rename_i hlt
  show TR n j t' ((ps.zip l').foldl (fun tm (x:Tmp×Uz)=>tm.setIfInBounds x.1 x.2) (tmps.setIfInBounds p v'))
  exact oi h h2 (ht.set h1 (by simpa using hlt))
  cases h
def tq(ps:VD Tmp)(vs:VB Uz)(tmps:VD Uz) :
  (ps.zip vs.toArray).foldl (fun tm (x:Tmp×Uz)=>tm.setIfInBounds x.1 x.2) tmps=(ps.toList.zip vs).foldl (fun tm (x:Tmp×Uz)=>tm.setIfInBounds x.1 x.2) tmps:=by
 rw[<-Array.foldl_toList,Array.toList_zip]
def MR.uu{j:aP}{m:Vn}{w:UD}(h:MR E j m w){b:Nat}{kb:Blk}(hk:j b=some kb){r:ALoop}(hg:m.get b=some (.loop r)) :
  ∃r',w.heap[kb.c]? = some (.loop r')/\r.state=r'.state/\r.pending=r'.pending/\r.params=r'.params/\r.assign=r'.assign/\r.body=r'.body/\TR r.n j r.tmps r'.tmps:=by
 obtain⟨o,h1,h2⟩:=h.obj b _ kb hg hk;cases o with
 | loop r'=>exact⟨r',h1,h2⟩
 | _=>exact h2.elim
def uK (hk:∀tk r,k tk=some r->cO E tk r) {l:Nat} {args:VB Uz} {m:Vn} {r:Res} (h:step E k (.round l args m)=some r):cO E (.round l args m) r:=by
 simp only[step] at h
 split at h
 ·rename_i rec hl
  split at h
  ·rename_i hst
   split at h
   cases h
   ·rename_i hlen
    split at h
    cases h
    ·rename_i t0 hsp
     split at h
     ·rename_i t1 m1 hka
      split at h
      ·rename_i r1 h2
       split at h
       ·rename_i h5
        split at h
        ·rename_i e t2 m2 hkb
         split at h
         ·rename_i r2 h3;cases h;obtain⟨e0,t0',m0',h1,HA⟩:=hk _ _ hka;cases h1;obtain⟨e0,t0',m0',h1,HB⟩:=hk _ _ hkb;cases h1;refine⟨_,_,rfl,fun j w kb args' hm hj hargs=>?_⟩;obtain⟨rc,hrc,c4,c5,c0,c1,c2,c3⟩:=hm.uu hj hl;have hsz:args'.toArray.size=rc.params.size:=by
           rw[<-c0]; have:=hargs.1; simp; omega
          refine⟨_,_,_,_,run_yield hrc hsz,?_⟩;refine roundIn_of_wpIn trivial ?_;have htm:TR rec.n j t0 ((rc.params.zip args'.toArray).foldl (fun tm (x:Tmp×Uz)=>tm.setIfInBounds x.1 x.2) rc.tmps):=by
           rw[tq,<-c0];exact oi hsp hargs c3
          have HA':=HA j w { tmps:=(rc.params.zip args'.toArray).foldl (fun tm (x:Tmp×Uz)=>tm.setIfInBounds x.1 x.2) rc.tmps,defers:=[]} (Fence.wide.inRound kb.c) w.heap.size hm htm ⟨kb,hj,rfl⟩ (Marks.nil _ _) (Sa _);rw[<-c1,<-c2];refine wpIn_mono HA' ?_;rintro e' a0 w1 ⟨rfl,j1,s1,h6,h7⟩;have h0:=s1.le _ _ hj;obtain⟨r0,h8,d0,d1,d2,d3,d4,d5⟩:=s1.mr.uu h0 h2;refine⟨_,run_beginRound h8 (by rw[<-d0]; exact h5),?_⟩
          have s2:Sim E j1 m1 w1 j1 (m1.set l (.loop { r1 with state:=.busy})) (w1.putObj kb.c (.loop { r0 with state:=.busy})) :=
           iQ s1.mr h0 (by rw[h2]; rfl) ⟨rfl,d1,d2,d3,d4,d5⟩
          have HB':=HB j1 (w1.putObj kb.c (.loop { r0 with state:=.busy})) a0 (Fence.wide.inRound kb.c) w.heap.size s2.mr h6 ⟨kb,h0,rfl⟩ (h7.H3 s1.mr s2) (SI s1.size s2.size);refine wpIn_mono HB' ?_;rintro e' a1 w2 ⟨rfl,j2,s3,h10,h11⟩;have h4:=s3.le _ _ h0;obtain⟨r3,h9,f4,f5,f3,f0,f1,f2⟩:=s3.mr.uu h4 h3;have fin:∀jump:VA Code,∃v w',(Instr.endRound kb.c jump).run E.P w2=.ok v w'/\∃v',Ending.returned v=.returned v'/\jx E j m w (.bool jump.isNone) (m2.set l (.loop { r2 with state:=if jump.isNone then .ready else .done,pending:=jump})) v' w':=by
           intro jump;refine⟨_,_,run_endRound jump h9,_,rfl,j2,?_,.bool _⟩;have s4:Sim E j2 m2 w2 j2 (m2.set l (.loop { r2 with state:=if jump.isNone then .ready else .done,pending:=jump})) (w2.putObj kb.c (.loop { r3 with state:=if jump.isNone then .ready else .done,pending:=jump})) :=
            iQ s3.mr h4 (by rw[h3]; rfl) ⟨rfl,rfl,f3,f0,f1,f2⟩
           exact s1.trans hm (s2.trans s1.mr (s3.trans s2.mr s4))
          cases e with
          | normal=>exact fin none
          | ret=>exact fin (some .ret)
          | exit id=>exact fin (some (.exit id))
         cases h
        cases h
       cases h
      cases h
     cases h
  cases h
 cases h
def DD{j:aP}{m:Vn}{w:UD}(h:MR E j m w)(o:Obj):Sim E j m w j m (w.alloc o):=by
 have hget:∀c,c<w.heap.size->(w.alloc o).heap[c]? = w.heap[c]?:=fun c hc=>by
  show(w.heap.push o)[c]? = w.heap[c]?
  rw[TT,UG]
 exact{ Sim.refl h with
  mr:=⟨fun b k e=>⟨(h.lt b k e).1,by rw[World.size_alloc]; exact Nat.lt_succ_of_lt (h.lt b k e).2⟩,fun b o k hg e=>by
    obtain⟨o',h1,h2⟩:=h.obj b o k hg e;exact⟨o',by rw[hget _ (h.lt b k e).2]; exact h1,h2⟩,h.inj,h.glob⟩
  size:=by rw[World.size_alloc]; omega
  frame:=fun c hc _=>hget c hc}
def nU{P:UC}{w:UD}{l:Nat}{r:Loop}(h:w.heap[l]? = some (.loop r))(fn:VI)(tmps:VD Uz)(ps:VD Tmp)(assign body:Code) :
  (Instr.enterLoop fn tmps ps assign body (some l)).run P w=.ok (w.heap.size,[]) (w.alloc (.loop { state:=.ready,pending:=none,fn,tmps,params:=ps,assign,body,defers:=r.defers})):=by
 unfold Instr.enterLoop;simp only[VF,run_getLoop h,run_newObj_alloc,Result.andThen,VG]
def uB (hk:∀tk r,k tk=some r->cO E tk r) {g:UB} {ps:VD Tmp} {assign body:Code} {fr:Fr} {m:Vn} {r:Res} (h:step E k (.code (.rangeFunc g ps assign body) fr m)=some r) :
  cO E (.code (.rangeFunc g ps assign body) fr m) r:=by
 simp only[step] at h
 split at h
 ·rename_i gf first captured hg har
  split at h
  ·rename_i v0 m2 hkc
   split at h
   ·rename_i r2 h2;obtain⟨v1,m1',h4,HC⟩:=hk _ _ hkc;cases h4;have common:r2.state≠.busy->∀(j:aP) (w:UD) (a:Act) (F:Fence) (N:Nat),MR E j m w->TR fr.n j fr.tmps a.tmps->lA j fr.round F->Marks N w a.defers->N<=w.heap.size->∀Q:Exit->Act->UD->Prop,
      (∀(j2:aP) (w2:UD) (a0:Act),Sim E j m w j2 (m2.set m.next (.loop { r2 with state:=.exhausted})) w2->TR fr.n j2 fr.tmps a0.tmps->Marks N w2 a0.defers ->
       (r2.pending=none->Q .normal a0 w2)/\(∀c,r2.pending=some c->c.wpIn F 0 E.P Q a0 w2))->(Code.rangeFunc g ps assign body).wpIn F 0 E.P Q a w:=by
     intro hbusy j w a F N hm ht hro hmk hN Q hQ;have hF:=hro.wide;refine wpIn_rangeFunc fun fnId _=>?_;have hfv:=aR hm ht hg;generalize hfe:a.eval g=fv at hfv;cases hfv with
     | func h5 h6 h7 h8 =>
     rename_i ys ds;have enter:∃(l:Nat) (mark:VB Deferred) (w1:UD) (j1:aP) (kb:Blk),(Instr.enterLoop fnId a.tmps ps assign body F.round).run E.P w=.ok (l,mark) w1/\kb.c=l/\j1 m.next=some kb /\
       Sim E j m w j1 (m.alloc (.loop { state:=.ready,pending:=none,fn:=fr.fn,tmps:=fr.tmps,n:=fr.n,params:=ps,assign,body})) w1/\Marks N w1 (mark++a.defers):=by
      unfold kI at har;simp only[R9] at har;have hround:=har.2;cases hfr:fr.round with
      | none =>
       rw[hfr] at hro;have hFw:F=Fence.wide:=hro;subst hFw;have s0:=DD hm (.deferred (some []));have s1:=nR s0.mr (ao:=.loop { state:=.ready,pending:=none,fn:=fr.fn,tmps:=fr.tmps,n:=fr.n,params:=ps,assign,body}) (mo:=none)
        (co:=.loop { state:=.ready,pending:=none,fn:=fnId,tmps:=a.tmps,params:=ps,assign,body,defers:=w.heap.size}) ⟨rfl,rfl,rfl,rfl,rfl,ht⟩
       refine⟨_,_,_,_,_,run_enterLoop_outer fnId a.tmps ps assign body,?_,aP.cd _ _ _,s0.trans hm s1,?_⟩
       show(w.alloc (.deferred (some []))).heap.size=_
       rw[World.size_alloc]
       obtain⟨rs,n1,n0,n3⟩:=(hmk.H3 hm s0).H3 s0.mr s1;obtain⟨rs',p2,p0,p1⟩:=hmk;have hrs:rs=rs':=by
        have e:=n0.symm.trans p0;refine List.map_inj_right (f:=tU) (fun x y hxy=>?_) |>.1 e
        simpa [tU] using hxy
       subst hrs;refine⟨w.heap.size::rs,TI.2 ⟨fun hin=>?_,n1⟩,by simp[tU,n0],fun x hx=>?_⟩
       have:=(Sh.1 (p1 _ hin).2).1;omega
       rcases Sr.1 hx with rfl|hx
       refine⟨hN,?_⟩;have hlt:w.heap.size<(w.alloc (.deferred (some []))).heap.size:=by rw[World.size_alloc]; omega
       rw[s1.frame _ hlt fun b kb hb hl he=>Sw (hm.lt b kb hb).2 (by omega)]
       exact World.alloc_heap_new _ _
       exact n3 x hx
      | some l0 =>
       rw[hfr] at hro hround;obtain⟨k0,h9,rfl⟩:=hro;simp only at hround
       split at hround
       rename_i r3 h10;obtain⟨r1,h11,_⟩:=hm.uu h9 h10;have s1:=nR hm (ao:=.loop { state:=.ready,pending:=none,fn:=fr.fn,tmps:=fr.tmps,n:=fr.n,params:=ps,assign,body}) (mo:=none)
        (co:=.loop { state:=.ready,pending:=none,fn:=fnId,tmps:=a.tmps,params:=ps,assign,body,defers:=r1.defers}) ⟨rfl,rfl,rfl,rfl,rfl,ht⟩
       exact⟨_,_,_,_,_,nU h11 fnId a.tmps ps assign body,rfl,aP.cd _ _ _,s1,by simpa using hmk.H3 hm s1⟩
       cases hround
     obtain⟨l,mark,w1,j1,kb,e1,e2,e0,s1,h12⟩:=enter;subst e2;have hprim:(E.cP gf).isSome=false:=by
      unfold kI at har;simp only[R9,hg] at har;cases hp:E.cP gf with
      | none=>rfl
      | some p=>rw[hp] at har; simp at har
     have hl:LR j1 (first.toList++[Value.func (.yield m.next) #[] #[]]++captured.toList) (ys.toList++[Value.func (.yield kb.c) #[] #[]]++ds.toList) :=
      (((LR.fD h5 h6).mono s1.le).append (.cons (.yield e0 rfl (fun i a _=>by simp at a)) (.nil _))).append ((LR.fD h7 h8).mono s1.le)
     have hcs:=HC j1 w1 _ s1.mr hl;have harr:(ys.toList++[Value.func (.yield kb.c) #[] #[]]++ds.toList).toArray=ys++#[Value.func (.yield kb.c) #[] #[]]++ds:=by apply Tz.1; simp
     rw[harr] at hcs;rcases hcs with⟨hr,hci⟩|⟨hpr,_⟩
     ·refine⟨kb.c,mark,w1,{ target:=.fn (.func gf) ds,args:=ys++#[Value.func (.yield kb.c) #[] #[]]},w1,gf,ys++#[Value.func (.yield kb.c) #[] #[]]++ds,w1,e1,?_,fun f' _=>hF.fn f',?_,hF.depth,?_⟩
      have hmap:Array.map a.eval #[Operand.const (Value.func (Fn.yield kb.c) #[] #[])]=#[Value.func (Fn.yield kb.c) #[] #[]]:=by
       apply Tz.1; rw[Array.toList_map]; rfl
      simp only[resolve,hfe,Deferred.ofValue,VG,hmap]
      simp only[invoke]; exact hr
      ·refine CallsIn.mono (hF.calls hci) ?_;rintro e' w3 ⟨v',rfl,j3,s3,hv⟩;have h3:=s3.le _ _ e0;obtain⟨r0,h13,f1,f0,f3,f2,f4,f5⟩:=s3.mr.uu h3 h2;have s2:Sim E j3 m2 w3 j3 (m2.set m.next (.loop { r2 with state:=.exhausted})) (w3.putObj kb.c (.loop { r0 with state:=.exhausted})) :=
        iQ s3.mr h3 (by rw[h2]; rfl) ⟨rfl,f0,f3,f2,f4,f5⟩
       have sall:=s1.trans hm (s3.trans s1.mr s2);refine⟨r0.pending,_,run_endLoop h13 (by rw[<-f1]; exact hbusy),?_⟩
       have hfin:=hQ j3 _ { a with defers:=mark++a.defers} sall (ht.mono sall.le) ((h12.H3 s1.mr s3).H3 s3.mr s2);rw[f0] at hfin;generalize(w3.putObj kb.c (.loop { r0 with state:=.exhausted}))=w4 at hfin ⊢;cases hp:r0.pending with
       | none=>exact hfin.1 hp
       | some c=>exact hfin.2 c hp
     rw[hprim] at hpr; cases hpr
    split at h
    cases h
    rename_i hbusy
    split at h
    rename_i hpend;cases h;refine⟨.normal,fr.tmps,_,rfl,fun j w a F N hm ht hro hmk hN=>?_⟩;refine common hbusy j w a F N hm ht hro hmk hN _ fun j2 w2 a0 s2 h0 h1=>?_;exact⟨fun _=>⟨rfl,j2,s2,h0,h1⟩,fun c hc=>Sw (hpend.symm.trans hc) (by simp)⟩
    rename_i c hpend
    split at h
    rename_i e t m' hkp;cases h;obtain⟨e3,t0,m0,h14,HP⟩:=hk _ _ hkp;cases h14;refine⟨e,t,m',rfl,fun j w a F N hm ht hro hmk hN=>?_⟩;refine common hbusy j w a F N hm ht hro hmk hN _ fun j2 w2 a0 s2 h0 h1=>?_;refine⟨fun hc=>Sw (hpend.symm.trans hc) (by simp),fun c' hc=>?_⟩
    rw[hpend] at hc; cases hc;exact wpIn_mono (HP j2 w2 a0 F N s2.mr h0 (hro.mono s2.le) h1 (SI hN s2.size)) fun e' a' w' q=>q.from hm s2
    cases h
   cases h
  cases h
 cases h
def yf(hE:EnvOk E)(hk:∀tk r,k tk=some r->cO E tk r){c:Code}{fr:Fr}{m:Vn}{r:Res}(h:step E k (.code c fr m)=some r):cO E (.code c fr m) r:=by
 cases c with
 | skip =>
  simp only[step,Option.some.injEq] at h;subst h;exact⟨.normal,fr.tmps,m,rfl,fun j w a F N hm ht hro hd hN=>wpIn_skip ⟨rfl,j,.refl hm,ht,hd⟩⟩
 | label l =>
  simp only[step,Option.some.injEq] at h;subst h;exact⟨.normal,fr.tmps,m,rfl,fun j w a F N hm ht hro hd hN=>wpIn_label ⟨rfl,j,.refl hm,ht,hd⟩⟩
 | exit id =>
  simp only[step,Option.some.injEq] at h;subst h;exact⟨.exit id,fr.tmps,m,rfl,fun j w a F N hm ht hro hd hN=>wpIn_exit ⟨rfl,j,.refl hm,ht,hd⟩⟩
 | ret =>
  simp only[step,Option.some.injEq] at h;subst h;exact⟨.ret,fr.tmps,m,rfl,fun j w a F N hm ht hro hd hN=>wpIn_ret ⟨rfl,j,.refl hm,ht,hd⟩⟩
 | seq x y =>
  simp only[step] at h
  split at h
  rename_i t1 m1 h1;obtain⟨e0,t0,m0,hr0,H1⟩:=hk _ _ h1;cases hr0;obtain⟨e2,t2,m2,rfl,H2⟩:=hk _ _ h;refine⟨e2,t2,m2,rfl,fun j w a F N hm ht hro hd hN=>wpIn_seq (wpIn_mono (H1 j w a F N hm ht hro hd hN) ?_)⟩;rintro e' a' w' ⟨rfl,j',s,ht',hd'⟩;exact wpIn_mono (H2 j' w' a' F N s.mr ht' (hro.mono s.le) hd' (SI hN s.size)) fun _ _ _ q=>q.from hm s
  ·rename_i e1 t1 m1 hne h1;cases h;obtain⟨e0,t0,m0,hr0,H1⟩:=hk _ _ h1;cases hr0;refine⟨e1,t1,m1,rfl,fun j w a F N hm ht hro hd hN=>wpIn_seq (wpIn_mono (H1 j w a F N hm ht hro hd hN) ?_)⟩;rintro e' a' w' q;have he:=q.1;subst he;cases e1 with
   | normal=>exact(hne rfl).elim
   | exit id=>exact q
   | ret=>exact q
  cases h
 | cond x a b =>
  simp only[step] at h
  split at h
  rename_i hx;obtain⟨e2,t2,m2,rfl,H⟩:=hk _ _ h;refine⟨e2,t2,m2,rfl,fun j w a F N hm ht hro hd hN=>?_⟩;have hv:=aR hm ht hx;generalize hxe:a.eval x=xv at hv;cases hv;exact wpIn_cond_true hxe (H j w a F N hm ht hro hd hN)
  rename_i hx;obtain⟨e2,t2,m2,rfl,H⟩:=hk _ _ h;refine⟨e2,t2,m2,rfl,fun j w a F N hm ht hro hd hN=>?_⟩;have hv:=aR hm ht hx;generalize hxe:a.eval x=xv at hv;cases hv;exact wpIn_cond_false hxe (H j w a F N hm ht hro hd hN)
  cases h
 | block id c =>
  simp only[step] at h
  split at h
  rename_i id' t1 m1 h1;obtain⟨e0,t0,m0,hr0,H⟩:=hk _ _ h1;cases hr0
  split at h
  rename_i hid;cases h;refine⟨.normal,t1,m1,rfl,fun j w a F N hm ht hro hd hN=>wpIn_block (wpIn_mono (H j w a F N hm ht hro hd hN) ?_)⟩;rintro e' a' w' ⟨rfl,q⟩;simp only[GV,Exit.inBlock,hid,if_true];exact⟨rfl,q⟩
  rename_i hid;cases h;refine⟨.exit id',t1,m1,rfl,fun j w a F N hm ht hro hd hN=>wpIn_block (wpIn_mono (H j w a F N hm ht hro hd hN) ?_)⟩;rintro e' a' w' ⟨rfl,q⟩;simp only[GV,Exit.inBlock,hid,if_false];exact⟨rfl,q⟩
  ·rename_i e1 t1 m1 hne h1;cases h;obtain⟨e0,t0,m0,hr0,H⟩:=hk _ _ h1;cases hr0;refine⟨e1,t1,m1,rfl,fun j w a F N hm ht hro hd hN=>wpIn_block (wpIn_mono (H j w a F N hm ht hro hd hN) ?_)⟩;rintro e' a' w' ⟨rfl,q⟩;cases e1 with
   | normal=>exact⟨rfl,q⟩
   | exit id=>exact(hne _ rfl).elim
   | ret=>exact⟨rfl,q⟩
  cases h
 | loop c =>
  simp only[step] at h;obtain⟨e2,t2,m2,rfl,H⟩:=hk _ _ h;exact⟨e2,t2,m2,rfl,fun j w a F N hm ht hro hd hN=>me (H j w a F N hm ht hro hd hN)⟩
 | scope c =>
  simp only[step] at h
  split at h
  rename_i e1 t1 m1 h1;cases h;obtain⟨e0,t0,m0,hr0,H⟩:=hk _ _ h1;cases hr0;refine⟨e1,t1,m1,rfl,fun j w a F N hm ht hro hd hN=>Cf (wpIn_mono (H j w a F N hm ht hro hd hN) ?_)⟩;rintro e' a' w' ⟨rfl,q⟩;cases e1<;>exact⟨rfl,q⟩
  cases h
 | region id ops draw =>
  simp only[step] at h
  split at h
  rename_i hdraw
  split at h
  rename_i ps hps
  split at h
  rename_i t1 m1 ns hr
  split at h
  rename_i hok;cases h;refine⟨.normal,t1,m1,rfl,fun j w a F N hm ht hro hd hN=>?_⟩;rw[hdraw];simp only[R9] at hok;exact EL hk hE.mixed hps hr hok.1 hok.2 hm ht hro.wide fun j' w' a' s ht' hds=>⟨rfl,j',s,ht',by rw[hds]; exact hd.H3 hm s⟩
  cases h
  cases h
  cases h
  rename_i hdraw;have hdraw':draw=false:=by simpa using hdraw
  split at h
  rename_i t1 m1 hr;cases h;refine⟨.normal,t1,m1,rfl,fun j w a F N hm ht hro hd hN=>?_⟩;rw[hdraw'];refine wpIn_region ?_;have:=kY (ops:=ops) (n:=fr.n) (tf:=t1) (mf:=m1) hk hro.wide hm a.defers (Q:=mM E j m w N fr.n .normal t1 m1) (fun j' w' a' s ht' hds=>⟨rfl,j',s,ht',by rw[hds]; exact hd.H3 hm s⟩) ops.toList 0 fr.tmps m j w a rfl hr (.refl hm) ht rfl
  rw[List.range_eq_range']
  simpa using this
  cases h
 | rangeFunc g ps assign body=>exact uB hk h
 | goto l=>simp[step] at h
 | refuse why=>simp[step] at h
def wF(hk:∀tk r,k tk=some r->cO E tk r){c:Code}{fr:Fr}{m:Vn}{r:Res}(h:step E k (.loop c fr m)=some r):cO E (.loop c fr m) r:=by
 simp only[step] at h
 split at h
 rename_i t1 m1 h1;obtain⟨e0,t0,m0,hr0,H1⟩:=hk _ _ h1;cases hr0;obtain⟨e2,t2,m2,rfl,H2⟩:=hk _ _ h;refine⟨e2,t2,m2,rfl,fun j w a F N hm ht hro hd hN=>lB (wpIn_mono (H1 j w a F N hm ht hro hd hN) ?_)⟩;rintro e' a' w' ⟨rfl,j',s,ht',hd'⟩;intro b k' cs hro' hb hr;obtain⟨e3,a3,w3,q,harr⟩:=H2 j' w' a' F N s.mr ht' (hro.mono s.le) hd' (SI hN s.size) b k' cs hro' hb hr;exact⟨e3,a3,w3,q.from hm s,harr⟩
 ·rename_i e1 t1 m1 hne h1;cases h;obtain⟨e0,t0,m0,hr0,H1⟩:=hk _ _ h1;cases hr0;refine⟨e1,t1,m1,rfl,fun j w a F N hm ht hro hd hN=>lB (wpIn_mono (H1 j w a F N hm ht hro hd hN) ?_)⟩;rintro e' a' w' q;have he:=q.1;subst he;cases e1 with
  | normal=>exact(hne rfl).elim
  | exit id=>exact q
  | ret=>exact q
 cases h
def Fh(hE:EnvOk E)(hk:∀tk r,k tk=some r->cO E tk r){tk:Task}{r:Res}(h:step E k tk=some r):cO E tk r:=by
 cases tk with
 | code c fr m=>exact yf hE hk h
 | loop c fr m=>exact wF hk h
 | call f args m=>exact xn hE hk h
 | round l args m=>exact uK hk h
def p9(hE:EnvOk E):∀(fuel:Nat) (tk:Task) (r:Res),run E fuel tk=some r->cO E tk r
 | 0,_,_,h=>by cases h
 | n+1,_,_,h=>Fh hE (p9 hE n) h
end
section
variable{E:Env}{k k':K}
def Pe(k k':K):Prop:=∀tk r,k tk=some r->k' tk=some r
def ly (h:Pe k k') {t:Tm} {m:Vn} {o:Op} {x:Uz × Vn} (e:ek k E t m o=some x):ek k' E t m o=some x:=by
 unfold ek at e ⊢
 split at e
 ·rename_i c
  try simp only
  split at e
  ·rename_i f hc
   try simp only
   split at e
   ·rename_i g first captured args h1 h2
    try simp only[h1,h2]
    split at e
    rename_i v m' hk;rw[h _ _ hk]; exact e
    cases e
   ·rename_i l first cap args h1 h2
    try simp only[h1,h2]
    split at e
    rename_i v m' hk;rw[h _ _ hk]; exact e
    cases e
   cases e
  ·rename_i hne
   first
    | exact e
    | (split
       rename_i f hc; exact(hne f hc).elim
       exact e)
 ·rename_i hne
  first
   | exact e
   | (split
      rename_i c; exact(hne c rfl).elim
      exact e)
def jQ(h:Pe k k'){n:Nat}{ops:VD Oper}:∀{os:VB Oper} {t:Tm} {m:Vn} {x:Tm×Vn},jg k E n ops os t m=some x->jg k' E n ops os t m=some x
 | [],t,m,x,e=>e
 | o::os,t,m,x,e=>by
  simp only[jg] at e ⊢
  split at e
  ·rename_i hw;rw[R7 hw]
   split at e
   ·rename_i v m' ho;rw[ly h ho]
    try simp only
    split at e
    ·rename_i t' hp
     try simp only[hp]
     exact jQ h e
    cases e
   cases e
  ·rename_i hw;rw[R5 hw]
   split at e
   ·rename_i t' hp
    try simp only[hp]
    exact jQ h e
   cases e
def hJ(h:Pe k k'){n:Nat}{ops:VD Oper}:∀{os:VB Oper} {t:Tm} {m:Vn} {x:Tm×Vn×VB Note},dK k E n ops os t m=some x->dK k' E n ops os t m=some x
 | [],t,m,x,e=>e
 | o::os,t,m,x,e=>by
  simp only[dK] at e ⊢
  split at e
  ·rename_i hw;rw[R7 hw]
   split at e
   ·rename_i v m' ho;rw[ly h ho]
    try simp only
    split at e
    ·rename_i t' hp
     try simp only[hp]
     split at e
     rename_i a b c hr;rw[hJ h hr]; exact e
     cases e
    cases e
   cases e
  ·rename_i hw;rw[R5 hw]
   split at e
   ·rename_i t' hp
    try simp only[hp]
    split at e
    rename_i a b c hr;rw[hJ h hr]; exact e
    cases e
   cases e
def DH (h:Pe k k') {tk:Task} {r:Res} (e:step E k tk=some r):step E k' tk=some r:=by
 cases tk with
 | code c fr m =>
  cases c with
  | seq a b =>
   simp only[step] at e ⊢
   split at e
   rename_i t1 m1 h1;rw[h _ _ h1]; exact h _ _ e
   ·rename_i e1 t1 m1 hne h1;rw[h _ _ h1];cases e1 with
    | normal=>exact(hne rfl).elim
    | exit id=>exact e
    | ret=>exact e
   cases e
  | cond x a b =>
   simp only[step] at e ⊢
   split at e
   ·rename_i hx; try simp only[hx]
    exact h _ _ e
   ·rename_i hx; try simp only[hx]
    exact h _ _ e
   cases e
  | block id a =>
   simp only[step] at e ⊢
   split at e
   rename_i id' t1 m1 h1;rw[h _ _ h1]; exact e
   ·rename_i e1 t1 m1 hne h1;rw[h _ _ h1];cases e1 with
    | exit id'=>exact(hne _ rfl).elim
    | normal=>exact e
    | ret=>exact e
   cases e
  | loop a=>simp only[step] at e ⊢; exact h _ _ e
  | scope a =>
   simp only[step] at e ⊢
   split at e
   rename_i e1 t1 m1 h1;rw[h _ _ h1]; exact e
   cases e
  | region id ops draw =>
   simp only[step] at e ⊢
   split at e
   ·rename_i hd;rw[R7 hd]
    split at e
    ·rename_i ps hps
     try simp only[hps]
     split at e
     rename_i t1 m1 ns hr;rw[hJ h hr]; exact e
     cases e
    cases e
   rename_i hd;rw[R5 hd]
   split at e
   rename_i t1 m1 hr;rw[jQ h hr]; exact e
   cases e
  | rangeFunc f ps ars bd =>
   simp only[step] at e ⊢
   split at e
   ·rename_i g first captured hg har
    try simp only[hg,har]
    split at e
    ·rename_i v m2 hk;rw[h _ _ hk]
     try simp only
     split at e
     ·rename_i r2 hl
      try simp only[hl]
      split at e
      cases e
      ·rename_i hb;revert e;cases hs:r2.state
       case busy=>exact(hb hs).elim
       all_goals
        cases hp:r2.pending with
        | none=>intro e; exact e
        | some c =>
         intro e;simp only at e ⊢
         split at e
         rename_i e1 t1 m1 hk2;rw[h _ _ hk2]; exact e
         cases e
     cases e
    cases e
   cases e
  | _=>exact e
 | loop c fr m =>
  simp only[step] at e ⊢
  split at e
  rename_i t1 m1 h1;rw[h _ _ h1]; exact h _ _ e
  ·rename_i e1 t1 m1 hne h1;rw[h _ _ h1];cases e1 with
   | normal=>exact(hne rfl).elim
   | exit id=>exact e
   | ret=>exact e
  cases e
 | call f args m =>
  simp only[step] at e ⊢
  split at e
  ·rename_i p hp
   try simp only[hp]
   exact e
  ·rename_i hp
   try simp only[hp]
   split at e
   ·rename_i fn hf
    try simp only[hf]
    split at e
    ·rename_i c hb
     try simp only[hb]
     split at e
     cases e
     ·rename_i e1 t1 m1 hne h1;rw[h _ _ h1];cases e1 with
      | exit id=>exact(hne _ rfl).elim
      | normal=>exact e
      | ret=>exact e
     cases e
    cases e
   cases e
 | round l args m =>
  simp only[step] at e ⊢
  split at e
  ·rename_i r1 hl
   try simp only[hl]
   split at e
   ·rename_i hs
    try simp only[hs]
    split at e
    cases e
    ·rename_i hlen;rw[R5 hlen]
     split at e
     cases e
     ·rename_i t0 hsp
      try simp only[hsp]
      split at e
      ·rename_i t1 m1 h1;rw[h _ _ h1]
       try simp only
       split at e
       ·rename_i r2 hl2
        try simp only[hl2]
        split at e
        ·rename_i hs2
         try simp only[hs2]
         split at e
         rename_i e2 t2 m2 h2;rw[h _ _ h2]; exact e
         cases e
        cases e
       cases e
      cases e
   cases e
  cases e
def Hw{n:Nat}{tk:Task}{r:Res}:run E n tk=some r->run E (n+1) tk=some r:=by
 induction n generalizing tk r with
 | zero=>intro h; cases h
 | succ n ih=>intro h; exact DH (fun _ _=>ih) h
def kL{n n':Nat}(hn:n<=n'){tk:Task}{r:Res}(h:run E n tk=some r):run E n' tk=some r:=by
 induction hn with
 | refl=>exact h
 | step _ ih=>exact Hw ih
def Ia(E:Env)(tk:Task)(r:Res):Prop:=∃n,run E n tk=some r
end
section
variable{E:Env}{n:Nat}{fn:VI}{ro:VA Nat}
def aK(E:Env)(f:VI)(args:VB Uz)(m:Vn)(Q:Uz->Vn->Prop):Prop:=∃v m',Ia E (.call f args m) (.val v m')/\Q v m'
def BD(E:Env)(l:Nat)(args:VB Uz)(m:Vn)(Q:Uz->Vn->Prop):Prop:=∃v m',Ia E (.round l args m) (.val v m')/\Q v m'
def bY(E:Env)(n:Nat)(fn:VI)(ro:VA Nat)(c:Code)(Q:Vo->Tm->Vn->Prop)(t:Tm)(m:Vn):Prop:=∃e t' m',Ia E (.code c ⟨t,n,fn,ro⟩ m) (.code e t' m')/\Q e t' m'
def Cz(E:Env)(n:Nat)(fn:VI)(ro:VA Nat)(c:Code)(Q:Vo->Tm->Vn->Prop)(t:Tm)(m:Vn):Prop:=∃e t' m',Ia E (.loop c ⟨t,n,fn,ro⟩ m) (.code e t' m')/\Q e t' m'
def aK.mono{f:VI}{args:VB Uz}{m:Vn}{Q Q':Uz->Vn->Prop}(h:aK E f args m Q)(hq:∀v m',Q v m'->Q' v m'):aK E f args m Q' :=
 let⟨v,m',r,q⟩:=h;⟨v,m',r,hq v m' q⟩
def bY.mono{c:Code}{Q Q':Vo->Tm->Vn->Prop}{t:Tm}{m:Vn}(h:bY E n fn ro c Q t m)(hq:∀e t m,Q e t m->Q' e t m):bY E n fn ro c Q' t m :=
 let⟨e,t',m',r,q⟩:=h;⟨e,t',m',r,hq _ _ _ q⟩
def oF(K:Tm->Vn->Prop)(Q:Vo->Tm->Vn->Prop):Vo->Tm->Vn->Prop
 | .normal,t,m=>K t m
 | .exit id,t,m=>Q (.exit id) t m
 | .ret,t,m=>Q .ret t m
def ik(id:Nat)(Q:Vo->Tm->Vn->Prop):Vo->Tm->Vn->Prop
 | .normal,t,m=>Q .normal t m
 | .exit id',t,m=>if id'=id then Q .normal t m else Q (.exit id') t m
 | .ret,t,m=>Q .ret t m
variable{Q:Vo->Tm->Vn->Prop}{t:Tm}{m:Vn}
def bB{k:Nat}{tk:Task}{r:Res}(h:step E (run E k) tk=some r):Ia E tk r:=⟨k+1,h⟩
def bY.skip(h:Q .normal t m):bY E n fn ro .skip Q t m:=⟨_,_,_,bB (k:=0) rfl,h⟩
def bY.exit{id:Nat}(h:Q (.exit id) t m):bY E n fn ro (.exit id) Q t m:=⟨_,_,_,bB (k:=0) rfl,h⟩
def bY.ret(h:Q .ret t m):bY E n fn ro .ret Q t m:=⟨_,_,_,bB (k:=0) rfl,h⟩
def bY.seq{a b:Code}(h:bY E n fn ro a (oF (bY E n fn ro b Q) Q) t m):bY E n fn ro (.seq a b) Q t m:=by
 obtain⟨e,t1,m1,⟨k1,h1⟩,q⟩:=h;cases e with
 | normal =>
  obtain⟨e2,t2,m2,⟨k2,h2⟩,q2⟩:=q;refine⟨e2,t2,m2,bB (k:=max k1 k2) ?_,q2⟩;simp only[step,kL (Nat.le_max_left k1 k2) h1];exact kL (Nat.le_max_right k1 k2) h2
 | exit id=>exact⟨_,_,_,bB (k:=k1) (by simp only[step,h1]),q⟩
 | ret=>exact⟨_,_,_,bB (k:=k1) (by simp only[step,h1]),q⟩
def bY.cond{x:UB}{a b:Code}{c:Bool}(hx:al E t x=some (.bool c))(ht:c=true->bY E n fn ro a Q t m)(hf:c=false->bY E n fn ro b Q t m):bY E n fn ro (.cond x a b) Q t m:=by
 cases c with
 | true =>
  obtain⟨e,t1,m1,⟨k1,h1⟩,q⟩:=ht rfl;exact⟨e,t1,m1,bB (k:=k1) (by simp only[step,hx]; exact h1),q⟩
 | false =>
  obtain⟨e,t1,m1,⟨k1,h1⟩,q⟩:=hf rfl;exact⟨e,t1,m1,bB (k:=k1) (by simp only[step,hx]; exact h1),q⟩
def bY.block{id:Nat}{a:Code}(h:bY E n fn ro a (ik id Q) t m):bY E n fn ro (.block id a) Q t m:=by
 obtain⟨e,t1,m1,⟨k1,h1⟩,q⟩:=h;cases e with
 | normal=>exact⟨_,_,_,bB (k:=k1) (by simp only[step,h1]),q⟩
 | exit id' =>
  simp only[ik] at q
  by_cases hid:id'=id
  rw[R7 hid] at q;exact⟨_,_,_,bB (k:=k1) (by simp only[step,h1,R7 hid]),q⟩
  rw[R5 hid] at q;exact⟨_,_,_,bB (k:=k1) (by simp only[step,h1,R5 hid]),q⟩
 | ret=>exact⟨_,_,_,bB (k:=k1) (by simp only[step,h1]),q⟩
def bY.loop{a:Code}(h:Cz E n fn ro a Q t m):bY E n fn ro (.loop a) Q t m:=by
 obtain⟨e,t1,m1,⟨k1,h1⟩,q⟩:=h;exact⟨_,_,_,bB (k:=k1) (by simp only[step]; exact h1),q⟩
def Cz.round{a:Code}(h:bY E n fn ro a (oF (Cz E n fn ro a Q) Q) t m):Cz E n fn ro a Q t m:=by
 obtain⟨e,t1,m1,⟨k1,h1⟩,q⟩:=h;cases e with
 | normal =>
  obtain⟨e2,t2,m2,⟨k2,h2⟩,q2⟩:=q;refine⟨e2,t2,m2,bB (k:=max k1 k2) ?_,q2⟩;simp only[step,kL (Nat.le_max_left k1 k2) h1];exact kL (Nat.le_max_right k1 k2) h2
 | exit id=>exact⟨_,_,_,bB (k:=k1) (by simp only[step,h1]),q⟩
 | ret=>exact⟨_,_,_,bB (k:=k1) (by simp only[step,h1]),q⟩
def lI(E:Env)(t:Tm)(m:Vn)(o:Op)(K:Uz->Vn->Prop):Prop:=∃v m',(∃k,ek (run E k) E t m o=some (v,m'))/\K v m'
def rK{k k':Nat}(h:k<=k'):Pe (run E k) (run E k'):=fun _ _=>kL h
def lI.plain{o:Op}{v:Uz}{m':Vn}{K:Uz->Vn->Prop}(he:fj E t m o=some (v,m'))(h:K v m'):lI E t m o K:=by
 refine⟨v,m',⟨0,?_⟩,h⟩;unfold ek
 split
 rename_i c
 split
 rename_i f hc;simp[fj,hc] at he
 exact he
 exact he
def lI.call{c:Call}{f:UB}{g:VI}{first captured:VD Uz}{args:VB Uz}{K:Uz->Vn->Prop}(hc:c.callee=.value f)(hf:al E t f=some (.func (.func g) first captured))(ha:bz E t c.args.toList=some args)
  (h:aK E g (first.toList++args++captured.toList) m K):lI E t m (.call c) K:=by
 obtain⟨v,m',⟨k,hk⟩,q⟩:=h;exact⟨v,m',⟨k,by simp only[ek,hc,hf,ha,hk]⟩,q⟩
def lI.round{c:Call}{f:UB}{l:Nat}{first cap:VD Uz}{args:VB Uz}{K:Uz->Vn->Prop}(hc:c.callee=.value f)(hf:al E t f=some (.func (.yield l) first cap))(ha:bz E t c.args.toList=some args)
  (h:BD E l (first.toList++args) m K):lI E t m (.call c) K:=by
 obtain⟨v,m',⟨k,hk⟩,q⟩:=h;exact⟨v,m',⟨k,by simp only[ek,hc,hf,ha,hk]⟩,q⟩
def Ja(n:Nat)(t:Tm)(dst:VA Tmp)(v:Uz)(K:Tm->Prop):Prop:=∃t',kj n t dst v=some t'/\K t'
def BV(E:Env)(n:Nat)(ops:VD Oper)(K:Tm->Vn->Prop):VB Oper->Tm->Vn->Prop
 | [],t,m=>K t m
 | o::os,t,m=>if bW ops o t then lI E t m o.op fun v m'=>Ja n t o.dst v fun t'=>BV E n ops K os t' m' else Ja n t o.dst undef fun t'=>BV E n ops K os t' m
def nK{ops:VD Oper}{K:Tm->Vn->Prop}:∀{os:VB Oper} {t:Tm} {m:Vn},BV E n ops K os t m->∃k t' m',jg (run E k) E n ops os t m=some (t',m')/\K t' m'
 | [],t,m,h=>⟨0,t,m,rfl,h⟩
 | o::os,t,m,h=>by
  simp only[BV] at h
  split at h
  rename_i hw;obtain⟨v,m1,⟨k1,h1⟩,t1,hp,h2⟩:=h;obtain⟨k2,t2,m2,h3,h4⟩:=nK h2;refine⟨max k1 k2,t2,m2,?_,h4⟩;simp only[jg,R7 hw,ly (rK (Nat.le_max_left k1 k2)) h1,hp];exact jQ (rK (Nat.le_max_right k1 k2)) h3
  rename_i hw;obtain⟨t1,hp,h2⟩:=h;obtain⟨k2,t2,m2,h3,h4⟩:=nK h2;refine⟨k2,t2,m2,?_,h4⟩;simp only[jg,R5 hw,hp];exact h3
def bY.region{id:Nat}{ops:VD Oper}(h:BV E n ops (Q .normal) ops.toList t m):bY E n fn ro (.region id ops false) Q t m:=by
 obtain⟨k,t',m',h1,h2⟩:=nK h;exact⟨_,_,_,bB (k:=k) (by simp only[step,SC,if_false,h1]),h2⟩
def iD(E:Env)(n:Nat)(ops:VD Oper)(K:Tm->Vn->VB Note->Prop):VB Oper->Tm->Vn->VB Note->Prop
 | [],t,m,ns=>K t m ns.reverse
 | o::os,t,m,ns =>
  if bW ops o t then lI E t { m with wl:=m.next} o.op fun v m'=>Ja n t o.dst v fun t' =>
   iD E n ops K os t' { m' with wl:=min m.wl m'.wl} ({ read:=aL E t o.op,wl:=m'.wl,next:=m.next,wrote:=eS E t o.op,kept:=jo m m'}::ns)
  else Ja n t o.dst undef fun t'=>iD E n ops K os t' m ({ read:=none,wl:=m.next,next:=m.next,wrote:=none,kept:=fun _=>false}::ns)
def lW{ops:VD Oper}{K:Tm->Vn->VB Note->Prop}:∀{os:VB Oper} {t:Tm} {m:Vn} {ns:VB Note},iD E n ops K os t m ns->∃k t' m' ns',dK (run E k) E n ops os t m=some (t',m',ns')/\K t' m' (ns.reverse++ns')
 | [],t,m,ns,h=>⟨0,t,m,[],rfl,by rw[SX]; exact h⟩
 | o::os,t,m,ns,h=>by
  simp only[iD] at h
  split at h
  rename_i hw;obtain⟨v,m1,⟨k1,h1⟩,t1,hp,h2⟩:=h;obtain⟨k2,t2,m2,ns2,h3,h4⟩:=lW h2;refine⟨max k1 k2,t2,m2,_::ns2,?_,by simpa using h4⟩
  simp only[dK,R7 hw,ly (rK (Nat.le_max_left k1 k2)) h1,hp,hJ (rK (Nat.le_max_right k1 k2)) h3]
  rename_i hw;obtain⟨t1,hp,h2⟩:=h;obtain⟨k2,t2,m2,ns2,h3,h4⟩:=lW h2;refine⟨k2,t2,m2,_::ns2,?_,by simpa using h4⟩
  simp only[dK,R5 hw,hp,h3]
def bY.draw{id:Nat}{ops:VD Oper}{ps:VB (Nat×Nat)}(hp:lh ops=some ps)(h:iD E n ops (fun t m ns=>(ps.all (dM ns ops)&&ns.all fG)=true/\Q .normal t m) ops.toList t m []):bY E n fn ro (.region id ops true) Q t m:=by
 obtain⟨k,t',m',ns,h1,h2,h3⟩:=lW h;simp only[List.reverse_nil,Ty] at h2;exact⟨_,_,_,bB (k:=k) (by simp only[step,if_true,hp,h1,h2]),h3⟩
def aK.enter{f:VI}{F:Func}{c:Code}{args:VB Uz}{R:Uz->Vn->Prop}(hp:E.cP f=none)(hf:E.P.funcs[f]? = some F)(hb:F.body=some c)
  (h:bY E (max args.length F.ntmps) f none c (fun e t' m'=>(∀id,e≠.exit id)/\∃vs,cM E t' m' F.results.toList=some vs/\R (iA vs) m') (Trie.ofList args 0 .nil) m):aK E f args m R:=by
 obtain⟨e,t',m',⟨k,h1⟩,hne,vs,h2,h3⟩:=h;refine⟨_,m',bB (k:=k) ?_,h3⟩;have hpa:vV E f args m=none:=by unfold vV; rw[hp]; rfl
 simp only[step,hpa,hf,hb,h1];cases e with
 | exit id=>exact(hne id rfl).elim
 | normal=>simp only[h2,Ss]
 | ret=>simp only[h2,Ss]
end
section
variable{E:Env}{n:Nat}{fn:VI}{ro:VA Nat}{Q:Vo->Tm->Vn->Prop}{t:Tm}{m:Vn}
def eQ(r:VA (Uz×Vn))(K:Uz->Vn->Prop):Prop :=
 match r with
 | some (v,m)=>K v m
 | none=>False
def IU(r:VA Tm)(K:Tm->Prop):Prop :=
 match r with
 | some t=>K t
 | none=>False
def kn(E:Env)(f:VA Uz)(args:VA (VB Uz))(m:Vn)(K:Uz->Vn->Prop):Prop :=
 match f,args with
 | some (.func (.func g) first captured),some ars=>aK E g (first.toList++ars++captured.toList) m K
 | some (.func (.yield l) first _),some ars=>BD E l (first.toList++ars) m K
 | _,_=>False
def pd(g:VI)(ars:VB Uz)(K:Uz->Vn->Prop):kn E (some (.func (.func g) #[] #[])) (some ars) m K=aK E g ars m K:=by
 simp[kn]
def pa(o:Op):VA (UB×VB UB) :=
 match o with
 | .call c=>match c.callee with
  | .value f=>some (f,c.args.toList)
  | _=>none
 | _=>none
def bh(E:Env)(t:Tm)(m:Vn)(o:Op)(K:Uz->Vn->Prop):Prop :=
 match pa o with
 | some (f,ars)=>kn E (al E t f) (bz E t ars) m K
 | none=>eQ (fj E t m o) K
def bh.A{o:Op}{K:Uz->Vn->Prop}(h:bh E t m o K):lI E t m o K:=by
 unfold bh at h
 split at h
 rename_i f ars hc;unfold pa at hc
 split at hc
 rename_i c
 split at hc
 rename_i f' hcal;cases hc;unfold kn at h
 split at h
 rename_i g first captured args h1 h2
 exact .call hcal h1 h2 h
 rename_i l first cap args h1 h2
 exact .round hcal h1 h2 h
 exact h.elim
 cases hc
 cases hc
 unfold eQ at h
 split at h
 rename_i v m' he;exact .plain he h
 exact h.elim
def oM(E:Env)(n:Nat)(ops:VD Oper)(K:Tm->Vn->Prop):VB Oper->Tm->Vn->Prop
 | [],t,m=>K t m
 | o::os,t,m=>if bW ops o t then bh E t m o.op fun v m'=>IU (kj n t o.dst v) fun t'=>oM E n ops K os t' m' else IU (kj n t o.dst undef) fun t'=>oM E n ops K os t' m
def lI.mono{o:Op}{K K':Uz->Vn->Prop}(h:lI E t m o K)(hk:∀v m',K v m'->K' v m'):lI E t m o K' :=
 let⟨v,m',r,q⟩:=h;⟨v,m',r,hk v m' q⟩
def IU.A{r:VA Tm}{K:Tm->Prop}(h:IU r K):∃t',r=some t'/\K t':=by
 cases r with
 | none=>exact h.elim
 | some t=>exact⟨t,rfl,h⟩
def nq{ops:VD Oper}{K:Tm->Vn->Prop}:∀{os:VB Oper} {t:Tm} {m:Vn},oM E n ops K os t m->BV E n ops K os t m
 | [],t,m,h=>h
 | o::os,t,m,h=>by
  simp only[oM] at h;simp only[BV]
  split at h
  rename_i hw;rw[R7 hw];refine h.A.mono fun v m' hv=>?_;obtain⟨t',hp,h2⟩:=hv.A;exact⟨t',hp,nq h2⟩
  rename_i hw;rw[R5 hw];obtain⟨t',hp,h2⟩:=h.A;exact⟨t',hp,nq h2⟩
def bY.Kt{id:Nat}{ops:VD Oper}(h:oM E n ops (Q .normal) ops.toList t m):bY E n fn ro (.region id ops false) Q t m:=.region (nq h)
def wk(E:Env)(n:Nat)(ops:VD Oper)(K:Tm->Vn->VB Note->Prop):VB Oper->Tm->Vn->VB Note->Prop
 | [],t,m,ns=>K t m ns.reverse
 | o::os,t,m,ns =>
  if bW ops o t then bh E t { m with wl:=m.next} o.op fun v m'=>IU (kj n t o.dst v) fun t' =>
   wk E n ops K os t' { m' with wl:=min m.wl m'.wl} ({ read:=aL E t o.op,wl:=m'.wl,next:=m.next,wrote:=eS E t o.op,kept:=jo m m'}::ns)
  else IU (kj n t o.dst undef) fun t'=>wk E n ops K os t' m ({ read:=none,wl:=m.next,next:=m.next,wrote:=none,kept:=fun _=>false}::ns)
end
section
variable{E:Env}{n:Nat}{fn:VI}{ro:VA Nat}{t:Tm}{m:Vn}
section
variable{Q:Vo->Tm->Vn->Prop}
def Dg{id id':Nat}:ik id Q (.exit id') t m=if id'=id then Q .normal t m else Q (.exit id') t m:=rfl
end
def zE(r:VA (VB Uz))(R:Uz->Prop):Prop :=
 match r with
 | some vs=>R (iA vs)
 | none=>False
def jA(E:Env)(rs:VB ResultVar)(R:Uz->Vn->Prop):Vo->Tm->Vn->Prop
 | .exit _,_,_=>False
 | .normal,t,m=>zE (cM E t m rs) fun v=>R v m
 | .ret,t,m=>zE (cM E t m rs) fun v=>R v m
def DK{rs:VB ResultVar}{R:Uz->Vn->Prop}:jA E rs R .normal t m=zE (cM E t m rs) fun v=>R v m:=rfl
def MU{rs:VB ResultVar}{R:Uz->Vn->Prop}:jA E rs R .ret t m=zE (cM E t m rs) fun v=>R v m:=rfl
def aK.Mg{f:VI}{F:Func}{c:Code}{args:VB Uz}{rs:VB ResultVar}{N:Nat}{R:Uz->Vn->Prop}(hp:E.cP f=none)(hf:E.P.funcs[f]? = some F)(hb:F.body=some c)(hrs:F.results.toList=rs)(hN:max args.length F.ntmps=N)
  (h:bY E N f none c (jA E rs R) (Trie.ofList args 0 .nil) m):aK E f args m R:=by
 subst hrs hN;refine .enter hp hf hb (h.mono fun e t' m' hq=>?_);cases e with
 | exit id=>exact hq.elim
 | normal =>
  refine⟨fun id h=>(by cases h),?_⟩
  simp only[jA] at hq;unfold zE at hq
  split at hq
  rename_i vs hv; exact⟨vs,hv,hq⟩
  exact hq.elim
 | ret =>
  refine⟨fun id h=>(by cases h),?_⟩
  simp only[jA] at hq;unfold zE at hq
  split at hq
  rename_i vs hv; exact⟨vs,hv,hq⟩
  exact hq.elim
end
def at_set(t:Tm)(i j:Nat)(v:Uz):Tm.at (Trie.set t i v) j=if j=i then v else Tm.at t j:=by
 unfold Tm.at; rw[Trie.bp]; split<;>rfl
def cY(n:Nat)(t:Tm)(d:Nat)(v:Uz):kj n t (some d) v=if d<n then some (Trie.set t d v) else none:=by
 unfold kj
 by_cases h:d<n
 have:Nat.blt d n=true:=by simpa using h
 simp only[this,R7 h]
 ·have:Nat.blt d n=false:=by
   cases hb:Nat.blt d n with
   | false=>rfl
   | true=>exact(h (by simpa using hb)).elim
  simp only[this,R5 h]
section
variable{E:Env}{t:Tm}{ty:UA}{P:UC}
def bD(k:IntKind)(a b:Int):bT .add ty P (.int k a) (.int k b)=some (.int k (k.wrap (a+b))):=by simp only[bT,if_true]
def cK(k:IntKind)(a b:Int):bT .sub ty P (.int k a) (.int k b)=some (.int k (k.wrap (a-b))):=by simp only[bT,if_true]
def cT(k:IntKind)(a b:Int):bT .mul ty P (.int k a) (.int k b)=some (.int k (k.wrap (a*b))):=by simp only[bT,if_true]
def CZ(k:IntKind)(a b:Int)(h:b≠0):bT .rem ty P (.int k a) (.int k b)=some (.int k (a.tmod b)):=by simp only[bT,if_true,R5 h]
def hY(k:IntKind)(a b:Int):bT .lss ty P (.int k a) (.int k b)=some (.bool (decide (a<b))):=by simp only[bT,if_true]
def xK(k:IntKind)(a b:Int):bT .leq ty P (.int k a) (.int k b)=some (.bool (decide (a<=b))):=by simp only[bT,if_true]
def rM(k:IntKind)(a b:Int):bT .gtr ty P (.int k a) (.int k b)=some (.bool (decide (b<a))):=by simp only[bT,if_true,gt_iff_lt]
def CC(k:IntKind)(a b:Int):bT .geq ty P (.int k a) (.int k b)=some (.bool (decide (b<=a))):=by simp only[bT,if_true,ge_iff_le]
def iN(k:IntKind)(a b:Int):bT .eql ty P (.int k a) (.int k b)=some (.bool (decide (a=b))):=by simp only[bT,if_true]; rfl
def KI(k:IntKind)(a b:Int):bT .neq ty P (.int k a) (.int k b)=some (.bool (decide (a≠b))):=by
 simp only[bT,if_true]
 by_cases h:a=b<;>simp[h]
end
structure Ext(m m':Vn):Prop where
 next:m.next<=m'.next
 same:∀b,b<m.next->m'.get b=m.get b
 wl:min m.wl m.next<=m'.wl
def Ext.refl(m:Vn):Ext m m:=⟨Sa _,fun _ _=>rfl,Nat.min_le_left _ _⟩
def Ext.trans{a b c:Vn}(h:Ext a b)(h':Ext b c):Ext a c :=
 ⟨SI h.next h'.next,fun x hx=>(h'.same x (Sk hx h.next)).trans (h.same x hx),by
  have h1:=h.wl; have h2:=h'.wl; have h3:=h.next; omega⟩
def Ext.alloc{m m':Vn}(h:Ext m m')(o:Vp):Ext m (m'.alloc o) :=
 ⟨Nat.le_succ_of_le h.next,fun b hb=>by
  rw[Vn.aW,R5 (by have:=h.next; omega)]; exact h.same b hb,h.wl⟩
def Ext.set{m m':Vn}(h:Ext m m'){b:Nat}(hb:m.next<=b)(o:Vp):Ext m (m'.set b o) :=
 ⟨h.next,fun x hx=>by rw[Vn.bp,UG]; exact h.same x hx,by
  show min m.wl m.next<=min m'.wl b
  have:=h.wl; omega⟩
inductive SlA(m:Vn)(w:Nat):Uz->Uw->Prop
 | nil:SlA m w (.slice none 0 0) []
 | at {b o cap:Nat} {cs:VB Uz} {tag:Tag} {xs:Uw} (hb:b<m.next) (hg:m.get b=some (.cells cs tag)) (hc:xs.length<=cap) (hx:∀i x,xs[i]? = some x->(cs.drop (o+i*w)).take w=x/\x.length=w) :
   SlA m w (.slice (some ⟨b,o,none⟩) xs.length cap) xs
def BT (P : UC) : Bool := P.funcs.toList.all (fun fn => !(fn.name == "runtime.NumGoroutine")) && P.follows .mixedOrders
def zg{E:Env}(h:BT E.P=true)(hp:∀f p,E.cP f=some p->∀args m v m',p.run args m=some (v,m')->∀(j:aP) (w:UD) (args':VB Uz),MR E j m w->LR j args args'->gN E.P (E.cP f).isSome f args'.toArray w (jx E j m w v m')):EnvOk E:=by
 simp only[BT,R9] at h;refine⟨fun f fn c hf hb args w=>?_,h.2,hp⟩;have hnm:=Sp.1 h.1 fn (SA (by simpa using hf))
 have hname : (fn.name == "runtime.NumGoroutine") = false := by simpa using hnm
 have h1 : fn.name ≠ "runtime.NumGoroutine" := by simpa using hname
 simp[callFunc,hf,h1,hb]
def pW{E:Env}(hE:EnvOk E){fuel:Nat}{f:VI}{args:VB Uz}{m m':Vn}{v:Uz}(e:run E fuel (.call f args m)=some (.val v m'))(hp:E.cP f=none){j:aP}{W:UD}{args':VB Uz}(h:MR E j m W)(hl:LR j args args') :
  CallsIn Fence.wide 0 E.P f args'.toArray W fun e W'=>∃v',e=.returned v'/\∃j',Sim E j m W j' m' W'/\VR j' v v':=by
 obtain⟨v1,m1,hr,hs⟩:=p9 hE fuel _ _ e;cases hr;rcases hs j W args' h hl with⟨_,h1⟩|⟨h1,_⟩
 exact h1
 rw[hp] at h1; cases h1
def Sim.grown{E:Env}{j j':aP}{m m':Vn}{w w':UD}(s:Sim E j m w j' m' w')(h:MR E j m w)(hwl:m.next<=m'.wl):∀c,c<w.heap.size->w'.heap[c]? = w.heap[c]? :=
 fun c hc=>s.frame c hc fun b k hb _ _=>Sk (h.lt b k hb).1 hwl
def rG{E:Env}{w w':UD}(h1:jt E w w')(h2:∀c,c<w.heap.size->w'.heap[c]? = w.heap[c]?)(may:MemPlace->Prop):w.keptBut w' may:=by
 refine World.keptBut_mono (fun _ f=>f.elim) (?_:w.keptBut w' fun _=>False);refine⟨h1.1,h1.2.1,fun i hi=>?_⟩;rw[h2 i hi];exact(World.keptBut_refl w (fun _=>False)).2.2 i hi
def Ey(n:Nat)(gs:Nat->VA (VB Uz)):Vn:={ next:=n,wl:=n,objs:=.nil,base:=fun b=>(gs b).map fun cs=>.cells cs .ro}
def Ej(n:Nat):aP:=fun b=>if b<n then some ⟨b,none⟩ else none
def JB{E:Env}{n:Nat}{gs:Nat->VA (VB Uz)}{W:UD}(hn:E.glob<=n)(hW:n<=W.heap.size)
  (hg:∀b cs,gs b=some cs->b<n->∃c t fz,W.heap[b]? = some (.cells c t fz)/\LR (Ej n) cs c.toList):MR E (Ej n) (Ey n gs) W:=by
 have hj:∀b k,Ej n b=some k->b<n/\k=⟨b,none⟩:=by
  intro b k h;unfold Ej at h
  split at h
  cases h; exact⟨by assumption,rfl⟩
  cases h
 refine⟨fun b k h=>?_,fun b o k hget h=>?_,fun b b' k k' h h' _ _ he=>?_,fun g hgl=>?_⟩
 obtain⟨h1,rfl⟩:=hj b k h;exact⟨h1,Sk h1 hW⟩
 obtain⟨h1,rfl⟩:=hj b k h;have hget':(gs b).map (fun cs=>Vp.cells cs .ro)=some o:=by simpa [Vn.get,Ey,Heap.get_nil] using hget
 obtain⟨cs,e1,rfl⟩:=map_some hget';obtain⟨c,t,fz,h2,h3⟩:=hg b cs e1 h1;refine⟨_,h2,⟨⟨rfl,by have:=h3.1; simpa using this.symm⟩,fun i v hi=>?_⟩⟩
 obtain⟨v',h4,h5⟩:=h3.get hi;exact⟨v',by simpa using h4,h5⟩
 obtain⟨_,rfl⟩:=hj b k h;obtain⟨_,rfl⟩:=hj b' k' h';exact he
 unfold Ej;rw[UH]
structure Grown(m m1:Vn):Prop where
 next:m.next<=m1.next
 same:∀b,b<m.next->m1.get b=m.get b
 wl:m.next<=m1.wl
section
variable{E:Env}{j j1:aP}{m m1:Vn}{w w1:UD}
def MR.env{E E':Env}(hg:E'.glob=E.glob)(h:MR E j m w):MR E' j m w:=⟨h.lt,h.obj,h.inj,fun g hl=>h.glob g (hg▸hl)⟩
def Sim.env{E E':Env}{m':Vn}{w':UD}{j':aP}(hg:E'.glob=E.glob)(hm:E'.mono->E.mono)(s:Sim E j m w j' m' w'):Sim E' j m w j' m' w' :=
 ⟨s.ext,s.le,s.new,s.mr.env hg,s.size,s.full,s.away,s.fresh,s.frame,s.calm.1,s.calm.2.1,s.calm.2.2.1,fun e=>s.calm.2.2.2 (hm e)⟩
def Sim.old(h:MR E j m w)(s:Sim E j { m with wl:=m.next} w j1 m1 w1)(g:Grown m m1):∀c,c<w.heap.size->w1.heap[c]? = w.heap[c]? :=
 fun c hc=>s.frame c hc fun b k hb _ _=>Sk (h.lt b k hb).1 g.wl
def MR.after(h:MR E j m w)(s:Sim E j { m with wl:=m.next} w j1 m1 w1)(g:Grown m m1):MR E j m w1 where
 lt:=fun b k hb=>⟨(h.lt b k hb).1,Sk (h.lt b k hb).2 s.size⟩
 obj:=fun b o k ho hb=>by
  obtain⟨o',h1,h2⟩:=h.obj b o k ho hb;exact⟨o',(s.old h g k.c (h.lt b k hb).2).trans h1,h2⟩
 inj:=h.inj
 glob:=h.glob
def Sim.forget(h:MR E j m w)(s:Sim E j { m with wl:=m.next} w j1 m1 w1)(g:Grown m m1):Sim E j m w j m w1 where
 ext:=.refl m
 le:=.refl j
 new:=fun b k h h'=>by simp[h'] at h
 mr:=h.after s g
 size:=s.size
 full:=fun b h h' _=>Sw h (by omega)
 away:=fun _ _ _=>rfl
 fresh:=fun b k h h'=>by simp[h'] at h
 frame:=fun c hc _=>s.old h g c hc
 calm:=s.calm
def VR.D7{j j':aP}{v v':Uz}(hp:Ab.bC v=true)(h:VR j' v v'):VR j v v':=by
 unfold Ab.bC at hp
 split at hp
 ·cases h with
  | agg hs ha =>
   refine .agg hs fun i a b=>?_;have hpi:=Sp.1 hp _ (Su (l:=Array.toList _) (by simpa using a))
   simp only[Array.getElem_toList] at hpi;have:=fN hpi (ha i a b);rw[this]; exact .aQ hpi
 ·cases h with
  | tuple hs ha =>
   refine .tuple hs fun i a b=>?_;have hpi:=Sp.1 hp _ (Su (l:=Array.toList _) (by simpa using a))
   simp only[Array.getElem_toList] at hpi;have:=fN hpi (ha i a b);rw[this]; exact .aQ hpi
 have:=fN hp h;rw[this]; exact .aQ hp
def mh{P:UC}{pr pr':Bool}{f:VI}{args:VD Uz}{w:UD}{R R':Uz->UD->Prop}(hp:pr=true->pr'=true)(h:gN P pr f args w R)(hR:∀v w',R v w'->R' v w'):gN P pr' f args w R':=by
 rcases h with⟨h1,h2⟩|⟨h1,v,w',h2,h3⟩
 exact .inl ⟨h1,h2.mono fun e w' ⟨v,he,hv⟩=>⟨v,he,hR v w' hv⟩⟩
 exact .inr ⟨hp h1,v,w',h2,hR v w' h3⟩
end
def Vn.ww(m:Vn)(x:Nat):Vn:={ m with wl:=x}
section
variable{E:Env}{n:Nat}{fn:VI}{ro:VA Nat}{Q:Vo->Tm->Vn->Prop}{t:Tm}{m:Vn}{P:UC}
@[simp] theorem Vn.get_ww (m:Vn) (x b:Nat):(m.ww x).get b=m.get b:=rfl
@[simp] theorem Vn.next_ww (m:Vn) (x:Nat):(m.ww x).next=m.next:=rfl
@[simp] theorem Vn.wl_ww (m:Vn) (x:Nat):(m.ww x).wl=x:=rfl
def gM(b:Bool)(A B:Prop):Prop:=if b then A else B
def vM{α:Type}(r:VA α)(K:α->Prop):Prop :=
 match r with
 | some v=>K v
 | none=>False
def dH{α:Type}(v:α)(K:α->Prop):vM (some v) K=K v:=rfl
def vp(c a b:VA Uz)(K:Uz->Prop):Prop :=
 match c with
 | some (.bool true)=>vM a K
 | some (.bool false)=>vM b K
 | _=>False
def Bw(a b:VA Uz)(K:Uz->Prop):vp (some (.bool true)) a b K=vM a K:=rfl
def zt(a b:VA Uz)(K:Uz->Prop):vp (some (.bool false)) a b K=vM b K:=rfl
@[congr] theorem gM_congr {b b':Bool} {A B:Prop} (h:b=b'):gM b A B=gM b' A B:=by rw[h]
@[congr] theorem vM_congr {α:Type} {r r':VA α} {K:α->Prop} (h:r=r'):vM r K=vM r' K:=by rw[h]
@[congr] theorem pickM_congr {c c' a b:VA Uz} {K:Uz->Prop} (h:c=c'):vp c a b K=vp c' a b K:=by rw[h]
@[congr] theorem valM_congr {r r':VA (Uz×Vn)} {K:Uz->Vn->Prop} (h:r=r'):eQ r K=eQ r' K:=by rw[h]
@[congr] theorem tmM_congr {r:VA Tm} {K:Tm->Prop}:IU r K=IU r K:=rfl
@[congr] theorem callM_congr {f f':VA Uz} {ars ars':VA (VB Uz)} {K:Uz->Vn->Prop} (h:f=f') (h':ars=ars'):kn E f ars m K=kn E f' ars' m K:=by rw[h,h']
@[congr] theorem callA_congr {f:VI} {ars ars':VB Uz} {K:Uz->Vn->Prop} (h:ars=ars'):aK E f ars m K=aK E f ars' m K:=by rw[h]
@[congr] theorem operM_congr {o:Op} {K:Uz->Vn->Prop}:bh E t m o K=bh E t m o K:=rfl
@[congr] theorem wantedA_congr {ops:VD Oper} {o:Oper}:bW ops o t=bW ops o t:=rfl
@[congr] theorem opsM_congr {ops:VD Oper} {K:Tm->Vn->Prop} {os:VB Oper}:oM E n ops K os t m=oM E n ops K os t m:=rfl
@[congr] theorem notedM_congr {ops:VD Oper} {K:Tm->Vn->VB Note->Prop} {os:VB Oper} {ns:VB Note}:wk E n ops K os t m ns=wk E n ops K os t m ns:=rfl
@[congr] theorem codeA_congr {c:Code}:bY E n fn ro c Q t m=bY E n fn ro c Q t m:=rfl
def F1{ops:VD Oper}{d:VA Tmp}{o:Op}{ty:UA}{p:String}{a:VD Edge}{j:Nat}{b:Bool}:bW ops ⟨d,o,ty,p,a,some (j,b)⟩ t=(match fk ops t j with|some c=>c==b|none=>false):=rfl
section
variable{K:Uz->Vn->Prop}
def Jz{x:UB}:bh E t m (.move x) K=vM (al E t x) fun v=>K v m:=by show eQ ((al E t x).map _) K=_; cases al E t x<;>rfl
def DV{x:UB}:bh E t m (.assign x) K=vM (al E t x) fun v=>K v m:=by show eQ ((al E t x).map _) K=_; cases al E t x<;>rfl
def C9{c a b:UB}:bh E t m (.pick c a b) K=vp (al E t c) (al E t a) (al E t b) fun v=>K v m:=by
 show eQ (match al E t c with|some (.bool true)=>(al E t a).map fun v=>(v,m)|some (.bool false)=>(al E t b).map fun v=>(v,m)|_=>none) K=_
 unfold vp
 split
 cases al E t a<;>rfl
 cases al E t b<;>rfl
 rfl
def MX{e:UA}{x:UB}:bh E t m (.box e x) K=vM (al E t x) fun v=>K (ptr m.next 0) (m.alloc (.cells v.cells.toList .own)):=by show eQ ((al E t x).map _) K=_; cases al E t x<;>rfl
def JV{e:UA}{x:UB}:bh E t m (.load e x) K=vM (al E t x) fun p=>vM (dT E.P e p m) fun v=>K v m:=by
 show eQ (match al E t x with|some p=>(dT E.P e p m).map fun v=>(v,m)|none=>none) K=_
 cases al E t x with
 | none=>rfl
 | some p=>show eQ ((dT E.P e p m).map _) K=vM (dT E.P e p m) _; cases dT E.P e p m<;>rfl
def EW{e:UA}{x y:UB}:bh E t m (.store e x y) K=vM (al E t x) fun p=>vM (al E t y) fun v=>vM (gT E.P e p v m) fun m'=>K undef m':=by
 show eQ (match al E t x,al E t y with|some p,some v=>(gT E.P e p v m).map fun m'=>(undef,m')|_,_=>none) K=_
 cases al E t x with
 | none=>rfl
 | some p=>cases al E t y with
  | none=>rfl
  | some v=>show eQ ((gT E.P e p v m).map _) K=vM (gT E.P e p v m) _; cases gT E.P e p v m<;>rfl
def HR{b:BinOp}{e e':UA}{x y:UB}:bh E t m (.binOp b e x y e') K=vM (al E t x) fun p=>vM (al E t y) fun v=>vM (bT b e E.P p v) fun r=>K r m:=by
 show eQ (match al E t x,al E t y with|some p,some v=>(bT b e E.P p v).map fun v=>(v,m)|_,_=>none) K=_
 cases al E t x with
 | none=>rfl
 | some p=>cases al E t y with
  | none=>rfl
  | some v=>show eQ ((bT b e E.P p v).map _) K=vM (bT b e E.P p v) _; cases bT b e E.P p v<;>rfl
def JE{b:UnOp}{e:UA}{x:UB}:bh E t m (.unOp b e x) K=vM (al E t x) fun p=>vM (EA b p) fun r=>K r m:=by
 show eQ (match al E t x with|some p=>(EA b p).map fun v=>(v,m)|none=>none) K=_
 cases al E t x with
 | none=>rfl
 | some p=>show eQ ((EA b p).map _) K=vM (EA b p) _; cases EA b p<;>rfl
def BJ{e e':UA}{x:UB}:bh E t m (.convert e e' x) K=vM (al E t x) fun p=>vM (kJ E.P e e' p) fun r=>K r m:=by
 show eQ (match al E t x with|some p=>(kJ E.P e e' p).map fun v=>(v,m)|none=>none) K=_
 cases al E t x with
 | none=>rfl
 | some p=>show eQ ((kJ E.P e e' p).map _) K=vM (kJ E.P e e' p) _; cases kJ E.P e e' p<;>rfl
def xq{e:UA}{x:UB}{f:Nat}:bh E t m (.fieldAddr e x f) K=vM (al E t x) fun p=>vM (aC E.P e p f) fun r=>K r m:=by
 show eQ (match al E t x with|some p=>(aC E.P e p f).map fun v=>(v,m)|none=>none) K=_
 cases al E t x with
 | none=>rfl
 | some p=>show eQ ((aC E.P e p f).map _) K=vM (aC E.P e p f) _; cases aC E.P e p f<;>rfl
def Ik{e:UA}{x:UB}{f:Nat}:bh E t m (.field e x f) K=vM (al E t x) fun p=>vM (iH E.P e p f) fun r=>K r m:=by
 show eQ (match al E t x with|some p=>(iH E.P e p f).map fun v=>(v,m)|none=>none) K=_
 cases al E t x with
 | none=>rfl
 | some p=>show eQ ((iH E.P e p f).map _) K=vM (iH E.P e p f) _; cases iH E.P e p f<;>rfl
def xj{e:UA}{x y:UB}:bh E t m (.indexAddr e x y) K=vM (al E t x) fun p=>vM (al E t y) fun v=>vM (cg E.P e p v) fun r=>K r m:=by
 show eQ (match al E t x,al E t y with|some p,some v=>(cg E.P e p v).map fun v=>(v,m)|_,_=>none) K=_
 cases al E t x with
 | none=>rfl
 | some p=>cases al E t y with
  | none=>rfl
  | some v=>show eQ ((cg E.P e p v).map _) K=vM (cg E.P e p v) _; cases cg E.P e p v<;>rfl
def H5{e:UA}{x y:UB}:bh E t m (.index e x y) K=vM (al E t x) fun p=>vM (al E t y) fun v=>vM (gL E.P e p v) fun r=>K r m:=by
 show eQ (match al E t x,al E t y with|some p,some v=>(gL E.P e p v).map fun v=>(v,m)|_,_=>none) K=_
 cases al E t x with
 | none=>rfl
 | some p=>cases al E t y with
  | none=>rfl
  | some v=>show eQ ((gL E.P e p v).map _) K=vM (gL E.P e p v) _; cases gL E.P e p v<;>rfl
def BZ{x:UB}{i:Nat}{vs:VD Uz}(h:al E t x=some (.tuple vs)):bh E t m (.extract x i) K=vM vs[i]? fun r=>K r m:=by
 show eQ (match al E t x with|some (.tuple vs)=>(vs[i]?).map fun v=>(v,m)|_=>none) K=_
 rw[h]
 show eQ ((vs[i]?).map _) K=_
 cases vs[i]?<;>rfl
def HF{e:UA}{x:UB}{a b c:VA UB}{v:Uz}{l h k:VA Uz}(h1:al E t x=some v)(h2:dP E t a=some l)(h3:dP E t b=some h)(h4:dP E t c=some k):bh E t m (.slice e x a b c) K=vM (bU E.P e v l h k m) fun r=>K r m:=by
 show eQ (match al E t x,dP E t a,dP E t b,dP E t c with|some v,some l,some h,some k=>(bU E.P e v l h k m).map fun v=>(v,m)|_,_,_,_=>none) K=_
 rw[h1,h2,h3,h4]
 show eQ ((bU E.P e v l h k m).map _) K=_
 cases bU E.P e v l h k m<;>rfl
def Fw{e:UA}:bh E t m (.alloc e) K=eQ (fj E t m (.alloc e)) K:=rfl
def yF{f:VI}{a b:VD UB}:bh E t m (.makeFunc (.func f) a b) K=vM (bz E t a.toList) fun fs=>vM (bz E t b.toList) fun cs=>K (.func (.func f) fs.toArray cs.toArray) m:=by
 show eQ (match bz E t a.toList,bz E t b.toList with|some fs,some cs=>some (.func (.func f) fs.toArray cs.toArray,m)|_,_=>none) K=_
 cases bz E t a.toList with
 | none=>rfl
 | some fs=>cases bz E t b.toList<;>rfl
def Bu{e:UA}:bh E t m (.makeMap e none) K=K (.map (some m.next)) (m.alloc (.map [])):=rfl
def A4{b:Builtin}{a:VD UB}{ts:VD UA}:bh E t m (.call ⟨.builtin b,a,ts⟩) K=vM (bz E t a.toList) fun vs=>eQ (ba E.P b ts vs m) K:=by
 show eQ (match bz E t a.toList with|some vs=>ba E.P b ts vs m|none=>none) K=_
 cases bz E t a.toList<;>rfl
end
def NC{ty len elem w b o i:Nat}{kd:IntKind}(hu:P.underlying ty=some (.array len elem))(hk:known P elem=true)(hs:aB P elem=w)(hi:i<len):cg P ty (ptr b o) (.int kd (i:Int))=some (ptr b (o+i*w)):=by
 have hd:decide ((0:Int)<=(i:Int)/\(i:Int)<(len:Nat))=true:=by simp; omega
 simp only[cg,ptr,hu,hk,hd,TA,if_true,hs,SG]
def I9{ty b o:Nat}{cs:VB Uz}{tag:Tag}{v:Uz}(hk:known P ty=true)(ha:dQ P ty=false)(hg:m.get b=some (.cells cs tag))(hv:cs[o]? = some v):dT P ty (ptr b o) m=some v:=by
 simp only[dT,ptr,hk,ha,hg,S0,SC,if_false,hv]
def JJ{ty b o w:Nat}{cs l:VB Uz}{tag:Tag}(hk:known P ty=true)(ha:dQ P ty=true)(hs:aB P ty=w)(hg:m.get b=some (.cells cs tag))(hl:(cs.drop o).take w=l)(hw:l.length=w):dT P ty (ptr b o) m=some (.agg l.toArray):=by
 simp only[dT,ptr,hk,ha,hs,S0,SC,if_false,if_true,Vn.ef,hg,hl,hw,Ss]
end
def wrap_i64(n:Int)(h1 : -9223372036854775808<=n)(h2:n<=9223372036854775807):IntKind.i64.wrap n=n:=by
 try unfold UE
 unfold IntKind.wrap IntKind.bits IntKind.signed;simp only;rw[show((2:Int) ^ 64)=18446744073709551616 by rfl,show((2:Int) ^ (64-1))=9223372036854775808 by rfl]
 split
 rename_i h; simp at h; omega
 rename_i h; simp at h; omega
structure Pick(α:Type) where
 run:F8 α->α
structure Upd(α:Type) where
 run:F8 α->(α->(α->Bool)->Bool)->(F8 α->Bool)->Bool
structure Get where
 run:Tm->(Uz->Bool)->Bool
structure KL where
 run:Tm->Uz->(Tm->Bool)->Bool
structure OpSem where
 run:Tm->Vn->(Uz->Vn->Bool)->Bool
section
variable{E:Env}{t:Tm}{m:Vn}
structure Gets where
 run:Tm->(VB Uz->Bool)->Bool
structure Parts where
 run:Tm->(VB (Nat×Uz)->Bool)->Bool
structure OptGet where
 run:Tm->(VA Uz->Bool)->Bool
structure BinSem where
 run:Uz->Uz->(Uz->Bool)->Bool
structure UnSem where
 run:Uz->(Uz->Bool)->Bool
structure LoadSem where
 run:Uz->Vn->(Uz->Bool)->Bool
structure StoreSem where
 run:Uz->Uz->Vn->(Vn->Bool)->Bool
structure AddrSem where
 run:Uz->(Uz->Bool)->Bool
structure IdxSem where
 run:Uz->Uz->(Uz->Bool)->Bool
structure AppSem where
 run:Uz->Uz->Vn->(Uz->Vn->Bool)->Bool
end
structure Look where
 run:Uz->Uz->Vn->(Uz->Bool)->Bool
structure MapUp where
 run:Uz->Uz->Uz->Vn->(Vn->Bool)->Bool
structure Hand where
 call:VI->VB Uz->Vn->(Uz->Vn->Bool)->Bool
 round:Nat->VB Uz->Vn->(Uz->Vn->Bool)->Bool
structure OperSem where
 run:Hand->Tm->Vn->(Uz->Vn->Bool)->Bool
def Jo{t:Tm}{d:Nat}{b:Bool}(h:t.at d=.bool b):t.get d=some (.bool b):=by
 unfold Tm.at at h;cases hg:Trie.get t d with
 | none=>rw[hg] at h; cases h
 | some v=>rw[hg] at h; exact SH some h
structure Guard where
 run:Tm->Bool->Bool->Bool
structure RegSem where
 run:Hand->Tm->Vn->(Tm->Vn->Bool)->Bool
structure NoteSem where
 run:Hand->Tm->Vn->VB Note->(Tm->Vn->VB Note->Bool)->Bool
structure Sem where
 run:Hand->VA Nat->Tm->Vn->(Vo->Tm->Vn->Bool)->Bool
section
variable{E:Env}{n:Nat}{fn:VI}{ro:VA Nat}{Q:Vo->Tm->Vn->Prop}{t:Tm}{m:Vn}
end
structure ResSem where
 run:Tm->Vn->(VB Uz->Bool)->Bool
structure FunSem where
 run:Hand->VB Uz->Vn->(Uz->Vn->Bool)->Bool
structure PSem where
 run:VB Uz->Vn->(Uz->Vn->Bool)->Bool
def uC(E:Env)(F:VI->VA PSem):Prop:=∀{f:VI} {S:PSem},F f=some S->∃p,E.cP f=some p/\∀{args:VB Uz} {m:Vn} {K:Uz->Vn->Bool},S.run args m K=true->∃v m',p.run args m=some (v,m')/\K v m'=true
def aK.cP{E:Env}{f:VI}{p:Prim}{args:VB Uz}{m m':Vn}{v:Uz}{R:Uz->Vn->Prop}(hp:E.cP f=some p)(h:p.run args m=some (v,m'))(hR:R v m'):aK E f args m R:=by
 have hpa:vV E f args m=some (v,m'):=by
  unfold vV;rw[hp];exact h
 exact⟨v,m',bB (k:=0) (by simp only[step,hpa]),hR⟩
section
variable{E:Env}{n:Nat}{t:Tm}{m:Vn}{K:Tm->Vn->Prop}{ops:VD Oper}{os:VB Oper}{ty:UA}{p:String}{af:VD Edge}{d:Nat}
variable{L:Tm->Vn->VB Note->Prop}{ns:VB Note}
variable{a b r v:Uz}{x y:UB}{e e':UA}
def Mw(h:al E t x=some v)(K':Uz->Vn->Prop):bh E t m (.move x) K'=K' v m:=by rw[Jz,h]; rfl
def FK(h:al E t x=some v)(K':Uz->Vn->Prop):bh E t m (.assign x) K'=K' v m:=by rw[DV,h]; rfl
def I4{c:UB}(hc:al E t c=some (.bool true))(h:al E t x=some v)(K':Uz->Vn->Prop):bh E t m (.pick c x y) K'=K' v m:=by rw[C9,hc,Bw,h]; rfl
def Kv{c:UB}(hc:al E t c=some (.bool false))(h:al E t y=some v)(K':Uz->Vn->Prop):bh E t m (.pick c x y) K'=K' v m:=by rw[C9,hc,zt,h]; rfl
def OT(h:al E t x=some v)(K':Uz->Vn->Prop):bh E t m (.box e x) K'=K' (ptr m.next 0) (m.alloc (.cells v.cells.toList .own)):=by rw[MX,h]; rfl
def OX{op:BinOp}(h:al E t x=some a)(h':al E t y=some b)(hr:bT op e E.P a b=some r)(K':Uz->Vn->Prop):bh E t m (.binOp op e x y e') K'=K' r m:=by rw[HR,h,dH,h',dH,hr]; rfl
def Er{op:UnOp}(h:al E t x=some a)(hr:EA op a=some r)(K':Uz->Vn->Prop):bh E t m (.unOp op e x) K'=K' r m:=by rw[JE,h,dH,hr]; rfl
def NA(h:al E t x=some a)(hr:kJ E.P e e' a=some r)(K':Uz->Vn->Prop):bh E t m (.convert e e' x) K'=K' r m:=by rw[BJ,h,dH,hr]; rfl
def Gv(h:al E t x=some a)(hr:dT E.P e a m=some r)(K':Uz->Vn->Prop):bh E t m (.load e x) K'=K' r m:=by rw[JV,h,dH,hr]; rfl
def Kk{m':Vn}(h:al E t x=some a)(h':al E t y=some b)(hr:gT E.P e a b m=some m')(K':Uz->Vn->Prop):bh E t m (.store e x y) K'=K' undef m':=by rw[EW,h,dH,h',dH,hr]; rfl
def zu{f:Nat}(h:al E t x=some a)(hr:aC E.P e a f=some r)(K':Uz->Vn->Prop):bh E t m (.fieldAddr e x f) K'=K' r m:=by rw[xq,h,dH,hr]; rfl
def JY{f:Nat}(h:al E t x=some a)(hr:iH E.P e a f=some r)(K':Uz->Vn->Prop):bh E t m (.field e x f) K'=K' r m:=by rw[Ik,h,dH,hr]; rfl
def Ah(h:al E t x=some a)(h':al E t y=some b)(hr:cg E.P e a b=some r)(K':Uz->Vn->Prop):bh E t m (.indexAddr e x y) K'=K' r m:=by rw[xj,h,dH,h',dH,hr]; rfl
def KA(h:al E t x=some a)(h':al E t y=some b)(hr:gL E.P e a b=some r)(K':Uz->Vn->Prop):bh E t m (.index e x y) K'=K' r m:=by rw[H5,h,dH,h',dH,hr]; rfl
def Ds{i:Nat}{vs:VD Uz}(h:al E t x=some (.tuple vs))(hr:vs[i]? = some r)(K':Uz->Vn->Prop):bh E t m (.extract x i) K'=K' r m:=by rw[BZ h,hr]; rfl
def nF{l h k:VA UB}{l' h' k':VA Uz}(h1:al E t x=some a)(h2:dP E t l=some l')(h3:dP E t h=some h')(h4:dP E t k=some k')(hr:bU E.P e a l' h' k' m=some r)(K':Uz->Vn->Prop):bh E t m (.slice e x l h k) K'=K' r m:=by rw[HF h1 h2 h3 h4,hr]; rfl
def Kd{z:Uz}(hz:bq E.P e=some z)(hp:bC z=true)(K':Uz->Vn->Prop):bh E t m (.alloc e) K'=K' (ptr m.next 0) (m.alloc (.cells z.cells.toList .own)):=by
 rw[Fw]; simp only[fj,hz,hp,if_true]; rfl
def dw{bi:Builtin}{ars:VD UB}{ts:VD UA}{vs:VB Uz}{m':Vn}(h:bz E t ars.toList=some vs)(hr:ba E.P bi ts vs m=some (r,m'))(K':Uz->Vn->Prop):bh E t m (.call ⟨.builtin bi,ars,ts⟩) K'=K' r m':=by rw[A4,h,dH,hr]; rfl
def K8{op:Op}{m':Vn}(hc:pa op=none)(hr:fj E t m op=some (r,m'))(K':Uz->Vn->Prop):bh E t m op K'=K' r m':=by
 unfold bh; rw[hc]; simp only[hr]; rfl
def QN{ops:VD Oper}{t:Tm}{dst:VA Tmp}{o:Op}{ty:UA}{p:String}{a:VD Edge}{j d:Nat}{b c:Bool}(hd:(ops[j]?).bind (·.dst)=some d)(h:t.at d=.bool c):bW ops ⟨dst,o,ty,p,a,some (j,b)⟩ t=(c==b):=by
 rw[F1]; unfold fk; rw[hd]; simp only[Jo h]
end
section
variable{E:Env}{n:Nat}{fn:VI}{ro:VA Nat}{Q:Vo->Tm->Vn->Prop}{t:Tm}{m:Vn}{w:Nat}
def iY(E:Env)(n:Nat)(ops:VD Oper)(K:Tm->Vn->Prop):VB Oper->Tm->Vn->Nat->Prop
 | [],t,m,w=>K t (m.ww w)
 | o::os,t,m,w =>
  if bW ops o t then(∀b,aL E t o.op=some b->b<m.next)/\bh E t (m.ww m.next) o.op fun v m'=>IU (kj n t o.dst v) fun t'=>iY E n ops K os t' m' (min w m'.wl)
  else IU (kj n t o.dst undef) fun t'=>iY E n ops K os t' m w
def vy{r:VA Nat}{x y:Nat}{z:VA Nat}{u:Nat->Bool}(h:∀b,r=some b->b<y):fG { read:=r,wl:=x,next:=y,wrote:=z,kept:=u}=true:=by
 cases r with
 | none=>rfl
 | some b =>
  have:=h b rfl
  show Nat.blt b y=true
  rw[Ua]; exact this
def pc{ops:VD Oper}{K:Tm->Vn->Prop}:∀{os:VB Oper} {t:Tm} {m:Vn} {w:Nat} {ns:VB Note},iY E n ops K os t m w->ns.all fG=true->iD E n ops (fun t m ns=>ns.all fG=true/\K t m) os t (m.ww w) ns
 | [],t,m,w,ns,h,hn=>⟨by simpa using hn,h⟩
 | o::os,t,m,w,ns,h,hn=>by
  simp only[iY] at h;simp only[iD]
  split at h
  ·rename_i hw;rw[R7 hw];obtain⟨h1,h2⟩:=h;refine h2.A.mono fun v m' hv=>?_;obtain⟨t',hp,h3⟩:=hv.A;refine⟨t',hp,?_⟩;have:=pc (ns:={ read:=aL E t o.op,wl:=m'.wl,next:=m.next,wrote:=eS E t o.op,kept:=jo m m'}::ns) h3 (by rw[TZ,hn,Bool.and_true]; exact vy h1)
   exact this
  rename_i hw;rw[R5 hw];obtain⟨t',hp,h2⟩:=h.A;exact⟨t',hp,pc h2 (by rw[TZ,hn]; rfl)⟩
def bY.P8{id:Nat}{ops:VD Oper}(hp:lh ops=some [])(h:∀K:Tm->Vn->Prop,(∀t m,Q .normal t m->K t m)->iY E n ops K ops.toList t m m.wl):bY E n fn ro (.region id ops true) Q t m:=by
 refine .draw hp ?_;have h1:=pc (ns:=[]) (h (fun t m=>Q .normal t m) fun _ _ h=>h) rfl;have mono:∀{os:VB Oper} {t:Tm} {m:Vn} {ns:VB Note},iD E n ops (fun t m ns=>ns.all fG=true/\Q .normal t m) os t m ns->iD E n ops (fun t m ns=>(([]:VB (Nat×Nat)).all (dM ns ops)&&ns.all fG)=true/\Q .normal t m) os t m ns:=by
  intro os t m ns h
  simpa using h
 exact mono h1
variable{K:Tm->Vn->Prop}{ops:VD Oper}{os:VB Oper}{ty:UA}{p:String}{af:VD Edge}{d:Nat}{g:VA (Nat×Bool)}{v a b r:Uz}{x y:UB}{e:UA}
def Kz{xs:VB UB}{vs:VB Uz}(h:al E t x=some v)(hs:bz E t xs=some vs):bz E t (x::xs)=some (v::vs):=by simp only[bz,h,hs]
end
end Go.Ab
section
namespace Go.Ab.W
open Go Go.Ab
abbrev Fs:=VB (Nat×Uz)
def lk:Fs->Nat->VA Uz
 | [],_=>none
 | p::l,i=>match Nat.beq p.1 i with
  | true=>some p.2
  | false=>lk l i
def Fr(t:Tm)(fs:Fs):Prop:=∀i v,lk fs i=some v->t.at i=v
def Fr.nil(t:Tm):Fr t []:=fun i v h=>by cases h
def Fr.set{t:Tm}{fs:Fs}{d:Nat}{v:Uz}(h:Fr t fs):Fr (Trie.set t d v) ((d,v)::fs):=by
 intro i x hx;unfold lk at hx;rw[at_set]
 split at hx
 rename_i e;have:d=i:=Ti e;rw[R7 this.symm]; exact Sb hx
 rename_i e;have:d≠i:=Ud e;rw[R5 (Ne.symm this)]; exact h i x hx
def sub(fs:Fs):Fs->Prop
 | []=>True
 | p::l=>lk fs p.1=some p.2/\sub fs l
def Fr.sub{t:Tm}{fs:Fs}:∀{fs':Fs},Fr t fs->sub fs fs'->Fr t fs'
 | [],_,_=>Fr.nil t
 | p::l,h,hs=>by
  intro i v hv;unfold lk at hv
  split at hv
  rename_i e;have:p.1=i:=Ti e;subst this;cases hv;exact h _ _ hs.1
  exact Fr.sub h hs.2 i v hv
def ev(E:Env)(fs:Fs):UB->VA Uz
 | .tmp i=>lk fs i
 | .const v=>match bC v with
  | true=>some v
  | false=>none
 | .global g=>match Nat.blt g E.glob with
  | true=>some (ptr g 0)
  | false=>none
 | .func f=>some (.func (.func f) #[] #[])
def gF(E:Env)(fs:Fs):VB UB->VA (VB Uz)
 | []=>some []
 | x::xs=>match ev E fs x with
  | some v=>match gF E fs xs with
   | some vs=>some (v::vs)
   | none=>none
  | none=>none
def jz(E:Env)(fs:Fs):VA UB->VA (VA Uz)
 | none=>some none
 | some x=>match ev E fs x with
  | some v=>some (some v)
  | none=>none
def IW(E:Env)(fs:Fs):VB (Nat×UB)->VA (VB (Nat×Uz))
 | []=>some []
 | x::xs=>match ev E fs x.2 with
  | some v=>match IW E fs xs with
   | some vs=>some ((x.1,v)::vs)
   | none=>none
  | none=>none
section
variable{E:Env}{t:Tm}{fs:Fs}
def Fr.ev(h:Fr t fs):∀{x:UB} {v:Uz},ev E fs x=some v->al E t x=some v
 | .tmp i,v,e=>by show some (t.at i)=some v; rw[h i v e]
 | .const c,v,e=>by
  simp only[Go.Ab.W.ev] at e
  split at e
  rename_i hp; cases e; simp only[al]; rw[R7 hp]
  cases e
 | .global g,v,e=>by
  simp only[Go.Ab.W.ev] at e
  split at e
  rename_i hp; cases e; simp only[al]; rw[R7 (by rwa[Ua] at hp)]
  cases e
 | .func f,v,e=>by simp only[Go.Ab.W.ev] at e; exact e
def Fr.gF(h:Fr t fs):∀{xs:VB UB} {vs:VB Uz},gF E fs xs=some vs->bz E t xs=some vs
 | [],vs,e=>by simp only[Go.Ab.W.gF] at e; exact e
 | x::xs,vs,e=>by
  simp only[Go.Ab.W.gF] at e
  split at e
  rename_i v hv
  split at e
  rename_i ws hw;cases e;exact Kz (h.ev hv) (Fr.gF h hw)
  cases e
  cases e
def Fr.jz(h:Fr t fs):∀{x:VA UB} {v:VA Uz},jz E fs x=some v->dP E t x=some v
 | none,v,e=>by simp only[Go.Ab.W.jz] at e; exact e
 | some x,v,e=>by
  simp only[Go.Ab.W.jz] at e
  split at e
  rename_i w hw; cases e; simp only[dP]; rw[h.ev hw]; rfl
  cases e
def Fr.IW(h:Fr t fs):∀{xs:VB (Nat×UB)} {vs:VB (Nat×Uz)},IW E fs xs=some vs->er E t xs=some vs
 | [],vs,e=>by simp only[Go.Ab.W.IW] at e; exact e
 | x::xs,vs,e=>by
  simp only[Go.Ab.W.IW] at e
  split at e
  rename_i v hv
  split at e
  rename_i ws hw;cases e;obtain⟨i,y⟩:=x;unfold er;rw[h.ev hv,Fr.IW h hw]
  cases e
  cases e
end
def qK(m:Vn)(b o w:Nat)(es:Uw):Prop :=
 b<m.next/\∃all tg,m.get b=some (.cells all tg)/\(∀sz,tg=.more sz->sz=w)/\∀i e,es[i]? = some e->(all.drop (o+i*w)).take w=e/\e.length=w
def kU:Ux->VA Nat
 | some a=>some a.block
 | none=>none
def Rd(m:Vn)(a:Ux)(cap w n:Nat)(es:Uw):Prop :=
 es.length=n/\n<=cap/\((a=none/\n=0)\/(∃b sp,a=some ⟨b,0,some sp⟩/\n=0/\cap=0/\b<m.next)\/∃b o,a=some ⟨b,o,none⟩/\qK m b o w es)
def Rd.lt{m:Vn}{a:Ux}{cap w n:Nat}{es:Uw}(h:Rd m a cap w n es){b:Nat}(hb:kU a=some b):b<m.next:=by
 rcases h.2.2 with⟨rfl,_⟩|⟨b',sp,rfl,_,_,h4⟩|⟨b',o,rfl,h4⟩
 cases hb
 cases hb; exact h4
 cases hb; exact h4.1
def CT(lo:Nat)(m:Vn)(b w n:Nat)(es:Uw)(tg:Tag):Prop :=
 lo<=b/\b<m.next/\m.get b=some (.cells es.flatten tg)/\es.length=n/\(∀e∈es,e.length=w)/\(tg=.own\/tg=.more w)/\0<w
structure GPc where
 ow:Nat->Prop
 rd:Nat->Prop
 P:Vn->Prop
 st:∀m m':Vn,P m->m.next<=m'.next->(∀b,ow b\/rd b->b<m.next->m'.get b=m.get b)->P m'
 lt:∀(m:Vn) b,P m->ow b\/rd b->b<m.next
 fr:Bool:=false
inductive Pc
 | obj (b:Nat) (o:Vp)
 | arr (b w n:Nat) (es:Uw) (tg:Tag)
 | sl (a:Ux) (w n:Nat) (es:Uw)
 | rd (a:Ux) (cap w n:Nat) (es:Uw)
 | ro (b o w n:Nat) (es:Uw)
 | gen (g:GPc)
def Pc.sx:Pc->VA Nat
 | .obj b _=>some b
 | .arr b _ _ _ _=>some b
 | .sl a _ _ _=>kU a
 | .rd a _ _ _ _=>kU a
 | .ro b _ _ _ _=>some b
 | .gen _=>none
def Pc.own:Pc->Bool
 | .obj _ _|.arr _ _ _ _ _|.sl _ _ _ _=>true
 | _=>false
def Pc.Rw:Pc->Nat->Prop
 | .gen g=>g.ow
 | _=>fun _=>False
def Pc.Ep:Pc->Nat->Prop
 | .gen g=>fun b=>g.ow b\/g.rd b
 | _=>fun _=>False
def Pc.ow(p:Pc)(b:Nat):Prop:=(p.own=true/\p.sx=some b)\/p.Rw b
def Pc.any(p:Pc)(b:Nat):Prop:=p.sx=some b\/p.Ep b
def Pc.iB{p:Pc}{b:Nat}(h:p.ow b):p.any b:=by
 rcases h with h|h
 exact .inl h.2
 ·cases p with
  | gen g=>exact .inr (.inl h)
  | _=>exact h.elim
def Pc.OU{p:Pc}{b:Nat}(ho:p.own=true)(hb:p.sx=some b):p.ow b:=.inl ⟨ho,hb⟩
def Pc.xP{p:Pc}{b:Nat}(ho:p.own=true)(h:p.any b):p.sx=some b:=by
 rcases h with h|h
 exact h
 ·cases p with
  | gen g=>cases ho
  | _=>exact h.elim
def Pc.ok(lo:Nat)(m:Vn):Pc->Prop
 | .obj b o=>lo<=b/\b<m.next/\m.get b=some o
 | .arr b w n es tg=>CT lo m b w n es tg
 | .sl a w n es=>(n=0/\es=[]/\a=none/\0<w)\/∃b tg,a=some ⟨b,0,none⟩/\CT lo m b w n es tg
 | .rd a cap w n es=>Rd m a cap w n es
 | .ro b o w n es=>es.length=n/\qK m b o w es
 | .gen g=>g.P m/\(g.fr=false->∀b,g.ow b->lo<=b)
def Pc.bound:Pc->Bool
 | .gen g=>!g.fr
 | _=>true
def Pc.apart(p q:Pc):Prop:=(∀b,p.ow b->q.any b->False)/\∀b,q.ow b->p.any b->False
structure Hp(m0 m:Vn)(ps:VB Pc):Prop where
 ext:Ext m0 m
 ok:∀p∈ps,p.ok m0.next m
 apart:ps.Pairwise Pc.apart
def pk:VB Pc->Nat->VA Pc
 | [],_=>none
 | p::_,0=>some p
 | _::l,k+1=>pk l k
def bL:VB Pc->Nat->Pc->VB Pc
 | [],_,_=>[]
 | _::l,0,p=>p::l
 | q::l,k+1,p=>q::bL l k p
def jR(p:Pc)(l:VB Pc):pk (p::l) 0=some p:=rfl
def eC(p:Pc)(l:VB Pc)(k:Nat):pk (p::l) (k+1)=pk l k:=rfl
def iX:∀{ps:VB Pc} {k:Nat} {p:Pc},pk ps k=some p->p∈ps:=by
 intro ps
 induction ps with
 | nil=>intro k p h; simp[pk] at h
 | cons q l ih =>
  intro k p h;cases k with
  | zero=>rw[jR] at h; have:=Sb h; simp[this]
  | succ k=>rw[eC] at h; have:=ih h; simp[this]
def iR(q:Pc)(l:VB Pc)(p:Pc):bL (q::l) 0 p=p::l:=rfl
def dL(q:Pc)(l:VB Pc)(k:Nat)(p:Pc):bL (q::l) (k+1) p=q::bL l k p:=rfl
def vz:∀{l:VB Pc} {k:Nat} {p r:Pc},r∈bL l k p->r∈l\/r=p:=by
 intro l
 induction l with
 | nil=>intro k p r h; simp[bL] at h
 | cons a l ih =>
  intro k p r h;cases k with
  | zero =>
   rw[iR,Sr] at h;rcases h with h|h
   exact .inr h
   exact .inl (by simp[h])
  | succ k =>
   rw[dL,Sr] at h;rcases h with h|h
   exact .inl (by simp[h])
   rcases ih h with h1|h1
   exact .inl (by simp[h1])
   exact .inr h1
def qK.kZ{m m':Vn}{b o w:Nat}{es:Uw}(h:qK m b o w es)(hn:m.next<=m'.next)(hg:m'.get b=m.get b):qK m' b o w es:=by
 obtain⟨h1,all,tg,h2,h3⟩:=h;exact⟨by omega,all,tg,by rw[hg]; exact h2,h3⟩
def CT.kZ{lo:Nat}{m m':Vn}{b w n:Nat}{es:Uw}{tg:Tag}(h:CT lo m b w n es tg)(hn:m.next<=m'.next)(hg:m'.get b=m.get b):CT lo m' b w n es tg:=by
 obtain⟨h1,h2,h3,h4⟩:=h;exact⟨h1,by omega,by rw[hg]; exact h3,h4⟩
def Rd.kZ{m m':Vn}{a:Ux}{cap w n:Nat}{es:Uw}(h:Rd m a cap w n es)(hn:m.next<=m'.next)(hg:∀b,kU a=some b->b<m.next->m'.get b=m.get b):Rd m' a cap w n es:=by
 obtain⟨h1,h2,h4⟩:=h;refine⟨h1,h2,?_⟩;rcases h4 with h4|⟨b,sp,rfl,a1,a2,a3⟩|⟨b,o,rfl,h⟩
 exact .inl h4
 exact .inr (.inl ⟨b,sp,rfl,a1,a2,Sk a3 hn⟩)
 exact .inr (.inr ⟨b,o,rfl,h.kZ hn (hg b rfl h.1)⟩)
def Pc.fP{lo:Nat}{m m':Vn}{p:Pc}(h:p.ok lo m)(hn:m.next<=m'.next)(hg:∀b,p.any b->b<m.next->m'.get b=m.get b):p.ok lo m':=by
 cases p with
 | obj b o=>exact⟨h.1,by have:=h.2.1; omega,by rw[hg b (.inl rfl) h.2.1]; exact h.2.2⟩
 | arr b w n es tg=>exact CT.kZ h hn (hg b (.inl rfl) h.2.1)
 | sl a w n es =>
  rcases h with h|⟨b,tg,rfl,h⟩
  exact .inl h
  exact .inr ⟨b,tg,rfl,h.kZ hn (hg b (.inl rfl) h.2.1)⟩
 | rd a cap w n es=>exact Rd.kZ h hn fun b hb=>hg b (.inl hb)
 | ro b o w n es=>exact⟨h.1,h.2.kZ hn (hg b (.inl rfl) h.2.1)⟩
 | gen g=>exact⟨g.st m m' h.1 hn fun b hb=>hg b (.inr hb),h.2⟩
def Pc.fJ{lo:Nat}{m:Vn}{p:Pc}(h:p.ok lo m){b:Nat}(hb:p.any b):b<m.next:=by
 cases p with
 | obj b' o=>rcases hb with hb|hb; cases hb; exact h.2.1; exact hb.elim
 | arr b' w n es tg=>rcases hb with hb|hb; cases hb; exact h.2.1; exact hb.elim
 | sl a w n es =>
  rcases hb with hb|hb
  rcases h with⟨_,_,rfl,_⟩|⟨b',tg,rfl,h⟩
  cases hb
  cases hb; exact h.2.1
  exact hb.elim
 | rd a cap w n es=>rcases hb with hb|hb; exact Rd.lt h hb; exact hb.elim
 | ro b' o w n es=>rcases hb with hb|hb; cases hb; exact h.2.1; exact hb.elim
 | gen g=>rcases hb with hb|hb; cases hb; exact g.lt m b h.1 hb
def Pc.LD{lo:Nat}{m:Vn}{p:Pc}(h:p.ok lo m){b:Nat}(hb:p.sx=some b):b<m.next:=Pc.fJ h (.inl hb)
def Pc.qQ{lo:Nat}{m:Vn}{p:Pc}(h:p.ok lo m)(hf:p.bound=true){b:Nat}(hb:p.ow b):lo<=b:=by
 rcases hb with⟨ho,hb⟩|hb
 ·cases p with
  | obj b' o=>cases hb; exact h.1
  | arr b' w n es tg=>cases hb; exact h.1
  | sl a w n es =>
   rcases h with⟨_,_,rfl,_⟩|⟨b',tg,rfl,h⟩
   cases hb
   cases hb; exact h.1
  | rd a cap w n es=>cases ho
  | ro b' o w n es=>cases ho
  | gen g=>cases ho
 ·cases p with
  | gen g=>exact h.2 (by simpa [Pc.bound] using hf) b hb
  | _=>exact hb.elim
def Pc.GZ{lo:Nat}{m:Vn}{p:Pc}(h:p.ok lo m)(ho:p.own=true){b:Nat}(hb:p.sx=some b):lo<=b:=Pc.qQ h (by cases p<;>first|rfl|cases ho) (.inl ⟨ho,hb⟩)
section
variable{m0 m m':Vn}{ps:VB Pc}
def Hp.get(h:Hp m0 m ps){k:Nat}{p:Pc}(hp:pk ps k=some p):p.ok m0.next m:=h.ok p (iX hp)
def Pc.gH{p r:Pc}(h:Pc.apart p r):Pc.apart r p:=⟨h.2,h.1⟩
def jm:∀{ps:VB Pc} {k:Nat} {p p':Pc},pk ps k=some p->(∀r∈ps,Pc.apart p r->Pc.apart p' r)->ps.Pairwise Pc.apart->(bL ps k p').Pairwise Pc.apart:=by
 intro ps
 induction ps with
 | nil=>intro k p p' hk; simp[pk] at hk
 | cons q l ih =>
  intro k p p' hk hr h;rw[Sz] at h;cases k with
  | zero =>
   rw[jR] at hk;have hk:=Sb hk;subst hk;rw[iR];exact Sz.2 ⟨fun r hm=>hr r (by simp[hm]) (h.1 r hm),h.2⟩
  | succ k =>
   rw[eC] at hk;rw[dL];refine Sz.2 ⟨fun r hm=>?_,ih hk (fun r hm=>hr r (by simp[hm])) h.2⟩
   rcases vz hm with hm|hm
   exact h.1 r hm
   rw[hm]; exact Pc.gH (hr q (by simp) (Pc.gH (h.1 p (iX hk))))
def AB:∀{ps:VB Pc} {k:Nat} {p p' r:Pc},pk ps k=some p->ps.Pairwise Pc.apart->r∈bL ps k p'->r=p'\/(r∈ps/\Pc.apart r p):=by
 intro ps
 induction ps with
 | nil=>intro k p p' r hk; simp[pk] at hk
 | cons q l ih =>
  intro k p p' r hk h hr;rw[Sz] at h;cases k with
  | zero =>
   rw[jR] at hk;have hk:=Sb hk;subst hk;rw[iR,Sr] at hr;rcases hr with hr|hr
   exact .inl hr
   exact .inr ⟨by simp[hr],Pc.gH (h.1 r hr)⟩
  | succ k =>
   rw[eC] at hk;rw[dL,Sr] at hr;rcases hr with hr|hr
   rw[hr]; exact .inr ⟨by simp,h.1 p (iX hk)⟩
   rcases ih hk h.2 hr with h1|⟨h1,h2⟩
   exact .inl h1
   exact .inr ⟨by simp[h1],h2⟩
def Hp.Eu(h:Hp m0 m ps){k:Nat}{p p':Pc}(hp:pk ps k=some p)(nj:∀b,p'.ow b->p.ow b\/m.next<=b)(hany:∀b,p'.any b->p.any b\/m.next<=b)(hn:m.next<=m'.next)(hext:Ext m0 m')
  (hok:p'.ok m0.next m') (hg:∀b,¬p.ow b->b<m.next->m'.get b=m.get b):Hp m0 m' (bL ps k p') where
 ext:=hext
 apart:=jm hp (fun r hr ha=>⟨fun b a c=>(nj b a).elim (fun a=>ha.1 b a c) fun a=>by have:=Pc.fJ (h.ok r hr) c; omega,fun b a c=>(hany b c).elim (fun c=>ha.2 b a c) fun c=>by have:=Pc.fJ (h.ok r hr) (Pc.iB a); omega⟩) h.apart
 ok:=fun r hr=>by
  rcases AB hp h.apart hr with rfl|⟨h1,h2⟩
  exact hok
  exact Pc.fP (h.ok r h1) hn fun b hb' hlt=>hg b (fun e=>h2.2 b e hb') hlt
def Hp.put(h:Hp m0 m ps){k:Nat}{p p':Pc}(hp:pk ps k=some p)(ho:p.own=true)(hb:p'.sx=p.sx)(ho':p'.own=true)(hn:m.next<=m'.next)(hext:Ext m0 m')
  (hok:p'.ok m0.next m') (hg:∀b,p.sx≠some b->b<m.next->m'.get b=m.get b):Hp m0 m' (bL ps k p') :=
 h.Eu hp (fun b a=>.inl (.inl ⟨ho,by rw[<-hb]; exact Pc.xP ho' (Pc.iB a)⟩)) (fun b a=>.inl (.inl (by rw[<-hb]; exact Pc.xP ho' a))) hn hext hok fun b hb' hlt=>hg b (fun e=>hb' (.inl ⟨ho,e⟩)) hlt
def Hp.KW(h:Hp m0 m ps){p:Pc}(hn:m.next<=m'.next)(hext:Ext m0 m')(hsame:∀b,b<m.next->m'.get b=m.get b)(hp:p.ok m0.next m')(hb:∀b,p.any b->m.next<=b):Hp m0 m' (p::ps) where
 ext:=hext
 ok:=fun q hq=>by
  rcases Sr.1 hq with rfl|hq
  exact hp
  exact Pc.fP (h.ok q hq) hn fun b hb' hlt=>hsame b hlt
 apart:=Sz.2 ⟨fun q hq=>⟨fun b h1 h2=>by
  have:=Pc.fJ (h.ok q hq) h2;have:=hb b (Pc.iB h1);omega,fun b h1 h2=>by
  have:=Pc.fJ (h.ok q hq) (Pc.iB h1);have:=hb b h2;omega⟩,h.apart⟩
def Hp.cons(h:Hp m0 m ps){p:Pc}(hn:m.next<=m'.next)(hext:Ext m0 m')(hsame:∀b,b<m.next->m'.get b=m.get b)(hp:p.ok m0.next m')(hb:∀b,p.sx=some b->m.next<=b)(hng:∀b,¬p.Ep b:=by exact fun _ h=>h):Hp m0 m' (p::ps) :=
 h.KW hn hext hsame hp fun b hb'=>hb'.elim (hb b) fun h=>Sw h (hng b)
def an(ps:VB Pc):VB Nat->VA (VB Pc)
 | []=>some []
 | k::ks=>match pk ps k with
  | some p=>match an ps ks with
   | some qs=>some (p::qs)
   | none=>none
  | none=>none
def kP:VB Nat->Bool
 | []=>true
 | k::ks=>!(ks.any (Nat.beq k))&&kP ks
def qF:∀{ks:VB Nat} {qs:VB Pc},an ps ks=some qs->∀q∈qs,∃k∈ks,pk ps k=some q:=by
 intro ks
 induction ks with
 | nil=>intro qs h q hq; simp only[an,Option.some.injEq] at h; subst h; cases hq
 | cons k ks ih =>
  intro qs h q hq;simp only[an] at h
  split at h
  rename_i p hp
  split at h
  rename_i qs' hqs;simp only[Option.some.injEq] at h;subst h;rcases Sr.1 hq with rfl|hq
  exact⟨k,by simp,hp⟩
  obtain⟨k',h1,h2⟩:=ih hqs q hq;exact⟨k',by simp[h1],h2⟩
  cases h
  cases h
def fu:∀{ps:VB Pc} {i j:Nat} {p q:Pc},ps.Pairwise Pc.apart->pk ps i=some p->pk ps j=some q->i≠j->Pc.apart p q:=by
 intro ps
 induction ps with
 | nil=>intro i j p q _ h; simp[pk] at h
 | cons r l ih =>
  intro i j p q h hi hj hne;rw[Sz] at h;cases i with
  | zero =>
   cases j with
   | zero=>exact Sw rfl hne
   | succ j =>
    rw[jR] at hi;rw[eC] at hj;rw[<-Sb hi];exact h.1 q (iX hj)
  | succ i =>
   cases j with
   | zero =>
    rw[jR] at hj;rw[eC] at hi;rw[<-Sb hj];exact Pc.gH (h.1 p (iX hi))
   | succ j=>rw[eC] at hi hj; exact ih h.2 hi hj (fun e=>hne (by rw[e]))
def j6:∀{ps:VB Pc} {r:Pc},r∈ps->∃k,pk ps k=some r:=by
 intro ps
 induction ps with
 | nil=>intro r h; cases h
 | cons p l ih =>
  intro r h;rcases Sr.1 h with rfl|h
  exact⟨0,rfl⟩
  obtain⟨k,hk⟩:=ih h; exact⟨k+1,hk⟩
def Hp.y6(h:Hp m0 m ps){k:Nat}{p q:Pc}(hp:pk ps k=some p)(hpo:∀b,¬p.ow b)(hq:q.ok m0.next m)(hqo:∀b,¬q.ow b)(hb:∀b,q.any b->p.any b):Hp m0 m (q::ps) where
 ext:=h.ext
 ok:=fun r hr=>by
  rcases Sr.1 hr with rfl|hr
  exact hq
  exact h.ok r hr
 apart:=Sz.2 ⟨fun r hr=>⟨fun b h1 _=>hqo b h1,fun b h1 h2=>by
  obtain⟨k',hk'⟩:=j6 hr;have hne:k≠k':=fun e=>by
   rw[<-e,hp] at hk';exact hpo b (by rw[Sb hk']; exact h1)
  exact(fu h.apart hp hk' hne).2 b h1 (hb b h2)⟩,h.apart⟩
def Hp.more(h:Hp m0 m ps){k:Nat}{p q:Pc}(hp:pk ps k=some p)(hpo:p.own=false)(hq:q.ok m0.next m)(hqo:q.own=false)(hb:∀b,q.sx=some b->p.sx=some b)(hpg:∀b,¬p.Rw b:=by exact fun _ h=>h)(hqg:∀b,¬q.Ep b:=by exact fun _ h=>h):Hp m0 m (q::ps) :=
 h.y6 hp (fun b h=>h.elim (fun h=>by rw[hpo] at h; cases h.1) (hpg b)) hq (fun b h=>h.elim (fun h=>by rw[hqo] at h; cases h.1) fun h=>hqg b (by cases q with|gen g=>exact .inl h|_=>exact h)) fun b h=>h.elim (fun h=>.inl (hb b h)) fun h=>Sw h (hqg b)
def zA(h:ps.Pairwise Pc.apart):∀{ks:VB Nat} {qs:VB Pc},kP ks=true->an ps ks=some qs->qs.Pairwise Pc.apart:=by
 intro ks
 induction ks with
 | nil=>intro qs _ e; simp only[an,Option.some.injEq] at e; subst e; exact .nil
 | cons k ks ih =>
  intro qs hnd e;simp only[kP,R9,Td,List.any_eq_false] at hnd;simp only[an] at e
  split at e
  rename_i p hp
  split at e
  rename_i qs' hqs;simp only[Option.some.injEq] at e;subst e;refine Sz.2 ⟨fun q hq=>?_,ih hnd.2 hqs⟩;obtain⟨k',h1,h2⟩:=qF hqs q hq;exact fu h hp h2 fun e=>hnd.1 k' h1 (by rw[e]; exact Nat.beq_refl _)
  cases e
  cases e
def Hp.an(h:Hp m0 m ps)(ks:VB Nat){qs:VB Pc}(hnd:kP ks=true)(e:W.an ps ks=some qs):Hp m0 m qs where
 ext:=h.ext
 ok:=fun q hq=>by
  obtain⟨k,_,hk⟩:=qF e q hq;exact h.ok q (iX hk)
 apart:=zA h.apart hnd e
def Pc.Dd{lo lo':Nat}{m:Vn}{p:Pc}(h:p.ok lo m)(hle:lo'<=lo):p.ok lo' m:=by
 have up:∀{b w n es tg},CT lo m b w n es tg->CT lo' m b w n es tg:=fun ho=>⟨SI hle ho.1,ho.2⟩;cases p with
 | obj b o=>exact⟨SI hle h.1,h.2⟩
 | arr b w n es tg=>exact up h
 | sl a w n es =>
  rcases h with h1|⟨b,tg,e,h1⟩
  exact .inl h1
  exact .inr ⟨b,tg,e,up h1⟩
 | rd a cap w n es=>exact h
 | ro b o w n es=>exact h
 | gen g=>exact⟨h.1,fun hf b hb=>SI hle (h.2 hf b hb)⟩
def Hp.B2(h:Hp m0 m ps){new:VB Pc}(h':Hp m m' new)(hbd:∀p∈new,p.bound=true)(hro:∀p∈new,∀b,p.any b->m.next<=b\/(¬p.ow b/\∃q∈ps,(∀b,¬q.ow b)/\q.any b)):Hp m0 m' (new++ps) where
 ext:=h.ext.trans h'.ext
 ok:=fun q hq=>by
  rcases St.1 hq with hq|hq
  exact Pc.Dd (h'.ok q hq) h.ext.next
  exact Pc.fP (h.ok q hq) h'.ext.next fun b _ hlt=>h'.ext.same b hlt
 apart:=Tp.2 ⟨h'.apart,h.apart,fun p hp q hq=>⟨fun b h1 h2=>by
  have:=Pc.qQ (h'.ok p hp) (hbd p hp) h1;have:=Pc.fJ (h.ok q hq) h2;omega,fun b h1 h2=>by
  rcases hro p hp b h2 with h3|⟨_,r,hr,hr1,hr2⟩
  have:=Pc.fJ (h.ok q hq) (Pc.iB h1);omega
  obtain⟨i,hi⟩:=j6 hq;obtain⟨j,hj⟩:=j6 hr;have hne:i≠j:=fun e=>by
   rw[e,hj] at hi;exact hr1 b (by rw[Sb hi]; exact h1)
  exact(fu h.apart hi hj hne).1 b h1 hr2⟩⟩
def Hp.after(h:Hp m0 m ps){new:VB Pc}(h':Hp m m' new)(hro:∀p∈new,p.own=true):Hp m0 m' (new++ps) :=
 h.B2 h' (fun p hp=>by have:=hro p hp; cases p<;>first|rfl|cases this) fun p hp b hb=>.inl (Pc.GZ (h'.ok p hp) (hro p hp) (Pc.xP (hro p hp) hb))
def mP(ps:VB Pc)(b:Nat):Prop:=∃p∈ps,p.ow b
def Hp.dW(h:Hp m0 m ps):∀b,mP ps b->b<m.next:=fun _ ⟨p,hp,hb⟩=>Pc.fJ (h.ok p hp) (Pc.iB hb)
def uL(H:Uy):GPc:={ ow:=H,rd:=fun _=>False,P:=fun m=>∀b,H b->b<m.next,fr:=true,st:=fun _ _ h hn _ b hb=>Sk (h b hb) hn,lt:=fun _ b h hb=>hb.elim (h b) fun h=>h.elim}
def Hp.ud(m:Vn){H:Uy}(hH:∀b,H b->b<m.next):Hp m m [.gen (uL H)]:=⟨.refl m,fun p h=>by rw[Se.1 h]; exact⟨hH,fun h=>by cases h⟩,List.pairwise_singleton ..⟩
def Hp.IN(h:Hp m0 m ps){new:VB Pc}(h':Hp m m' (new++[.gen (uL (mP ps))]))(hbd:∀p∈new,p.bound=true):Hp m0 m' (new++ps) where
 ext:=h.ext.trans h'.ext
 ok:=fun q hq=>by
  rcases St.1 hq with hq|hq
  exact Pc.Dd (h'.ok q (Sx _ hq)) h.ext.next
  exact Pc.fP (h.ok q hq) h'.ext.next fun b _ hlt=>h'.ext.same b hlt
 apart:=Tp.2 ⟨(Tp.1 h'.apart).1,h.apart,fun p hp q hq=>⟨fun b h1 h2=>by
  have:=Pc.qQ (h'.ok p (Sx _ hp)) (hbd p hp) h1;have:=Pc.fJ (h.ok q hq) h2;omega,fun b h1 h2=>((Tp.1 h'.apart).2.2 p hp _ (Se.2 rfl)).2 b (.inr ⟨q,hq,h1⟩) h2⟩⟩
def Hp.Pm(h:Hp m0 m ps){k cap w n:Nat}{a:Ux}{es:Uw}(hp:pk ps k=some (.rd a cap w n es)):∀b,kU a=some b->¬mP ps b:=fun b hb ⟨q,hq,h1⟩=>by
 obtain⟨i,hi⟩:=j6 hq;have hne:i≠k:=fun e=>by
  rw[e,hp] at hi;cases hi;exact h1.elim (fun h=>by cases h.1) fun h=>h.elim
 exact(fu h.apart hi hp hne).1 b h1 (.inl hb)
end
structure TyI(P:UC)(ty:UA)(ag:Bool)(sz:Nat):Prop where
 known:known P ty=true
 agg:dQ P ty=ag
 size:aB P ty=sz
structure SlT(P:UC)(ty elem:UA)(w:Nat):Prop where
 und:P.underlying ty=some (.slice elem)
 known:known P elem=true
 size:aB P elem=w
 pos:0<w
 zero:(bq P elem).any (fun z=>z.cells.size==w&&z.cells.toList.all aQ)=true
 bytes:∃i,P.info? elem=some i/\i.bytes≠0/\i.bytes<=1024
structure ArT(P:UC)(ty elem:UA)(len w:Nat):Prop where
 und:P.underlying ty=some (.array len elem)
 known:known P elem=true
 size:aB P elem=w
def OA(P:UC)(ty elem:UA)(w:Nat):Bool :=
 (match P.underlying ty with|some (.slice e)=>Nat.beq e elem|_=>false)&&known P elem&&Nat.beq (aB P elem) w&&Nat.blt 0 w &&(bq P elem).any (fun z=>z.cells.size==w&&z.cells.toList.all aQ) &&(match P.info? elem with|some i=>!(Nat.beq i.bytes 0)&&Nat.ble i.bytes 1024|none=>false)
def SlT.of{P:UC}{ty elem:UA}{w:Nat}(h:OA P ty elem w=true):SlT P ty elem w:=by
 simp only[OA,R9] at h;obtain⟨⟨⟨⟨⟨h1,h2⟩,h3⟩,h4⟩,h5⟩,h6⟩:=h;refine⟨?_,h2,Ti h3,by rwa[Ua] at h4,h5,?_⟩
 split at h1
 rename_i e he; rw[he,Ti h1]
 cases h1
 split at h6
 rename_i i hi;simp only[R9,Td] at h6;exact⟨i,hi,Ud h6.1,Th h6.2⟩
 cases h6
section
variable{E:Env}{n:Nat}{m0:Vn}{fs:Fs}{ps:VB Pc}
def Od(E:Env)(m0:Vn)(fs:Fs)(ps:VB Pc)(o:Op)(v:Uz)(ps':VB Pc):Prop :=
 ∀t m,Fr t fs->Hp m0 m ps->(∀b,aL E t o=some b->b<m.next)/\∀K:Uz->Vn->Prop,(∀m',Hp m0 m' ps'->K v m')->bh E t m o K
def Ox(E:Env)(m0:Vn)(fs:Fs)(ps:VB Pc)(o:Op){α:Type}(V:α->Uz)(N:α->VB Pc):Prop :=
 ∀t m,Fr t fs->Hp m0 m ps->(∀b,aL E t o=some b->b<m.next)/\∀K:Uz->Vn->Prop,(∀x m',Hp m0 m' (N x)->K (V x) m')->bh E t m o K
def Od.pure{o:Op}{v:Uz}(hr:∀t,aL E t o=none)(h:∀t m,Fr t fs->∀K,bh E t m o K=K v m):Od E m0 fs ps o v ps :=
 fun t m hf hp=>⟨fun b hb=>(by rw[hr] at hb; cases hb),fun K hK=>by rw[h t m hf]; exact hK m hp⟩
variable{x y z:UB}{a b r v:Uz}{ty ty':UA}
def aV(h:ev E fs x=some v):Od E m0 fs ps (.move x) v ps:=.pure (fun _=>rfl) fun _ _ hf=>Go.Ab.Mw (hf.ev h)
def bG(h:ev E fs x=some v):Od E m0 fs ps (.assign x) v ps:=.pure (fun _=>rfl) fun _ _ hf=>Go.Ab.FK (hf.ev h)
def IB{c:UB}(hc:ev E fs c=some (.bool true))(h:ev E fs x=some v):Od E m0 fs ps (.pick c x y) v ps:=.pure (fun _=>rfl) fun _ _ hf=>Go.Ab.I4 (hf.ev hc) (hf.ev h)
def P9{c:UB}(hc:ev E fs c=some (.bool false))(h:ev E fs y=some v):Od E m0 fs ps (.pick c x y) v ps:=.pure (fun _=>rfl) fun _ _ hf=>Go.Ab.Kv (hf.ev hc) (hf.ev h)
def aJ{op:BinOp}(h:ev E fs x=some a)(h':ev E fs y=some b)(hr:bT op ty E.P a b=some r):Od E m0 fs ps (.binOp op ty x y ty') r ps:=.pure (fun _=>rfl) fun _ _ hf=>Go.Ab.OX (hf.ev h) (hf.ev h') hr
def Er{op:UnOp}(h:ev E fs x=some a)(hr:EA op a=some r):Od E m0 fs ps (.unOp op ty x) r ps:=.pure (fun _=>rfl) fun _ _ hf=>Go.Ab.Er (hf.ev h) hr
def mU(h:ev E fs x=some a)(hr:kJ E.P ty ty' a=some r):Od E m0 fs ps (.convert ty ty' x) r ps:=.pure (fun _=>rfl) fun _ _ hf=>Go.Ab.NA (hf.ev h) hr
def aG{f:Nat}(h:ev E fs x=some a)(hr:aC E.P ty a f=some r):Od E m0 fs ps (.fieldAddr ty x f) r ps:=.pure (fun _=>rfl) fun _ _ hf=>Go.Ab.zu (hf.ev h) hr
def QR{f:Nat}(h:ev E fs x=some a)(hr:iH E.P ty a f=some r):Od E m0 fs ps (.field ty x f) r ps:=.pure (fun _=>rfl) fun _ _ hf=>Go.Ab.JY (hf.ev h) hr
def LL(h:ev E fs x=some a)(h':ev E fs y=some b)(hr:cg E.P ty a b=some r):Od E m0 fs ps (.indexAddr ty x y) r ps:=.pure (fun _=>rfl) fun _ _ hf=>Go.Ab.Ah (hf.ev h) (hf.ev h') hr
def KD{i:Nat}{vs:VD Uz}(h:ev E fs x=some (.tuple vs))(hr:vs[i]? = some r):Od E m0 fs ps (.extract x i) r ps:=.pure (fun _=>rfl) fun _ _ hf=>Go.Ab.Ds (hf.ev h) hr
def j9{f:VI}{xs ys:VD UB}{vs ws:VB Uz}(h:gF E fs xs.toList=some vs)(h':gF E fs ys.toList=some ws):Od E m0 fs ps (.makeFunc (.func f) xs ys) (.func (.func f) vs.toArray ws.toArray) ps :=
 .pure (fun _=>rfl) fun _ _ hf K=>by rw[Go.Ab.yF,hf.gF h,Go.Ab.dH,hf.gF h',Go.Ab.dH]
def kV{bi:Builtin}{ars:VD UB}{ts:VD UA}{vs:VB Uz}(h:gF E fs ars.toList=some vs)(hn:(match bi with|.len|.cap=>false|_=>true)=true)(hr:∀m,ba E.P bi ts vs m=some (r,m)):Od E m0 fs ps (.call ⟨.builtin bi,ars,ts⟩) r ps :=
 .pure (fun _=>by cases bi<;>first|rfl|cases hn) fun _ _ hf K=>Go.Ab.dw (hf.gF h) (hr _) K
def cH{parts:VD (Nat×UB)}{vs:VB (Nat×Uz)}{z:Uz}(h:IW E fs parts.toList=some vs)(hz:bq E.P ty=some z)(hpz:bC z=true)(hr:mH E.P ty vs=some r):Od E m0 fs ps (.build ty parts) r ps :=
 .pure (fun _=>rfl) fun t m hf K=>by
  have:fj E t m (.build ty parts)=some (r,m):=by simp only[fj,hf.IW h,hz,hpz,if_true,hr,Ss]
  exact Go.Ab.K8 rfl this K
def yw(ag:Bool)(sz:Nat)(cs:VB Uz)(o:Nat):VA Uz :=
 match ag with
 | true=>match Nat.beq ((cs.drop o).take sz).length sz with
  | true=>some (.agg ((cs.drop o).take sz).toArray)
  | false=>none
 | false=>cs[o]?
def rQ{P:UC}{m:Vn}{ag:Bool}{sz b o:Nat}{cs:VB Uz}{tg:Tag}(ht:TyI P ty ag sz)(hg:m.get b=some (.cells cs tg))(h:yw ag sz cs o=some v):dT P ty (ptr b o) m=some v:=by
 cases ag with
 | false=>exact I9 ht.known ht.agg hg h
 | true =>
  simp only[yw] at h
  split at h
  rename_i e;cases h;exact JJ ht.known ht.agg ht.size hg rfl (Ti e)
  cases h
def xI(ag:Bool)(sz c w:Nat):Bool:=(match ag with|true=>true|false=>Nat.beq sz 1)&&Nat.ble (c+sz) w
def xu{ag:Bool}{sz c w:Nat}(h:xI ag sz c w=true):(ag=false->sz=1)/\c+sz<=w:=by
 simp only[xI,R9] at h;exact⟨fun e=>by subst e; exact Ti h.1,Th h.2⟩
def Od.load{b o:Nat}(hx:ev E fs x=some (ptr b o))(h:∀m,Hp m0 m ps->b<m.next/\dT E.P ty (ptr b o) m=some v):Od E m0 fs ps (.load ty x) v ps :=
 fun t m hf hp=>⟨fun b' hb=>by
  simp only[aL,hf.ev hx] at hb;cases hb; exact(h m hp).1,fun K hK=>by
  rw[Go.Ab.Gv (hf.ev hx) (h m hp).2]; exact hK m hp⟩
def aI{ag:Bool}{sz b o k:Nat}{cs:VB Uz}{tg:Tag}(ht:TyI E.P ty ag sz)(hx:ev E fs x=some (ptr b o))(hp:pk ps k=some (.obj b (.cells cs tg)))(hv:yw ag sz cs o=some v):Od E m0 fs ps (.load ty x) v ps :=
 .load hx fun m h=>⟨(h.get hp).2.1,rQ ht (h.get hp).2.2 hv⟩
def KO{ag:Bool}{sz o w c:Nat}{all e:VB Uz}(he:(all.drop o).take w=e)(hsz:ag=false->sz=1)(hc:c+sz<=w)(h:yw ag sz e c=some v):yw ag sz all (o+c)=some v:=by
 subst he;have key:((List.take w (List.drop o all)).drop c).take sz=(all.drop (o+c)).take sz:=by
  rw[List.drop_take,List.take_take,T8,Nat.min_eq_left (by omega)]
 cases ag with
 | true=>simp only[yw,key] at h ⊢; exact h
 | false =>
  simp only[yw,Tk,Tl] at h ⊢
  split at h
  exact h
  cases h
def qj{P:UC}{m:Vn}{ag:Bool}{sz b o w j c:Nat}{es:Uw}{e:VB Uz}(ht:TyI P ty ag sz)(hl:qK m b o w es)(he:es[j]? = some e)(hv:yw ag sz e c=some v)(hsz:ag=false->sz=1)(hc:c+sz<=w):dT P ty (ptr b (o+j*w+c)) m=some v:=by
 obtain⟨_,all,tg,hg,_,h⟩:=hl;exact rQ ht hg (KO (h j e he).1 hsz hc hv)
def Ck{w:Nat}:∀{es:Uw} {j:Nat} {e:VB Uz},(∀e∈es,e.length=w)->es[j]? = some e->(es.flatten.drop (j*w)).take w=e:=by
 intro es
 induction es with
 | nil=>intro j e _ h; simp at h
 | cons x es ih =>
  intro j e hw h;have hx:=hw x (by simp)
  cases j with
  | zero =>
   simp only[SB,Option.some.injEq] at h;subst h;rw[S6,Uo,T7,List.take_left' hx]
  | succ j =>
   rw[SQ] at h;rw[S6,TM,Nat.add_comm,<-T8,List.drop_left' hx];exact ih (fun e he=>hw e (by simp[he])) h
def CT.PJ{lo:Nat}{m:Vn}{b w n:Nat}{es:Uw}{tg:Tag}(h:CT lo m b w n es tg):qK m b 0 w es :=
 ⟨h.2.1,_,tg,h.2.2.1,fun sz e=>(by rcases h.2.2.2.2.2.1 with h1|h1<;>rw[h1] at e<;>cases e; rfl),fun i e he=>⟨by rw[SE]; exact Ck h.2.2.2.2.1 he,h.2.2.2.2.1 e (SA he)⟩⟩
def fO{ag:Bool}{sz b w n j c k:Nat}{es:Uw}{tg:Tag}{e:VB Uz}(ht:TyI E.P ty ag sz)(hx:ev E fs x=some (ptr b (j*w+c)))(hp:pk ps k=some (.arr b w n es tg))(he:es[j]? = some e)(hv:yw ag sz e c=some v)(hs:xI ag sz c w=true):Od E m0 fs ps (.load ty x) v ps:=by
 have hs:=xu hs;refine .load hx fun m h=>⟨(h.get hp).2.1,?_⟩;have:=qj (P:=E.P) ht (CT.PJ (h.get hp)) he hv hs.1 hs.2;rwa[SE] at this
def ou{ag:Bool}{sz b o w n j c k:Nat}{es:Uw}{e:VB Uz}(ht:TyI E.P ty ag sz)(hx:ev E fs x=some (ptr b (o+j*w+c)))(hp:pk ps k=some (.ro b o w n es))(he:es[j]? = some e)(hv:yw ag sz e c=some v)(hs:xI ag sz c w=true):Od E m0 fs ps (.load ty x) v ps:=by
 have hs:=xu hs;exact .load hx fun m h=>⟨(h.get hp).2.1,qj (P:=E.P) ht (h.get hp).2 he hv hs.1 hs.2⟩
def mW{elem:UA}{b o w n cap:Nat}{i:Int}{kd:IntKind}(ht:SlT E.P ty elem w)(hx:ev E fs x=some (.slice (some ⟨b,o,none⟩) n cap))(hy:ev E fs y=some (.int kd i))(hi:0<=i/\i.toNat<n):Od E m0 fs ps (.indexAddr ty x y) (ptr b (o+i.toNat*w+0)) ps:=by
 refine LL hx hy ?_;have hd:decide ((0:Int)<=i/\i<(n:Nat))=true:=by simp; omega
 simp only[cg,ht.und,ht.known,hd,TA,if_true,ht.size,TB]
def tT{elem:UA}{b w n cap:Nat}{i:Int}{kd:IntKind}(ht:SlT E.P ty elem w)(hx:ev E fs x=some (.slice (some ⟨b,0,none⟩) n cap))(hy:ev E fs y=some (.int kd i))(hi:0<=i/\i.toNat<n):Od E m0 fs ps (.indexAddr ty x y) (ptr b (i.toNat*w+0)) ps:=by
 have:=mW (m0:=m0) (ps:=ps) ht hx hy hi;rwa[SE] at this
def Hp.write{m:Vn}(h:Hp m0 m ps){k b:Nat}{p p':Pc}{o':Vp}(hp:pk ps k=some p)(ho:p.own=true)(hb:p.sx=some b)(hb':p'.sx=some b)(ho':p'.own=true)(hok:p'.ok m0.next (m.set b o')):Hp m0 (m.set b o') (bL ps k p') :=
 h.put hp ho (hb'.trans hb.symm) ho' (Sa _) (h.ext.set (Pc.GZ (h.get hp) ho hb) _) hok fun x hx _=>by
  rw[Vn.bp,R5 (fun e=>hx (by rw[e]; exact hb))]
def KQ(cs:VB Uz)(o:Nat)(v:Uz)(sz:Nat):VA (VB Uz) :=
 match Nat.beq v.cells.toList.length sz&&Nat.blt 0 sz&&aX v.cells.toList&&Nat.ble (o+sz) cs.length with
 | true=>some (ay cs o v.cells.toList)
 | false=>none
def jD:∀(cs:VB Uz) (o:Nat) (vs:VB Uz),o+vs.length<=cs.length->(ay cs o vs).length=cs.length
 | cs,0,[],_=>by cases cs<;>rfl
 | [],0,v::vs,h=>by simp at h
 | c::cs,0,v::vs,h=>by simp only[ay,SS]; rw[jD cs 0 vs (by simpa using h)]
 | [],o+1,vs,h=>by simp at h
 | c::cs,o+1,vs,h=>by simp only[ay,SS]; rw[jD cs o vs (by simp at h; omega)]
def yz{P:UC}{m:Vn}{ag:Bool}{sz b o:Nat}{cs cs':VB Uz}{tg:Tag}(ht:TyI P ty ag sz)(hg:m.get b=some (.cells cs tg))(htg:tg≠.ro)(h:KQ cs o v sz=some cs'):gT P ty (ptr b o) v m=some (m.set b (.cells cs' tg)):=by
 simp only[KQ] at h
 split at h
 ·rename_i e;cases h;simp only[R9] at e;obtain⟨⟨⟨h1,h2⟩,h3⟩,h4⟩:=e;have h1:=Ti h1;have h2:0<sz:=by rwa[Ua] at h2
  have h4:=Th h4;have hs:(v.cells.size==aB P ty)=true:=by rw[ht.size,<-h1]; simp
  simp only[gT,ptr,ht.known,hs,h3,TA,if_true,Vn.cQ];cases hc:v.cells.toList with
  | nil=>rw[hc] at h1; simp at h1; omega
  | cons x xs =>
   rw[hc] at h1;simp only[hg];cases tg with
   | ro=>exact Sw rfl htg
   | own=>rw[R7 (by rw[h1]; exact h4)]
   | more s=>rw[R7 (by rw[h1]; exact h4)]
 cases h
def Od.store{bk o:Nat}{p':VB Pc}(hx:ev E fs x=some (ptr bk o))(hy:ev E fs y=some v)(h:∀m,Hp m0 m ps->∃m',gT E.P ty (ptr bk o) v m=some m'/\Hp m0 m' p'):Od E m0 fs ps (.store ty x y) undef p' :=
 fun t m hf hp=>⟨fun b hb=>by simp[aL] at hb,fun K hK=>by
  obtain⟨m',h1,h2⟩:=h m hp;rw[Go.Ab.Kk (hf.ev hx) (hf.ev hy) h1]; exact hK m' h2⟩
def qX:Tag->Bool
 | .ro=>false
 | _=>true
def eg{ag:Bool}{sz b o k:Nat}{cs cs':VB Uz}{tg:Tag}(ht:TyI E.P ty ag sz)(hx:ev E fs x=some (ptr b o))(hy:ev E fs y=some v)(hp:pk ps k=some (.obj b (.cells cs tg)))(htg:qX tg=true)(hv:KQ cs o v sz=some cs'):Od E m0 fs ps (.store ty x y) undef (bL ps k (.obj b (.cells cs' tg))) :=
 .store hx hy fun m h=>⟨_,yz ht (h.get hp).2.2 (fun e=>by rw[e] at htg; cases htg) hv,h.write hp rfl rfl rfl rfl ⟨(h.get hp).1,(h.get hp).2.1,by rw[Vn.bp,R7 rfl]⟩⟩
def B5:∀(l r vs:VB Uz) (c:Nat),c+vs.length<=l.length->ay (l++r) c vs=ay l c vs++r:=by
 intro l r
 induction l with
 | nil =>
  intro vs c h;have h0:c+vs.length<=0:=h;have h1:c=0:=by omega
  have h2:vs=[]:=SL.1 (by omega)
  subst h1 h2;cases r<;>rfl
 | cons a l ihl =>
  intro vs c h;cases c with
  | zero=>cases vs with
   | nil=>rfl
   | cons v vs=>simp only[TX,ay]; rw[ihl vs 0 (by simpa using h)]
  | succ c=>simp only[TX,ay]; rw[ihl vs c (by simp at h; omega)]
def rA:∀(l r vs:VB Uz) (o:Nat),ay (l++r) (l.length+o) vs=l++ay r o vs:=by
 intro l r vs
 induction l with
 | nil=>intro o; simp
 | cons a l ihl=>intro o; rw[TX,SS,show l.length+1+o=(l.length+o)+1 by omega,ay,ihl o]; rfl
def AD{w c:Nat}{vs:VB Uz}:∀{es:Uw} {j:Nat} {e:VB Uz},(∀e∈es,e.length=w)->es[j]? = some e->c+vs.length<=w->ay es.flatten (j*w+c) vs=(es.set j (ay e c vs)).flatten:=by
 intro es
 induction es with
 | nil=>intro j e _ h; simp at h
 | cons x es ih =>
  intro j e hw h hc;have hx:=hw x (by simp)
  cases j with
  | zero =>
   simp only[SB,Option.some.injEq] at h;subst h;rw[S6,Uo,SE,B5 _ _ _ _ (by omega)]
   simp[S6]
  | succ j =>
   rw[SQ] at h;rw[S6,TM,show j*w+w+c=x.length+(j*w+c) by omega,rA,ih (fun e he=>hw e (by simp[he])) h hc]
   simp[S6]
def oA{ag:Bool}{sz b w n j c k:Nat}{es:Uw}{e e':VB Uz}{tg:Tag}(ht:TyI E.P ty ag sz)(hx:ev E fs x=some (ptr b (j*w+c)))(hy:ev E fs y=some v)(hp:pk ps k=some (.arr b w n es tg))(he:es[j]? = some e)(hv:KQ e c v sz=some e'):Od E m0 fs ps (.store ty x y) undef (bL ps k (.arr b w n (es.set j e') tg)):=by
 refine .store hx hy fun m h=>?_;obtain⟨g1,g2,g3,g4,g5,g6,g7⟩:=h.get hp;have hew:=g5 e (SA he);simp only[KQ] at hv
 split at hv
 ·rename_i e1;cases hv;simp only[R9] at e1;obtain⟨⟨⟨h1,h2⟩,h3⟩,h4⟩:=e1;have h1:=Ti h1;have h2':0<sz:=by rwa[Ua] at h2
  have h4:=Th h4;have hj:j<es.length:=(Sl.1 he).1;have hfl:∀(l:Uw),(∀e∈l,e.length=w)->l.flatten.length=l.length*w:=by
   intro l
   induction l with
   | nil=>intro _; simp
   | cons x l ih=>intro hl; rw[S6,Sn,ih (fun e he=>hl e (by simp[he])),hl x (by simp),SS,TM]; omega
  have hmul:(j+1)*w<=es.length*w:=Te w hj;rw[TM] at hmul;have hst:KQ es.flatten (j*w+c) v sz=some (ay es.flatten (j*w+c) v.cells.toList):=by
   have:(Nat.beq v.cells.toList.length sz&&Nat.blt 0 sz&&aX v.cells.toList&&Nat.ble (j*w+c+sz) es.flatten.length)=true:=by
    simp only[R9];exact⟨⟨⟨by rw[h1]; exact Nat.beq_refl _,h2⟩,h3⟩,Nat.ble_eq_true_of_le (by rw[hfl es g5]; omega)⟩
   simp only[KQ,this]
  refine⟨_,yz ht g3 (by rcases g6 with rfl|rfl<;>simp) hst,h.write hp rfl rfl rfl rfl ?_⟩
  refine⟨g1,g2,?_,by simpa using g4,fun e'' he''=>?_,g6,g7⟩
  rw[Vn.bp,R7 rfl,AD g5 he (by omega)]
  rcases List.mem_or_eq_of_mem_set he'' with h5|h5
  exact g5 _ h5
  rw[h5,jD _ _ _ (by omega)]; exact hew
 cases hv
def Ox.made{o:Op}{ob:Nat->Vp}{p:Nat->Pc}{V:Nat->Uz}(hr:∀t,aL E t o=none)(h:∀t m,Fr t fs->∀K,bh E t m o K=K (V m.next) (m.alloc (ob m.next)))
  (hb:∀b,(p b).sx=some b) (hp:∀lo m b,lo<=b->b<m.next->m.get b=some (ob b)->(p b).ok lo m) (hpg:∀b x,¬(p b).Ep x:=by exact fun _ _ h=>h):Ox E m0 fs ps o V (fun b=>p b::ps) :=
 fun t m hf hm=>⟨fun b hb=>(by rw[hr] at hb; cases hb),fun K hK=>by
  rw[h t m hf];refine hK m.next _ (hm.cons (Nat.le_succ _) (hm.ext.alloc _) (fun b hlt=>by rw[Vn.aW,UG]) (hp _ _ _ hm.ext.next (T3 _) (by rw[Vn.aW,R7 rfl])) (fun b' h'=>?_) (hpg _))
  rw[hb] at h'; cases h'; exact Sa _⟩
def uH{z:Uz}(hz:bq E.P ty=some z)(hp:bC z=true):Ox E m0 fs ps (.alloc ty) (fun b=>ptr b 0) (fun b=>.obj b (.cells z.cells.toList .own)::ps) :=
 .made (ob:=fun _=>.cells z.cells.toList .own) (p:=fun b=>.obj b (.cells z.cells.toList .own)) (fun _=>rfl) (fun _ _ _ K=>Go.Ab.Kd hz hp K) (fun _=>rfl) fun _ _ _ h1 h2 h3=>⟨h1,h2,h3⟩
def Ma(h:ev E fs x=some v):Ox E m0 fs ps (.box ty x) (fun b=>ptr b 0) (fun b=>.obj b (.cells v.cells.toList .own)::ps) :=
 .made (ob:=fun _=>.cells v.cells.toList .own) (p:=fun b=>.obj b (.cells v.cells.toList .own)) (fun _=>rfl) (fun _ _ hf K=>Go.Ab.OT (hf.ev h) K) (fun _=>rfl) fun _ _ _ h1 h2 h3=>⟨h1,h2,h3⟩
def Fi:Ox E m0 fs ps (.makeMap ty none) (fun b=>.map (some b)) (fun b=>.obj b (.map [])::ps) :=
 .made (ob:=fun _=>.map []) (p:=fun b=>.obj b (.map [])) (fun _=>rfl) (fun _ _ _ _=>Go.Ab.Bu) (fun _=>rfl) fun _ _ _ h1 h2 h3=>⟨h1,h2,h3⟩
def Qr(P:UC)(elem:UA)(w len:Nat)(vs:VB (Nat×Uz)):VA (VB Uz) :=
 match fI P elem len with
 | some zs=>match zs.all aQ&&Nat.ble (len*w) 16777216 with
  | true=>jr (fun i=>some (i*w,w)) zs vs
  | false=>none
 | none=>none
def Pg(w:Nat)(es:Uw):Bool:=es.all fun e=>Nat.beq e.length w
def Ke{w:Nat}{es:Uw}(h:Pg w es=true):∀e∈es,e.length=w:=fun e he=>Ti (Sp.1 h e he)
def cm{elem:UA}{w len:Nat}{parts:VD (Nat×UB)}{vs:VB (Nat×Uz)}{es:Uw}(ht:SlT E.P ty elem w)(h:IW E fs parts.toList=some vs)(hf:Qr E.P elem w len vs=some es.flatten)(hl:Nat.beq es.length len=true)(hw:Pg w es=true) :
  Ox E m0 fs ps (.buildSlice ty len parts) (fun b=>.slice (some ⟨b,0,none⟩) len len) (fun b=>.arr b w len es .own::ps):=by
 refine .made (ob:=fun _=>.cells es.flatten .own) (p:=fun b=>.arr b w len es .own) (fun _=>rfl) (fun t m hfr K=>?_) (fun _=>rfl) fun _ _ _ h1 h2 h3=>⟨h1,h2,h3,Ti hl,Ke hw,.inl rfl,ht.pos⟩;simp only[Qr] at hf
 split at hf
 rename_i zs hz
 split at hf
 rename_i hc;simp only[R9] at hc;have:fj E t m (.buildSlice ty len parts)=some (.slice (some ⟨m.next,0,none⟩) len len,m.alloc (.cells es.flatten .own)):=by
  have h2:¬(len*w>2 ^ 24):=by have:=Th hc.2; omega
  simp only[fj,ht.und,hfr.IW h,ht.known,ht.size,hz,hc.1,hf,S0,Bool.false_or,Sm h2,if_true,Ss]
  rfl
 exact Go.Ab.K8 rfl this K
 cases hf
 cases hf
def lim(n:Nat):Bool:=Nat.ble n 1073741824
def qN{z:VB Uz}:∀n,bj z n=(List.replicate n z).flatten
 | 0=>rfl
 | n+1=>by rw[bj,qN n,List.replicate_succ,S6]
end
attribute [local irreducible] Tm.at Trie.set Trie.get Vn.get Vn.set Vn.alloc Vn.ww Vn.kill
section
variable{E:Env}{n:Nat}{m0 m m':Vn}{fs:Fs}{ps:VB Pc}{x y:UB}{v:Uz}{ty:UA}
def CT.rd{lo b w n:Nat}{es:Uw}{tg:Tag}(h:CT lo m b w n es tg):Rd m (some ⟨b,0,none⟩) n w n es :=
 ⟨h.2.2.2.1,Sa _,.inr (.inr ⟨b,0,rfl,h.PJ⟩)⟩
inductive IsRd:Pc->Ux->Nat->Nat->Nat->Uw->Prop
 | arr (b w n:Nat) (es:Uw) (tg:Tag):IsRd (.arr b w n es tg) (some ⟨b,0,none⟩) n w n es
 | sl (a:Ux) (w n:Nat) (es:Uw):IsRd (.sl a w n es) a n w n es
 | rd (a:Ux) (cap w n:Nat) (es:Uw):IsRd (.rd a cap w n es) a cap w n es
 | nil {p:Pc} (w:Nat):IsRd p none 0 w 0 []
def Pc.Dx{p:Pc}{a:Ux}{lo cap w n:Nat}{es:Uw}(h:p.ok lo m)(hi:IsRd p a cap w n es):Rd m a cap w n es:=by
 cases hi with
 | arr b w n es tg=>exact CT.rd h
 | sl a w n es =>
  rcases h with⟨rfl,rfl,rfl,_⟩|⟨b,tg,rfl,h⟩
  exact⟨rfl,Sa _,.inl ⟨rfl,rfl⟩⟩
  exact h.rd
 | rd a cap w n es=>exact h
 | nil w=>exact⟨rfl,Sa _,.inl ⟨rfl,rfl⟩⟩
def Hp.rd(h:Hp m0 m ps){k:Nat}{p:Pc}{a:Ux}{cap w n:Nat}{es:Uw}(hp:pk ps k=some p)(hi:IsRd p a cap w n es):Rd m a cap w n es:=Pc.Dx (h.get hp) hi
def Rd.nil(m:Vn)(w:Nat):Rd m none 0 w 0 []:=⟨rfl,Sa _,.inl ⟨rfl,rfl⟩⟩
def Rd.cells{a:Ux}{cap w n:Nat}{es:Uw}(h:Rd m a cap w n es):cS w (.slice a n cap) n m=some es.flatten:=by
 obtain⟨h1,h2,h4⟩:=h
 by_cases hn:n=0
 ·subst hn;have:es=[]:=SL.1 h1;subst this;cases a with
  | none=>rfl
  | some a=>obtain⟨b,o,sp⟩:=a; cases sp<;>rfl
 ·rcases h4 with h4|⟨b,sp,rfl,h4,_⟩|⟨b,o,rfl,_,all,tg,hg,_,hl⟩
  exact Sw h4.2 hn
  exact Sw h4 hn
  ·simp only[cS,R5 hn,Vn.ef,hg];have key:∀(es:Uw) (k:Nat),(∀i e,es[i]? = some e->(all.drop (o+(k+i)*w)).take w=e/\e.length=w)->(all.drop (o+k*w)).take (es.length*w)=es.flatten/\es.flatten.length=es.length*w:=by
    intro es
    induction es with
    | nil=>intro k _; simp
    | cons e es ih =>
     intro k hk;obtain⟨a1,a2⟩:=hk 0 e rfl;obtain⟨b1,b2⟩:=ih (k+1) fun i e' he'=>by
      have:=hk (i+1) e' (by simpa using he')
      rwa[show k+(i+1)=k+1+i by omega] at this
     rw[TB] at a1;refine⟨?_,by rw[S6,Sn,a2,b2,SS,TM]; omega⟩
     rw[SS,TM,Nat.add_comm,List.take_add,a1,T8,S6,<-b1,TM,Nat.add_assoc]
   have:=key es 0 (fun i e he=>by rw[SE]; exact hl i e he)
   rw[Uo,TB,h1] at this;rw[this.1,R7 this.2]
def Hp.renew(h:Hp m0 m ps){k:Nat}{p p':Pc}(hp:pk ps k=some p)(hn:m.next<=m'.next)(hext:Ext m0 m')(hok:p'.ok m0.next m')(hb:∀b,p'.sx=some b->m.next<=b)(hpo:p.own=true)(hg:∀b,p.sx≠some b->b<m.next->m'.get b=m.get b)(hng:∀b,¬p'.Ep b:=by exact fun _ h=>h):Hp m0 m' (bL ps k p') :=
 h.Eu hp (fun b a=>.inr ((Pc.iB a).elim (hb b) fun h=>Sw h (hng b))) (fun b a=>.inr (a.elim (hb b) fun h=>Sw h (hng b))) hn hext hok fun b hb' hlt=>hg b (fun e=>hb' (.inl ⟨hpo,e⟩)) hlt
def dB(es:Uw):Prop:=∀e∈es,e.all kT=true
def BA{α:Type}{f:α->VB Uz}(h:∀x,(f x).all kT=true)(xs:VB α):dB (xs.map f):=fun e he=>by
 obtain⟨x,_,rfl⟩:=Sy.1 he; exact h x
def iv{es:Uw}(h:dB es):aX es.flatten=true:=by
 unfold aX;rw[Sp];intro v hv;obtain⟨l,h1,h2⟩:=List.mem_flatten.1 hv;exact Sp.1 (h l h1) v h2
def cG{w:Nat}:∀{l:Uw},(∀e∈l,e.length=w)->l.flatten.length=l.length*w:=by
 intro l
 induction l with
 | nil=>intro _; simp
 | cons x l ih=>intro hl; rw[S6,Sn,ih (fun e he=>hl e (by simp[he])),hl x (by simp),SS,TM]; omega
def qk {P:UC} {elem ty2:UA} {w k n0 c0:Nat} {a a0:Ux} {es es2:Uw} (ht:SlT P ty elem w) (h2:∃e2,P.underlying ty2=some (.slice e2)) (h:Hp m0 m ps) (hp:pk ps k=some (.sl a w n es)) (hr:Rd m a0 c0 w n0 es2) (h1:∀e ∈ es2,e.length=w) (ho:dB es2) (hl:lim (n+n0)=true) :
  ∃a' m',cE P ty (some ty2) (.slice a n n) (.slice a0 n0 c0) m=some (.slice a' (n+n0) (n+n0),m')/\Hp m0 m' (bL ps k (.sl a' w (n+n0) (es++es2))):=by
 obtain⟨e2,h3⟩:=h2;obtain⟨inf,h4,h5,h6⟩:=ht.bytes;have hln:n+n0<=1073741824:=Th hl;have hc:=hr.cells;have hlen2:es2.flatten.length=n0*w:=by rw[cG h1,hr.1]
 have hnew:eR P elem (some ty2) (.slice a0 n0 c0) m=some (n0,es2.flatten):=by
  simp only[eR,SD,h3,ht.size];have:cS w (.slice a0 n0 c0) n0 m=some es2.flatten:=hc;rw[this]; rfl
 have hfit:(P.info? elem).any (fun i=>dF i.bytes (n+n0)&&i.bytes != 0)=true:=by
  rw[h4];have hmul:(2*(n+n0)+2000)*inf.bytes<=(2*1073741824+2000)*1024:=Uk (by omega) h6
  simp only[Option.any_some,dF,R9,Sj,bne_iff_ne,ne_eq];exact⟨by omega,h5⟩
 have hzero:(bq P elem).any (fun z=>z.cells.size==w&&z.cells.toList.all aQ)=true:=ht.zero;have hpos:=ht.pos;have h7:(w==0)=false:=by simp; omega
 have hguard:(!(known P elem)||aB P elem==0 || !aX es2.flatten || !(P.info? elem).any (fun i=>dF i.bytes (n+n0)&&i.bytes != 0)||es2.flatten.length != n0*aB P elem || !(bq P elem).any (fun z=>z.cells.size==aB P elem&&z.cells.toList.all aQ))=false:=by
  rw[ht.size,ht.known,hfit,hzero,iv ho,h7,hlen2]; simp
 have hres:∀a',(∃m',(.slice a' (n+n0) (n+n0),m')=((.slice a' (n+n0) (n+n0),m'):Uz×Vn)):=fun a'=>⟨m,rfl⟩;have hpc:=h.get hp;have hext:=h.ext;rcases hpc with⟨rfl,rfl,rfl,_⟩|⟨b,tg,rfl,hb⟩
 ·
  by_cases h0:n0=0
  ·subst h0;have hes:es2=[]:=SL.1 hr.1;subst hes;refine⟨none,m,?_,?_⟩
   unfold cE;simp only[ht.und,hnew];rw[R5 (by rw[hguard]; exact Tw)]
   rfl
   ·have:bL ps k (.sl none w (0+0) ([]++[]))=ps:=by
     have:∀(l:VB Pc) (k:Nat) (p:Pc),pk l k=some p->bL l k p=l:=by
      intro l
      induction l with
      | nil=>intro k p h; simp[pk] at h
      | cons q l ih =>
       intro k p h;cases k with
       | zero=>rw[jR] at h; rw[iR,Sb h]
       | succ k=>rw[eC] at h; rw[dL,ih k p h]
     exact this ps k _ hp
    rw[this]; exact h
  refine⟨some ⟨m.next,0,none⟩,m.alloc (.cells es2.flatten (.more w)),?_,?_⟩
  unfold cE;simp only[ht.und,hnew];rw[R5 (by rw[hguard]; exact Tw)]
  simp only[ht.size];rw[R5 (by simp),R5 h0,SE]
  refine h.renew hp (by simp only[Vn.next_alloc]; omega) (hext.alloc _) (.inr ⟨m.next,.more w,rfl,hext.next,(by rw[Vn.next_alloc]; omega),?_,?_,?_,.inr rfl,hpos⟩) (fun b' hb'=>?_) rfl fun b' _ hlt=>?_
  rw[Vn.aW,R7 rfl,Ty]
  rw[Ty,hr.1,SE]
  rw[Ty]; exact h1
  cases hb'; exact Sa _
  rw[Vn.aW,UG]
 ·obtain⟨g5,g2,g0,g1,g3,g4,g6⟩:=hb;have hlen:es.flatten.length=n*w:=by rw[cG g3,g1]
  by_cases h0:n0=0
  ·subst h0;have hes:es2=[]:=SL.1 hr.1;subst hes;refine⟨some ⟨b,0,none⟩,m,?_,?_⟩
   unfold cE;simp only[ht.und,hnew];rw[R5 (by rw[hguard]; exact Tw)]
   simp only[g0];rw[R7 (Ue (TB n))];simp[Vn.cQ]
   ·rw[SX,TB];have:bL ps k (.sl (some ⟨b,0,none⟩) w n es)=ps:=by
     have:∀(l:VB Pc) (k:Nat) (p:Pc),pk l k=some p->bL l k p=l:=by
      intro l
      induction l with
      | nil=>intro k p h; simp[pk] at h
      | cons q l ih =>
       intro k p h;cases k with
       | zero=>rw[jR] at h; rw[iR,Sb h]
       | succ k=>rw[eC] at h; rw[dL,ih k p h]
     exact this ps k _ hp
    rw[this]; exact h
  have hcap:¬(n+n0<=n):=by omega
  have htake:es.flatten.take (n*w)=es.flatten:=TG (by omega)
  have hok:∀(mm:Vn),m.next<=mm.next->Pc.ok m0.next (mm.alloc (.cells (es.flatten++es2.flatten) (.more w))) (.sl (some ⟨mm.next,0,none⟩) w (n+n0) (es++es2)):=fun mm hmm =>
   .inr ⟨mm.next,.more w,rfl,SI hext.next hmm,(by rw[Vn.next_alloc]; omega),by rw[Vn.aW,R7 rfl,TC],by rw[Sn,g1,hr.1],fun e he=>by
    rcases St.1 he with he|he
    exact g3 e he
    exact h1 e he,.inr rfl,hpos⟩
  rcases g4 with rfl|rfl
  refine⟨some ⟨m.next,0,none⟩,m.alloc (.cells (es.flatten++es2.flatten) (.more w)),?_,?_⟩
  unfold cE;simp only[ht.und,hnew];rw[R5 (by rw[hguard]; exact Tw)]
  simp only[ht.size,g0];rw[R5 hcap];have hld:m.ef b 0 (n*w)=some es.flatten:=by
   simp only[Vn.ef,g0,T7,htake];rw[R7 hlen]
  simp only[hld]
  refine h.renew hp (by simp only[Vn.next_alloc]; omega) (hext.alloc _) (hok m (Sa _)) (fun b' hb'=>?_) rfl fun b' _ hlt=>?_
  cases hb'; exact Sa _
  rw[Vn.aW,UG]
  refine⟨some ⟨(m.kill b).next,0,none⟩,(m.kill b).alloc (.cells (es.flatten++es2.flatten) (.more w)),?_,?_⟩
  unfold cE;simp only[ht.und,hnew];rw[R5 (by rw[hguard]; exact Tw)]
  simp only[ht.size,g0];rw[R5 hcap];simp only[and_self,if_true,htake,hlen,Vn.next_kill]
  have hk:Ext m0 (m.kill b):=⟨by rw[Vn.next_kill]; exact hext.next,fun x hx=>by rw[Vn.dJ,UG]; exact hext.same x hx,by
   rw[Vn.wl_kill];have:=hext.wl; omega⟩
  refine h.renew hp (by simp only[Vn.next_alloc,Vn.next_kill]; omega) (hk.alloc _) (hok (m.kill b) (by rw[Vn.next_kill]; exact Sa _)) (fun b' hb'=>?_) rfl fun b' hb' hlt=>?_
  cases hb'; rw[Vn.next_kill]; exact Sa _
  rw[Vn.aW,R5 (by simp; omega),Vn.dJ,R5 (fun e=>hb' (by rw[e]; rfl))]
def Jx{elem ty2:UA}{w k k2 n0 c0:Nat}{a a0:Ux}{es es2:Uw}{ars:VD UB}{p0:Pc}(ht:SlT E.P ty elem w)(h0:∃e2,E.P.underlying ty2=some (.slice e2))(ha:gF E fs ars.toList=some [.slice a n n,.slice a0 n0 c0])(hp:pk ps k=some (.sl a w n es))(h1:pk ps k2=some p0)(hr:IsRd p0 a0 c0 w n0 es2)(h2:∀e∈es2,e.length=w)(ho:dB es2)(hl:lim (n+n0)=true) :
  Ox E m0 fs ps (.call ⟨.builtin .append,ars,#[ty,ty2]⟩) (fun a':Ux=>.slice a' (n+n0) (n+n0)) (fun a'=>bL ps k (.sl a' w (n+n0) (es++es2))) :=
 fun t m hf h=>⟨fun b hb=>(by simp[aL] at hb),fun K hK=>by
  obtain⟨a',m',h3,h4⟩:=qk (n:=n) ht h0 h hp (h.rd h1 hr) h2 ho hl;have:ba E.P .append #[ty,ty2] [.slice a n n,.slice a0 n0 c0] m=some (.slice a' (n+n0) (n+n0),m'):=h3;rw[Go.Ab.dw (hf.gF ha) this];exact hK a' m' h4⟩
def oU{k cap:Nat}{a:Ux}{ars:VD UB}{p:Pc}{elem:UA}(hu:E.P.underlying ty=some (.slice elem))(ha:gF E fs ars.toList=some [.slice a n cap])(hp:pk ps k=some p)(hb:kU a=p.sx\/a=none) :
  Od E m0 fs ps (.call ⟨.builtin .len,ars,#[ty]⟩) (.int .i64 (n:Int)) ps :=
 fun t m hf h=>⟨fun b hb'=>by
  simp only[aL,hf.gF ha] at hb';have hab:dE (.slice a n cap)=kU a:=by cases a<;>rfl
  rw[hab] at hb';exact hb.elim (fun hb=>Pc.LD (h.get hp) (hb▸hb')) (fun hb=>by rw[hb] at hb'; exact nomatch hb'),fun K hK=>by
  have:ba E.P .len #[ty] [.slice a n cap] m=some (.int .i64 (n:Int),m):=by
   have ht:(#[ty]:VD UA)[0]? = some ty:=rfl;simp only[ba,ht,SD,hu]
  rw[Go.Ab.dw (hf.gF ha) this]; exact hK m h⟩
def nw{n cap lo hi:Nat}(h1:lo<=hi)(h2:hi<=cap){l h:VA Uz}(hl:l=none/\lo=0\/∃k,l=some (.int k (lo:Int)))(hh:h=none/\hi=n\/∃k,h=some (.int k (hi:Int))):bP n cap l h none=some (lo,hi,cap):=by
 have hb:∀(k:IntKind) (x y:Nat),x<=y->jq (.int k (x:Int)) y=some x:=fun k x y hxy=>by
  simp only[jq]; rw[R7 ⟨by omega,by omega⟩,SG]
 rcases hl with⟨rfl,rfl⟩|⟨k1,rfl⟩<;>rcases hh with⟨rfl,rfl⟩|⟨k2,rfl⟩<;>(unfold bP; simp only[hb _ _ _ h1,hb _ _ _ h2])
def qK.drop{b o w:Nat}{es:Uw}(h:qK m b o w es)(lo k:Nat):qK m b (o+lo*w) w ((es.drop lo).take k):=by
 obtain⟨h1,all,tg,h2,hs,h3⟩:=h;refine⟨h1,all,tg,h2,hs,fun i e he=>?_⟩;rw[Tk] at he
 split at he
 rw[Tl] at he;have:=h3 (lo+i) e he;rwa[TW,<-Nat.add_assoc] at this
 cases he
def Fb{P:UC}{elem:UA}{cap w lo hi:Nat}{a:Ux}{es:Uw}{l h:VA Uz}(ht:SlT P ty elem w)(hr:Rd m a cap w n es)(h1:lo<=hi)(h2:hi<=n)(hl:l=none/\lo=0\/∃k,l=some (.int k (lo:Int)))(hh:h=none/\hi=n\/∃k,h=some (.int k (hi:Int))) :
  ∃a' cap',bU P ty (.slice a n cap) l h none m=some (.slice a' (hi-lo) cap')/\Rd m a' cap' w (hi-lo) ((es.drop lo).take (hi-lo))/\(kU a'=kU a):=by
 obtain⟨r1,r2,r4⟩:=hr;have hlen:((es.drop lo).take (hi-lo)).length=hi-lo:=by rw[Sq,SZ,r1]; omega
 have hb:=nw (n:=n) (cap:=cap) h1 (SI h2 r2) hl hh;rcases r4 with⟨rfl,rfl⟩|⟨b,sp,rfl,rfl,rfl,hlt⟩|⟨b,o,rfl,hli⟩
 refine⟨none,cap-lo,?_,⟨hlen,by omega,.inl ⟨rfl,by omega⟩⟩,rfl⟩
 simp only[bU,ht.und,ht.known,if_true,hb]
 have e1:lo=0:=by omega
 have e2:hi=0:=by omega
 subst e1 e2;refine⟨some ⟨b,0,some sp⟩,0,?_,⟨hlen,Sa _,.inr (.inl ⟨b,sp,rfl,rfl,rfl,hlt⟩)⟩,rfl⟩;simp only[bU,ht.und,ht.known,if_true,hb,TN]
 ·have hli':=hli.drop lo (hi-lo);obtain⟨hlt,all,tg,hg,hs,hall⟩:=hli;have plain:(∀sz,tg≠.more sz)->∃a' cap',bU P ty (.slice (some ⟨b,o,none⟩) n cap) l h none m=some (.slice a' (hi-lo) cap')/\Rd m a' cap' w (hi-lo) ((es.drop lo).take (hi-lo))/\(kU a'=kU (some ⟨b,o,none⟩)):=by
   intro hne;have:bU P ty (.slice (some ⟨b,o,none⟩) n cap) l h none m=some (.slice (some (if cap=lo then⟨b,o,none⟩ else⟨b,o+lo*w,none⟩)) (hi-lo) (cap-lo)):=by
    cases tg with
    | more sz=>exact Sw rfl (hne sz)
    | ro=>simp only[bU,ht.und,ht.known,if_true,hg,hb,ht.size]
    | own=>simp only[bU,ht.und,ht.known,if_true,hg,hb,ht.size]
   by_cases hc:cap=lo
   rw[R7 hc] at this;have e0:hi-lo=0:=by omega
   refine⟨_,_,this,⟨hlen,by omega,.inr (.inr ⟨b,o,rfl,hlt,all,tg,hg,hs,fun i e he=>?_⟩)⟩,rfl⟩
   rw[e0,List.take_zero] at he; simp at he
   rw[R5 hc] at this;exact⟨_,_,this,⟨hlen,by omega,.inr (.inr ⟨b,_,rfl,hli'⟩)⟩,rfl⟩
  cases tg with
  | ro=>exact plain fun sz e=>(by cases e)
  | own=>exact plain fun sz e=>(by cases e)
  | more sz =>
   have hsz:=hs sz rfl;subst hsz;have hb':=nw (n:=n) (cap:=cap) h1 (SI h2 r2) hl hh
   by_cases hc:cap=lo
   have e0:hi-lo=0:=by omega
   have e1:((es.drop lo).take (hi-lo))=[]:=by rw[e0]; rfl
   refine⟨some ⟨b,0,some 0⟩,0,?_,⟨hlen,by omega,.inr (.inl ⟨b,0,rfl,e0,rfl,hlt⟩)⟩,rfl⟩
   simp only[bU,ht.und,ht.known,if_true,hg,hb',ht.size,ne_eq,not_true_eq_false,if_false,e0,gq];rw[R7 hc]
   refine⟨some ⟨b,o+lo*sz,none⟩,cap-lo,?_,⟨hlen,by omega,.inr (.inr ⟨b,_,rfl,hli'⟩)⟩,rfl⟩
   simp only[bU,ht.und,ht.known,if_true,hg,hb',ht.size,hc,ne_eq,not_true_eq_false,if_false]
def P1{elem:UA}{k cap w lo hi:Nat}{a:Ux}{es:Uw}{x:UB}{lx hx:VA UB}{l h:VA Uz}(ht:SlT E.P ty elem w)(hv:ev E fs x=some (.slice a n cap))(e1:jz E fs lx=some l)(e2:jz E fs hx=some h)(hp:pk ps k=some (.rd a cap w n es))(h1:lo<=hi)(h2:hi<=n)(hl:l=none/\lo=0\/∃k,l=some (.int k (lo:Int)))(hh:h=none/\hi=n\/∃k,h=some (.int k (hi:Int))) :
  Ox E m0 fs ps (.slice ty x lx hx none) (fun r:Ux×Nat=>.slice r.1 (hi-lo) r.2) (fun r=>.rd r.1 r.2 w (hi-lo) ((es.drop lo).take (hi-lo))::ps) :=
 fun t m hf hm=>by
  obtain⟨a',cap',s1,s2,s3⟩:=Fb ht (hm.get hp) h1 h2 hl hh;refine⟨fun b hb=>?_,fun K hK=>?_⟩
  have hab:dE (.slice a n cap)=kU a:=by cases a<;>rfl
  simp only[aL,hf.ev hv,SD,hab] at hb;exact Rd.lt (hm.get hp) hb
  rw[Go.Ab.nF (hf.ev hv) (hf.jz e1) (hf.jz e2) rfl s1];exact hK (a',cap') m (hm.more hp rfl s2 rfl fun b hb=>by
   have:kU a'=some b:=hb;rw[s3] at this; exact this)
def vZ(ps:VB Pc):Bool:=ps.all Pc.own
def mC{α:Type}{V:α->Uz}{N:α->VB Pc}{f:UB}{g:VI}{first cap:VD Uz}{ars:VD UB}{ts:VD UA}{args:VB Uz}(hf:ev E fs f=some (.func (.func g) first cap))(ha:gF E fs ars.toList=some args)(hc:∀m,Hp m0 m ps->aK E g (first.toList++args++cap.toList) m (fun v m'=>∃x,v=V x/\Hp m0 m' (N x))):Ox E m0 fs ps (.call ⟨.value f,ars,ts⟩) V N :=
 fun t m hfr hm=>⟨fun b hb=>(by simp[aL] at hb),fun K hK=>by
  have hev:al E t f=some (.func (.func g) first cap):=by
   cases f with
   | tmp i=>exact hfr.ev hf
   | const c=>exact hfr.ev hf
   | global g=>exact hfr.ev hf
   | func g=>exact hfr.ev hf
  show kn E (al E t f) (bz E t ars.toList) m _
  rw[hev,hfr.gF ha]
  show aK E g (first.toList++args++cap.toList) m K
  exact(hc m hm).mono fun v m' ⟨x,e,h⟩=>by rw[e]; exact hK x m' h⟩
def Rk{α:Type}{V:α->Uz}{N:α->VB Pc}{f:UB}{g:VI}{ars:VD UB}{ts:VD UA}{args:VB Uz}(hf:ev E fs f=some (.func (.func g) #[] #[]))(ha:gF E fs ars.toList=some args)(hc:∀m,Hp m0 m ps->aK E g args m (fun v m'=>∃x,v=V x/\Hp m m' (N x)))(ho:∀x,vZ (N x)=true):Ox E m0 fs ps (.call ⟨.value f,ars,ts⟩) V (fun x=>N x++ps) :=
 mC hf ha fun m hm=>by
  simp only[Ty,SX];exact(hc m hm).mono fun v m' ⟨x,e,h⟩=>⟨x,e,hm.after h fun p hp=>Sp.1 (ho x) p hp⟩
end
def Ext.Pn{m0 m:Vn}(h:Ext m0 m){w:Nat}(hw:min m0.wl m0.next<=w):Ext m0 (m.ww w):=⟨by rw[Vn.next_ww]; exact h.next,fun b hb=>by rw[Vn.get_ww]; exact h.same b hb,by rw[Vn.wl_ww]; exact hw⟩
def Hp.ww{m0 m:Vn}{ps:VB Pc}(h:Hp m0 m ps){w:Nat}(hw:min m0.wl m0.next<=w):Hp m0 (m.ww w) ps :=
 ⟨Ext.Pn h.ext hw,fun p hp=>Pc.fP (h.ok p hp) (by rw[Vn.next_ww]; exact Sa _) (fun b _ _=>by rw[Vn.get_ww]),h.apart⟩
section
variable{E:Env}{n:Nat}{m0:Vn}{fs:Fs}{ps ps':VB Pc}{ops:VD Oper}{os:VB Oper}{K:Tm->Vn->Prop}{dr:Bool}
def Wo(dr:Bool)(E:Env)(n:Nat)(ops:VD Oper)(K:Tm->Vn->Prop)(os:VB Oper)(m0:Vn)(fs:Fs)(ps:VB Pc):Prop :=
 match dr with
 | false=>∀t m,Fr t fs->Hp m0 m ps->oM E n ops K os t m
 | true=>∀t m w,Fr t fs->Hp m0 m ps->min m0.wl m0.next<=w->iY E n ops K os t m w
variable{ty:UA}{p:String}{af:VD Edge}{d:Nat}{o:Op}{g:VA (Nat×Bool)}{v:Uz}
def vQ(ops:VD Oper)(fs:Fs)(g:VA (Nat×Bool))(b:Bool):Prop:=∀t d o ty p af,Fr t fs->bW ops ⟨d,o,ty,p,af,g⟩ t=b
def gn:vQ ops fs none true:=fun _ _ _ _ _ _ _=>rfl
def gg{j d:Nat}{b c r:Bool}(hd:(ops[j]?).bind (·.dst)=some d)(h:lk fs d=some (.bool c))(hr:(c==b)=r):vQ ops fs (some (j,b)) r:=fun t d' o ty p af hf=>by
 rw[<-hr]; exact QN hd (hf d _ h)
def Wo.x{α:Type}{V:α->Uz}{N:α->VB Pc}(h:Ox E m0 fs ps o V N)(hg:vQ ops fs g true)(hd:Nat.blt d n=true)(k:∀x,Wo dr E n ops K os m0 ((d,V x)::fs) (N x)):Wo dr E n ops K (⟨some d,o,ty,p,af,g⟩::os) m0 fs ps:=by
 have hd':d<n:=by rwa[Ua] at hd
 cases dr with
 | false =>
  intro t m hf hm;simp only[oM,hg t _ _ _ _ _ hf,if_true];refine(h t m hf hm).2 _ fun x m' hm'=>?_;rw[cY,R7 hd'];exact k x _ m' hf.set hm'
 | true =>
  intro t m w hf hm hw;simp only[iY,hg t _ _ _ _ _ hf,if_true];have hx:=hm.ext.next
  have hm':Hp m0 (m.ww m.next) ps:=hm.ww (by omega)
  refine⟨fun b hb=>?_,?_⟩
  have:=(h t _ hf hm').1 b hb;rwa[Vn.next_ww] at this
  refine(h t _ hf hm').2 _ fun x m' hm''=>?_;rw[cY,R7 hd'];have:=hm''.ext.wl;exact k x _ m' _ hf.set hm'' (by omega)
def Wo.x0{α:Type}{V:α->Uz}{N:α->VB Pc}(h:Ox E m0 fs ps o V N)(hg:vQ ops fs g true)(k:∀x,Wo dr E n ops K os m0 fs (N x)):Wo dr E n ops K (⟨none,o,ty,p,af,g⟩::os) m0 fs ps:=by
 cases dr with
 | false =>
  intro t m hf hm;simp only[oM,hg t _ _ _ _ _ hf,if_true];refine(h t m hf hm).2 _ fun x m' hm'=>?_;exact k x _ m' hf hm'
 | true =>
  intro t m w hf hm hw;simp only[iY,hg t _ _ _ _ _ hf,if_true];have hx:=hm.ext.next
  have hm':Hp m0 (m.ww m.next) ps:=hm.ww (by omega)
  refine⟨fun b hb=>?_,?_⟩
  have:=(h t _ hf hm').1 b hb;rwa[Vn.next_ww] at this
  refine(h t _ hf hm').2 _ fun x m' hm''=>?_;have:=hm''.ext.wl;exact k x _ m' _ hf hm'' (by omega)
def Od.x(h:Od E m0 fs ps o v ps'):Ox E m0 fs ps o (fun _:VC=>v) (fun _=>ps'):=fun t m hf hm=>⟨(h t m hf hm).1,fun K hK=>(h t m hf hm).2 K fun m' hm'=>hK () m' hm'⟩
def Wo.od(h:Od E m0 fs ps o v ps')(hd:Nat.blt d n=true)(k:Wo dr E n ops K os m0 ((d,v)::fs) ps'):Wo dr E n ops K (⟨some d,o,ty,p,af,none⟩::os) m0 fs ps:=Wo.x h.x gn hd fun _=>k
def Wo.o0(h:Od E m0 fs ps o v ps')(k:Wo dr E n ops K os m0 fs ps'):Wo dr E n ops K (⟨none,o,ty,p,af,none⟩::os) m0 fs ps:=Wo.x0 h.x gn fun _=>k
def Wo.og(h:Od E m0 fs ps o v ps')(hg:vQ ops fs g true)(hd:Nat.blt d n=true)(k:Wo dr E n ops K os m0 ((d,v)::fs) ps'):Wo dr E n ops K (⟨some d,o,ty,p,af,g⟩::os) m0 fs ps:=Wo.x h.x hg hd fun _=>k
def Wo.s(hg:vQ ops fs g false)(hd:Nat.blt d n=true)(k:Wo dr E n ops K os m0 ((d,undef)::fs) ps):Wo dr E n ops K (⟨some d,o,ty,p,af,g⟩::os) m0 fs ps:=by
 have hd':d<n:=by rwa[Ua] at hd
 cases dr with
 | false =>
  intro t m hf hm;simp only[oM,hg t _ _ _ _ _ hf,SC,if_false];rw[cY,R7 hd'];exact k _ m hf.set hm
 | true =>
  intro t m w hf hm hw;simp only[iY,hg t _ _ _ _ _ hf,SC,if_false];rw[cY,R7 hd'];exact k _ m w hf.set hm hw
def aa(m0:Vn)(ps:VB Pc)(qs:VB Pc):Prop:=∀m,Hp m0 m ps->Hp m0 m qs
def Wo.aq(h:aa m0 ps ps')(k:Wo dr E n ops K os m0 fs ps'):Wo dr E n ops K os m0 fs ps:=by
 cases dr with
 | false=>exact fun t m hf hm=>k t m hf (h m hm)
 | true=>exact fun t m w hf hm hw=>k t m w hf (h m hm) hw
def Wo.open{k w l:Nat}{a:Ux}{es:Uw}(hp:pk ps k=some (.sl a w l es))(hl:0<l)(h:∀b tg,a=some ⟨b,0,none⟩->qX tg=true->Wo dr E n ops K os m0 fs (bL ps k (.arr b w l es tg))):Wo dr E n ops K os m0 fs ps:=by
 have key:∀m,Hp m0 m ps->∃b tg,a=some ⟨b,0,none⟩/\qX tg=true/\Hp m0 m (bL ps k (.arr b w l es tg)):=by
  intro m hm;have h0:=hm.get hp;rcases h0 with⟨h1,_⟩|⟨b,tg,rfl,h1⟩
  omega
  refine⟨b,tg,rfl,by rcases h1.2.2.2.2.2.1 with rfl|rfl<;>rfl,hm.put hp rfl rfl rfl (Sa _) hm.ext h1 fun _ _ _=>rfl⟩
 cases dr with
 | false=>intro t m hf hm; obtain⟨b,tg,h1,h2,h3⟩:=key m hm; exact h b tg h1 h2 t m hf h3
 | true=>intro t m w' hf hm hw; obtain⟨b,tg,h1,h2,h3⟩:=key m hm; exact h b tg h1 h2 t m w' hf h3 hw
def Wo.bH{k w l cap:Nat}{a:Ux}{es:Uw}(hp:pk ps k=some (.rd a cap w l es))(hl:0<l)(h:∀b o,a=some ⟨b,o,none⟩->Wo dr E n ops K os m0 fs (.ro b o w l es::ps)):Wo dr E n ops K os m0 fs ps:=by
 have key:∀m,Hp m0 m ps->∃b o,a=some ⟨b,o,none⟩/\Hp m0 m (.ro b o w l es::ps):=by
  intro m hm;obtain⟨h1,h2,h3⟩:=hm.get hp;rcases h3 with⟨_,h3⟩|⟨_,_,_,h3,_⟩|⟨b,o,rfl,h3⟩
  omega
  omega
  exact⟨b,o,rfl,hm.more hp rfl ⟨h1,h3⟩ rfl fun b' hb=>hb⟩
 cases dr with
 | false=>intro t m hf hm; obtain⟨b,o,h1,h3⟩:=key m hm; exact h b o h1 t m hf h3
 | true=>intro t m w' hf hm hw; obtain⟨b,o,h1,h3⟩:=key m hm; exact h b o h1 t m w' hf h3 hw
def aa.trans{ps'':VB Pc}(h:aa m0 ps ps')(h':aa m0 ps' ps''):aa m0 ps ps'':=fun m hm=>h' m (h m hm)
def aa.an(ks:VB Nat)(hnd:kP ks=true)(e:W.an ps ks=some ps'):aa m0 ps ps':=fun _ h=>h.an ks hnd e
def aa.close{k b w l:Nat}{es:Uw}{tg:Tag}(hp:pk ps k=some (.arr b w l es tg)):aa m0 ps (bL ps k (.sl (some ⟨b,0,none⟩) w l es)):=fun _ h =>
 h.put hp rfl rfl rfl (Sa _) h.ext (.inr ⟨b,tg,rfl,h.get hp⟩) fun _ _ _=>rfl
def aa.nil(w:Nat)(hw:Nat.blt 0 w=true):aa m0 ps (.sl none w 0 []::ps):=fun m h =>
 h.cons (Sa _) h.ext (fun _ _=>rfl) (.inl ⟨rfl,rfl,rfl,by rwa[Ua] at hw⟩) fun b hb=>(by cases hb)
def uQ{ps:VB Pc}{k:Nat}{p p':Pc}(hk:pk ps k=some p)(ho:p'.own=false)(hb:∀b,p'.sx=some b->p.sx=some b/\p.own=true)(h:ps.Pairwise Pc.apart)(hng:∀b,¬p'.Ep b:=by exact fun _ h=>h):(bL ps k p').Pairwise Pc.apart :=
 jm hk (fun r _ ha=>⟨fun b a c=>a.elim (fun a=>by rw[ho] at a; cases a.1) fun a=>hng b (by cases p' with|gen g=>exact .inl a|_=>exact a),fun b a c=>ha.2 b a (c.elim (fun c=>.inl (hb b c).1) fun c=>Sw c (hng b))⟩) h
def aa.freeze{k w l:Nat}{a:Ux}{es:Uw}(hp:pk ps k=some (.sl a w l es)):aa m0 ps (bL ps k (.rd a l w l es)):=fun m h =>
 ⟨h.ext,fun q hq=>by
  rcases AB hp h.apart hq with rfl|⟨h1,_⟩
  exact Pc.Dx (h.get hp) (.sl a w l es)
  exact h.ok q h1,uQ hp rfl (fun b hb=>⟨hb,rfl⟩) h.apart⟩
variable{fn:VI}{ro:VA Nat}{Q:Vo->Tm->Vn->Prop}
def Wk(E:Env)(n:Nat)(fn:VI)(ro:VA Nat)(c:Code)(Q:Vo->Tm->Vn->Prop)(m0:Vn)(fs:Fs)(ps:VB Pc):Prop:=∀t m,Fr t fs->Hp m0 m ps->bY E n fn ro c Q t m
def At(Q:Vo->Tm->Vn->Prop)(e:Vo)(m0:Vn)(fs:Fs)(ps:VB Pc):Prop:=∀t m,Fr t fs->Hp m0 m ps->Q e t m
variable{a b c:Code}{id id':Nat}
def Wk.seq(h:Wk E n fn ro a (oF (bY E n fn ro b Q) Q) m0 fs ps):Wk E n fn ro (.seq a b) Q m0 fs ps:=fun t m hf hm=>.seq (h t m hf hm)
def Wk.skip(h:At Q .normal m0 fs ps):Wk E n fn ro .skip Q m0 fs ps:=fun t m hf hm=>.skip (h t m hf hm)
def Wk.exit(h:At Q (.exit id) m0 fs ps):Wk E n fn ro (.exit id) Q m0 fs ps:=fun t m hf hm=>.exit (h t m hf hm)
def Wk.ret(h:At Q .ret m0 fs ps):Wk E n fn ro .ret Q m0 fs ps:=fun t m hf hm=>.ret (h t m hf hm)
def Wk.cond{x:UB}{r:Bool}(hx:ev E fs x=some (.bool r))(ht:r=true->Wk E n fn ro a Q m0 fs ps)(hf:r=false->Wk E n fn ro b Q m0 fs ps):Wk E n fn ro (.cond x a b) Q m0 fs ps:=fun t m hfr hm=>.cond (hfr.ev hx) (fun h=>ht h t m hfr hm) (fun h=>hf h t m hfr hm)
def Wk.cA{x:UB}{r:Bool}(hx:ev E fs x=some (.bool r))(hr:r=true)(ht:Wk E n fn ro a Q m0 fs ps):Wk E n fn ro (.cond x a b) Q m0 fs ps:=.cond hx (fun _=>ht) (fun h=>by rw[hr] at h; cases h)
def Wk.eh{x:UB}{r:Bool}(hx:ev E fs x=some (.bool r))(hr:r=false)(ht:Wk E n fn ro b Q m0 fs ps):Wk E n fn ro (.cond x a b) Q m0 fs ps:=.cond hx (fun h=>by rw[hr] at h; cases h) (fun _=>ht)
def Wk.block(h:Wk E n fn ro a (ik id Q) m0 fs ps):Wk E n fn ro (.block id a) Q m0 fs ps:=fun t m hf hm=>.block (h t m hf hm)
def Wk.region(h:Wo false E n ops (Q .normal) ops.toList m0 fs ps):Wk E n fn ro (.region id ops false) Q m0 fs ps:=fun t m hf hm=>.Kt (h t m hf hm)
def B6{t:Tm}{m:Vn}{o:Op}{K K':Uz->Vn->Prop}(h:bh E t m o K)(hk:∀v m',K v m'->K' v m'):bh E t m o K':=by
 unfold bh at h ⊢;cases hc:pa o with
 | some p =>
  obtain⟨f,ars⟩:=p;rw[hc] at h;simp only at h ⊢;cases hf:al E t f with
  | none=>rw[hf] at h; exact h.elim
  | some v =>
   cases ha:bz E t ars with
   | none=>rw[hf,ha] at h; unfold kn at h; split at h<;>first |(rename_i h1 h2; cases h2)|exact h.elim
   | some vs =>
    rw[hf,ha] at h;unfold kn at h ⊢
    split at h
    rename_i h1 h2;cases h1; cases h2;exact h.mono hk
    rename_i h1 h2;cases h1; cases h2;obtain⟨v,m',h5,hv⟩:=h;exact⟨v,m',h5,hk v m' hv⟩
    exact h.elim
 | none =>
  rw[hc] at h;simp only at h ⊢;cases he:fj E t m o with
  | none=>rw[he] at h; exact h.elim
  | some r=>rw[he] at h; exact hk r.1 r.2 h
def B0{K K':Tm->Vn->Prop}(hK:∀t m,K t m->K' t m):∀(os:VB Oper) (t:Tm) (m:Vn) (w:Nat),iY E n ops K os t m w->iY E n ops K' os t m w:=by
 intro os
 induction os with
 | nil=>intro t m w hk; exact hK _ _ hk
 | cons o os ih =>
  intro t m w hk;simp only[iY] at hk ⊢
  split at hk
  rename_i hw;rw[R7 hw];refine⟨hk.1,B6 hk.2 fun v m' hv=>?_⟩;obtain⟨t',e,h4⟩:=hv.A
  show IU (kj n t o.dst v) fun t'=>iY E n ops K' os t' m' (min w m'.wl)
  rw[e]; exact ih _ _ _ h4
  rename_i hw;rw[R5 hw];obtain⟨t',e,h4⟩:=hk.A;rw[e]; exact ih _ _ _ h4
def Wk.draw(hp:lh ops=some [])(h:Wo true E n ops (Q .normal) ops.toList m0 fs ps):Wk E n fn ro (.region id ops true) Q m0 fs ps:=fun t m hf hm=>.P8 hp fun K hK=>by
 exact B0 hK _ _ _ _ (h t m m.wl hf hm hm.ext.wl)
def Wo.nil(h:At Q .normal m0 fs ps):Wo dr E n ops (Q .normal) [] m0 fs ps:=by
 cases dr with
 | false=>exact fun t m hf hm=>h t m hf hm
 | true=>exact fun t m w hf hm hw=>h t _ hf (hm.ww hw)
def At.tn(h:Wk E n fn ro b Q m0 fs ps):At (oF (bY E n fn ro b Q) Q) .normal m0 fs ps:=h
def At.te{K:Tm->Vn->Prop}(h:At Q (.exit id) m0 fs ps):At (oF K Q) (.exit id) m0 fs ps:=h
def At.tr{K:Tm->Vn->Prop}(h:At Q .ret m0 fs ps):At (oF K Q) .ret m0 fs ps:=h
def At.bn(h:At Q .normal m0 fs ps):At (ik id Q) .normal m0 fs ps:=h
def At.be(h:At Q .normal m0 fs ps):At (ik id Q) (.exit id) m0 fs ps:=fun t m hf hm=>by rw[Dg,R7 rfl]; exact h t m hf hm
def At.bx(hne:Nat.beq id' id=false)(h:At Q (.exit id') m0 fs ps):At (ik id Q) (.exit id') m0 fs ps:=fun t m hf hm=>by rw[Dg,R5 (Ud hne)]; exact h t m hf hm
def At.br(h:At Q .ret m0 fs ps):At (ik id Q) .ret m0 fs ps:=h
def At.aq{e:Vo}(h:aa m0 ps ps')(k:At Q e m0 fs ps'):At Q e m0 fs ps:=fun t m hf hm=>k t m hf (h m hm)
def Wk.Gz{fs':Fs}(hs:sub fs fs')(h:aa m0 ps ps')(k:Wk E n fn ro c Q m0 fs' ps'):Wk E n fn ro c Q m0 fs ps:=fun t m hf hm=>k t m (hf.sub hs) (h m hm)
structure En where
 e:Vo
 fs:Fs
 ps:VB Pc
def lY(m0:Vn){γ:Type}(G:γ->En)(e:Vo)(t:Tm)(m:Vn):Prop:=∃g,e=(G g).e/\Fr t (G g).fs/\Hp m0 m (G g).ps
def At.en{γ:Type}{G:γ->En}{e:Vo}(g:γ)(he:e=(G g).e)(hs:sub fs (G g).fs)(ht:aa m0 ps (G g).ps):At (lY m0 G) e m0 fs ps:=fun _ m hf hm=>⟨g,he,hf.sub hs,ht m hm⟩
def Wk.cut{γ:Type}{G:γ->En}(h:Wk E n fn ro c (lY m0 G) m0 fs ps)(k:∀g,At Q (G g).e m0 (G g).fs (G g).ps):Wk E n fn ro c Q m0 fs ps:=fun t m hf hm =>
 (h t m hf hm).mono fun e t' m' ⟨g,h1,h2,h3⟩=>by rw[h1]; exact k g t' m' h2 h3
def bK{σ ρ:Type}(body:σ->VA (σ⊕ρ)):Nat->σ->VA ρ
 | 0,_=>none
 | k+1,s=>match body s with
  | some (.inl s')=>bK body k s'
  | some (.inr r)=>some r
  | none=>none
def Wk.loop{σ ρ γ:Type}{δ:ρ->Type}(body:σ->VA (σ⊕ρ))(I:σ->γ->En)(X:(r:ρ)->δ r->En)
  (hb:∀s g r,body s=some r->Wk E n fn ro c (match r with|.inl s'=>lY m0 (I s')|.inr r=>lY m0 (X r)) m0 (I s g).fs (I s g).ps)
  (hn:∀s g,(I s g).e=.normal) (hx:∀r g,(X r g).e≠.normal) :
  ∀(N:Nat) (s:σ) (r:ρ),bK body N s=some r->∀g,Wk E n fn ro (.loop c) (lY m0 (X r)) m0 (I s g).fs (I s g).ps:=by
 intro N
 induction N with
 | zero=>intro s r h; cases h
 | succ N ih =>
  intro s r h g t m hf hm;refine .loop (.round ?_);simp only[bK] at h
  split at h
  ·rename_i s' hs;refine(hb s g _ hs t m hf hm).mono fun e t' m' ⟨g',h1,h2,h3⟩=>?_;rw[h1,hn];have:=ih s' r h g' t' m' h2 h3;obtain⟨e2,t2,m2,⟨k2,hk2⟩,q2⟩:=this;cases k2 with
   | zero=>cases hk2
   | succ k2=>exact⟨e2,t2,m2,⟨k2,hk2⟩,q2⟩
  ·rename_i r' hs;simp only[Option.some.injEq] at h;subst h;refine(hb s g _ hs t m hf hm).mono fun e t' m' ⟨g',h1,h2,h3⟩=>?_;have hq:lY m0 (X r') e t' m':=⟨g',h1,h2,h3⟩;cases he:e with
   | normal=>rw[h1] at he; exact Sw he (hx _ _)
   | exit id=>rw[he] at hq; exact hq
   | ret=>rw[he] at hq; exact hq
  cases h
def oh:VB Uz->Nat->Fs->Fs
 | [],_,fs=>fs
 | v::vs,i,fs=>oh vs (i+1) ((i,v)::fs)
def Fr.args:∀(vs:VB Uz) (i:Nat) (fs:Fs) (t:Tm),Fr t fs->Fr (Trie.ofList vs i t) (oh vs i fs)
 | [],_,_,_,h=>h
 | _::vs,i,_,_,h=>Fr.args vs (i+1) _ _ h.set
def aS{f:VI}{F:Func}{c:Code}{args:VB Uz}{rs:VB ResultVar}{N:Nat}{R:Uz->Vn->Prop}(hp:E.cP f=none)(hf:E.P.funcs[f]? = some F)(hb:F.body=some c)(hrs:F.results.toList=rs)(hN:max args.length F.ntmps=N)
  {m:Vn} (hm:Hp m0 m ps) (h:Wk E N f none c (jA E rs R) m0 (oh args 0 []) ps):aK E f args m R :=
 aK.Mg hp hf hb hrs hN (h _ m (Fr.args args 0 [] _ (Fr.nil _)) hm)
def Hp.start(m:Vn):Hp m m []:=⟨.refl m,fun p h=>(by cases h),.nil⟩
inductive Res1(E:Env)(fs:Fs)(ps:VB Pc):VB ResultVar->VB Uz->Prop
 | nil:Res1 E fs ps [] []
 | tmp {i:Nat} {v:Uz} {rs:VB ResultVar} {vs:VB Uz} (h:lk fs i=some v) (k:Res1 E fs ps rs vs):Res1 E fs ps (.tmp i::rs) (v::vs)
 | cell {i k b o sz:Nat} {ty:UA} {v:Uz} {rs:VB ResultVar} {vs:VB Uz} {cs:VB Uz} {tg:Tag} {ag:Bool} (ht:TyI E.P ty ag sz) (h:lk fs i=some (ptr b o)) (hp:pk ps k=some (.obj b (.cells cs tg))) (hv:yw ag sz cs o=some v) (k:Res1 E fs ps rs vs):Res1 E fs ps (.cell i ty::rs) (v::vs)
def Res1.ok{fs:Fs}{ps:VB Pc}{t:Tm}{m:Vn}(hf:Fr t fs)(hm:Hp m0 m ps):∀{rs:VB ResultVar} {vs:VB Uz},Res1 E fs ps rs vs->cM E t m rs=some vs:=by
 intro rs vs h
 induction h with
 | nil=>rfl
 | tmp h _ ih=>simp only[cM,ih,hf _ _ h,Ss]
 | cell ht h hp hv _ ih=>simp only[cM,hf _ _ h,rQ ht (hm.get hp).2.2 hv,ih]
def At.ret{rs:VB ResultVar}{vs:VB Uz}{R:Uz->Vn->Prop}(h:Res1 E fs ps rs vs)(k:∀m,Hp m0 m ps->R (iA vs) m):At (jA E rs R) .ret m0 fs ps:=fun t m hf hm=>by
 rw[MU,h.ok hf hm]; exact k m hm
def At.fin{rs:VB ResultVar}{vs:VB Uz}{R:Uz->Vn->Prop}(h:Res1 E fs ps rs vs)(k:∀m,Hp m0 m ps->R (iA vs) m):At (jA E rs R) .normal m0 fs ps:=fun t m hf hm=>by
 rw[DK,h.ok hf hm]; exact k m hm
end
end Go.Ab.W
section
open Go Go.Ab Go.Ab.W
abbrev UX:=@Wo.x
abbrev UI:=@Wo.od
abbrev U4:=@Wo.o0
abbrev UZ:=@Wo.og
abbrev UW:=@Wo.aq
abbrev Vd:=@Wo.open
abbrev U0:=@Wo.bH
abbrev UT:=@aa.trans
abbrev UO:=@aa.an
abbrev UP:=@aa.close
abbrev UM:=@aa.freeze
abbrev UJ:=@Wk.seq
abbrev U5:=@Wk.skip
abbrev U9:=@Wk.ret
abbrev U3:=@Wk.cA
abbrev U8:=@Wk.eh
abbrev UN:=@Wk.block
abbrev UK:=@Wk.region
abbrev UQ:=@Wo.nil
abbrev UR:=@At.tn
abbrev Vf:=@At.be
abbrev US:=@At.aq
abbrev UU:=@Hp.start
abbrev UY:=@At.ret
end
end
