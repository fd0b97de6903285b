/- A part of the proof. -/
import Derived.Test.YtmndpgfbkicndaaCp1
import Derived.RangeFuncRecord
import Derived.Scope
import Derived.OpenShut
import Derived.FnData
import Derived.MakeChecks
import Derived.CallsIn
import Derived.Laws.Twins
set_option linter.all false
namespace Go.Ab
open Go
def pb:∀{l:TO Nat},u6 l=true->l.Nodup
 | [],_=>List.nodup_nil
 | x::xs,h=>by
  simp only[u6,QJ,RD,List.contains_eq_mem,decide_eq_false_iff_not] at h;exact Sb.2 ⟨h.1,pb h.2⟩
def Bz:∀{l:TO Oper} {x y:Nat} {a b:Oper} {d:Tmp},(l.filterMap (·.dst)).Nodup->l[x]? = some a->l[y]? = some b->a.dst=some d->b.dst=some d->x=y
 | [],x,y,a,b,d,_,h,_,_,_=>by simp at h
 | o::l,0,0,a,b,d,_,_,_,_,_=>rfl
 | o::l,0,y+1,a,b,d,hn,ha,hb,hda,hdb=>by
  simp at ha; subst ha;have hb':l[y]? = some b:=by simpa using hb
  rw[List.filterMap_cons_some hda] at hn;exact Q1 (List.mem_filterMap.2 ⟨b,Q4 hb',hdb⟩) (Sb.1 hn).1
 | o::l,x+1,0,a,b,d,hn,ha,hb,hda,hdb=>by
  simp at hb; subst hb;have ha':l[x]? = some a:=by simpa using ha
  rw[List.filterMap_cons_some hdb] at hn;exact Q1 (List.mem_filterMap.2 ⟨a,Q4 ha',hda⟩) (Sb.1 hn).1
 | o::l,x+1,y+1,a,b,d,hn,ha,hb,hda,hdb=>by
  have hn':(l.filterMap (·.dst)).Nodup:=by
   cases ho:o.dst with
   | none=>rw[List.filterMap_cons_none ho] at hn; exact hn
   | some d'=>rw[List.filterMap_cons_some ho] at hn; exact(Sb.1 hn).2
  exact Rf (· + 1) (Bz hn' (by simpa using ha) (by simpa using hb) hda hdb)
def B6(bs:TO Nat)(i j:Nat):Prop:=(bs.getD j 0).testBit i=true
structure OrderOk(ops:TW Oper)(bs:TO Nat):Prop where
 uniq:∀(x y:Nat) (a b:Oper) (d:Tmp),ops[x]? = some a->ops[y]? = some b->a.dst=some d->b.dst=some d->x=y
 edge:∀(j:Nat) (o:Oper),ops[j]? = some o->∀e∈cu o,e<j
 guard:∀(j:Nat) (o:Oper) (g:Nat) (want:Bool),ops[j]? = some o->o.guard=some (g,want)->g<j/\B6 bs g j
 anc:∀(i j:Nat) (o:Oper),i<j->ops[j]? = some o->B6 bs i j->∃e∈cu o,e=i\/(i<e/\B6 bs i e)
 apart:∀(i j:Nat) (a b:Oper),i<j->ops[i]? = some a->ops[j]? = some b->¬B6 bs i j->qM ops a b=true
def dg{ops:TW Oper}{i:Nat}{o:Oper}(h:ops[i]? = some o):ops.getD i default=o:=by
 rw[Array.getD_eq_getD_getElem?,h]; rfl
def zH{ops:TW Oper}{bs:TO Nat}(h:vK ops bs=true):OrderOk ops bs:=by
 simp only[vK,QJ,QS,RB] at h;obtain⟨h1,h2⟩:=h;have hlt:∀{i:Nat} {o:Oper},ops[i]? = some o->i<ops.size:=fun h=>(QP.1 h).1;refine⟨?_,?_,?_,?_,?_⟩
 intro x y a b d ha hb hda hdb;exact Bz (pb h1) (by simpa using ha) (by simpa using hb) hda hdb
 intro j o ho e he;have:=(h2 j (hlt ho)).1.1;rw[dg ho] at this
 simpa using this e he
 intro j o g want ho hg;have:=(h2 j (hlt ho)).1.2;rw[dg ho,hg] at this;simp only[QJ,QR] at this;exact this
 intro i j o hij ho hb;have:=(h2 j (hlt ho)).2 i hij;rw[dg ho] at this;unfold B6 at hb;rw[QH hb] at this;simp only[List.any_eq_true,RO,beq_iff_eq,QJ,SA] at this;obtain⟨e,he,h3⟩:=this;exact⟨e,he,h3.imp id fun h=>⟨h.1,h.2⟩⟩
 intro i j a b hij ha hb hnb;have:=(h2 j (hlt hb)).2 i hij;rw[dg ha,dg hb] at this;unfold B6 at hnb;rw[QF hnb] at this;exact this
def E4{ops:TW Oper}{bs:TO Nat}(hO:OrderOk ops bs){D:SV}(hD:∀j o,ops[j]? = some o->D j->∀e∈cu o,D e) :
  ∀(j:Nat) (o:Oper),ops[j]? = some o->(∀e∈cu o,D e)->∀i,i<j->B6 bs i j->D i:=by
 intro j
 induction j using Nat.strongRecOn with
 | _ j ih =>
  intro o ho he i hij hb;obtain⟨e,hee,rfl|⟨hie,hbe⟩⟩:=hO.anc i j o hij ho hb
  exact he _ hee
  have hej:=hO.edge j o ho e hee;have hsz:e<ops.size:=Nat.lt_trans hej (QP.1 ho).1;have hoe:ops[e]? = some ops[e]:=by simp[hsz]
  exact ih e hej _ hoe (hD e _ hoe (he e hee)) i hie hbe
def me{ops:TW Oper}{a b:Oper}(h:qM ops a b=true):(∀d,a.dst=some d->d∉looks ops b)/\(∀d,b.dst=some d->d∉looks ops a)/\¬(av a.op=true/\av b.op=true):=by
 simp only[qM,QJ,RD,Bool.and_eq_false_imp] at h;obtain⟨⟨h1,h2⟩,h3⟩:=h;refine⟨fun d hd=>?_,fun d hd=>?_,fun hh=>?_⟩
 rw[hd] at h2;simp only[QJ,RD,List.contains_eq_mem,decide_eq_false_iff_not] at h2;exact h2.1
 rw[hd] at h3
 simpa only[RD,List.contains_eq_mem,decide_eq_false_iff_not] using h3
 have:=h1 hh.1;rw[hh.2] at this; cases this
def tM{E:Env}{t:Tm}{o:Op}{b:Nat}(h:aK E t o=some b):oO o=true:=by
 cases o<;>simp only[aK] at h<;>try(cases h; done)
 all_goals first|rfl|skip
 rename_i c;cases hc:c.callee with
 | builtin bb =>
  rw[hc] at h;cases bb<;>simp only[oO,hc]<;>first|rfl |(cases h; done)
 | _=>rw[hc] at h; cases h
section
variable{E:Env}{k:K}{ops:TW Oper}{n:Nat}
def Bf {t:Tm} {tmps:TW SX} {j:aN} (o:Oper) (h:∀g want d,o.guard=some (g,want)->(ops[g]?).bind (·.dst)=some d->VR j (t.at d) (tmps.getD d undef)):Region.wanted o (yielded ops tmps)=bQ ops o t:=by
 unfold Region.wanted bQ;cases hgd:o.guard with
 | none=>rfl
 | some p =>
  obtain⟨g,want⟩:=p;simp only;have key:yielded ops tmps g=eY ops t g:=by
   unfold yielded eY;cases hd:(ops[g]?).bind (·.dst) with
   | none=>rfl
   | some d =>
    simp only[Q9];have hv:=h g want d hgd hd;unfold Tm.at at hv;cases hg:t.get d with
    | none =>
     rw[hg] at hv;simp only[Option.getD_none] at hv;have:tmps[d]? = none\/tmps[d]? = some undef:=by
      cases ha:tmps[d]? with
      | none=>exact .inl rfl
      | some x =>
       right
       have:tmps.getD d undef=x:=by simp[ha]
       rw[this] at hv;have:x=undef:=gq (by rfl) hv
       rw[this]
     rcases this with e|e<;>rw[e]<;>rfl
    | some x =>
     rw[hg] at hv;simp only[Option.getD_some] at hv;cases ha:tmps[d]? with
     | none =>
      have:tmps.getD d undef=undef:=by simp[ha]
      rw[this] at hv;cases x<;>first|rfl|cases hv
     | some y =>
      have:tmps.getD d undef=y:=by simp[ha]
      rw[this] at hv;cases hv with
      | junk hj=>cases y<;>first|rfl |(simp[yR,aP] at hj)
      | _=>rfl
  rw[key];cases eY ops t g with
  | none=>rfl
  | some b=>simp
structure Can(k:K)(E:Env)(n:Nat)(ops:TW Oper)(j0:aN)(w0:S5)(T:Nat->Tm)(M:Nat->TS)(V:Nat->SX)(ns:TO Note):Prop where
 hk:∀tk r,k tk=some r->cG E tk r
 tr:Tr k E n ops 0 ops.size T M V ns
 mr:MR E j0 (M 0) w0
 ghost:∀i,i<=ops.size->∃jc wc tc,Sim E j0 (M 0) w0 jc (M i) wc/\TR n jc (T i) tc
def CI(hk:∀tk r,k tk=some r->cG E tk r){j0:aN}{w0:S5}{T:Nat->Tm}{M:Nat->TS}{V:Nat->SX}{ns:TO Note}(tr:Tr k E n ops 0 ops.size T M V ns)(h0:MR E j0 (M 0) w0){t0:TW SX}(ht0:TR n j0 (T 0) t0) :
  ∀i,i<=ops.size->∃jc wc tc,Sim E j0 (M 0) w0 jc (M i) wc/\TR n jc (T i) tc:=by
 intro i
 induction i with
 | zero=>exact fun _=>⟨j0,w0,t0,.refl h0,ht0⟩
 | succ i ih =>
  intro hi;obtain⟨jc,wc,tc,s,ht⟩:=ih (by omega)
  obtain⟨note,_,o,ho,hp,hst⟩:=tr.step i (by omega)
  rcases hst with⟨_,r,e,hm,_⟩|⟨_,hv,hm,_⟩
  have hd:=lp (a:={ tmps:=tc,defers:=[]}) hk (s.mr.uH (x:=(M i).next)) ht e
  obtain⟨v',w',j',s',hv'⟩:=hd.ends;exact⟨j',w',_,s.trans h0 (hm▸s'.M6),TR.put (a:={ tmps:=tc,defers:=[]}) (ht.mono s'.le) hv' hp⟩
  rw[hm];exact⟨jc,wc,_,s,TR.put (a:={ tmps:=tc,defers:=[]}) ht (hv▸VR.undef jc) hp⟩
variable{j0:aN}{w0:S5}{T:Nat->Tm}{M:Nat->TS}{V:Nat->SX}{ns:TO Note}
def yQ{t:Tm}{m:TS}{o:Op}(h:av o=false):dR k E t m o=eS E t m o:=by
 unfold dR;cases o with
 | call c =>
  simp only;cases hc:c.callee with
  | value f=>simp[av,hc] at h
  | _=>rfl
 | _=>rfl
def wk{m m':TS}{b o:Nat}{vs:TO SX}(h:m.cM b o vs=some m'){x:Nat}(hx:x≠b):m'.get x=m.get x:=by
 unfold TS.cM at h
 split at h
 cases h; rfl
 split at h
 cases h
 split at h
 cases h; rw[TS.bl,QF hx]
 cases h
 cases h
def Af{t:Tm}{m r:TS}{o:Op}{v:SX}{b':Nat}(h:dR k E t m o=some (v,r))(hw:eu E t o=some b'):∀b,b≠b'->r.get b=m.get b:=by
 cases o<;>simp only[eu] at hw<;>try(cases hw; done)
 rename_i ty a x;simp only[dR,eS] at h
 split at h
 rename_i p v0 hp hv;obtain⟨m1,hm,he⟩:=map_some h;cases he;rw[hp] at hw;unfold ga at hm
 split at hm
 rename_i b o;simp only[Option.some.injEq] at hw;subst hw
 split at hm
 exact fun b hb=>wk hm hb
 cases hm
 cases hm
 cases h
def uu:∀{v u:SX},u7 v u=true->v=u:=by
 intro v u h;unfold u7 at h
 split at h
 simp only[QJ,QR] at h; rw[h.1,h.2]
 simp only[beq_iff_eq] at h; rw[h]
 simp only[QJ,QR,Nat.beq_eq] at h; rw[h.1,h.2.1,h.2.2]
 simp only[QR] at h; rw[h]
 simp only[QR] at h; rw[h]
 cases h
def pT:∀{v u:TO SX},rQ v u=true->v=u
 | [],[],_=>rfl
 | v::vs,u::us,h=>by
  simp only[rQ,QJ] at h;rw[uu h.1,pT h.2]
 | [],_::_,h=>by cases h
 | _::_,[],h=>by cases h
def si:∀{v u:SX},zd v u=true->v=u:=by
 intro v u h;unfold zd at h
 split at h
 rename_i f a c f' a' c';simp only[QJ] at h;have h1:=RI h.1;have h2:=pT h.2.1;have h3:=pT h.2.2;subst h1;obtain⟨a⟩:=a;obtain⟨a'⟩:=a';obtain⟨c⟩:=c;obtain⟨c'⟩:=c';simp only at h2 h3;rw[h2,h3]
 exact uu h
def zm:∀{v u:TO SX},BA v u=true->v=u
 | [],[],_=>rfl
 | v::vs,u::us,h=>by
  simp only[BA,QJ] at h;rw[si h.1,zm h.2]
 | [],_::_,h=>by cases h
 | _::_,[],h=>by cases h
def uQ:∀{v u:TO (SX×SX)},vG v u=true->v=u
 | [],[],_=>rfl
 |(a,b)::vs,(c,d)::us,h=>by
  simp only[vG,QJ] at h;rw[show a=c from si h.1.1,show b=d from si h.1.2,uQ h.2]
 | [],_::_,h=>by cases h
 | _::_,[],h=>by cases h
def G4{a b:TN TU}(h:FY a b=true):a=b:=by
 unfold FY at h
 split at h
 simp only[QJ,QR] at h; rw[h.1,zm h.2]
 rw[uQ h]
 cases h
def HR{m m':TS}{b:Nat}(h:iJ m m' b=true):m.get b=m'.get b:=by
 unfold iJ at h;rcases(RO _ _).mp h with h|h
 exact G4 h
 exact @of_decide_eq_true _ (Classical.propDecidable _) h
inductive Kind(k:K)(E:Env)(ops:TW Oper)(M:Nat->TS)(o:Oper)(i:Nat)(t:Tm)(v:SX):Prop
 | skip (hw:bQ ops o t=false) (hv:v=undef) (hm:M (i+1)=M i)
 | quiet (hw:bQ ops o t=true) (he:av o.op=false) (hn:(M (i+1)).next=(M i).next) (hg:∀b,(M (i+1)).get b=(M i).get b)
   (ha:∀m2:TS,(∀b0,aK E t o.op=some b0->m2.get b0=(M i).get b0)->eS E t m2 o.op=some (v,m2))
 | makes (hw:bQ ops o t=true) (he:av o.op=false) (vb:Nat->SX) (ao:TU) (hv:v=vb (M i).next) (hn:(M (i+1)).next=(M i).next+1)
   (hg:∀b,(M (i+1)).get b=if b=(M i).next then some ao else(M i).get b) (ha:∀m2:TS,eS E t m2 o.op=some (vb m2.next,m2.alloc ao))
 | effect (hw:bQ ops o t=true) (he:av o.op=true) (r:TS) (hr:dR k E t { M i with wl:=(M i).next} o.op=some (v,r)) (hm:M (i+1) ={ r with wl:=min (M i).wl r.wl})
def Can.kind(c:Can k E n ops j0 w0 T M V ns){i:Nat}(hi:i<ops.size):∃o,ops[i]? = some o/\jy n (T i) o.dst (V i)=some (T (i+1))/\Kind k E ops M o i (T i) (V i):=by
 obtain⟨note,_,o,ho,hp,hst⟩:=c.tr.step i hi;rw[Ra] at ho;refine⟨o,ho,hp,?_⟩;rcases hst with⟨hw,r,e,hm,_⟩|⟨hw,hv,hm,_⟩
 ·cases he:av o.op with
  | true=>exact .effect hw he r e hm
  | false =>
   rw[yQ he] at e;obtain⟨jc,wc,tc,s,ht⟩:=c.ghost i (by omega)
   rcases wI (a:={ tmps:=tc,defers:=[]}) (s.mr.uH (x:=(M i).next)) ht e with⟨h1,h2,_⟩|⟨ao,co,vb,v',h1,h2,_,_,_,h3⟩|⟨h1,_⟩
   subst h1;exact .quiet hw he (by rw[hm]) (fun b=>by rw[hm]; rfl) (fun m2 hm2=>h2 m2 hm2)
   subst h2;refine .makes hw he vb ao h1 (by rw[hm]; rfl) (fun b=>?_) h3
   rw[hm];exact TS.aU { M i with wl:=(M i).next} ao b
   rw[he] at h1; cases h1
 exact .skip hw hv hm
def Can.ext(c:Can k E n ops j0 w0 T M V ns){i:Nat}(hi:i<ops.size):AExt (M i) (M (i+1)):=by
 obtain⟨note,_,o,ho,hp,hst⟩:=c.tr.step i hi;rcases hst with⟨hw,r,e,hm,_⟩|⟨hw,hv,hm,_⟩
 obtain⟨jc,wc,tc,s,ht⟩:=c.ghost i (by omega)
 obtain⟨v',w',j',s',hv'⟩:=(lp (a:={ tmps:=tc,defers:=[]}) c.hk (s.mr.uH (x:=(M i).next)) ht e).ends
 rw[hm]; exact s'.M6.ext
 rw[hm]; exact .refl _
def Can.note(c:Can k E n ops j0 w0 T M V ns){i:Nat}(hi:i<ops.size):∃note o,ns[i]? = some note/\ops[i]? = some o/\note.next=(M i).next /\
  (∀b,b<(M i).next->(b<note.wl\/(∃b',note.wrote=some b'/\b≠b')\/note.kept b=true)->(M (i+1)).get b=(M i).get b)/\(bQ ops o (T i)=true->note.read=aK E (T i) o.op):=by
 obtain⟨note,hn,o,ho,hp,hst⟩:=c.tr.step i hi;rw[Ra] at ho;refine⟨note,o,hn,ho,?_⟩;rcases hst with⟨hw,r,e,hm,hnote⟩|⟨hw,hv,hm,hnote⟩
 obtain⟨jc,wc,tc,s,ht⟩:=c.ghost i (by omega)
 obtain⟨v',w',j',s',hv'⟩:=(lp (a:={ tmps:=tc,defers:=[]}) c.hk (s.mr.uH (x:=(M i).next)) ht e).ends
 subst hnote;refine⟨rfl,fun b hb hc=>?_,fun _=>rfl⟩;rw[hm];rcases hc with hc|⟨b',hc,hne⟩|hc
 exact s'.ext.same b hb hc
 exact Af e hc b hne
 exact(HR hc).symm
 subst hnote;exact⟨rfl,fun b hb _=>by rw[hm],fun h=>by rw[hw] at h; cases h⟩
def Can.keep(c:Can k E n ops j0 w0 T M V ns){i:Nat}{o:Oper}(ho:ops[i]? = some o)(he:av o.op=false\/bQ ops o (T i)=false):∀b,b<(M i).next->(M (i+1)).get b=(M i).get b:=by
 obtain⟨o',ho',_,hk⟩:=c.kind (QP.1 ho).1;rw[ho] at ho'; cases ho';cases hk with
 | skip _ _ hm=>intro b _; rw[hm]
 | quiet _ _ _ hg _=>exact fun b _=>hg b
 | makes _ _ vb ao _ _ hg _=>intro b hb; rw[hg,S8]
 | effect hw he' _ _ _ =>
  rcases he with he|he
  rw[he] at he'; cases he'
  rw[he] at hw; cases hw
def Can.bX(c:Can k E n ops j0 w0 T M V ns){x y:Nat}(hy:y<=ops.size)(h:x<=y):(M x).next<=(M y).next:=by
 induction y with
 | zero =>
  have:x=0:=by omega
  subst this; exact QK _
 | succ y ih =>
  rcases RA y x with hlt|hge
  have:x=y+1:=by omega
  subst this; exact QK _
  exact Rc (ih (by omega) hge) (c.ext (by omega)).next
def Can.OF(c:Can k E n ops j0 w0 T M V ns){x y:Nat}(hy:y<=ops.size)(h:x<=y):(M y).wl<=(M x).wl:=by
 induction y with
 | zero =>
  have:x=0:=by omega
  subst this; exact QK _
 | succ y ih =>
  rcases RA y x with hlt|hge
  have:x=y+1:=by omega
  subst this; exact QK _
  exact Rc (c.ext (by omega)).wl (ih (by omega) hge)
def Can.fw(_:Can k E n ops j0 w0 T M V ns){x y:Nat}(hy:y<=ops.size)(hxy:x<=y){b:Nat}(hb:b<(M x).next)(H:∀z,x<=z->z<y->(M (z+1)).get b=(M z).get b):(M y).get b=(M x).get b:=by
 induction y with
 | zero =>
  have:x=0:=by omega
  subst this; rfl
 | succ y ih =>
  rcases RA y x with hlt|hge
  have:x=y+1:=by omega
  subst this; rfl
  rw[H y hge (by omega)]
  exact ih (by omega) hge fun z h1 h2=>H z h1 (by omega)
def Made(M:Nat->TS)(i b:Nat):Prop:=(M i).next<=b/\b<(M (i+1)).next
def Can.uF(c:Can k E n ops j0 w0 T M V ns){i i' b:Nat}(hi:i<ops.size)(hi':i'<ops.size)(h:Made M i b)(h':Made M i' b):i=i':=by
 rcases Nat.lt_trichotomy i i' with hlt|heq|hgt
 have:=c.bX (x:=i+1) (y:=i') (by omega) (by omega)
 have:=h.2; have:=h'.1; omega
 exact heq
 have:=c.bX (x:=i'+1) (y:=i) (by omega) (by omega)
 have:=h'.2; have:=h.1; omega
def qS:∀{y:Nat} {b x:Nat},x<=y->(M x).next<=b->b<(M y).next->∃i,x<=i/\i<y/\Made M i b
 | 0,b,x,hx,h1,h2=>by
  have:x=0:=by omega
  subst this; omega
 | y+1,b,x,hx,h1,h2=>by
  rcases RA b (M y).next with hlt|hge
  rcases RA y x with hyx|hyx
  have:x=y+1:=by omega
  subst this; omega
  obtain⟨i,a1,a2,a3⟩:=qS hyx h1 hlt;exact⟨i,a1,by omega,a3⟩
  rcases RA y x with hyx|hyx
  have:x=y+1:=by omega
  subst this; omega
  exact⟨y,hyx,by omega,hge,h2⟩
def wQ(M:Nat->TS):Nat->Nat->TN TU
 | 0,_=>none
 | x+1,b=>if(M x).next<=b/\b<(M (x+1)).next then(M (x+1)).get b else wQ M x b
def cont(M:Nat->TS)(N s b:Nat):TN TU:=if b<(M s).next then(M s).get b else wQ M N b
def nh(M:Nat->TS)(N s:Nat):TS:={ next:=(M N).next,wl:=(M N).wl,objs:=.nil,base:=cont M N s}
def cW(N s b:Nat):(nh M N s).get b=cont M N s b:=by simp[TS.get,nh,Heap.get_nil]
def Can.born(c:Can k E n ops j0 w0 T M V ns){i b:Nat}(h:Made M i b):∀{x:Nat},x<=ops.size->i<x->wQ M x b=(M (i+1)).get b
 | 0,_,hi=>by omega
 | x+1,hx,hi=>by
  simp only[wQ]
  split
  rename_i h2;rw[c.uF (i:=i) (i':=x) (by omega) (by omega) h h2]
  rename_i h2;rcases RA i x with hlt|hge
  exact c.born h (by omega) hlt
  have:i=x:=by omega
  subst this; exact(h2 h).elim
def Can.cY(_:Can k E n ops j0 w0 T M V ns){s b:Nat}(h:b<(M s).next):cont M ops.size s b=(M s).get b:=by simp[cont,h]
def Can.pQ(c:Can k E n ops j0 w0 T M V ns){s i b:Nat}(hi:i<ops.size)(h:Made M i b)(hs:(M s).next<=b):cont M ops.size s b=(M (i+1)).get b:=by
 unfold cont;rw[S8]
 exact c.born h (QK _) hi
def Can.A9(c:Can k E n ops j0 w0 T M V ns){s s':Nat}(hs:s<=s')(hs':s'<=ops.size)(H:∀x,s<=x->x<s'->∀b,b<(M x).next->(M (x+1)).get b=(M x).get b):cont M ops.size s=cont M ops.size s':=by
 funext b
 rcases RA b (M s).next with h1|h1
 rw[c.cY h1,c.cY (QT h1 (c.bX hs' hs))];exact(c.fw hs' hs h1 fun z hz hz'=>H z hz hz' b (QT h1 (c.bX (by omega) hz))).symm
 rcases RA b (M s').next with h2|h2
 obtain⟨i,a1,a2,a3⟩:=qS hs h1 h2;rw[c.pQ (by omega) a3 h1,c.cY h2]
 exact(c.fw (x:=i+1) hs' (by omega) a3.2 fun z hz hz'=>H z (by omega) hz' b (QT a3.2 (c.bX (by omega) hz))).symm
 unfold cont;rw[S8,S8]
structure TD(n:Nat)(ops:TW Oper)(T:Nat->Tm)(V:Nat->SX)(D:SV)(j:aN)(tmps:TW SX):Prop where
 size:tmps.size=n
 done:∀x o d,ops[x]? = some o->D x->o.dst=some d->VR j (V x) (tmps.getD d undef)
 rest:∀d,(∀x o,ops[x]? = some o->D x->o.dst≠some d)->VR j ((T 0).at d) (tmps.getD d undef)
def TD.mono{D:SV}{j j':aN}{tmps:TW SX}(h:TD n ops T V D j tmps)(hj:j.le j'):TD n ops T V D j' tmps :=
 ⟨h.size,fun x o d a b c=>(h.done x o d a b c).mono hj,fun d hd=>(h.rest d hd).mono hj⟩
def Can.IC(c:Can k E n ops j0 w0 T M V ns):∀{i:Nat},i<=ops.size->∀d,(∃x o,x<i/\ops[x]? = some o/\o.dst=some d/\(T i).at d=V x)\/((∀x o,x<i->ops[x]? = some o->o.dst≠some d)/\(T i).at d=(T 0).at d)
 | 0,_,d=>.inr ⟨fun x o h=>by omega,rfl⟩
 | i+1,hi,d=>by
  obtain⟨o,ho,hp,_⟩:=c.kind (i:=i) (by omega)
  unfold jy at hp;cases hd:o.dst with
  | none =>
   rw[hd] at hp;simp only[Option.some.injEq] at hp;rw[<-hp];rcases c.IC (i:=i) (by omega) d with⟨x,o',h1,h2,h3,h4⟩|⟨h1,h2⟩
   exact .inl ⟨x,o',by omega,h2,h3,h4⟩
   refine .inr ⟨fun x o' hx ho'=>?_,h2⟩;rcases RA x i with hlt|hge
   exact h1 x o' hlt ho'
   have:x=i:=by omega
   subst this;rw[ho] at ho'; cases ho';rw[hd]; simp
  | some d0 =>
   rw[hd] at hp;simp only at hp
   split at hp
   simp only[Option.some.injEq] at hp;rw[<-hp]
   by_cases hdd:d=d0
   subst hdd;exact .inl ⟨i,o,by omega,ho,hd,by simp[Tm.at,Trie.bl]⟩
   have hat:Tm.at ((T i).set d0 (V i)) d=Tm.at (T i) d:=by simp[Tm.at,Trie.bl,hdd]
   rw[hat];rcases c.IC (i:=i) (by omega) d with⟨x,o',h1,h2,h3,h4⟩|⟨h1,h2⟩
   exact .inl ⟨x,o',by omega,h2,h3,h4⟩
   refine .inr ⟨fun x o' hx ho'=>?_,h2⟩;rcases RA x i with hlt|hge
   exact h1 x o' hlt ho'
   have:x=i:=by omega
   subst this;rw[ho] at ho'; cases ho';rw[hd]; simp only[ne_eq,Option.some.injEq]; exact fun h=>hdd h.symm
   cases hp
def Can.zX(c:Can k E n ops j0 w0 T M V ns){i:Nat}{o:Oper}(ho:ops[i]? = some o){d:Tmp}(hd:o.dst=some d):d<n:=by
 obtain⟨o',ho',hp,_⟩:=c.kind (QP.1 ho).1;rw[ho] at ho'; cases ho';unfold jy at hp;rw[hd] at hp;simp only at hp
 split at hp
 rename_i h; simpa using h
 cases hp
def TD.put{bs:TO Nat}(hO:OrderOk ops bs){D:SV}{j:aN}{a:Act}{i:Nat}{o:Oper}(h:TD n ops T V D j a.tmps)(ho:ops[i]? = some o)(hn:∀d,o.dst=some d->d<n){v':SX}(hv:VR j (V i) v') :
  TD n ops T V (fun x=>D x\/x=i) j (a.put o.dst v').tmps:=by
 cases hd:o.dst with
 | none =>
  refine⟨h.size,fun x o' d a1 a2 a3=>?_,fun d hd'=>h.rest d fun x o' a1 a2=>hd' x o' a1 (.inl a2)⟩;rcases a2 with a2|rfl
  exact h.done x o' d a1 a2 a3
  rw[ho] at a1; cases a1; rw[hd] at a3; cases a3
 | some d0 =>
  have hlt:d0<a.tmps.size:=by rw[h.size]; exact hn d0 hd
  have hget:∀d,(a.put (some d0) v').tmps.getD d undef=if d=d0 then v' else a.tmps.getD d undef:=by
   intro d
   show(a.tmps.setIfInBounds d0 v').getD d undef=_
   by_cases hdd:d=d0
   subst hdd; simp[hlt]
   rw[QF hdd];simp[Sa (Ne.symm hdd)]
  refine⟨by rw[<-h.size]; simp[Act.put],fun x o' d a1 a2 a3=>?_,fun d hd'=>?_⟩
  rw[hget]
  by_cases hdd:d=d0
  subst hdd;rw[QH rfl];have:x=i:=hO.uniq x i o' o d a1 ho a3 hd;subst this; exact hv
  rw[QF hdd];rcases a2 with a2|rfl
  exact h.done x o' d a1 a2 a3
  rw[ho] at a1; cases a1; rw[hd] at a3; cases a3; exact(hdd rfl).elim
  rw[hget]
  by_cases hdd:d=d0
  subst hdd; exact(hd' i o ho (.inr rfl) hd).elim
  rw[QF hdd];exact h.rest d fun x o' a1 a2=>hd' x o' a1 (.inl a2)
structure Inv(E:Env)(n:Nat)(ops:TW Oper)(j0:aN)(w0:S5)(T:Nat->Tm)(M:Nat->TS)(V:Nat->SX)(ds:TO Deferred)(D:SV)(s:Nat)(j:aN)(a:Act)(w:S5):Prop where
 le:s<=ops.size
 tmps:TD n ops T V D j a.tmps
 defers:a.defers=ds
 jle:j0.le j
 new:∀b kb,j b=some kb->j0 b=none->∃i,i<ops.size/\D i/\Made M i b
 mr:MR E j (nh M ops.size s) w
 size:w0.heap.size<=w.heap.size
 full:∀i,i<ops.size->D i->∀b,Made M i b->(cont M ops.size s b).isSome=true->∃kb,j b=some kb
 fresh:∀b kb,j b=some kb->j0 b=none->w0.heap.size<=kb.c\/∃b0 k0,j0 b0=some k0/\((M 0).get b0).isSome=true/\k0.c=kb.c/\(M ops.size).wl<=b0
 frame:∀c,c<w0.heap.size->(∀b kb,j0 b=some kb->((M 0).get b).isSome=true->kb.c=c->b<(M ops.size).wl)->w.heap[c]? = w0.heap[c]?
 calm:iN E w0 w
 unt:∀i,i<s->¬D i->∀b,Made M i b->(M s).get b=(M (i+1)).get b
variable{ds:TO Deferred}{D:Nat->Prop}{s:Nat}{j:aN}{a:Act}{w:S5}
def Inv.shift(c:Can k E n ops j0 w0 T M V ns)(h:Inv E n ops j0 w0 T M V ds D s j a w){s':Nat}(hs:s<=s')(hs':s'<=ops.size)(H:∀x,s<=x->x<s'->∀b,b<(M x).next->(M (x+1)).get b=(M x).get b) :
  Inv E n ops j0 w0 T M V ds D s' j a w:=by
 have hc:=c.A9 hs hs' H;have hm:nh M ops.size s'=nh M ops.size s:=by simp only[nh,hc]
 refine{ h with le:=hs',mr:=by rw[hm]; exact h.mr,full:=by rw[<-hc]; exact h.full,unt:=fun i hi hD b hb=>?_}
 rcases RA i s with hlt|hge
 rw[<-h.unt i hlt hD b hb];have hb':b<(M s).next:=QT hb.2 (c.bX (by omega) hlt)
 exact c.fw hs' hs hb' fun z hz hz'=>H z hz hz' b (QT hb' (c.bX (by omega) hz))
 exact c.fw hs' (by omega) hb.2 fun z hz hz'=>H z (by omega) hz' b (QT hb.2 (c.bX (by omega) hz))
def Inv.sL(c:Can k E n ops j0 w0 T M V ns)(h:Inv E n ops j0 w0 T M V ds D s j a w){i b:Nat}(hi:i<ops.size)(hD:¬D i)(hb:Made M i b):j b=none:=by
 cases hj:j b with
 | none=>rfl
 | some kb =>
  cases hj0:j0 b with
  | some k0 =>
   have:=(c.mr.lt b k0 hj0).1;have:=c.bX (x:=0) (y:=i) (by omega) (RF _)
   have:=hb.1;omega
  | none =>
   obtain⟨i',hi',hD',hb'⟩:=h.new b kb hj hj0;exact Q1 (c.uF hi hi' hb hb'▸hD') hD
def Inv.quiet{bs:TO Nat}(hO:OrderOk ops bs)(c:Can k E n ops j0 w0 T M V ns)(h:Inv E n ops j0 w0 T M V ds D s j a w){i:Nat}{o:Oper}(ho:ops[i]? = some o)(hn:(M (i+1)).next=(M i).next){v':SX}(hv:VR j (V i) v') :
  Inv E n ops j0 w0 T M V ds (fun x=>D x\/x=i) s j (a.put o.dst v') w where
 le:=h.le
 tmps:=h.tmps.put hO ho (fun d hd=>c.zX ho hd) hv
 defers:=by rw[<-h.defers]; cases o.dst<;>rfl
 jle:=h.jle
 new:=fun b kb h1 h2=>let⟨x,a1,a2,a3⟩:=h.new b kb h1 h2;⟨x,a1,.inl a2,a3⟩
 mr:=h.mr
 size:=h.size
 full:=fun x hx hD b hb hl=>by
  rcases hD with hD|rfl
  exact h.full x hx hD b hb hl
  have:=hb.1; have:=hb.2; omega
 fresh:=h.fresh
 frame:=h.frame
 calm:=h.calm
 unt:=fun x hx hD b hb=>h.unt x hx (fun hd=>hD (.inl hd)) b hb
def Inv.makes{bs:TO Nat}(hO:OrderOk ops bs)(c:Can k E n ops j0 w0 T M V ns)(h:Inv E n ops j0 w0 T M V ds D s j a w){i:Nat}{o:Oper}(ho:ops[i]? = some o)(hD:¬D i){ao:TU}(hn:(M (i+1)).next=(M i).next+1)
  (hg:(M (i+1)).get (M i).next=some ao) {co:Obj} (hor:OR j ⟨w.heap.size,none⟩ ao co) {v':SX} (hv:VR (j.set (M i).next ⟨w.heap.size,none⟩) (V i) v') :
  Inv E n ops j0 w0 T M V ds (fun x=>D x\/x=i) s (j.set (M i).next ⟨w.heap.size,none⟩) (a.put o.dst v') (w.alloc co):=by
 have hi:i<ops.size:=(QP.1 ho).1;have hmade:Made M i (M i).next:=⟨QK _,by omega⟩
 have hnone:j (M i).next=none:=h.sL c hi hD hmade
 have hle:j.le (j.set (M i).next ⟨w.heap.size,none⟩):=aN.nJ _ hnone
 have hcont:cont M ops.size s (M i).next=some ao:=by
  rcases RA i s with hlt|hge
  rw[c.cY (QT hmade.2 (c.bX h.le hlt)),h.unt i hlt hD _ hmade,hg]
  rw[c.pQ hi hmade (c.bX (by omega) hge),hg]
 have hheap:∀x,x<w.heap.size->(w.alloc co).heap[x]? = w.heap[x]?:=fun x hx=>by
  show(w.heap.push co)[x]? = w.heap[x]?
  rw[Si,S8]
 have hnew:(w.alloc co).heap[w.heap.size]? = some co:=World.alloc_heap_new w co;have hcase:∀b kb,(j.set (M i).next ⟨w.heap.size,none⟩) b=some kb->(b=(M i).next/\kb=⟨w.heap.size,none⟩)\/(b≠(M i).next/\j b=some kb):=by
  intro b kb hb
  by_cases hbx:b=(M i).next
  subst hbx; rw[aN.bV] at hb; cases hb; exact .inl ⟨rfl,rfl⟩
  rw[aN.bM _ _ hbx] at hb; exact .inr ⟨hbx,hb⟩
 refine⟨h.le,(h.tmps.mono hle).put hO ho (fun d hd=>c.zX ho hd) hv,by rw[<-h.defers]; cases o.dst<;>rfl,h.jle.trans hle,?_,⟨?_,?_,?_,?_⟩,?_,?_,?_,?_,h.calm,fun x hx hDx b hb=>h.unt x hx (fun hd=>hDx (.inl hd)) b hb⟩
 intro b kb hb hb0;rcases hcase b kb hb with⟨rfl,rfl⟩|⟨_,hj⟩
 exact⟨i,hi,.inr rfl,hmade⟩
 obtain⟨x,a1,a2,a3⟩:=h.new b kb hj hb0;exact⟨x,a1,.inl a2,a3⟩
 intro b kb hb;rcases hcase b kb hb with⟨rfl,rfl⟩|⟨_,hj⟩
 exact⟨QT hmade.2 (c.bX (QK _) hi),by rw[World.size_alloc]; exact Ss _⟩
 exact⟨(h.mr.lt b kb hj).1,by rw[World.size_alloc]; exact Nat.lt_succ_of_lt (h.mr.lt b kb hj).2⟩
 intro b o1 kb hg1 hb;rcases hcase b kb hb with⟨rfl,rfl⟩|⟨_,hj⟩
 rw[cW,hcont] at hg1; cases hg1;exact⟨co,hnew,hor.mono hle⟩
 obtain⟨o',h1,h2⟩:=h.mr.obj b o1 kb hg1 hj;exact⟨o',by rw[hheap _ (h.mr.lt b kb hj).2]; exact h1,h2.mono hle⟩
 intro b b' kb kb' hb hb' hl hl' he;rcases hcase b kb hb with⟨rfl,rfl⟩|⟨_,hj⟩<;>rcases hcase b' kb' hb' with⟨rfl,rfl⟩|⟨_,hj'⟩
 rfl
 have:=(h.mr.lt b' kb' hj').2;simp only at he; omega
 have:=(h.mr.lt b kb hj).2;simp only at he; omega
 exact h.mr.inj b b' kb kb' hj hj' hl hl' he
 intro g hgl;exact hle g _ (h.mr.glob g hgl)
 rw[World.size_alloc]; exact Nat.le_succ_of_le h.size
 intro x hx hDx b hb hl;rcases hDx with hDx|rfl
 obtain⟨kb,hkb⟩:=h.full x hx hDx b hb hl;exact⟨kb,hle b kb hkb⟩
 have hbx:b=(M x).next:=by have:=hb.1; have:=hb.2; omega
 subst hbx;exact⟨_,aN.bV _ _ _⟩
 intro b kb hb hb0;rcases hcase b kb hb with⟨rfl,rfl⟩|⟨_,hj⟩
 exact .inl h.size
 exact h.fresh b kb hj hb0
 intro x hx H;rw[hheap x (QT hx h.size)];exact h.frame x hx H
def Inv.OL(c:Can k E n ops j0 w0 T M V ns){e:Nat}(he:e<=ops.size)(h:Inv E n ops j0 w0 T M V ds D e j a w){x:Nat}:MR E (j.below (M e).next) { M e with wl:=x} w:=by
 obtain⟨jc,wc,tc,sg,_⟩:=c.ghost e he;have hcdom:∀b kb,jc b=some kb->b<(M e).next:=fun b kb hb=>(sg.mr.lt b kb hb).1
 refine⟨fun b kb hb=>?_,fun b o kb hg hb=>?_,fun b b' kb kb' hb hb' hl hl' hc=>?_,fun g hg=>?_⟩
 obtain⟨h1,h2⟩:=aN.bp.1 hb;exact⟨h1,(h.mr.lt b kb h2).2⟩
 ·obtain⟨h1,h2⟩:=aN.bp.1 hb;have hg':(M e).get b=some o:=hg;obtain⟨o',h3,h4⟩:=h.mr.obj b o kb (by rw[cW,c.cY h1]; exact hg') h2
  refine⟨o',h3,?_⟩;obtain⟨kc,hkc⟩:∃kc,jc b=some kc:=by
   cases hj0:j0 b with
   | some k0=>exact⟨k0,sg.le b k0 hj0⟩
   | none =>
    obtain⟨i,hi,_,hm⟩:=h.new b kb h2 hj0;have:=c.bX (x:=0) (y:=i) (by omega) (RF _)
    exact sg.full b (Rc this hm.1) h1 (by rw[hg']; rfl)
  obtain⟨o2,_,h6⟩:=sg.mr.obj b o kc hg' hkc;exact h4.cut hcdom h6
 obtain⟨h1,h2⟩:=aN.bp.1 hb;obtain⟨h1',h2'⟩:=aN.bp.1 hb';refine h.mr.inj b b' kb kb' h2 h2' ?_ ?_ hc
 rw[cW,c.cY h1]; exact hl
 rw[cW,c.cY h1']; exact hl'
 refine aN.bp.2 ⟨?_,h.mr.glob g hg⟩;exact QT (c.mr.lt g _ (c.mr.glob g hg)).1 (c.bX he (RF _))
def aN.over(j' j:aN)(y:Nat):aN:=fun b=>if b<y then j' b else j b
def Inv.effect{bs:TO Nat}(hO:OrderOk ops bs)(c:Can k E n ops j0 w0 T M V ns){e:Nat}(h:Inv E n ops j0 w0 T M V ds D e j a w){o:Oper}(ho:ops[e]? = some o)(hD:¬D e){r:TS}(hm:M (e+1) ={ r with wl:=min (M e).wl r.wl})
  {j':aN} {w':S5} (sm:Sim E (j.below (M e).next) { M e with wl:=(M e).next} w j' r w') {v':SX} (hv:VR j' (V e) v') :
  Inv E n ops j0 w0 T M V ds (fun x=>D x\/x=e) (e+1) (j'.over j (M (e+1)).next) (a.put o.dst v') w':=by
 have hi:e<ops.size:=(QP.1 ho).1;have hrn:r.next=(M (e+1)).next:=by rw[hm]
 have hrg:∀b,r.get b=(M (e+1)).get b:=fun b=>by rw[hm]; rfl
 have hrw:(M ops.size).wl<=r.wl:=by
  have h1:=c.OF (x:=e+1) (y:=ops.size) (QK _) hi;have h2:(M (e+1)).wl=min (M e).wl r.wl:=by rw[hm]
  omega
 have hnx:(M e).next<=(M (e+1)).next:=(c.ext hi).next
 have hjlow:∀b kb,j b=some kb->b<(M e).next\/(M (e+1)).next<=b:=by
  intro b kb hb;rcases RA b (M e).next with h1|h1
  exact .inl h1
  rcases RA b (M (e+1)).next with h2|h2
  rw[h.sL c hi hD ⟨h1,h2⟩] at hb; cases hb
  exact .inr h2
 have hj'lt:∀b kb,j' b=some kb->b<(M (e+1)).next:=fun b kb hb=>hrn ▸(sm.mr.lt b kb hb).1
 have hle':j'.le (j'.over j (M (e+1)).next):=fun b kb hb=>by
  unfold aN.over; rw[QH (hj'lt b kb hb)]; exact hb
 have hlej:j.le (j'.over j (M (e+1)).next):=fun b kb hb=>by
  rcases hjlow b kb hb with h1|h1
  exact hle' b kb (sm.le b kb (aN.bp.2 ⟨h1,hb⟩))
  unfold aN.over; rw[S8]; exact hb
 have hcase:∀b kb,(j'.over j (M (e+1)).next) b=some kb->(b<(M (e+1)).next/\j' b=some kb)\/((M (e+1)).next<=b/\j b=some kb):=by
  intro b kb hb;unfold aN.over at hb
  split at hb
  exact .inl ⟨by assumption,hb⟩
  exact .inr ⟨by omega,hb⟩
 have hsplit:∀b kb,j' b=some kb->(j.below (M e).next b=some kb)\/(Made M e b/\j.below (M e).next b=none):=by
  intro b kb hb;cases hj:j.below (M e).next b with
  | some k0=>have:=sm.le b k0 hj; rw[hb] at this; cases this; exact .inl rfl
  | none=>exact .inr ⟨⟨sm.new b kb hb hj,hj'lt b kb hb⟩,rfl⟩
 have hcold:∀b,b<(M (e+1)).next->cont M ops.size (e+1) b=r.get b:=fun b hb=>by rw[c.cY hb,hrg]
 have hcnew:∀b,(M (e+1)).next<=b->cont M ops.size (e+1) b=cont M ops.size e b:=fun b hb=>by
  unfold cont; rw[S8,S8]
 have halive:∀b kb,j.below (M e).next b=some kb->(r.get b).isSome=true->((M e).get b).isSome=true:=by
  intro b kb hb hl;cases hg:(M e).get b with
  | some _=>rfl
  | none =>
   have:=sm.ext.dead b (aN.bp.1 hb).1 hg;rw[this] at hl; cases hl
 have hmemlow:∀b,b<(M e).next->(nh M ops.size e).get b=(M e).get b:=fun b hb=>by rw[cW,c.cY hb]
 have hcross:∀b b' kb kb',b<(M (e+1)).next->j' b=some kb->(M (e+1)).next<=b'->j b'=some kb'->(r.get b).isSome=true->(cont M ops.size e b').isSome=true->kb.c≠kb'.c:=by
  intro b b' kb kb' h1 h2 h3 h4 hl hl' he;have old:∀b0 k0,j.below (M e).next b0=some k0->((M e).get b0).isSome=true->k0.c=kb'.c->False:=by
   intro b0 k0 hb0 hl0 he0;obtain⟨a1,a2⟩:=aN.bp.1 hb0;have:=h.mr.inj b0 b' k0 kb' a2 h4 (by rw[hmemlow b0 a1]; exact hl0) (by rw[cW]; exact hl') he0
   omega
  rcases hsplit b kb h2 with hs|⟨hs,hs0⟩
  exact old b kb hs (halive b kb hs hl) he
  rcases sm.fresh b kb h2 hs0 with hf|⟨b0,k0,a1,a2,a3,a4⟩
  have:=(h.mr.lt b' kb' h4).2;omega
  exact old b0 k0 a1 a2 (a3.trans he)
 have hframe:∀b' kb',(M (e+1)).next<=b'->j b'=some kb'->(cont M ops.size e b').isSome=true->w'.heap[kb'.c]? = w.heap[kb'.c]?:=by
  intro b' kb' h3 h4 hl';refine sm.frame kb'.c (h.mr.lt b' kb' h4).2 fun b0 k0 hb0 hl0 he0=>?_;obtain⟨a1,a2⟩:=aN.bp.1 hb0;have:=h.mr.inj b0 b' k0 kb' a2 h4 (by rw[hmemlow b0 a1]; exact hl0) (by rw[cW]; exact hl') he0
  omega
 refine⟨hi,((h.tmps.mono hlej).put hO ho (fun d hd=>c.zX ho hd) (hv.mono hle')),by rw[<-h.defers]; cases o.dst<;>rfl,h.jle.trans hlej,?_,⟨?_,?_,?_,fun g hg=>hlej g _ (h.mr.glob g hg)⟩,Rc h.size sm.size,?_,?_,?_,iN.trans h.calm sm.calm,?_⟩
 intro b kb hb hb0;rcases hcase b kb hb with⟨_,h2⟩|⟨_,h2⟩
 rcases hsplit b kb h2 with hs|⟨hs,_⟩
 obtain⟨x,a1,a2,a3⟩:=h.new b kb (aN.bp.1 hs).2 hb0;exact⟨x,a1,.inl a2,a3⟩
 exact⟨e,hi,.inr rfl,hs⟩
 obtain⟨x,a1,a2,a3⟩:=h.new b kb h2 hb0;exact⟨x,a1,.inl a2,a3⟩
 intro b kb hb;rcases hcase b kb hb with⟨h1,h2⟩|⟨h1,h2⟩
 exact⟨QT h1 (c.bX (QK _) hi),(sm.mr.lt b kb h2).2⟩
 exact⟨(h.mr.lt b kb h2).1,QT (h.mr.lt b kb h2).2 sm.size⟩
 intro b o1 kb hg1 hb;rw[cW] at hg1;rcases hcase b kb hb with⟨h1,h2⟩|⟨h1,h2⟩
 rw[hcold b h1] at hg1;obtain⟨o',a1,a2⟩:=sm.mr.obj b o1 kb hg1 h2;exact⟨o',a1,a2.mono hle'⟩
 rw[hcnew b h1] at hg1;obtain⟨o',a1,a2⟩:=h.mr.obj b o1 kb (by rw[cW]; exact hg1) h2
 exact⟨o',by rw[hframe b kb h1 h2 (by rw[hg1]; rfl)]; exact a1,a2.mono hlej⟩
 intro b b' kb kb' hb hb' hl hl' he;rw[cW] at hl hl';rcases hcase b kb hb with⟨h1,h2⟩|⟨h1,h2⟩<;>rcases hcase b' kb' hb' with⟨h1',h2'⟩|⟨h1',h2'⟩
 exact sm.mr.inj b b' kb kb' h2 h2' (by rw[<-hcold b h1]; exact hl) (by rw[<-hcold b' h1']; exact hl') he
 exact(hcross b b' kb kb' h1 h2 h1' h2' (by rw[<-hcold b h1]; exact hl) (by rw[<-hcnew b' h1']; exact hl') he).elim
 exact(hcross b' b kb' kb h1' h2' h1 h2 (by rw[<-hcold b' h1']; exact hl') (by rw[<-hcnew b h1]; exact hl) he.symm).elim
 exact h.mr.inj b b' kb kb' h2 h2' (by rw[cW,<-hcnew b h1]; exact hl) (by rw[cW,<-hcnew b' h1']; exact hl') he
 ·intro x hx hDx b hb hl;rcases hDx with hDx|rfl
  ·have hold:(cont M ops.size e b).isSome=true:=by
    rcases RA b (M (e+1)).next with h1|h1
    ·rw[hcold b h1] at hl;have hxe:x≠e:=fun hxe=>hD (hxe▸hDx);have hxlt:x<e:=by
      rcases RA x e with hlt|hge
      exact hlt
      have:=c.bX (x:=e+1) (y:=x) (by omega) (by omega)
      have:=hb.1; omega
     have hb2:b<(M e).next:=QT hb.2 (c.bX (by omega) hxlt)
     rw[c.cY hb2];cases hg:(M e).get b with
     | some _=>rfl
     | none =>
      have:=sm.ext.dead b hb2 hg;rw[this] at hl; cases hl
    rw[<-hcnew b h1]; exact hl
   obtain⟨kb,hkb⟩:=h.full x hx hDx b hb hold;exact⟨kb,hlej b kb hkb⟩
  rw[hcold b hb.2] at hl;obtain⟨kb,hkb⟩:=sm.full b hb.1 (by rw[hrn]; exact hb.2) hl
  exact⟨kb,hle' b kb hkb⟩
 ·
  have freshOf:∀b0 k0,j.below (M e).next b0=some k0->((M e).get b0).isSome=true->(M ops.size).wl<=b0->w0.heap.size<=k0.c\/∃b1 k1,j0 b1=some k1/\((M 0).get b1).isSome=true/\k1.c=k0.c/\(M ops.size).wl<=b1:=by
   intro b0 k0 hb0 hl0 hw;have hb0':=(aN.bp.1 hb0).2;cases hj0:j0 b0 with
   | some k1 =>
    have:=h.jle b0 k1 hj0;rw[hb0'] at this; cases this;refine .inr ⟨b0,k0,hj0,?_,rfl,hw⟩;obtain⟨jc,wc,tc,sg,_⟩:=c.ghost e (by omega)
    cases hg:(M 0).get b0 with
    | some _=>rfl
    | none =>
     have:=sg.ext.dead b0 (c.mr.lt b0 k0 hj0).1 hg;rw[this] at hl0; cases hl0
   | none=>exact h.fresh b0 k0 hb0' hj0
  intro b kb hb hb0;rcases hcase b kb hb with⟨_,h2⟩|⟨_,h2⟩
  rcases hsplit b kb h2 with hs|⟨_,hs0⟩
  exact h.fresh b kb (aN.bp.1 hs).2 hb0
  rcases sm.fresh b kb h2 hs0 with hf|⟨b0,k0,a1,a2,a3,a4⟩
  exact .inl (Rc h.size hf)
  rcases freshOf b0 k0 a1 a2 (Rc hrw a4) with hf|⟨b1,k1,c1,c2,c3,c4⟩
  exact .inl (a3▸hf)
  exact .inr ⟨b1,k1,c1,c2,c3.trans a3,c4⟩
  exact h.fresh b kb h2 hb0
 ·intro x hx H;rw[<-h.frame x hx H];refine sm.frame x (QT hx h.size) fun b0 k0 hb0 hl0 he0=>?_;have hb0':=(aN.bp.1 hb0).2;cases hj0:j0 b0 with
  | some k1 =>
   have:=h.jle b0 k1 hj0;rw[hb0'] at this; cases this;refine QT (H b0 k0 hj0 ?_ he0) hrw;obtain⟨jc,wc,tc,sg,_⟩:=c.ghost e (by omega)
   cases hg:(M 0).get b0 with
   | some _=>rfl
   | none =>
    have hl0':((M e).get b0).isSome=true:=hl0;have:=sg.ext.dead b0 (c.mr.lt b0 k0 hj0).1 hg;rw[this] at hl0'; cases hl0'
  | none =>
   rcases h.fresh b0 k0 hb0' hj0 with hf|⟨b1,k1,c1,c2,c3,c4⟩
   omega
   have:=H b1 k1 c1 c2 (c3.trans he0);omega
 ·intro x hx hDx b hb;have hDx':¬D x:=fun hd=>hDx (.inl hd);rcases RA x e with hlt|hge
  ·have hb2:b<(M e).next:=QT hb.2 (c.bX (by omega) hlt)
   rw[<-h.unt x hlt hDx' b hb,<-hrg];refine sm.away b hb2 ?_;cases hj:j.below (M e).next b with
   | none=>rfl
   | some kb =>
    have:=(aN.bp.1 hj).2;rw[h.sL c (by omega) hDx' hb] at this; cases this
  exact Q1 (by omega:x=e) (fun hxe=>hDx (.inr hxe))
structure Ready(ops:TW Oper)(bs:TO Nat)(D:SV)(i:Nat)(o:Oper):Prop where
 op:ops[i]? = some o
 out:¬D i
 edges:∀e∈cu o,D e
 closed:∀j o,ops[j]? = some o->D j->∀e∈cu o,D e
def Ready.before{bs:TO Nat}(hO:OrderOk ops bs){i:Nat}{o:Oper}(hr:Ready ops bs D i o){x:Nat}(hx:x<i)(hb:B6 bs x i):D x:=E4 hO hr.closed i o hr.op hr.edges x hx hb
def Ready.behind{bs:TO Nat}(hO:OrderOk ops bs){i:Nat}{o:Oper}(hr:Ready ops bs D i o){x:Nat}{ox:Oper}(hox:ops[x]? = some ox)(hx:i<x)(hD:D x):¬B6 bs i x:=fun hb =>
 hr.out (E4 hO hr.closed x ox hox (hr.closed x ox hox hD) i hx hb)
def Ready.looked{bs:TO Nat}(hO:OrderOk ops bs)(c:Can k E n ops j0 w0 T M V ns){i:Nat}{o:Oper}(hr:Ready ops bs D i o){tmps:TW SX}(h:TD n ops T V D j tmps):∀d∈looks ops o,VR j ((T i).at d) (tmps.getD d undef):=by
 intro d hd;have hi:i<ops.size:=(QP.1 hr.op).1;have seen:∀x ox,x<i->ops[x]? = some ox->ox.dst=some d->D x:=by
  intro x ox hx hox hdx
  by_cases hb:B6 bs x i
  exact hr.before hO hx hb
  exact((me (hO.apart x i ox o hx hox hr.op hb)).1 d hdx hd).elim
 rcases c.IC (i:=i) (by omega) d with⟨x,ox,h1,h2,h3,h4⟩|⟨h1,h2⟩
 rw[h4];exact h.done x ox d h2 (seen x ox h1 h2 h3) h3
 rw[h2];refine h.rest d fun x ox hox hDx hdx=>?_;rcases Nat.lt_trichotomy x i with hlt|heq|hgt
 exact h1 x ox hlt hox hdx
 subst heq; exact hr.out hDx
 have hnb:=hr.behind hO hox hgt hDx;exact(me (hO.apart i x o ox hgt hr.op hox hnb)).2.1 d hdx hd
def qB{bs:TO Nat}{i j:Nat}{a b:Oper}(hij:i<j)(ha:ops[i]? = some a)(hb:ops[j]? = some b)(hn:¬B6 bs i j)(hc:clash a b=true):(i,j)∈mJ ops bs:=by
 have hj:j<ops.size:=(QP.1 hb).1;simp only[mJ,R0,RB,Rj,List.mem_filter,QJ,RD];refine⟨j,hj,i,⟨hij,?_,?_⟩,rfl⟩
 unfold B6 at hn
 simpa using hn
 rw[dg ha,dg hb]; exact hc
def Inv.reads{bs:TO Nat}(hO:OrderOk ops bs)(c:Can k E n ops j0 w0 T M V ns)(hpairs:(mJ ops bs).all (dA ns ops)=true)(hnote:ns.all fm=true)(h:Inv E n ops j0 w0 T M V ds D s j a w)
  (heff:∀x o,ops[x]? = some o->av o.op=true->(D x↔x<s)) {i:Nat} {o:Oper} (hr:Ready ops bs D i o) (hw:bQ ops o (T i)=true) (_:av o.op=false) {b:Nat} (hb:aK E (T i) o.op=some b) :
  cont M ops.size s b=(M i).get b:=by
 have hi:i<ops.size:=(QP.1 hr.op).1;obtain⟨ni,o',hn1,ho',hn2,hn3,hn4⟩:=c.note hi;rw[hr.op] at ho'; cases ho';have hread:ni.read=some b:=by rw[hn4 hw,hb]
 have hblt:b<(M i).next:=by
  have:=QS.1 hnote ni (Q4 hn1);unfold fm at this;rw[hread] at this;rw[<-hn2]; simpa using this
 have hrd:oO o.op=true:=tM hb;have okOf:∀x nx,ns[x]? = some nx->Note.ok ni nx=true->b<(M x).next->x<ops.size->(M (x+1)).get b=(M x).get b:=by
  intro x nx hnx hok hbx hx;obtain⟨nx',ox,g1,g2,g3,g4,g5⟩:=c.note hx;rw[hnx] at g1; cases g1;refine g4 b hbx ?_;unfold Note.ok at hok;rw[hread] at hok;simp only[RO,QR] at hok;rcases hok with((hok|hok)|hok)|hok
  exact .inl hok
  rw[g3] at hok; omega
  split at hok
  rename_i b' hb';exact .inr (.inl ⟨b',hb',by simpa using hok⟩)
  cases hok
  exact .inr (.inr hok)
 have pairAt:∀x y,(x,y)∈mJ ops bs->∃nx ny,ns[x]? = some nx/\ns[y]? = some ny/\(av (ops.getD y default).op=true->Note.ok nx ny=true)/\(av (ops.getD x default).op=true->Note.ok ny nx=true):=by
  intro x y hxy;have:=QS.1 hpairs _ hxy;unfold dA at this
  split at this
  rename_i nx ny g1 g2;simp only[QJ,RO,RD] at this;exact⟨nx,ny,g1,g2,fun he=>this.1.resolve_left (fun hf=>Q1 (he.symm.trans hf) (by simp)),fun he=>this.2.resolve_left (fun hf=>Q1 (he.symm.trans hf) (by simp))⟩
  cases this
 have stepOk:∀x,x<ops.size->b<(M x).next->((x<i/\¬x<s)\/(i<=x/\x<s))->(M (x+1)).get b=(M x).get b:=by
  intro x hx hbx hcase;obtain⟨ox,hox⟩:∃ox,ops[x]? = some ox:=⟨ops[x],by simp[hx]⟩
  cases hex:av ox.op with
  | false=>exact c.keep hox (.inl hex) b hbx
  | true =>
   rcases hcase with⟨h1,h2⟩|⟨h1,h2⟩
   have hnD:¬D x:=fun hd=>h2 ((heff x ox hox hex).1 hd);have hnb:¬B6 bs x i:=fun hb=>hnD (hr.before hO h1 hb);obtain⟨nx,ny,g1,g2,g3,g4⟩:=pairAt x i (qB h1 hox hr.op hnb (by simp[clash,hex,hrd]))
   rw[hn1] at g2; cases g2;exact okOf x nx g1 (g4 (by rw[dg hox]; exact hex)) hbx hx
   have hD:D x:=(heff x ox hox hex).2 h2;have hxi:i≠x:=fun he=>hr.out (he▸hD);have hnb:=hr.behind hO hox (by omega) hD
   obtain⟨nx,ny,g1,g2,g3,g4⟩:=pairAt i x (qB (by omega) hr.op hox hnb (by simp[clash,hex,hrd]))
   rw[hn1] at g1; cases g1;exact okOf x ny g2 (g3 (by rw[dg hox]; exact hex)) hbx hx
 rcases RA i s with his|his
 have hbs:b<(M s).next:=QT hblt (c.bX h.le (by omega))
 rw[c.cY hbs];exact c.fw h.le (by omega) hblt fun z h1 h2=>stepOk z (by have:=h.le; omega) (QT hblt (c.bX (by have:=h.le; omega) h1)) (.inr ⟨h1,h2⟩)
 rcases RA b (M s).next with h1|h1
 rw[c.cY h1];exact(c.fw (by omega) his h1 fun z h2 h3=>stepOk z (by omega) (QT h1 (c.bX (by omega) h2)) (.inl ⟨h3,by omega⟩)).symm
 obtain⟨x,a1,a2,a3⟩:=qS his h1 hblt;rw[c.pQ (by omega) a3 h1]
 exact(c.fw (x:=x+1) (by omega) (by omega) a3.2 fun z h2 h3=>stepOk z (by omega) (QT a3.2 (c.bX (by omega) h2)) (.inl ⟨h3,by omega⟩)).symm
def rF{m:TS}{t:Tm}{o:Oper}(h:MR E j m w)(ht:∀d∈tmpsOf o.op.operands.toList,VR j (t.at d) (a.tmps.getD d undef)){v:SX}{m':TS}(e:eS E t m o.op=some (v,m'))(hne:av o.op=false) :
  (m'=m/\∃v',k6 E.P (execOp a.eval o) v' w w/\VR j v v') \/
  (∃(ao:TU) (co:Obj) (vb:Nat->SX) (v':SX),k6 E.P (execOp a.eval o) v' w (w.alloc co)/\OR j ⟨w.heap.size,none⟩ ao co/\(∀(j':aN) (b:Nat),j' b=some ⟨w.heap.size,none⟩->VR j' (vb b) v') /\
   ∀m2:TS,eS E t m2 o.op=some (vb m2.next,m2.alloc ao)):=by
 have hT:TR (kQ a.tmps (tmpsOf o.op.operands.toList)).size j (qu t (tmpsOf o.op.operands.toList)) ({ tmps:=kQ a.tmps (tmpsOf o.op.operands.toList),defers:=a.defers}:Act).tmps:=by
  refine⟨rfl,fun d=>?_⟩
  show VR j _ ((kQ a.tmps _).getD d undef)
  rw[lS,ky]
  split
  rename_i hd; exact ht d hd
  exact VR.undef j
 have hev:∀x∈o.op.operands.toList,an E (qu t (tmpsOf o.op.operands.toList)) x=an E t x:=by
  intro x hx;cases x with
  | tmp d=>simp only[an,lS,QH (iP.2 hx)]
  | _=>rfl
 have hex:execOp ({ tmps:=kQ a.tmps (tmpsOf o.op.operands.toList),defers:=a.defers}:Act).eval o=execOp a.eval o:=by
  refine execOp_congr o (fun cs b hs=>?_) fun x hx=>?_
  rw[hs] at e; simp[eS] at e
  ·cases x with
   | tmp d =>
    show(kQ a.tmps _).getD d undef=a.tmps.getD d undef
    rw[ky,QH (iP.2 (by simpa using hx))]
   | _=>rfl
 rcases wI h hT ((pB hev).trans e) with⟨h1,_,v',h2,h3⟩|⟨ao,co,vb,v',_,_,h2,h3,h4,h5⟩|⟨h1,_⟩
 rw[hex] at h2;exact .inl ⟨h1,v',h2,h3⟩
 rw[hex] at h2;exact .inr ⟨ao,co,vb,v',h2,h3,h4,fun m2=>(pB hev).symm.trans (h5 m2)⟩
 rw[hne] at h1; cases h1
def yW{listed:TW Bool}{o:Oper}(h:∀e∈o.after,Region.binds .any e=true->listed.getD e.on false=true):∀e∈cu o,listed.getD e false=true:=by
 intro e he;unfold cu at he;obtain⟨x,hx,hxe⟩:=List.mem_filterMap.1 he
 split at hxe
 rename_i hb;cases hxe;exact h x (by simpa using hx) hb
 cases hxe
def yf{listed:TW Bool}{o:Oper}(h:∀e∈cu o,listed.getD e false=true):∀e∈o.after,Region.binds .any e=true->listed.getD e.on false=true:=by
 intro e he hb;exact h e.on (List.mem_filterMap.2 ⟨e,by simpa using he,by rw[QH hb]⟩)
def outs(listed:TW Bool)(N:Nat):Nat:=((List.range N).filter fun i=>!listed.getD i false).length
def filter_lt{l:TO Nat}{p q:Nat->Bool}(h:∀x,q x=true->p x=true):(l.filter q).length<=(l.filter p).length:=by
 induction l with
 | nil=>simp
 | cons x l ih =>
  simp only[List.filter_cons];cases hq:q x with
  | true=>simp[h x hq,ih]
  | false=>cases p x<;>simp<;>omega
def AE{l:TO Nat}{p q:Nat->Bool}(h:∀x,q x=true->p x=true){y:Nat}(hy:y∈l)(hp:p y=true)(hq:q y=false):(l.filter q).length<(l.filter p).length:=by
 induction l with
 | nil=>simp at hy
 | cons x l ih =>
  simp only[List.filter_cons];rcases QY.1 hy with rfl|hy
  have:=filter_lt (l:=l) h;simp[hp,hq]; omega
  ·have:=ih hy;cases hqx:q x with
   | true=>simp[h x hqx,this]
   | false=>cases p x<;>simp<;>omega
def sB{listed:TW Bool}{i:Nat}(hi:i<listed.size)(x:Nat):(listed.setIfInBounds i true).getD x false=true↔(listed.getD x false=true\/x=i):=by
 by_cases hx:i=x
 subst hx; simp[hi]
 rw[getD_set_ne false hx];constructor
 exact .inl
 rintro(h|h)
 exact h
 exact(hx h.symm).elim
def Gn{listed:TW Bool}{N i:Nat}(hs:listed.size=N)(hi:i<N)(h:listed.getD i false=false):outs (listed.setIfInBounds i true) N<outs listed N:=by
 refine AE (y:=i) (fun x hx=>?_) (RB.2 hi) (by simp[h]) ?_
 ·simp only[RD] at hx ⊢;cases hl:listed.getD x false with
  | false=>rfl
  | true=>rw[(sB (by omega) x).2 (.inl hl)] at hx; cases hx
 simp only[Bool.not_eq_false'];exact(sB (by omega) i).2 (.inr rfl)
def Df{listed:TW Bool}{N:Nat}(h:outs listed N=0):∀i,i<N->listed.getD i false=true:=by
 intro i hi;unfold outs at h;have:=Rh.1 h;have:=(List.filter_eq_nil_iff.1 this) i (RB.2 hi)
 simpa using this
def Inv.congr{D':SV}(h:Inv E n ops j0 w0 T M V ds D s j a w)(e:∀x,D x↔D' x):Inv E n ops j0 w0 T M V ds D' s j a w:=by
 have:D=D':=funext fun x=>propext (e x);rw[<-this]; exact h
def LY{bs:TO Nat}(hO:OrderOk ops bs)(c:Can k E n ops j0 w0 T M V ns)(hpairs:(mJ ops bs).all (dA ns ops)=true)(hnote:ns.all fm=true){F:Fence}(hF:jX F){Q:Exit->Act->S5->Prop}
  (hQ:∀j' w' a',Sim E j0 (M 0) w0 j' (M ops.size) w'->TR n j' (T ops.size) a'.tmps->a'.defers=ds->Q .normal a' w') :
  ∀(fuel:Nat) (listed:TW Bool) (s:Nat) (j:aN) (a:Act) (w:S5),listed.size=ops.size->outs listed ops.size<=fuel->(∀x o,ops[x]? = some o->listed.getD x false=true->∀e∈cu o,listed.getD e false=true) ->
   Inv E n ops j0 w0 T M V ds (fun x=>listed.getD x false=true) s j a w->(∀x o,ops[x]? = some o->av o.op=true->(listed.getD x false=true↔x<s)) ->
   wpAnyIn F 0 E.P .any ops Q fuel listed a w:=by
 have fin:∀(listed:TW Bool) (s:Nat) (j:aN) (a:Act) (w:S5),(∀i,i<ops.size->listed.getD i false=true)->Inv E n ops j0 w0 T M V ds (fun x=>listed.getD x false=true) s j a w ->
   (∀x o,ops[x]? = some o->av o.op=true->(listed.getD x false=true↔x<s))->Q .normal a w:=by
  intro listed s j a w hall hinv heff;have hx:=hinv.shift c (s':=ops.size) hinv.le (QK _) fun x h1 h2 b hb=>by
   obtain⟨ox,hox⟩:∃ox,ops[x]? = some ox:=⟨ops[x],by simp[h2]⟩
   refine c.keep hox (.inl ?_) b hb;cases he:av ox.op with
   | false=>rfl
   | true=>have:=(heff x ox hox he).1 (hall x h2); omega
  obtain⟨jc,wc,tc,sg,_⟩:=c.ghost ops.size (QK _);have hmem:∀b,b<(M ops.size).next->(nh M ops.size ops.size).get b=(M ops.size).get b:=fun b hb=>by rw[cW,c.cY hb]
  refine hQ j w a ⟨sg.ext,hx.jle,fun b kb h1 h2=>?_,⟨fun b kb hb=>hx.mr.lt b kb hb,fun b o kb hg hb=>?_,fun b b' kb kb' hb hb' hl hl' he=>?_,hx.mr.glob⟩,hx.size,fun b h1 h2 hl=>?_,sg.away,hx.fresh,hx.frame,hx.calm⟩ ⟨hx.tmps.size,fun d=>?_⟩ hx.defers
  obtain⟨i,a1,_,a3⟩:=hx.new b kb h1 h2;exact Rc (c.bX (by omega) (RF _)) a3.1
  exact hx.mr.obj b o kb (by rw[hmem b (hx.mr.lt b kb hb).1]; exact hg) hb
  exact hx.mr.inj b b' kb kb' hb hb' (by rw[hmem b (hx.mr.lt b kb hb).1]; exact hl) (by rw[hmem b' (hx.mr.lt b' kb' hb').1]; exact hl') he
  obtain⟨i,a1,a2,a3⟩:=qS (RF ops.size) h1 h2;exact hx.full i a2 (hall i a2) b a3 (by rw[c.cY h2]; exact hl)
  rcases c.IC (i:=ops.size) (QK _) d with⟨x,o,h1,h2,h3,h4⟩|⟨h1,h2⟩
  rw[h4]; exact hx.tmps.done x o d h2 (hall x h1) h3
  rw[h2]; exact hx.tmps.rest d fun x o ho _=>h1 x o (QP.1 ho).1 ho
 intro fuel
 induction fuel with
 | zero =>
  intro listed s j a w hsz hout hcl hinv heff;have hall:=Df (Nat.le_zero.1 hout);refine⟨?_,fin listed s j a w hall hinv heff⟩;cases hr:Region.ready .any ops listed with
  | nil=>rfl
  | cons i l =>
   have hi:i∈Region.ready .any ops listed:=by rw[hr]; simp
   obtain⟨h1,o,ho,_⟩:=mem_ready.1 hi;have hlt:i<ops.size:=(QP.1 ho).1;have h2:=hall i hlt;have:listed.getD i true=listed.getD i false:=by simp[hsz,hlt]
   rw[this,h2] at h1; cases h1
 | succ fuel ih =>
  intro listed s j a w hsz hout hcl hinv heff;refine⟨fun hnil=>fin listed s j a w (fun i hi=>?_) hinv heff,fun i hi=>?_⟩
  ·
   induction i using Nat.strongRecOn with
   | _ i ihi =>
    cases hl:listed.getD i false with
    | true=>rfl
    | false =>
     obtain⟨o,ho⟩:∃o,ops[i]? = some o:=⟨ops[i],by simp[hi]⟩
     have hmem:i∈Region.ready .any ops listed:=by
      refine mem_ready.2 ⟨?_,o,ho,yf fun e he=>ihi e (hO.edge i o ho e he) (Nat.lt_trans (hO.edge i o ho e he) hi)⟩;have:listed.getD i true=listed.getD i false:=by simp[hsz,hi]
      rw[this,hl]
     rw[hnil] at hmem; cases hmem
  ·obtain⟨h1,o,ho,h3⟩:=mem_ready.1 hi;have hlt:i<ops.size:=(QP.1 ho).1;have hl:listed.getD i false=false:=by
    have:listed.getD i true=listed.getD i false:=by simp[hsz,hlt]
    rw[<-this]; exact h1
   have hr:Ready ops bs (fun x=>listed.getD x false=true) i o:=⟨ho,by simp[hl],yW h3,hcl⟩
   have hlook:=hr.looked hO c hinv.tmps;have hwant:Region.wanted o (yielded ops a.tmps)=bQ ops o (T i):=Bf o fun g want d hg hd=>hlook d (by
    unfold looks;rw[hg];exact Rs _ (by simp[hd]))
   have hoper:∀d∈tmpsOf o.op.operands.toList,VR j ((T i).at d) (a.tmps.getD d undef):=fun d hd=>hlook d (Rg _ hd);have next:∀(s':Nat) (j':aN) (a':Act) (w':S5),Inv E n ops j0 w0 T M V ds (fun x=>listed.getD x false=true\/x=i) s' j' a' w'->(∀x o,ops[x]? = some o->av o.op=true->((listed.getD x false=true\/x=i)↔x<s')) ->
     wpAnyIn F 0 E.P .any ops Q fuel (listed.setIfInBounds i true) a' w':=by
    intro s' j' a' w' hinv' heff';have hiff:=sB (listed:=listed) (i:=i) (by omega)
    refine ih _ s' j' a' w' (by simp[hsz]) (by have:=Gn hsz hlt hl; omega) (fun x ox hox hx e he=>?_) (hinv'.congr fun x=>(hiff x).symm) fun x ox hox he=>(hiff x).trans (heff' x ox hox he)
    rcases(hiff x).1 hx with hx|rfl
    exact(hiff e).2 (.inl (hcl x ox hox hx e he))
    rw[ho] at hox; cases hox;exact(hiff e).2 (.inl (hr.edges e he))
   have effs:av o.op=true->s<=i/\(∀x ox,ops[x]? = some ox->av ox.op=true->s<=x->x<i->False)/\(∀x o,ops[x]? = some o->av o.op=true->((listed.getD x false=true\/x=i)↔x<i+1)):=by
    intro he;have hsi:s<=i:=by
     rcases RA i s with h|h
     have:=(heff i o ho he).2 h;rw[hl] at this; cases this
     exact h
    have hbefore:∀x ox,ops[x]? = some ox->av ox.op=true->x<i->listed.getD x false=true:=by
     intro x ox hox hex hxi
     by_cases hb:B6 bs x i
     exact hr.before hO hxi hb
     exact((me (hO.apart x i ox o hxi hox ho hb)).2.2 ⟨hex,he⟩).elim
    refine⟨hsi,fun x ox hox hex h1 h2=>?_,fun x ox hox hex=>⟨?_,fun hx=>?_⟩⟩
    have:=(heff x ox hox hex).1 (hbefore x ox hox hex h2);omega
    rintro(hx|rfl)
    have:=(heff x ox hox hex).1 hx; omega
    omega
    rcases RA x i with h|h
    exact .inl (hbefore x ox hox hex h)
    exact .inr (by omega)
   have noEff:av o.op=false->∀x ox,ops[x]? = some ox->av ox.op=true->((listed.getD x false=true\/x=i)↔x<s):=by
    intro he x ox hox hex;rw[<-heff x ox hox hex];refine⟨fun h=>h.resolve_right fun hxi=>?_,.inl⟩;subst hxi;rw[ho] at hox; cases hox;rw[he] at hex; cases hex
   obtain⟨o',ho',hput,hkind⟩:=c.kind hlt;rw[ho] at ho'; cases ho';unfold wpOpIn;simp only[ho];cases hkind with
   | skip hw hv hm =>
    rw[hwant,hw];simp only[Q8,if_false];refine⟨fun f _=>hF.fn f,?_⟩;have hvu:VR j (V i) undef:=by rw[hv]; exact VR.undef j
    have hinv':=hinv.quiet hO c ho (by rw[hm]) hvu
    cases he:av o.op with
    | false=>exact next s j _ w hinv' (noEff he)
    | true =>
     obtain⟨e1,e2,e3⟩:=effs he;refine next (i+1) j _ w (hinv'.shift c (by omega) hlt fun x h1 h2 b hb=>?_) e3
     rcases RA x i with hxi|hxi
     ·obtain⟨ox,hox⟩:∃ox,ops[x]? = some ox:=⟨ops[x]'(by omega),Sf (by omega)⟩
      refine c.keep hox (.inl ?_) b hb;cases hex:av ox.op with
      | false=>rfl
      | true=>exact(e2 x ox hox hex h1 hxi).elim
     have:x=i:=by omega
     subst this;rw[hm]
   | quiet hw he hn hg ha =>
    rw[hwant,hw];simp only[if_true];have hopA:=ha (nh M ops.size s) fun b0 hb0=>by rw[cW]; exact hinv.reads hO c hpairs hnote heff hr hw he hb0
    rcases rF (a:=a) hinv.mr hoper hopA he with⟨_,v',h5,h6⟩|⟨ao,co,vb,v',_,_,_,h8⟩
    ·exact dm hF (my hopA) h5 (next s j _ w (hinv.quiet hO c ho hn h6) (noEff he))
    have:=h8 (nh M ops.size s);rw[hopA] at this;simp only[Option.some.injEq,Prod.mk.injEq] at this;have h9:=Rf TS.next this.2
    simp only[TS.alloc] at h9;omega
   | makes hw he vb ao hv hn hg ha =>
    rw[hwant,hw];simp only[if_true];have hopA:=ha (nh M ops.size s);rcases rF (a:=a) hinv.mr hoper hopA he with⟨h4,_⟩|⟨ao',co,vb',v',h5,h6,h7,h8⟩
    have h9:=Rf TS.next h4
    simp only[TS.alloc] at h9;omega
    ·have hao:ao=ao':=by
      have:=(ha (nh M ops.size s)).symm.trans (h8 (nh M ops.size s));simp only[Option.some.injEq,Prod.mk.injEq] at this;have h9:=Rf (fun m=>TS.get m (nh M ops.size s).next) this.2
      simp only[TS.aU,if_true,Option.some.injEq] at h9;exact h9
     subst hao;have hvb:V i=vb' (M i).next:=by
      have:=(ha (M i)).symm.trans (h8 (M i));simp only[Option.some.injEq,Prod.mk.injEq] at this;rw[hv]; exact this.1
     have hget:(M (i+1)).get (M i).next=some ao:=by rw[hg,QH rfl]
     refine dm hF (my hopA) h5 (next s _ _ _ (hinv.makes hO c ho (by simp[hl]) hn hget h6 ?_) (noEff he))
     rw[hvb];exact h7 _ _ (aN.bV _ _ _)
   | effect hw he r hr' hm =>
    rw[hwant,hw];simp only[if_true];obtain⟨e1,e2,e3⟩:=effs he;have hinv':=hinv.shift c (s':=i) e1 (by omega) fun x h1 h2 b hb=>by
     obtain⟨ox,hox⟩:∃ox,ops[x]? = some ox:=⟨ops[x]'(by omega),Sf (by omega)⟩
     refine c.keep hox (.inl ?_) b hb;cases hex:av ox.op with
     | false=>rfl
     | true=>exact(e2 x ox hox hex h1 h2).elim
    have hmr:=hinv'.OL c (by omega) (x:=(M i).next)
    obtain⟨jc,wc,tc,sg,htg⟩:=c.ghost i (by omega)
    have hops:∀d∈tmpsOf o.op.operands.toList,VR (j.below (M i).next) ((T i).at d) (a.tmps.getD d undef):=fun d hd =>
     (hoper d hd).cut (fun b kb hb=>(sg.mr.lt b kb hb).1) (htg.2 d)
    refine(zu (a:=a) c.hk hmr hops hr').wpIn hF (nk hr') ?_;rintro v' w' ⟨j',sm,hv'⟩;exact next (i+1) _ _ _ (hinv'.effect hO c ho (by simp[hl]) hm sm hv') e3
def FQ(hk:∀tk r,k tk=some r->cG E tk r)(hmix:E.P.follows .mixedOrders=true){ps:TO (Nat×Nat)}{t tf:Tm}{m mf:TS}(hp:kB ops=some ps)
  (hr:dz k E n ops ops.toList t m=some (tf,mf,ns)) (hok:ps.all (dA ns ops)=true) (hnote:ns.all fm=true) {id:Nat} {F:Fence} {Q:Exit->Act->S5->Prop} (h:MR E j m w) (ht:TR n j t a.tmps) (hF:jX F)
  (hQ:∀j' w' a',Sim E j m w j' mf w'->TR n j' tf a'.tmps->a'.defers=a.defers->Q .normal a' w'):(Code.region id ops true).wpIn F 0 E.P Q a w:=by
 unfold kB at hp
 split at hp
 rename_i hord;cases hp;have hO:=zH hord;obtain⟨T,M,V,htr,h4,h5,h2,h3⟩:=xU ops.toList 0 t m tf mf ns rfl hr;rw[Sh] at htr h2 h3;subst h4 h5;have s0:Sim E j (M 0) w j (M 0) { w with drawn:=w.drawn+1}:=Sim.of_heap h rfl;have c:Can k E n ops j { w with drawn:=w.drawn+1} T M V ns:=⟨hk,htr,s0.mr,CI hk htr s0.mr ht⟩;refine wpIn_region_any hmix ?_;refine LY (ds:=a.defers) hO c hok hnote hF (fun j' w' a' s' ht' hd'=>hQ j' w' a' (h3▸s0.trans h s') (h2▸ht') hd') ops.size _ 0 j a _ (by simp) ?_ ?_ ?_ ?_
 unfold outs;exact Rc (List.length_filter_le _ _) (by simp)
 intro x o ho hx;simp[(QP.1 ho).1] at hx
 have hnone:∀x,¬((SL ops.size false).getD x false=true):=by
  intro x hx
  by_cases hlt:x<ops.size<;>simp[hlt] at hx
 have h6:MR E j (nh M ops.size 0) { w with drawn:=w.drawn+1}:=by
  have hlow:∀b kb,j b=some kb->(nh M ops.size 0).get b=(M 0).get b:=fun b kb hb=>by rw[cW,c.cY (h.lt b kb hb).1]
  refine⟨fun b kb hb=>⟨QT (h.lt b kb hb).1 (c.bX (QK _) (RF _)),(h.lt b kb hb).2⟩,fun b o kb hg hb=>?_,fun b b' kb kb' hb hb' hl hl' he=>?_,h.glob⟩
  rw[hlow b kb hb] at hg;exact h.obj b o kb hg hb
  rw[hlow b kb hb] at hl;rw[hlow b' kb' hb'] at hl';exact h.inj b b' kb kb' hb hb' hl hl' he
 exact⟨RF _,⟨ht.1,fun x o d _ hx=>(hnone x hx).elim,fun d _=>ht.2 d⟩,rfl,.refl j,fun b kb h0 h1=>(by rw[h1] at h0; cases h0),h6,QK _,fun i _ hx=>(hnone i hx).elim,fun b kb h0 h1=>(by rw[h1] at h0; cases h0),fun _ _ _=>rfl,.refl _,fun i hi=>Q1 hi (Nat.not_lt_zero i)⟩
 intro x o ho _;have:¬((SL ops.size false).getD x false=true):=by
  intro hx
  by_cases hlt:x<ops.size<;>simp[hlt] at hx
 exact⟨fun hx=>(this hx).elim,fun hx=>Q1 hx (Nat.not_lt_zero x)⟩
 cases hp
end
section
variable{E:Env}{k:K}
section
variable{P:S0}{F:Fence}{n:Nat}{b:Frame}{a:Act}{ks:TO Item}{cs:TO Frame}{w:S5}{Q:Exit->Act->S5->Prop}{c:Code}
def fD:Go.step P (lone (b.atR a (.code (.scope c)::ks)) cs w)=.next (lone (b.atR a (.code c::.inScope c::ks)) cs w) :=
 step_lone_go (by simp[stepG,stepG.exec,Frame.atR])
def tT:Go.step P (lone (b.atR a (.inScope c::ks)) cs w)=.next (lone (b.atR a ks) cs w) :=
 step_lone_go (by simp[stepG,stepG.exec,Frame.atR])
def zW(h:c.wpIn F n P (Exit.noGoto Q) a w):(Code.scope c).wpIn F n P Q a w:=by
 intro b k cs hro hb hr;have h0:(lone (b.atR a (.code (.scope c)::k)) cs w).fenced P F:=fenced_calm hb hr rfl;obtain⟨e,a₁,w₁,hq,harr⟩:=h b (.inScope c::k) cs hro hb hr;cases e with
 | normal=>exact⟨.normal,a₁,w₁,hq,.head h0 fD (StepsIn.trans harr (.one (fenced_calm hb hr rfl) tT))⟩
 | exit id =>
  refine⟨.exit id,a₁,w₁,hq,fun k' hk=>.head h0 fD (harr.1 k' (by simpa [exitTo] using hk)),fun hr' hk=>?_⟩
  obtain⟨k₁,h1,h2⟩:=harr.2 hr' (by simpa [exitTo] using hk)
  exact⟨k₁,h1,.head h0 fD h2⟩
 | goto l=>exact hq.elim
 | ret=>exact⟨.ret,a₁,w₁,hq,ArrivesIn.of_steps (k:=k) (e:=.ret) (.one h0 fD) harr⟩
 | panic ch=>exact⟨.panic ch,a₁,w₁,hq,ArrivesIn.of_steps (k:=k) (e:=.panic ch) (.one h0 fD) harr⟩
 | outgrown=>exact⟨.outgrown,a₁,w₁,hq,ArrivesIn.of_steps (k:=k) (e:=.outgrown) (.one h0 fD) harr⟩
def lM(h:nR F n P c Q a w):(Code.loop c).wpIn F n P Q a w:=fun b k cs hro hb hr =>
 let⟨e,a',w',hq,harr⟩:=h b k cs hro hb hr
 ⟨e,a',w',hq,.of_steps (.one (fenced_calm hb hr rfl) stepR_loop) harr⟩
def jV(h:c.wpIn F n P (Exit.then (fun a' w'=>nR F n P c Q a' w') Q) a w):nR F n P c Q a w:=by
 intro b k cs hro hb hr;obtain⟨e,a₁,w₁,hq,harr⟩:=h b (.inLoop c::k) cs hro hb hr;cases e with
 | normal =>
  obtain⟨e₂,a₂,w₂,hq₂,harr₂⟩:=hq b k cs hro hb hr;exact⟨e₂,a₂,w₂,hq₂,.of_steps (StepsIn.trans harr (.one (fenced_calm hb hr rfl) stepR_inLoop)) harr₂⟩
 | exit id=>exact⟨_,a₁,w₁,hq,.pass (x:=.inLoop c) rfl (fun _ _=>.inl (by simp)) harr⟩
 | goto l=>exact⟨_,a₁,w₁,hq,.pass (x:=.inLoop c) rfl (fun _ _=>.inl (by simp)) harr⟩
 | ret=>exact⟨_,a₁,w₁,hq,.pass (x:=.inLoop c) rfl (fun _ _=>.inl (by simp)) harr⟩
 | panic ch=>exact⟨_,a₁,w₁,hq,.pass (x:=.inLoop c) rfl (fun _ _=>.inl (by simp)) harr⟩
 | outgrown=>exact⟨_,a₁,w₁,hq,.pass (x:=.inLoop c) rfl (fun _ _=>.inl (by simp)) harr⟩
end
def k7.from{j j1:aN}{m m1 m':TS}{w w1 w':S5}{N n:Nat}{e:TT}{t:Tm}{e':Exit}{a':Act}(h:MR E j m w)(s:Sim E j m w j1 m1 w1)(q:k7 E j1 m1 w1 N n e t m' e' a' w'):k7 E j m w N n e t m' e' a' w' :=
 let⟨he,j2,s2,ht,hm⟩:=q
 ⟨he,j2,s.trans h s2,ht,hm⟩
def yK{j:aN}{m:TS}{w:S5}(h:MR E j m w){t:SY}{x x' v:SX}(e:dK E.P t x m=some v)(hx:VR j x x') :
  ∃v',(do loadVar t (<-asAddr x'):Sem SX).run E.P w=.ok v' w/\VR j v v':=by
 obtain⟨v',h1,h2⟩:=xA h e hx;refine⟨v',?_,h2⟩;unfold dK at e
 split at e
 ·cases hx with
  | ptr hj =>
   simp only[Instr.loadAt,Instr.sureAddr,TY,TZ,TX] at h1;simp only[asAddr,TY,TZ,TX];exact h1
 cases e
def kj{j:aN}{m:TS}{w:S5}(h:MR E j m w){n:Nat}{t:Tm}{tmps:TW SX}(ht:TR n j t tmps){f:ResultVar->Sem SX}(h1:∀i,f (.tmp i)=pure (tmps.getD i undef))
  (h2:∀a ty,f (.cell a ty)=(do loadVar ty (<-asAddr (tmps.getD a undef)))) :
  ∀{rs:TO ResultVar} {vs:TO SX},cE E t m rs=some vs->∃vs',(rs.mapM f).run E.P w=.ok vs' w/\LR j vs vs'
 | [],vs,e=>by cases e; exact⟨[],rfl,.nil j⟩
 | .tmp i::rs,vs,e=>by
  simp only[cE] at e;obtain⟨vs0,e0,rfl⟩:=map_some e;obtain⟨vs',r1,r2⟩:=kj h ht h1 h2 e0;exact⟨tmps.getD i undef::vs',by simp only[List.mapM_cons,h1,TY,TZ,TX,r1],.cons (ht.2 i) r2⟩
 | .cell a ty::rs,vs,e=>by
  simp only[cE] at e
  split at e
  rename_i v vs0 hv hvs;cases e;obtain⟨vs',r1,r2⟩:=kj h ht h1 h2 hvs;obtain⟨v',l1,l2⟩:=yK h hv (ht.2 a);refine⟨v'::vs',?_,.cons l2 r2⟩;rw[List.mapM_cons,TY,h2,l1];simp only[TY,TZ,TX,r1]
  cases e
def wU{j:aN}{m:TS}{w:S5}(h:MR E j m w){n:Nat}{t:Tm}{tmps:TW SX}(ht:TR n j t tmps){f:ResultVar->Sem SX}(h1:∀i,f (.tmp i)=pure (tmps.getD i undef))
  (h2:∀a ty,f (.cell a ty)=(do loadVar ty (<-asAddr (tmps.getD a undef)))) {rs:TW ResultVar} {vs:TO SX} (e:cE E t m rs.toList=some vs) :
  ∃v',(do let vs <-rs.mapM f; pure (if h:vs.size=1 then vs[0] else .tuple vs):Sem SX).run E.P w=.ok v' w/\VR j (gU vs) v':=by
 obtain⟨l⟩:=rs;simp only[List.mapM_toArray,TY,Sem.run_map];obtain⟨vs',h1,h2⟩:=kj h ht h1 h2 e;rw[h1];simp only[TX,TZ];cases h2':vs' with
 | nil =>
  subst h2';have hv:vs=[]:=by have:=h2.1; simp at this; exact this
  subst hv;exact⟨_,rfl,.tuple' (by simpa using LR.nil j)⟩
 | cons v' l' =>
  subst h2';cases hv:vs with
  | nil=>subst hv; exact Q1 h2.1 (by simp)
  | cons v l =>
   subst hv;cases l' with
   | nil =>
    have hl:l=[]:=by have:=h2.1; simp at this; exact this
    subst hl;exact⟨_,rfl,h2.head⟩
   | cons v2' l2' =>
    cases l with
    | nil=>exact Q1 h2.1 (by simp)
    | cons v2 l2=>exact⟨_,rfl,.tuple' (by simpa using h2)⟩
def qp{j:aN}{m:TS}{w:S5}(h:MR E j m w){n:Nat}{t:Tm}{tmps:TW SX}(ht:TR n j t tmps){fn:Func}{vs:TO SX}(e:cE E t m fn.results.toList=some vs) :
  ∃v',(results fn tmps).run E.P w=.ok v' w/\VR j (gU vs) v' :=
 wU h ht (fun _=>rfl) (fun _ _=>rfl) e
def Sim.shut{j j':aN}{m m':TS}{w w':S5}(s:Sim E j m w j' m' w'){r:Nat}(hr:w'.heap[r]? = some (.deferred (some [])))(hs:w.heap.size<=r)(o:Obj):Sim E j m w j' m' (w'.putObj r o) where
 ext:=s.ext
 le:=s.le
 new:=s.new
 mr:=⟨fun b k e=>⟨(s.mr.lt b k e).1,by simpa using(s.mr.lt b k e).2⟩,fun b o k hg e=>by
   obtain⟨o',h1,h2⟩:=s.mr.obj b o k hg e;have hne:k.c≠r:=xn s.mr hr b k e (by rw[hg]; rfl)
   exact⟨o',by rw[World.putObj_heap_other hne]; exact h1,h2⟩,s.mr.inj,s.mr.glob⟩
 size:=by simpa using s.size
 full:=s.full
 away:=s.away
 fresh:=s.fresh
 frame:=fun c hc H=>by rw[World.putObj_heap_other (by omega)]; exact s.frame c hc H
 calm:=s.calm
def kn{fn:Func}{tmps:TW SX}{R:Ending->S5->Prop}{j j':aN}{m m':TS}{w:S5}
  (hR:∀w'',Sim E j m w j' m' w''->∃v,(results fn tmps).run E.P w''=.ok v w''/\R (.returned v) w'') :
  ∀(rs:TO Nat) (w':S5),Sim E j m w j' m' w'->rs.Nodup->(∀r∈rs,w.heap.size<=r/\w'.heap[r]? = some (.deferred (some [])))->LeavesInM Fence.wide 0 E.P fn tmps R (rs.map rC) .returning w'
 | [],w',s,_,_=>hR w' s
 | r::rs,w',s,hn,hr=>by
  have h0:=hr r (by simp)
  refine⟨by simp,.inl ⟨r,w'.putObj r (.deferred none),rfl,run_takeDeferred h0.2,?_⟩⟩
  refine kn hR rs _ (s.shut h0.2 h0.1 _) (Sb.1 hn).2 fun x hx=>?_;have hne:x≠r:=fun e=>(Sb.1 hn).1 (e▸hx);have h1:=hr x (by simp[hx])
  exact⟨h1.1,by rw[World.putObj_heap_other hne]; exact h1.2⟩
def rB:∀(vs:TO SX) (i:Nat) (t:Tm) (d:Nat),(Trie.ofList vs i t).get d=if i<=d/\d<i+vs.length then vs[d-i]? else t.get d
 | [],i,t,d=>by
  have:¬(i<=d/\d<i+([]:TO SX).length):=by simp only[List.length_nil]; omega
  rw[QF this]; rfl
 | v::vs,i,t,d=>by
  simp only[Trie.ofList,rB vs (i+1),Trie.bl]
  by_cases h:d=i
  subst h;rw[S8,QH rfl,QH (by simp)]; simp
  by_cases h2:i<=d/\d<i+(v::vs).length
  have h3:i+1<=d/\d<i+1+vs.length:=by simp at h2; omega
  rw[QH h2,QH h3];obtain⟨x,hx⟩:∃x,d-i=x+1:=⟨d-i-1,by omega⟩
  rw[hx,show d-(i+1)=x by omega]; rfl
  have h3:¬(i+1<=d/\d<i+1+vs.length):=by simp at h2; omega
  rw[QF h2,QF h3,QF h]
def TR.enter{j:aN}{args args':TO SX}(h:LR j args args')(nt:Nat):TR (max args.length nt) j (Trie.ofList args 0 .nil) (args'.toArray++SL (nt-args'.toArray.size) undef):=by
 refine⟨by simp[h.1]; omega,fun i=>?_⟩
 unfold Tm.at
 rw[rB]
 by_cases hi:i<args.length
 rw[S9]
 have hi':i<args'.length:=h.1▸hi;obtain⟨v',h1,h2⟩:=h.2 i args[i] (by simp[hi])
 have e1:(args[i-0]?).getD undef=args[i]:=by simp[hi]
 have e2:(args'.toArray++SL (nt-args'.toArray.size) undef).getD i undef=v':=by
  rw[Array.getD_eq_getD_getElem?,Array.getElem?_append_left (by simpa using hi')]
  simp[h1]
 rw[e1,e2]; exact h2
 rw[S8]
 have e2:(args'.toArray++SL (nt-args'.toArray.size) undef).getD i undef=undef:=by
  rw[Array.getD_eq_getD_getElem?,Array.getElem?_append_right (by simp[<-h.1]; omega)]
  simp only[Array.getElem?_replicate]
  split<;>rfl
 rw[e2,Trie.get_nil]; exact VR.undef j
def vO(hE:EnvOk E)(hk:∀tk r,k tk=some r->cG E tk r){f:T1}{args:TO SX}{m:TS}{r:Res}(h:step E k (.call f args m)=some r):cG E (.call f args m) r:=by
 simp only[step] at h
 split at h
 ·rename_i r0 hp;obtain⟨v,m'⟩:=r0;cases h;unfold ub at hp;cases hpf:E.cH f with
  | none=>rw[hpf] at hp; cases hp
  | some p =>
   rw[hpf] at hp;exact⟨v,m',rfl,fun j w args' hm hl=>hE.cH f p hpf args m v m' hp j w args' hm hl⟩
 ·rename_i hp
  split at h
  ·rename_i fn hfn
   split at h
   ·rename_i c hb
    split at h
    cases h
    ·rename_i e t m' hne hkc;obtain⟨vs,hvs,rfl⟩:=map_some h;obtain⟨e0,t0,m0,hr0,H⟩:=hk _ _ hkc;cases hr0;refine⟨gU vs,m',rfl,fun j w args' hm hl=>.inl ⟨hE.call f fn c hfn hb _ w,?_⟩⟩;refine callsIn_of_wp_marks hfn hb trivial ?_;refine wpIn_mono (H j w { tmps:=args'.toArray++SL (fn.ntmps-args'.toArray.size) undef,defers:=[]} Fence.wide w.heap.size hm (TR.enter hl fn.ntmps) rfl (Marks.nil _ _) (QK _)) ?_;rintro e' a' w' ⟨rfl,j',s,ht,rs,hnd,hds,hrs⟩;have hleave:LeavesInM Fence.wide 0 E.P fn a'.tmps (fun e w'=>∃v,e=.returned v/\iC E j m w (gU vs) m' v w') a'.defers .returning w':=by
      rw[hds];refine kn (fun w'' s'=>?_) rs w' s hnd hrs;obtain⟨v',hv1,hv2⟩:=qp s'.mr ht hvs;exact⟨v',hv1,v',rfl,j',s',hv2⟩
     cases e with
     | normal=>exact hleave
     | ret=>exact hleave
     | exit id=>exact(hne id rfl).elim
    cases h
   cases h
  cases h
def TR.set{n:Nat}{j:aN}{t:Tm}{tmps:TW SX}{p:Tmp}{v v':SX}(h:TR n j t tmps)(hv:VR j v v')(hp:p<n):TR n j (t.set p v) (tmps.setIfInBounds p v') :=
 TR.put (a:={ tmps:=tmps,defers:=[]}) (dst:=some p) h hv (by
  have:Nat.blt p n=true:=by simpa using hp
  simp only[jy,this])
def nG{n:Nat}{j:aN}:∀{ps:TO Tmp} {vs vs':TO SX} {t t':Tm} {tmps:TW SX},iu n t ps vs=some t'->LR j vs vs'->TR n j t tmps ->
  TR n j t' ((ps.zip vs').foldl (fun tm (x:Tmp×SX)=>tm.setIfInBounds x.1 x.2) tmps)
 | [],vs,vs',t,t',tmps,h,hl,ht=>by cases h; exact ht
 | p::ps,[],vs',t,t',tmps,h,hl,ht=>by
  cases h;cases hl.da;exact ht
 | p::ps,v::vs,vs',t,t',tmps,h,hl,ht=>by
  obtain⟨v',l',rfl,h1,h2⟩:=hl.cons_inv;simp only[iu] at h
  split at h
  rename_i hlt
  show TR n j t' ((ps.zip l').foldl (fun tm (x:Tmp×SX)=>tm.setIfInBounds x.1 x.2) (tmps.setIfInBounds p v'))
  exact nG h h2 (ht.set h1 (by simpa using hlt))
  cases h
def rY(ps:TW Tmp)(vs:TO SX)(tmps:TW SX) :
  (ps.zip vs.toArray).foldl (fun tm (x:Tmp×SX)=>tm.setIfInBounds x.1 x.2) tmps=(ps.toList.zip vs).foldl (fun tm (x:Tmp×SX)=>tm.setIfInBounds x.1 x.2) tmps:=by
 rw[<-Array.foldl_toList,Array.toList_zip]
def MR.sG{j:aN}{m:TS}{w:S5}(h:MR E j m w){b:Nat}{kb:Blk}(hk:j b=some kb){r:ALoop}(hg:m.get b=some (.loop r)) :
  ∃r',w.heap[kb.c]? = some (.loop r')/\r.state=r'.state/\r.pending=r'.pending/\r.params=r'.params/\r.assign=r'.assign/\r.body=r'.body/\TR r.n j r.tmps r'.tmps:=by
 obtain⟨o,h1,h2⟩:=h.obj b _ kb hg hk;cases o with
 | loop r'=>exact⟨r',h1,h2⟩
 | _=>exact h2.elim
def tQ (hk:∀tk r,k tk=some r->cG E tk r) {l:Nat} {args:TO SX} {m:TS} {r:Res} (h:step E k (.round l args m)=some r):cG E (.round l args m) r:=by
 simp only[step] at h
 split at h
 ·rename_i rec hl
  split at h
  ·rename_i hst
   split at h
   cases h
   ·rename_i hlen
    split at h
    cases h
    ·rename_i t0 hsp
     split at h
     ·rename_i t1 m1 hka
      split at h
      ·rename_i r1 h2
       split at h
       ·rename_i h5
        split at h
        ·rename_i e t2 m2 hkb
         split at h
         ·rename_i r2 h3;cases h;obtain⟨e0,t0',m0',h1,HA⟩:=hk _ _ hka;cases h1;obtain⟨e0,t0',m0',h1,HB⟩:=hk _ _ hkb;cases h1;refine⟨_,_,rfl,fun j w kb args' hm hj hargs=>?_⟩;obtain⟨rc,hrc,c4,c5,c0,c1,c2,c3⟩:=hm.sG hj hl;have hsz:args'.toArray.size=rc.params.size:=by
           rw[<-c0]; have:=hargs.1; simp; omega
          refine⟨_,_,_,_,run_yield hrc hsz,?_⟩;refine roundIn_of_wpIn trivial ?_;have htm:TR rec.n j t0 ((rc.params.zip args'.toArray).foldl (fun tm (x:Tmp×SX)=>tm.setIfInBounds x.1 x.2) rc.tmps):=by
           rw[rY,<-c0];exact nG hsp hargs c3
          have HA':=HA j w { tmps:=(rc.params.zip args'.toArray).foldl (fun tm (x:Tmp×SX)=>tm.setIfInBounds x.1 x.2) rc.tmps,defers:=[]} (Fence.wide.inRound kb.c) w.heap.size hm htm ⟨kb,hj,rfl⟩ (Marks.nil _ _) (QK _);rw[<-c1,<-c2];refine wpIn_mono HA' ?_;rintro e' a0 w1 ⟨rfl,j1,s1,h6,h7⟩;have h0:=s1.le _ _ hj;obtain⟨r0,h8,d0,d1,d2,d3,d4,d5⟩:=s1.mr.sG h0 h2;refine⟨_,run_beginRound h8 (by rw[<-d0]; exact h5),?_⟩
          have s2:Sim E j1 m1 w1 j1 (m1.set l (.loop { r1 with state:=.busy})) (w1.putObj kb.c (.loop { r0 with state:=.busy})) :=
           ig s1.mr h0 (by rw[h2]; rfl) ⟨rfl,d1,d2,d3,d4,d5⟩
          have HB':=HB j1 (w1.putObj kb.c (.loop { r0 with state:=.busy})) a0 (Fence.wide.inRound kb.c) w.heap.size s2.mr h6 ⟨kb,h0,rfl⟩ (h7.GV s1.mr s2) (Rc s1.size s2.size);refine wpIn_mono HB' ?_;rintro e' a1 w2 ⟨rfl,j2,s3,h10,h11⟩;have h4:=s3.le _ _ h0;obtain⟨r3,h9,f3,f4,f0,f1,f5,f2⟩:=s3.mr.sG h4 h3;have fin:∀jump:TN Code,∃v w',(Instr.endRound kb.c jump).run E.P w2=.ok v w'/\∃v',Ending.returned v=.returned v'/\iC E j m w (.bool jump.isNone) (m2.set l (.loop { r2 with state:=if jump.isNone then .ready else .done,pending:=jump})) v' w':=by
           intro jump;refine⟨_,_,run_endRound jump h9,_,rfl,j2,?_,.bool _⟩;have s4:Sim E j2 m2 w2 j2 (m2.set l (.loop { r2 with state:=if jump.isNone then .ready else .done,pending:=jump})) (w2.putObj kb.c (.loop { r3 with state:=if jump.isNone then .ready else .done,pending:=jump})) :=
            ig s3.mr h4 (by rw[h3]; rfl) ⟨rfl,rfl,f0,f1,f5,f2⟩
           exact s1.trans hm (s2.trans s1.mr (s3.trans s2.mr s4))
          cases e with
          | normal=>exact fin none
          | ret=>exact fin (some .ret)
          | exit id=>exact fin (some (.exit id))
         cases h
        cases h
       cases h
      cases h
     cases h
  cases h
 cases h
def C2{j:aN}{m:TS}{w:S5}(h:MR E j m w)(o:Obj):Sim E j m w j m (w.alloc o):=by
 have hget:∀c,c<w.heap.size->(w.alloc o).heap[c]? = w.heap[c]?:=fun c hc=>by
  show(w.heap.push o)[c]? = w.heap[c]?
  rw[Si,S8]
 exact{ Sim.refl h with
  mr:=⟨fun b k e=>⟨(h.lt b k e).1,by rw[World.size_alloc]; exact Nat.lt_succ_of_lt (h.lt b k e).2⟩,fun b o k hg e=>by
    obtain⟨o',h1,h2⟩:=h.obj b o k hg e;exact⟨o',by rw[hget _ (h.lt b k e).2]; exact h1,h2⟩,h.inj,h.glob⟩
  size:=by rw[World.size_alloc]; omega
  frame:=fun c hc _=>hget c hc}
def ng{P:S0}{w:S5}{l:Nat}{r:Loop}(h:w.heap[l]? = some (.loop r))(fn:T1)(tmps:TW SX)(ps:TW Tmp)(assign body:Code) :
  (Instr.enterLoop fn tmps ps assign body (some l)).run P w=.ok (w.heap.size,[]) (w.alloc (.loop { state:=.ready,pending:=none,fn,tmps,params:=ps,assign,body,defers:=r.defers})):=by
 unfold Instr.enterLoop;simp only[TY,run_getLoop h,run_newObj_alloc,Result.andThen,TZ]
def tG (hk:∀tk r,k tk=some r->cG E tk r) {g:SZ} {ps:TW Tmp} {assign body:Code} {fr:Fr} {m:TS} {r:Res} (h:step E k (.code (.rangeFunc g ps assign body) fr m)=some r) :
  cG E (.code (.rangeFunc g ps assign body) fr m) r:=by
 simp only[step] at h
 split at h
 ·rename_i gf first captured hg har
  split at h
  ·rename_i v0 m2 hkc
   split at h
   ·rename_i r2 h2;obtain⟨v1,m1',h4,HC⟩:=hk _ _ hkc;cases h4;have common:r2.state≠.busy->∀(j:aN) (w:S5) (a:Act) (F:Fence) (N:Nat),MR E j m w->TR fr.n j fr.tmps a.tmps->j4 j fr.round F->Marks N w a.defers->N<=w.heap.size->∀Q:Exit->Act->S5->Prop,
      (∀(j2:aN) (w2:S5) (a0:Act),Sim E j m w j2 (m2.set m.next (.loop { r2 with state:=.exhausted})) w2->TR fr.n j2 fr.tmps a0.tmps->Marks N w2 a0.defers ->
       (r2.pending=none->Q .normal a0 w2)/\(∀c,r2.pending=some c->c.wpIn F 0 E.P Q a0 w2))->(Code.rangeFunc g ps assign body).wpIn F 0 E.P Q a w:=by
     intro hbusy j w a F N hm ht hro hmk hN Q hQ;have hF:=hro.wide;refine wpIn_rangeFunc fun fnId _=>?_;have hfv:=aR hm ht hg;generalize hfe:a.eval g=fv at hfv;cases hfv with
     | func h5 h6 h7 h8 =>
     rename_i ys ds;have enter:∃(l:Nat) (mark:TO Deferred) (w1:S5) (j1:aN) (kb:Blk),(Instr.enterLoop fnId a.tmps ps assign body F.round).run E.P w=.ok (l,mark) w1/\kb.c=l/\j1 m.next=some kb /\
       Sim E j m w j1 (m.alloc (.loop { state:=.ready,pending:=none,fn:=fr.fn,tmps:=fr.tmps,n:=fr.n,params:=ps,assign,body})) w1/\Marks N w1 (mark++a.defers):=by
      unfold jO at har;simp only[QJ] at har;have hround:=har.2;cases hfr:fr.round with
      | none =>
       rw[hfr] at hro;have hFw:F=Fence.wide:=hro;subst hFw;have s0:=C2 hm (.deferred (some []));have s1:=mD s0.mr (ao:=.loop { state:=.ready,pending:=none,fn:=fr.fn,tmps:=fr.tmps,n:=fr.n,params:=ps,assign,body}) (mo:=none)
        (co:=.loop { state:=.ready,pending:=none,fn:=fnId,tmps:=a.tmps,params:=ps,assign,body,defers:=w.heap.size}) ⟨rfl,rfl,rfl,rfl,rfl,ht⟩
       refine⟨_,_,_,_,_,run_enterLoop_outer fnId a.tmps ps assign body,?_,aN.bV _ _ _,s0.trans hm s1,?_⟩
       show(w.alloc (.deferred (some []))).heap.size=_
       rw[World.size_alloc]
       obtain⟨rs,n1,n0,n3⟩:=(hmk.GV hm s0).GV s0.mr s1;obtain⟨rs',p2,p0,p1⟩:=hmk;have hrs:rs=rs':=by
        have e:=n0.symm.trans p0;refine List.map_inj_right (f:=rC) (fun x y hxy=>?_) |>.1 e
        simpa [rC] using hxy
       subst hrs;refine⟨w.heap.size::rs,Sb.2 ⟨fun hin=>?_,n1⟩,by simp[rC,n0],fun x hx=>?_⟩
       have:=(QP.1 (p1 _ hin).2).1;omega
       rcases QY.1 hx with rfl|hx
       refine⟨hN,?_⟩;have hlt:w.heap.size<(w.alloc (.deferred (some []))).heap.size:=by rw[World.size_alloc]; omega
       rw[s1.frame _ hlt fun b kb hb hl he=>Q1 (hm.lt b kb hb).2 (by omega)]
       exact World.alloc_heap_new _ _
       exact n3 x hx
      | some l0 =>
       rw[hfr] at hro hround;obtain⟨k0,h9,rfl⟩:=hro;simp only at hround
       split at hround
       rename_i r3 h10;obtain⟨r1,h11,_⟩:=hm.sG h9 h10;have s1:=mD hm (ao:=.loop { state:=.ready,pending:=none,fn:=fr.fn,tmps:=fr.tmps,n:=fr.n,params:=ps,assign,body}) (mo:=none)
        (co:=.loop { state:=.ready,pending:=none,fn:=fnId,tmps:=a.tmps,params:=ps,assign,body,defers:=r1.defers}) ⟨rfl,rfl,rfl,rfl,rfl,ht⟩
       exact⟨_,_,_,_,_,ng h11 fnId a.tmps ps assign body,rfl,aN.bV _ _ _,s1,by simpa using hmk.GV hm s1⟩
       cases hround
     obtain⟨l,mark,w1,j1,kb,e1,e2,e0,s1,h12⟩:=enter;subst e2;have hprim:(E.cH gf).isSome=false:=by
      unfold jO at har;simp only[QJ,hg] at har;cases hp:E.cH gf with
      | none=>rfl
      | some p=>rw[hp] at har; simp at har
     have hl:LR j1 (first.toList++[Value.func (.yield m.next) #[] #[]]++captured.toList) (ys.toList++[Value.func (.yield kb.c) #[] #[]]++ds.toList) :=
      (((LR.fu h5 h6).mono s1.le).append (.cons (.yield e0 rfl (fun i a _=>by simp at a)) (.nil _))).append ((LR.fu h7 h8).mono s1.le)
     have hcs:=HC j1 w1 _ s1.mr hl;have harr:(ys.toList++[Value.func (.yield kb.c) #[] #[]]++ds.toList).toArray=ys++#[Value.func (.yield kb.c) #[] #[]]++ds:=by apply RT.1; simp
     rw[harr] at hcs;rcases hcs with⟨hr,hci⟩|⟨hpr,_⟩
     ·refine⟨kb.c,mark,w1,{ target:=.fn (.func gf) ds,args:=ys++#[Value.func (.yield kb.c) #[] #[]]},w1,gf,ys++#[Value.func (.yield kb.c) #[] #[]]++ds,w1,e1,?_,fun f' _=>hF.fn f',?_,hF.depth,?_⟩
      have hmap:Array.map a.eval #[Operand.const (Value.func (Fn.yield kb.c) #[] #[])]=#[Value.func (Fn.yield kb.c) #[] #[]]:=by
       apply RT.1; rw[Array.toList_map]; rfl
      simp only[resolve,hfe,Deferred.ofValue,TZ,hmap]
      simp only[invoke]; exact hr
      ·refine CallsIn.mono (hF.calls hci) ?_;rintro e' w3 ⟨v',rfl,j3,s3,hv⟩;have h3:=s3.le _ _ e0;obtain⟨r0,h13,f1,f0,f2,f3,f5,f4⟩:=s3.mr.sG h3 h2;have s2:Sim E j3 m2 w3 j3 (m2.set m.next (.loop { r2 with state:=.exhausted})) (w3.putObj kb.c (.loop { r0 with state:=.exhausted})) :=
        ig s3.mr h3 (by rw[h2]; rfl) ⟨rfl,f0,f2,f3,f5,f4⟩
       have sall:=s1.trans hm (s3.trans s1.mr s2);refine⟨r0.pending,_,run_endLoop h13 (by rw[<-f1]; exact hbusy),?_⟩
       have hfin:=hQ j3 _ { a with defers:=mark++a.defers} sall (ht.mono sall.le) ((h12.GV s1.mr s3).GV s3.mr s2);rw[f0] at hfin;generalize(w3.putObj kb.c (.loop { r0 with state:=.exhausted}))=w4 at hfin ⊢;cases hp:r0.pending with
       | none=>exact hfin.1 hp
       | some c=>exact hfin.2 c hp
     rw[hprim] at hpr; cases hpr
    split at h
    cases h
    rename_i hbusy
    split at h
    rename_i hpend;cases h;refine⟨.normal,fr.tmps,_,rfl,fun j w a F N hm ht hro hmk hN=>?_⟩;refine common hbusy j w a F N hm ht hro hmk hN _ fun j2 w2 a0 s2 h0 h1=>?_;exact⟨fun _=>⟨rfl,j2,s2,h0,h1⟩,fun c hc=>Q1 (hpend.symm.trans hc) (by simp)⟩
    rename_i c hpend
    split at h
    rename_i e t m' hkp;cases h;obtain⟨e3,t0,m0,h14,HP⟩:=hk _ _ hkp;cases h14;refine⟨e,t,m',rfl,fun j w a F N hm ht hro hmk hN=>?_⟩;refine common hbusy j w a F N hm ht hro hmk hN _ fun j2 w2 a0 s2 h0 h1=>?_;refine⟨fun hc=>Q1 (hpend.symm.trans hc) (by simp),fun c' hc=>?_⟩
    rw[hpend] at hc; cases hc;exact wpIn_mono (HP j2 w2 a0 F N s2.mr h0 (hro.mono s2.le) h1 (Rc hN s2.size)) fun e' a' w' q=>q.from hm s2
    cases h
   cases h
  cases h
 cases h
def wH(hE:EnvOk E)(hk:∀tk r,k tk=some r->cG E tk r){c:Code}{fr:Fr}{m:TS}{r:Res}(h:step E k (.code c fr m)=some r):cG E (.code c fr m) r:=by
 cases c with
 | skip =>
  simp only[step,Option.some.injEq] at h;subst h;exact⟨.normal,fr.tmps,m,rfl,fun j w a F N hm ht hro hd hN=>wpIn_skip ⟨rfl,j,.refl hm,ht,hd⟩⟩
 | label l =>
  simp only[step,Option.some.injEq] at h;subst h;exact⟨.normal,fr.tmps,m,rfl,fun j w a F N hm ht hro hd hN=>wpIn_label ⟨rfl,j,.refl hm,ht,hd⟩⟩
 | exit id =>
  simp only[step,Option.some.injEq] at h;subst h;exact⟨.exit id,fr.tmps,m,rfl,fun j w a F N hm ht hro hd hN=>wpIn_exit ⟨rfl,j,.refl hm,ht,hd⟩⟩
 | ret =>
  simp only[step,Option.some.injEq] at h;subst h;exact⟨.ret,fr.tmps,m,rfl,fun j w a F N hm ht hro hd hN=>wpIn_ret ⟨rfl,j,.refl hm,ht,hd⟩⟩
 | seq x y =>
  simp only[step] at h
  split at h
  rename_i t1 m1 h1;obtain⟨e0,t0,m0,hr0,H1⟩:=hk _ _ h1;cases hr0;obtain⟨e2,t2,m2,rfl,H2⟩:=hk _ _ h;refine⟨e2,t2,m2,rfl,fun j w a F N hm ht hro hd hN=>wpIn_seq (wpIn_mono (H1 j w a F N hm ht hro hd hN) ?_)⟩;rintro e' a' w' ⟨rfl,j',s,ht',hd'⟩;exact wpIn_mono (H2 j' w' a' F N s.mr ht' (hro.mono s.le) hd' (Rc hN s.size)) fun _ _ _ q=>q.from hm s
  ·rename_i e1 t1 m1 hne h1;cases h;obtain⟨e0,t0,m0,hr0,H1⟩:=hk _ _ h1;cases hr0;refine⟨e1,t1,m1,rfl,fun j w a F N hm ht hro hd hN=>wpIn_seq (wpIn_mono (H1 j w a F N hm ht hro hd hN) ?_)⟩;rintro e' a' w' q;have he:=q.1;subst he;cases e1 with
   | normal=>exact(hne rfl).elim
   | exit id=>exact q
   | ret=>exact q
  cases h
 | cond x a b =>
  simp only[step] at h
  split at h
  rename_i hx;obtain⟨e2,t2,m2,rfl,H⟩:=hk _ _ h;refine⟨e2,t2,m2,rfl,fun j w a F N hm ht hro hd hN=>?_⟩;have hv:=aR hm ht hx;generalize hxe:a.eval x=xv at hv;cases hv;exact wpIn_cond_true hxe (H j w a F N hm ht hro hd hN)
  rename_i hx;obtain⟨e2,t2,m2,rfl,H⟩:=hk _ _ h;refine⟨e2,t2,m2,rfl,fun j w a F N hm ht hro hd hN=>?_⟩;have hv:=aR hm ht hx;generalize hxe:a.eval x=xv at hv;cases hv;exact wpIn_cond_false hxe (H j w a F N hm ht hro hd hN)
  cases h
 | block id c =>
  simp only[step] at h
  split at h
  rename_i id' t1 m1 h1;obtain⟨e0,t0,m0,hr0,H⟩:=hk _ _ h1;cases hr0
  split at h
  rename_i hid;cases h;refine⟨.normal,t1,m1,rfl,fun j w a F N hm ht hro hd hN=>wpIn_block (wpIn_mono (H j w a F N hm ht hro hd hN) ?_)⟩;rintro e' a' w' ⟨rfl,q⟩;simp only[EV,Exit.inBlock,hid,if_true];exact⟨rfl,q⟩
  rename_i hid;cases h;refine⟨.exit id',t1,m1,rfl,fun j w a F N hm ht hro hd hN=>wpIn_block (wpIn_mono (H j w a F N hm ht hro hd hN) ?_)⟩;rintro e' a' w' ⟨rfl,q⟩;simp only[EV,Exit.inBlock,hid,if_false];exact⟨rfl,q⟩
  ·rename_i e1 t1 m1 hne h1;cases h;obtain⟨e0,t0,m0,hr0,H⟩:=hk _ _ h1;cases hr0;refine⟨e1,t1,m1,rfl,fun j w a F N hm ht hro hd hN=>wpIn_block (wpIn_mono (H j w a F N hm ht hro hd hN) ?_)⟩;rintro e' a' w' ⟨rfl,q⟩;cases e1 with
   | normal=>exact⟨rfl,q⟩
   | exit id=>exact(hne _ rfl).elim
   | ret=>exact⟨rfl,q⟩
  cases h
 | loop c =>
  simp only[step] at h;obtain⟨e2,t2,m2,rfl,H⟩:=hk _ _ h;exact⟨e2,t2,m2,rfl,fun j w a F N hm ht hro hd hN=>lM (H j w a F N hm ht hro hd hN)⟩
 | scope c =>
  simp only[step] at h
  split at h
  rename_i e1 t1 m1 h1;cases h;obtain⟨e0,t0,m0,hr0,H⟩:=hk _ _ h1;cases hr0;refine⟨e1,t1,m1,rfl,fun j w a F N hm ht hro hd hN=>zW (wpIn_mono (H j w a F N hm ht hro hd hN) ?_)⟩;rintro e' a' w' ⟨rfl,q⟩;cases e1<;>exact⟨rfl,q⟩
  cases h
 | region id ops draw =>
  simp only[step] at h
  split at h
  rename_i hdraw
  split at h
  rename_i ps hps
  split at h
  rename_i t1 m1 ns hr
  split at h
  rename_i hok;cases h;refine⟨.normal,t1,m1,rfl,fun j w a F N hm ht hro hd hN=>?_⟩;rw[hdraw];simp only[QJ] at hok;exact FQ hk hE.mixed hps hr hok.1 hok.2 hm ht hro.wide fun j' w' a' s ht' hds=>⟨rfl,j',s,ht',by rw[hds]; exact hd.GV hm s⟩
  cases h
  cases h
  cases h
  rename_i hdraw;have hdraw':draw=false:=by simpa using hdraw
  split at h
  rename_i t1 m1 hr;cases h;refine⟨.normal,t1,m1,rfl,fun j w a F N hm ht hro hd hN=>?_⟩;rw[hdraw'];refine wpIn_region ?_;have:=kH (ops:=ops) (n:=fr.n) (tf:=t1) (mf:=m1) hk hro.wide hm a.defers (Q:=k7 E j m w N fr.n .normal t1 m1) (fun j' w' a' s ht' hds=>⟨rfl,j',s,ht',by rw[hds]; exact hd.GV hm s⟩) ops.toList 0 fr.tmps m j w a rfl hr (.refl hm) ht rfl
  rw[List.range_eq_range']
  simpa using this
  cases h
 | rangeFunc g ps assign body=>exact tG hk h
 | goto l=>simp[step] at h
 | refuse why=>simp[step] at h
def wX(hk:∀tk r,k tk=some r->cG E tk r){c:Code}{fr:Fr}{m:TS}{r:Res}(h:step E k (.loop c fr m)=some r):cG E (.loop c fr m) r:=by
 simp only[step] at h
 split at h
 rename_i t1 m1 h1;obtain⟨e0,t0,m0,hr0,H1⟩:=hk _ _ h1;cases hr0;obtain⟨e2,t2,m2,rfl,H2⟩:=hk _ _ h;refine⟨e2,t2,m2,rfl,fun j w a F N hm ht hro hd hN=>jV (wpIn_mono (H1 j w a F N hm ht hro hd hN) ?_)⟩;rintro e' a' w' ⟨rfl,j',s,ht',hd'⟩;intro b k' cs hro' hb hr;obtain⟨e3,a3,w3,q,harr⟩:=H2 j' w' a' F N s.mr ht' (hro.mono s.le) hd' (Rc hN s.size) b k' cs hro' hb hr;exact⟨e3,a3,w3,q.from hm s,harr⟩
 ·rename_i e1 t1 m1 hne h1;cases h;obtain⟨e0,t0,m0,hr0,H1⟩:=hk _ _ h1;cases hr0;refine⟨e1,t1,m1,rfl,fun j w a F N hm ht hro hd hN=>jV (wpIn_mono (H1 j w a F N hm ht hro hd hN) ?_)⟩;rintro e' a' w' q;have he:=q.1;subst he;cases e1 with
  | normal=>exact(hne rfl).elim
  | exit id=>exact q
  | ret=>exact q
 cases h
def Ea(hE:EnvOk E)(hk:∀tk r,k tk=some r->cG E tk r){tk:Task}{r:Res}(h:step E k tk=some r):cG E tk r:=by
 cases tk with
 | code c fr m=>exact wH hE hk h
 | loop c fr m=>exact wX hk h
 | call f args m=>exact vO hE hk h
 | round l args m=>exact tQ hk h
def oZ(hE:EnvOk E):∀(fuel:Nat) (tk:Task) (r:Res),run E fuel tk=some r->cG E tk r
 | 0,_,_,h=>by cases h
 | n+1,_,_,h=>Ea hE (oZ hE n) h
end
section
variable{E:Env}{k k':K}
def OA(k k':K):Prop:=∀tk r,k tk=some r->k' tk=some r
def j7 (h:OA k k') {t:Tm} {m:TS} {o:Op} {x:SX × TS} (e:dR k E t m o=some x):dR k' E t m o=some x:=by
 unfold dR at e ⊢
 split at e
 ·rename_i c
  try simp only
  split at e
  ·rename_i f hc
   try simp only
   split at e
   ·rename_i g first captured args h1 h2
    try simp only[h1,h2]
    split at e
    rename_i v m' hk;rw[h _ _ hk]; exact e
    cases e
   ·rename_i l first cap args h1 h2
    try simp only[h1,h2]
    split at e
    rename_i v m' hk;rw[h _ _ hk]; exact e
    cases e
   cases e
  ·rename_i hne
   first
    | exact e
    | (split
       rename_i f hc; exact(hne f hc).elim
       exact e)
 ·rename_i hne
  first
   | exact e
   | (split
      rename_i c; exact(hne c rfl).elim
      exact e)
def ji(h:OA k k'){n:Nat}{ops:TW Oper}:∀{os:TO Oper} {t:Tm} {m:TS} {x:Tm×TS},iV k E n ops os t m=some x->iV k' E n ops os t m=some x
 | [],t,m,x,e=>e
 | o::os,t,m,x,e=>by
  simp only[iV] at e ⊢
  split at e
  ·rename_i hw;rw[QH hw]
   split at e
   ·rename_i v m' ho;rw[j7 h ho]
    try simp only
    split at e
    ·rename_i t' hp
     try simp only[hp]
     exact ji h e
    cases e
   cases e
  ·rename_i hw;rw[QF hw]
   split at e
   ·rename_i t' hp
    try simp only[hp]
    exact ji h e
   cases e
def gG(h:OA k k'){n:Nat}{ops:TW Oper}:∀{os:TO Oper} {t:Tm} {m:TS} {x:Tm×TS×TO Note},dz k E n ops os t m=some x->dz k' E n ops os t m=some x
 | [],t,m,x,e=>e
 | o::os,t,m,x,e=>by
  simp only[dz] at e ⊢
  split at e
  ·rename_i hw;rw[QH hw]
   split at e
   ·rename_i v m' ho;rw[j7 h ho]
    try simp only
    split at e
    ·rename_i t' hp
     try simp only[hp]
     split at e
     rename_i a b c hr;rw[gG h hr]; exact e
     cases e
    cases e
   cases e
  ·rename_i hw;rw[QF hw]
   split at e
   ·rename_i t' hp
    try simp only[hp]
    split at e
    rename_i a b c hr;rw[gG h hr]; exact e
    cases e
   cases e
def Cy (h:OA k k') {tk:Task} {r:Res} (e:step E k tk=some r):step E k' tk=some r:=by
 cases tk with
 | code c fr m =>
  cases c with
  | seq a b =>
   simp only[step] at e ⊢
   split at e
   rename_i t1 m1 h1;rw[h _ _ h1]; exact h _ _ e
   ·rename_i e1 t1 m1 hne h1;rw[h _ _ h1];cases e1 with
    | normal=>exact(hne rfl).elim
    | exit id=>exact e
    | ret=>exact e
   cases e
  | cond x a b =>
   simp only[step] at e ⊢
   split at e
   ·rename_i hx; try simp only[hx]
    exact h _ _ e
   ·rename_i hx; try simp only[hx]
    exact h _ _ e
   cases e
  | block id a =>
   simp only[step] at e ⊢
   split at e
   rename_i id' t1 m1 h1;rw[h _ _ h1]; exact e
   ·rename_i e1 t1 m1 hne h1;rw[h _ _ h1];cases e1 with
    | exit id'=>exact(hne _ rfl).elim
    | normal=>exact e
    | ret=>exact e
   cases e
  | loop a=>simp only[step] at e ⊢; exact h _ _ e
  | scope a =>
   simp only[step] at e ⊢
   split at e
   rename_i e1 t1 m1 h1;rw[h _ _ h1]; exact e
   cases e
  | region id ops draw =>
   simp only[step] at e ⊢
   split at e
   ·rename_i hd;rw[QH hd]
    split at e
    ·rename_i ps hps
     try simp only[hps]
     split at e
     rename_i t1 m1 ns hr;rw[gG h hr]; exact e
     cases e
    cases e
   rename_i hd;rw[QF hd]
   split at e
   rename_i t1 m1 hr;rw[ji h hr]; exact e
   cases e
  | rangeFunc f ps ars bd =>
   simp only[step] at e ⊢
   split at e
   ·rename_i g first captured hg har
    try simp only[hg,har]
    split at e
    ·rename_i v m2 hk;rw[h _ _ hk]
     try simp only
     split at e
     ·rename_i r2 hl
      try simp only[hl]
      split at e
      cases e
      ·rename_i hb;revert e;cases hs:r2.state
       case busy=>exact(hb hs).elim
       all_goals
        cases hp:r2.pending with
        | none=>intro e; exact e
        | some c =>
         intro e;simp only at e ⊢
         split at e
         rename_i e1 t1 m1 hk2;rw[h _ _ hk2]; exact e
         cases e
     cases e
    cases e
   cases e
  | _=>exact e
 | loop c fr m =>
  simp only[step] at e ⊢
  split at e
  rename_i t1 m1 h1;rw[h _ _ h1]; exact h _ _ e
  ·rename_i e1 t1 m1 hne h1;rw[h _ _ h1];cases e1 with
   | normal=>exact(hne rfl).elim
   | exit id=>exact e
   | ret=>exact e
  cases e
 | call f args m =>
  simp only[step] at e ⊢
  split at e
  ·rename_i p hp
   try simp only[hp]
   exact e
  ·rename_i hp
   try simp only[hp]
   split at e
   ·rename_i fn hf
    try simp only[hf]
    split at e
    ·rename_i c hb
     try simp only[hb]
     split at e
     cases e
     ·rename_i e1 t1 m1 hne h1;rw[h _ _ h1];cases e1 with
      | exit id=>exact(hne _ rfl).elim
      | normal=>exact e
      | ret=>exact e
     cases e
    cases e
   cases e
 | round l args m =>
  simp only[step] at e ⊢
  split at e
  ·rename_i r1 hl
   try simp only[hl]
   split at e
   ·rename_i hs
    try simp only[hs]
    split at e
    cases e
    ·rename_i hlen;rw[QF hlen]
     split at e
     cases e
     ·rename_i t0 hsp
      try simp only[hsp]
      split at e
      ·rename_i t1 m1 h1;rw[h _ _ h1]
       try simp only
       split at e
       ·rename_i r2 hl2
        try simp only[hl2]
        split at e
        ·rename_i hs2
         try simp only[hs2]
         split at e
         rename_i e2 t2 m2 h2;rw[h _ _ h2]; exact e
         cases e
        cases e
       cases e
      cases e
   cases e
  cases e
def Gr{n:Nat}{tk:Task}{r:Res}:run E n tk=some r->run E (n+1) tk=some r:=by
 induction n generalizing tk r with
 | zero=>intro h; cases h
 | succ n ih=>intro h; exact Cy (fun _ _=>ih) h
def km{n n':Nat}(hn:n<=n'){tk:Task}{r:Res}(h:run E n tk=some r):run E n' tk=some r:=by
 induction hn with
 | refl=>exact h
 | step _ ih=>exact Gr ih
def EW(E:Env)(tk:Task)(r:Res):Prop:=∃n,run E n tk=some r
end
section
variable{E:Env}{n:Nat}{fn:T1}{ro:TN Nat}
def aI(E:Env)(f:T1)(args:TO SX)(m:TS)(Q:SX->TS->Prop):Prop:=∃v m',EW E (.call f args m) (.val v m')/\Q v m'
def AD(E:Env)(l:Nat)(args:TO SX)(m:TS)(Q:SX->TS->Prop):Prop:=∃v m',EW E (.round l args m) (.val v m')/\Q v m'
def bT(E:Env)(n:Nat)(fn:T1)(ro:TN Nat)(c:Code)(Q:TT->Tm->TS->Prop)(t:Tm)(m:TS):Prop:=∃e t' m',EW E (.code c ⟨t,n,fn,ro⟩ m) (.code e t' m')/\Q e t' m'
def B1(E:Env)(n:Nat)(fn:T1)(ro:TN Nat)(c:Code)(Q:TT->Tm->TS->Prop)(t:Tm)(m:TS):Prop:=∃e t' m',EW E (.loop c ⟨t,n,fn,ro⟩ m) (.code e t' m')/\Q e t' m'
def aI.mono{f:T1}{args:TO SX}{m:TS}{Q Q':SX->TS->Prop}(h:aI E f args m Q)(hq:∀v m',Q v m'->Q' v m'):aI E f args m Q' :=
 let⟨v,m',r,q⟩:=h;⟨v,m',r,hq v m' q⟩
def bT.mono{c:Code}{Q Q':TT->Tm->TS->Prop}{t:Tm}{m:TS}(h:bT E n fn ro c Q t m)(hq:∀e t m,Q e t m->Q' e t m):bT E n fn ro c Q' t m :=
 let⟨e,t',m',r,q⟩:=h;⟨e,t',m',r,hq _ _ _ q⟩
def nu(K:Tm->TS->Prop)(Q:TT->Tm->TS->Prop):TT->Tm->TS->Prop
 | .normal,t,m=>K t m
 | .exit id,t,m=>Q (.exit id) t m
 | .ret,t,m=>Q .ret t m
def gS(id:Nat)(Q:TT->Tm->TS->Prop):TT->Tm->TS->Prop
 | .normal,t,m=>Q .normal t m
 | .exit id',t,m=>if id'=id then Q .normal t m else Q (.exit id') t m
 | .ret,t,m=>Q .ret t m
variable{Q:TT->Tm->TS->Prop}{t:Tm}{m:TS}
def bz{k:Nat}{tk:Task}{r:Res}(h:step E (run E k) tk=some r):EW E tk r:=⟨k+1,h⟩
def bT.skip(h:Q .normal t m):bT E n fn ro .skip Q t m:=⟨_,_,_,bz (k:=0) rfl,h⟩
def bT.exit{id:Nat}(h:Q (.exit id) t m):bT E n fn ro (.exit id) Q t m:=⟨_,_,_,bz (k:=0) rfl,h⟩
def bT.ret(h:Q .ret t m):bT E n fn ro .ret Q t m:=⟨_,_,_,bz (k:=0) rfl,h⟩
def bT.seq{a b:Code}(h:bT E n fn ro a (nu (bT E n fn ro b Q) Q) t m):bT E n fn ro (.seq a b) Q t m:=by
 obtain⟨e,t1,m1,⟨k1,h1⟩,q⟩:=h;cases e with
 | normal =>
  obtain⟨e2,t2,m2,⟨k2,h2⟩,q2⟩:=q;refine⟨e2,t2,m2,bz (k:=max k1 k2) ?_,q2⟩;simp only[step,km (Nat.le_max_left k1 k2) h1];exact km (Nat.le_max_right k1 k2) h2
 | exit id=>exact⟨_,_,_,bz (k:=k1) (by simp only[step,h1]),q⟩
 | ret=>exact⟨_,_,_,bz (k:=k1) (by simp only[step,h1]),q⟩
def bT.cond{x:SZ}{a b:Code}{c:Bool}(hx:an E t x=some (.bool c))(ht:c=true->bT E n fn ro a Q t m)(hf:c=false->bT E n fn ro b Q t m):bT E n fn ro (.cond x a b) Q t m:=by
 cases c with
 | true =>
  obtain⟨e,t1,m1,⟨k1,h1⟩,q⟩:=ht rfl;exact⟨e,t1,m1,bz (k:=k1) (by simp only[step,hx]; exact h1),q⟩
 | false =>
  obtain⟨e,t1,m1,⟨k1,h1⟩,q⟩:=hf rfl;exact⟨e,t1,m1,bz (k:=k1) (by simp only[step,hx]; exact h1),q⟩
def bT.block{id:Nat}{a:Code}(h:bT E n fn ro a (gS id Q) t m):bT E n fn ro (.block id a) Q t m:=by
 obtain⟨e,t1,m1,⟨k1,h1⟩,q⟩:=h;cases e with
 | normal=>exact⟨_,_,_,bz (k:=k1) (by simp only[step,h1]),q⟩
 | exit id' =>
  simp only[gS] at q
  by_cases hid:id'=id
  rw[QH hid] at q;exact⟨_,_,_,bz (k:=k1) (by simp only[step,h1,QH hid]),q⟩
  rw[QF hid] at q;exact⟨_,_,_,bz (k:=k1) (by simp only[step,h1,QF hid]),q⟩
 | ret=>exact⟨_,_,_,bz (k:=k1) (by simp only[step,h1]),q⟩
def bT.loop{a:Code}(h:B1 E n fn ro a Q t m):bT E n fn ro (.loop a) Q t m:=by
 obtain⟨e,t1,m1,⟨k1,h1⟩,q⟩:=h;exact⟨_,_,_,bz (k:=k1) (by simp only[step]; exact h1),q⟩
def B1.round{a:Code}(h:bT E n fn ro a (nu (B1 E n fn ro a Q) Q) t m):B1 E n fn ro a Q t m:=by
 obtain⟨e,t1,m1,⟨k1,h1⟩,q⟩:=h;cases e with
 | normal =>
  obtain⟨e2,t2,m2,⟨k2,h2⟩,q2⟩:=q;refine⟨e2,t2,m2,bz (k:=max k1 k2) ?_,q2⟩;simp only[step,km (Nat.le_max_left k1 k2) h1];exact km (Nat.le_max_right k1 k2) h2
 | exit id=>exact⟨_,_,_,bz (k:=k1) (by simp only[step,h1]),q⟩
 | ret=>exact⟨_,_,_,bz (k:=k1) (by simp only[step,h1]),q⟩
def kO(E:Env)(t:Tm)(m:TS)(o:Op)(K:SX->TS->Prop):Prop:=∃v m',(∃k,dR (run E k) E t m o=some (v,m'))/\K v m'
def qW{k k':Nat}(h:k<=k'):OA (run E k) (run E k'):=fun _ _=>km h
def kO.plain{o:Op}{v:SX}{m':TS}{K:SX->TS->Prop}(he:eS E t m o=some (v,m'))(h:K v m'):kO E t m o K:=by
 refine⟨v,m',⟨0,?_⟩,h⟩;unfold dR
 split
 rename_i c
 split
 rename_i f hc;simp[eS,hc] at he
 exact he
 exact he
def kO.call{c:Call}{f:SZ}{g:T1}{first captured:TW SX}{args:TO SX}{K:SX->TS->Prop}(hc:c.callee=.value f)(hf:an E t f=some (.func (.func g) first captured))(ha:bq E t c.args.toList=some args)
  (h:aI E g (first.toList++args++captured.toList) m K):kO E t m (.call c) K:=by
 obtain⟨v,m',⟨k,hk⟩,q⟩:=h;exact⟨v,m',⟨k,by simp only[dR,hc,hf,ha,hk]⟩,q⟩
def kO.round{c:Call}{f:SZ}{l:Nat}{first cap:TW SX}{args:TO SX}{K:SX->TS->Prop}(hc:c.callee=.value f)(hf:an E t f=some (.func (.yield l) first cap))(ha:bq E t c.args.toList=some args)
  (h:AD E l (first.toList++args) m K):kO E t m (.call c) K:=by
 obtain⟨v,m',⟨k,hk⟩,q⟩:=h;exact⟨v,m',⟨k,by simp only[dR,hc,hf,ha,hk]⟩,q⟩
def Ib(n:Nat)(t:Tm)(dst:TN Tmp)(v:SX)(K:Tm->Prop):Prop:=∃t',jy n t dst v=some t'/\K t'
def zM(E:Env)(n:Nat)(ops:TW Oper)(K:Tm->TS->Prop):TO Oper->Tm->TS->Prop
 | [],t,m=>K t m
 | o::os,t,m=>if bQ ops o t then kO E t m o.op fun v m'=>Ib n t o.dst v fun t'=>zM E n ops K os t' m' else Ib n t o.dst undef fun t'=>zM E n ops K os t' m
def mW{ops:TW Oper}{K:Tm->TS->Prop}:∀{os:TO Oper} {t:Tm} {m:TS},zM E n ops K os t m->∃k t' m',iV (run E k) E n ops os t m=some (t',m')/\K t' m'
 | [],t,m,h=>⟨0,t,m,rfl,h⟩
 | o::os,t,m,h=>by
  simp only[zM] at h
  split at h
  rename_i hw;obtain⟨v,m1,⟨k1,h1⟩,t1,hp,h2⟩:=h;obtain⟨k2,t2,m2,h3,h4⟩:=mW h2;refine⟨max k1 k2,t2,m2,?_,h4⟩;simp only[iV,QH hw,j7 (qW (Nat.le_max_left k1 k2)) h1,hp];exact ji (qW (Nat.le_max_right k1 k2)) h3
  rename_i hw;obtain⟨t1,hp,h2⟩:=h;obtain⟨k2,t2,m2,h3,h4⟩:=mW h2;refine⟨k2,t2,m2,?_,h4⟩;simp only[iV,QF hw,hp];exact h3
def bT.region{id:Nat}{ops:TW Oper}(h:zM E n ops (Q .normal) ops.toList t m):bT E n fn ro (.region id ops false) Q t m:=by
 obtain⟨k,t',m',h1,h2⟩:=mW h;exact⟨_,_,_,bz (k:=k) (by simp only[step,Q8,if_false,h1]),h2⟩
def hJ(E:Env)(n:Nat)(ops:TW Oper)(K:Tm->TS->TO Note->Prop):TO Oper->Tm->TS->TO Note->Prop
 | [],t,m,ns=>K t m ns.reverse
 | o::os,t,m,ns =>
  if bQ ops o t then kO E t { m with wl:=m.next} o.op fun v m'=>Ib n t o.dst v fun t' =>
   hJ E n ops K os t' { m' with wl:=min m.wl m'.wl} ({ read:=aK E t o.op,wl:=m'.wl,next:=m.next,wrote:=eu E t o.op,kept:=iJ m m'}::ns)
  else Ib n t o.dst undef fun t'=>hJ E n ops K os t' m ({ read:=none,wl:=m.next,next:=m.next,wrote:=none,kept:=fun _=>false}::ns)
def mj{ops:TW Oper}{K:Tm->TS->TO Note->Prop}:∀{os:TO Oper} {t:Tm} {m:TS} {ns:TO Note},hJ E n ops K os t m ns->∃k t' m' ns',dz (run E k) E n ops os t m=some (t',m',ns')/\K t' m' (ns.reverse++ns')
 | [],t,m,ns,h=>⟨0,t,m,[],rfl,by rw[Rr]; exact h⟩
 | o::os,t,m,ns,h=>by
  simp only[hJ] at h
  split at h
  rename_i hw;obtain⟨v,m1,⟨k1,h1⟩,t1,hp,h2⟩:=h;obtain⟨k2,t2,m2,ns2,h3,h4⟩:=mj h2;refine⟨max k1 k2,t2,m2,_::ns2,?_,by simpa using h4⟩
  simp only[dz,QH hw,j7 (qW (Nat.le_max_left k1 k2)) h1,hp,gG (qW (Nat.le_max_right k1 k2)) h3]
  rename_i hw;obtain⟨t1,hp,h2⟩:=h;obtain⟨k2,t2,m2,ns2,h3,h4⟩:=mj h2;refine⟨k2,t2,m2,_::ns2,?_,by simpa using h4⟩
  simp only[dz,QF hw,hp,h3]
def bT.draw{id:Nat}{ops:TW Oper}{ps:TO (Nat×Nat)}(hp:kB ops=some ps)(h:hJ E n ops (fun t m ns=>(ps.all (dA ns ops)&&ns.all fm)=true/\Q .normal t m) ops.toList t m []):bT E n fn ro (.region id ops true) Q t m:=by
 obtain⟨k,t',m',ns,h1,h2,h3⟩:=mj h;simp only[List.reverse_nil,RR] at h2;exact⟨_,_,_,bz (k:=k) (by simp only[step,if_true,hp,h1,h2]),h3⟩
def aI.enter{f:T1}{F:Func}{c:Code}{args:TO SX}{R:SX->TS->Prop}(hp:E.cH f=none)(hf:E.P.funcs[f]? = some F)(hb:F.body=some c)
  (h:bT E (max args.length F.ntmps) f none c (fun e t' m'=>(∀id,e≠.exit id)/\∃vs,cE E t' m' F.results.toList=some vs/\R (gU vs) m') (Trie.ofList args 0 .nil) m):aI E f args m R:=by
 obtain⟨e,t',m',⟨k,h1⟩,hne,vs,h2,h3⟩:=h;refine⟨_,m',bz (k:=k) ?_,h3⟩;have hpa:ub E f args m=none:=by unfold ub; rw[hp]; rfl
 simp only[step,hpa,hf,hb,h1];cases e with
 | exit id=>exact(hne id rfl).elim
 | normal=>simp only[h2,QZ]
 | ret=>simp only[h2,QZ]
end
section
variable{E:Env}{n:Nat}{fn:T1}{ro:TN Nat}{Q:TT->Tm->TS->Prop}{t:Tm}{m:TS}
def eo(r:TN (SX×TS))(K:SX->TS->Prop):Prop :=
 match r with
 | some (v,m)=>K v m
 | none=>False
def D4(r:TN Tm)(K:Tm->Prop):Prop :=
 match r with
 | some t=>K t
 | none=>False
def jQ(E:Env)(f:TN SX)(args:TN (TO SX))(m:TS)(K:SX->TS->Prop):Prop :=
 match f,args with
 | some (.func (.func g) first captured),some ars=>aI E g (first.toList++ars++captured.toList) m K
 | some (.func (.yield l) first _),some ars=>AD E l (first.toList++ars) m K
 | _,_=>False
def nQ(g:T1)(ars:TO SX)(K:SX->TS->Prop):jQ E (some (.func (.func g) #[] #[])) (some ars) m K=aI E g ars m K:=by
 simp[jQ]
def nY(o:Op):TN (SZ×TO SZ) :=
 match o with
 | .call c=>match c.callee with
  | .value f=>some (f,c.args.toList)
  | _=>none
 | _=>none
def bc(E:Env)(t:Tm)(m:TS)(o:Op)(K:SX->TS->Prop):Prop :=
 match nY o with
 | some (f,ars)=>jQ E (an E t f) (bq E t ars) m K
 | none=>eo (eS E t m o) K
def bc.A{o:Op}{K:SX->TS->Prop}(h:bc E t m o K):kO E t m o K:=by
 unfold bc at h
 split at h
 rename_i f ars hc;unfold nY at hc
 split at hc
 rename_i c
 split at hc
 rename_i f' hcal;cases hc;unfold jQ at h
 split at h
 rename_i g first captured args h1 h2
 exact .call hcal h1 h2 h
 rename_i l first cap args h1 h2
 exact .round hcal h1 h2 h
 exact h.elim
 cases hc
 cases hc
 unfold eo at h
 split at h
 rename_i v m' he;exact .plain he h
 exact h.elim
def nS(E:Env)(n:Nat)(ops:TW Oper)(K:Tm->TS->Prop):TO Oper->Tm->TS->Prop
 | [],t,m=>K t m
 | o::os,t,m=>if bQ ops o t then bc E t m o.op fun v m'=>D4 (jy n t o.dst v) fun t'=>nS E n ops K os t' m' else D4 (jy n t o.dst undef) fun t'=>nS E n ops K os t' m
def kO.mono{o:Op}{K K':SX->TS->Prop}(h:kO E t m o K)(hk:∀v m',K v m'->K' v m'):kO E t m o K' :=
 let⟨v,m',r,q⟩:=h;⟨v,m',r,hk v m' q⟩
def D4.A{r:TN Tm}{K:Tm->Prop}(h:D4 r K):∃t',r=some t'/\K t':=by
 cases r with
 | none=>exact h.elim
 | some t=>exact⟨t,rfl,h⟩
def mB{ops:TW Oper}{K:Tm->TS->Prop}:∀{os:TO Oper} {t:Tm} {m:TS},nS E n ops K os t m->zM E n ops K os t m
 | [],t,m,h=>h
 | o::os,t,m,h=>by
  simp only[nS] at h;simp only[zM]
  split at h
  rename_i hw;rw[QH hw];refine h.A.mono fun v m' hv=>?_;obtain⟨t',hp,h2⟩:=hv.A;exact⟨t',hp,mB h2⟩
  rename_i hw;rw[QF hw];obtain⟨t',hp,h2⟩:=h.A;exact⟨t',hp,mB h2⟩
def bT.Jh{id:Nat}{ops:TW Oper}(h:nS E n ops (Q .normal) ops.toList t m):bT E n fn ro (.region id ops false) Q t m:=.region (mB h)
def wR(E:Env)(n:Nat)(ops:TW Oper)(K:Tm->TS->TO Note->Prop):TO Oper->Tm->TS->TO Note->Prop
 | [],t,m,ns=>K t m ns.reverse
 | o::os,t,m,ns =>
  if bQ ops o t then bc E t { m with wl:=m.next} o.op fun v m'=>D4 (jy n t o.dst v) fun t' =>
   wR E n ops K os t' { m' with wl:=min m.wl m'.wl} ({ read:=aK E t o.op,wl:=m'.wl,next:=m.next,wrote:=eu E t o.op,kept:=iJ m m'}::ns)
  else D4 (jy n t o.dst undef) fun t'=>wR E n ops K os t' m ({ read:=none,wl:=m.next,next:=m.next,wrote:=none,kept:=fun _=>false}::ns)
end
section
variable{E:Env}{n:Nat}{fn:T1}{ro:TN Nat}{t:Tm}{m:TS}
section
variable{Q:TT->Tm->TS->Prop}
def BF{id id':Nat}:gS id Q (.exit id') t m=if id'=id then Q .normal t m else Q (.exit id') t m:=rfl
end
def y5(r:TN (TO SX))(R:SX->Prop):Prop :=
 match r with
 | some vs=>R (gU vs)
 | none=>False
def iF(E:Env)(rs:TO ResultVar)(R:SX->TS->Prop):TT->Tm->TS->Prop
 | .exit _,_,_=>False
 | .normal,t,m=>y5 (cE E t m rs) fun v=>R v m
 | .ret,t,m=>y5 (cE E t m rs) fun v=>R v m
def Dg{rs:TO ResultVar}{R:SX->TS->Prop}:iF E rs R .normal t m=y5 (cE E t m rs) fun v=>R v m:=rfl
def Le{rs:TO ResultVar}{R:SX->TS->Prop}:iF E rs R .ret t m=y5 (cE E t m rs) fun v=>R v m:=rfl
def aI.Mx{f:T1}{F:Func}{c:Code}{args:TO SX}{rs:TO ResultVar}{N:Nat}{R:SX->TS->Prop}(hp:E.cH f=none)(hf:E.P.funcs[f]? = some F)(hb:F.body=some c)(hrs:F.results.toList=rs)(hN:max args.length F.ntmps=N)
  (h:bT E N f none c (iF E rs R) (Trie.ofList args 0 .nil) m):aI E f args m R:=by
 subst hrs hN;refine .enter hp hf hb (h.mono fun e t' m' hq=>?_);cases e with
 | exit id=>exact hq.elim
 | normal =>
  refine⟨fun id h=>(by cases h),?_⟩
  simp only[iF] at hq;unfold y5 at hq
  split at hq
  rename_i vs hv; exact⟨vs,hv,hq⟩
  exact hq.elim
 | ret =>
  refine⟨fun id h=>(by cases h),?_⟩
  simp only[iF] at hq;unfold y5 at hq
  split at hq
  rename_i vs hv; exact⟨vs,hv,hq⟩
  exact hq.elim
end
def at_set(t:Tm)(i j:Nat)(v:SX):Tm.at (Trie.set t i v) j=if j=i then v else Tm.at t j:=by
 unfold Tm.at; rw[Trie.bl]; split<;>rfl
def cT(n:Nat)(t:Tm)(d:Nat)(v:SX):jy n t (some d) v=if d<n then some (Trie.set t d v) else none:=by
 unfold jy
 by_cases h:d<n
 have:Nat.blt d n=true:=by simpa using h
 simp only[this,QH h]
 ·have:Nat.blt d n=false:=by
   cases hb:Nat.blt d n with
   | false=>rfl
   | true=>exact(h (by simpa using hb)).elim
  simp only[this,QF h]
section
variable{E:Env}{t:Tm}{ty:SY}{P:S0}
def bu(k:IntKind)(a b:Int):bR .add ty P (.int k a) (.int k b)=some (.int k (k.wrap (a+b))):=by simp only[bR,if_true]
def cR(k:IntKind)(a b:Int):bR .sub ty P (.int k a) (.int k b)=some (.int k (k.wrap (a-b))):=by simp only[bR,if_true]
def dO(k:IntKind)(a b:Int):bR .mul ty P (.int k a) (.int k b)=some (.int k (k.wrap (a*b))):=by simp only[bR,if_true]
def Cd(k:IntKind)(a b:Int)(h:b≠0):bR .rem ty P (.int k a) (.int k b)=some (.int k (a.tmod b)):=by simp only[bR,if_true,QF h]
def gC(k:IntKind)(a b:Int):bR .lss ty P (.int k a) (.int k b)=some (.bool (decide (a<b))):=by simp only[bR,if_true]
def vV(k:IntKind)(a b:Int):bR .leq ty P (.int k a) (.int k b)=some (.bool (decide (a<=b))):=by simp only[bR,if_true]
def qL(k:IntKind)(a b:Int):bR .gtr ty P (.int k a) (.int k b)=some (.bool (decide (b<a))):=by simp only[bR,if_true,gt_iff_lt]
def BE(k:IntKind)(a b:Int):bR .geq ty P (.int k a) (.int k b)=some (.bool (decide (b<=a))):=by simp only[bR,if_true,ge_iff_le]
def ij(k:IntKind)(a b:Int):bR .eql ty P (.int k a) (.int k b)=some (.bool (decide (a=b))):=by simp only[bR,if_true]; rfl
def H5(k:IntKind)(a b:Int):bR .neq ty P (.int k a) (.int k b)=some (.bool (decide (a≠b))):=by
 simp only[bR,if_true]
 by_cases h:a=b<;>simp[h]
end
structure Ext(m m':TS):Prop where
 next:m.next<=m'.next
 same:∀b,b<m.next->m'.get b=m.get b
 wl:min m.wl m.next<=m'.wl
def Ext.refl(m:TS):Ext m m:=⟨QK _,fun _ _=>rfl,Nat.min_le_left _ _⟩
def Ext.trans{a b c:TS}(h:Ext a b)(h':Ext b c):Ext a c :=
 ⟨Rc h.next h'.next,fun x hx=>(h'.same x (QT hx h.next)).trans (h.same x hx),by
  have h1:=h.wl; have h2:=h'.wl; have h3:=h.next; omega⟩
def Ext.alloc{m m':TS}(h:Ext m m')(o:TU):Ext m (m'.alloc o) :=
 ⟨Nat.le_succ_of_le h.next,fun b hb=>by
  rw[TS.aU,QF (by have:=h.next; omega)]; exact h.same b hb,h.wl⟩
def Ext.set{m m':TS}(h:Ext m m'){b:Nat}(hb:m.next<=b)(o:TU):Ext m (m'.set b o) :=
 ⟨h.next,fun x hx=>by rw[TS.bl,S8]; exact h.same x hx,by
  show min m.wl m.next<=min m'.wl b
  have:=h.wl; omega⟩
inductive SlA(m:TS)(w:Nat):SX->SS->Prop
 | nil:SlA m w (.slice none 0 0) []
 | at {b o cap:Nat} {cs:TO SX} {tag:Tag} {xs:SS} (hb:b<m.next) (hg:m.get b=some (.cells cs tag)) (hc:xs.length<=cap) (hx:∀i x,xs[i]? = some x->(cs.drop (o+i*w)).take w=x/\x.length=w) :
   SlA m w (.slice (some ⟨b,o,none⟩) xs.length cap) xs
def Bj (P : S0) : Bool := P.funcs.toList.all (fun fn => !(fn.name == "runtime.NumGoroutine")) && P.follows .mixedOrders
def yq{E:Env}(h:Bj E.P=true)(hp:∀f p,E.cH f=some p->∀args m v m',p.run args m=some (v,m')->∀(j:aN) (w:S5) (args':TO SX),MR E j m w->LR j args args'->gk E.P (E.cH f).isSome f args'.toArray w (iC E j m w v m')):EnvOk E:=by
 simp only[Bj,QJ] at h;refine⟨fun f fn c hf hb args w=>?_,h.2,hp⟩;have hnm:=QS.1 h.1 fn (Q4 (by simpa using hf))
 have hname : (fn.name == "runtime.NumGoroutine") = false := by simpa using hnm
 have h1 : fn.name ≠ "runtime.NumGoroutine" := by simpa using hname
 simp[callFunc,hf,h1,hb]
def px{E:Env}(hE:EnvOk E){fuel:Nat}{f:T1}{args:TO SX}{m m':TS}{v:SX}(e:run E fuel (.call f args m)=some (.val v m'))(hp:E.cH f=none){j:aN}{W:S5}{args':TO SX}(h:MR E j m W)(hl:LR j args args') :
  CallsIn Fence.wide 0 E.P f args'.toArray W fun e W'=>∃v',e=.returned v'/\∃j',Sim E j m W j' m' W'/\VR j' v v':=by
 obtain⟨v1,m1,hr,hs⟩:=oZ hE fuel _ _ e;cases hr;rcases hs j W args' h hl with⟨_,h1⟩|⟨h1,_⟩
 exact h1
 rw[hp] at h1; cases h1
def Sim.grown{E:Env}{j j':aN}{m m':TS}{w w':S5}(s:Sim E j m w j' m' w')(h:MR E j m w)(hwl:m.next<=m'.wl):∀c,c<w.heap.size->w'.heap[c]? = w.heap[c]? :=
 fun c hc=>s.frame c hc fun b k hb _ _=>QT (h.lt b k hb).1 hwl
def qJ{E:Env}{w w':S5}(h1:iN E w w')(h2:∀c,c<w.heap.size->w'.heap[c]? = w.heap[c]?)(may:MemPlace->Prop):w.keptBut w' may:=by
 refine World.keptBut_mono (fun _ f=>f.elim) (?_:w.keptBut w' fun _=>False);refine⟨h1.1,h1.2.1,fun i hi=>?_⟩;rw[h2 i hi];exact(World.keptBut_refl w (fun _=>False)).2.2 i hi
def Di(n:Nat)(gs:Nat->TN (TO SX)):TS:={ next:=n,wl:=n,objs:=.nil,base:=fun b=>(gs b).map fun cs=>.cells cs .ro}
def C5(n:Nat):aN:=fun b=>if b<n then some ⟨b,none⟩ else none
def It{E:Env}{n:Nat}{gs:Nat->TN (TO SX)}{W:S5}(hn:E.glob<=n)(hW:n<=W.heap.size)
  (hg:∀b cs,gs b=some cs->b<n->∃c t fz,W.heap[b]? = some (.cells c t fz)/\LR (C5 n) cs c.toList):MR E (C5 n) (Di n gs) W:=by
 have hj:∀b k,C5 n b=some k->b<n/\k=⟨b,none⟩:=by
  intro b k h;unfold C5 at h
  split at h
  cases h; exact⟨by assumption,rfl⟩
  cases h
 refine⟨fun b k h=>?_,fun b o k hget h=>?_,fun b b' k k' h h' _ _ he=>?_,fun g hgl=>?_⟩
 obtain⟨h1,rfl⟩:=hj b k h;exact⟨h1,QT h1 hW⟩
 obtain⟨h1,rfl⟩:=hj b k h;have hget':(gs b).map (fun cs=>TU.cells cs .ro)=some o:=by simpa [TS.get,Di,Heap.get_nil] using hget
 obtain⟨cs,e1,rfl⟩:=map_some hget';obtain⟨c,t,fz,h2,h3⟩:=hg b cs e1 h1;refine⟨_,h2,⟨⟨rfl,by have:=h3.1; simpa using this.symm⟩,fun i v hi=>?_⟩⟩
 obtain⟨v',h4,h5⟩:=h3.get hi;exact⟨v',by simpa using h4,h5⟩
 obtain⟨_,rfl⟩:=hj b k h;obtain⟨_,rfl⟩:=hj b' k' h';exact he
 unfold C5;rw[S9]
structure Grown(m m1:TS):Prop where
 next:m.next<=m1.next
 same:∀b,b<m.next->m1.get b=m.get b
 wl:m.next<=m1.wl
section
variable{E:Env}{j j1:aN}{m m1:TS}{w w1:S5}
def MR.env{E E':Env}(hg:E'.glob=E.glob)(h:MR E j m w):MR E' j m w:=⟨h.lt,h.obj,h.inj,fun g hl=>h.glob g (hg▸hl)⟩
def Sim.env{E E':Env}{m':TS}{w':S5}{j':aN}(hg:E'.glob=E.glob)(hm:E'.mono->E.mono)(s:Sim E j m w j' m' w'):Sim E' j m w j' m' w' :=
 ⟨s.ext,s.le,s.new,s.mr.env hg,s.size,s.full,s.away,s.fresh,s.frame,s.calm.1,s.calm.2.1,s.calm.2.2.1,fun e=>s.calm.2.2.2 (hm e)⟩
def Sim.old(h:MR E j m w)(s:Sim E j { m with wl:=m.next} w j1 m1 w1)(g:Grown m m1):∀c,c<w.heap.size->w1.heap[c]? = w.heap[c]? :=
 fun c hc=>s.frame c hc fun b k hb _ _=>QT (h.lt b k hb).1 g.wl
def MR.after(h:MR E j m w)(s:Sim E j { m with wl:=m.next} w j1 m1 w1)(g:Grown m m1):MR E j m w1 where
 lt:=fun b k hb=>⟨(h.lt b k hb).1,QT (h.lt b k hb).2 s.size⟩
 obj:=fun b o k ho hb=>by
  obtain⟨o',h1,h2⟩:=h.obj b o k ho hb;exact⟨o',(s.old h g k.c (h.lt b k hb).2).trans h1,h2⟩
 inj:=h.inj
 glob:=h.glob
def Sim.forget(h:MR E j m w)(s:Sim E j { m with wl:=m.next} w j1 m1 w1)(g:Grown m m1):Sim E j m w j m w1 where
 ext:=.refl m
 le:=.refl j
 new:=fun b k h h'=>by simp[h'] at h
 mr:=h.after s g
 size:=s.size
 full:=fun b h h' _=>Q1 h (by omega)
 away:=fun _ _ _=>rfl
 fresh:=fun b k h h'=>by simp[h'] at h
 frame:=fun c hc _=>s.old h g c hc
 calm:=s.calm
def VR.Dm{j j':aN}{v v':SX}(hp:Ab.bB v=true)(h:VR j' v v'):VR j v v':=by
 unfold Ab.bB at hp
 split at hp
 ·cases h with
  | agg hs ha =>
   refine .agg hs fun i a b=>?_;have hpi:=QS.1 hp _ (Q5 (l:=Array.toList _) (by simpa using a))
   simp only[Array.getElem_toList] at hpi;have:=fB hpi (ha i a b);rw[this]; exact .aP hpi
 ·cases h with
  | tuple hs ha =>
   refine .tuple hs fun i a b=>?_;have hpi:=QS.1 hp _ (Q5 (l:=Array.toList _) (by simpa using a))
   simp only[Array.getElem_toList] at hpi;have:=fB hpi (ha i a b);rw[this]; exact .aP hpi
 have:=fB hp h;rw[this]; exact .aP hp
def lN{P:S0}{pr pr':Bool}{f:T1}{args:TW SX}{w:S5}{R R':SX->S5->Prop}(hp:pr=true->pr'=true)(h:gk P pr f args w R)(hR:∀v w',R v w'->R' v w'):gk P pr' f args w R':=by
 rcases h with⟨h1,h2⟩|⟨h1,v,w',h2,h3⟩
 exact .inl ⟨h1,h2.mono fun e w' ⟨v,he,hv⟩=>⟨v,he,hR v w' hv⟩⟩
 exact .inr ⟨hp h1,v,w',h2,hR v w' h3⟩
end
def TS.ww(m:TS)(x:Nat):TS:={ m with wl:=x}
section
variable{E:Env}{n:Nat}{fn:T1}{ro:TN Nat}{Q:TT->Tm->TS->Prop}{t:Tm}{m:TS}{P:S0}
@[simp] theorem TS.get_ww (m:TS) (x b:Nat):(m.ww x).get b=m.get b:=rfl
@[simp] theorem TS.next_ww (m:TS) (x:Nat):(m.ww x).next=m.next:=rfl
@[simp] theorem TS.wl_ww (m:TS) (x:Nat):(m.ww x).wl=x:=rfl
def gM(b:Bool)(A B:Prop):Prop:=if b then A else B
def vM{α:Type}(r:TN α)(K:α->Prop):Prop :=
 match r with
 | some v=>K v
 | none=>False
def dw{α:Type}(v:α)(K:α->Prop):vM (some v) K=K v:=rfl
def uf(c a b:TN SX)(K:SX->Prop):Prop :=
 match c with
 | some (.bool true)=>vM a K
 | some (.bool false)=>vM b K
 | _=>False
def Bg(a b:TN SX)(K:SX->Prop):uf (some (.bool true)) a b K=vM a K:=rfl
def xX(a b:TN SX)(K:SX->Prop):uf (some (.bool false)) a b K=vM b K:=rfl
@[congr] theorem gM_congr {b b':Bool} {A B:Prop} (h:b=b'):gM b A B=gM b' A B:=by rw[h]
@[congr] theorem vM_congr {α:Type} {r r':TN α} {K:α->Prop} (h:r=r'):vM r K=vM r' K:=by rw[h]
@[congr] theorem pickM_congr {c c' a b:TN SX} {K:SX->Prop} (h:c=c'):uf c a b K=uf c' a b K:=by rw[h]
@[congr] theorem valM_congr {r r':TN (SX×TS)} {K:SX->TS->Prop} (h:r=r'):eo r K=eo r' K:=by rw[h]
@[congr] theorem tmM_congr {r:TN Tm} {K:Tm->Prop}:D4 r K=D4 r K:=rfl
@[congr] theorem callM_congr {f f':TN SX} {ars ars':TN (TO SX)} {K:SX->TS->Prop} (h:f=f') (h':ars=ars'):jQ E f ars m K=jQ E f' ars' m K:=by rw[h,h']
@[congr] theorem callA_congr {f:T1} {ars ars':TO SX} {K:SX->TS->Prop} (h:ars=ars'):aI E f ars m K=aI E f ars' m K:=by rw[h]
@[congr] theorem operM_congr {o:Op} {K:SX->TS->Prop}:bc E t m o K=bc E t m o K:=rfl
@[congr] theorem wantedA_congr {ops:TW Oper} {o:Oper}:bQ ops o t=bQ ops o t:=rfl
@[congr] theorem opsM_congr {ops:TW Oper} {K:Tm->TS->Prop} {os:TO Oper}:nS E n ops K os t m=nS E n ops K os t m:=rfl
@[congr] theorem notedM_congr {ops:TW Oper} {K:Tm->TS->TO Note->Prop} {os:TO Oper} {ns:TO Note}:wR E n ops K os t m ns=wR E n ops K os t m ns:=rfl
@[congr] theorem codeA_congr {c:Code}:bT E n fn ro c Q t m=bT E n fn ro c Q t m:=rfl
def GH{ops:TW Oper}{d:TN Tmp}{o:Op}{ty:SY}{p:String}{a:TW Edge}{j:Nat}{b:Bool}:bQ ops ⟨d,o,ty,p,a,some (j,b)⟩ t=(match eY ops t j with|some c=>c==b|none=>false):=rfl
section
variable{K:SX->TS->Prop}
def Jm{x:SZ}:bc E t m (.move x) K=vM (an E t x) fun v=>K v m:=by show eo ((an E t x).map _) K=_; cases an E t x<;>rfl
def Cz{x:SZ}:bc E t m (.assign x) K=vM (an E t x) fun v=>K v m:=by show eo ((an E t x).map _) K=_; cases an E t x<;>rfl
def Cg{c a b:SZ}:bc E t m (.pick c a b) K=uf (an E t c) (an E t a) (an E t b) fun v=>K v m:=by
 show eo (match an E t c with|some (.bool true)=>(an E t a).map fun v=>(v,m)|some (.bool false)=>(an E t b).map fun v=>(v,m)|_=>none) K=_
 unfold uf
 split
 cases an E t a<;>rfl
 cases an E t b<;>rfl
 rfl
def LZ{e:SY}{x:SZ}:bc E t m (.box e x) K=vM (an E t x) fun v=>K (ptr m.next 0) (m.alloc (.cells v.cells.toList .own)):=by show eo ((an E t x).map _) K=_; cases an E t x<;>rfl
def IM{e:SY}{x:SZ}:bc E t m (.load e x) K=vM (an E t x) fun p=>vM (dK E.P e p m) fun v=>K v m:=by
 show eo (match an E t x with|some p=>(dK E.P e p m).map fun v=>(v,m)|none=>none) K=_
 cases an E t x with
 | none=>rfl
 | some p=>show eo ((dK E.P e p m).map _) K=vM (dK E.P e p m) _; cases dK E.P e p m<;>rfl
def F2{e:SY}{x y:SZ}:bc E t m (.store e x y) K=vM (an E t x) fun p=>vM (an E t y) fun v=>vM (ga E.P e p v m) fun m'=>K undef m':=by
 show eo (match an E t x,an E t y with|some p,some v=>(ga E.P e p v m).map fun m'=>(undef,m')|_,_=>none) K=_
 cases an E t x with
 | none=>rfl
 | some p=>cases an E t y with
  | none=>rfl
  | some v=>show eo ((ga E.P e p v m).map _) K=vM (ga E.P e p v m) _; cases ga E.P e p v m<;>rfl
def Fo{b:BinOp}{e e':SY}{x y:SZ}:bc E t m (.binOp b e x y e') K=vM (an E t x) fun p=>vM (an E t y) fun v=>vM (bR b e E.P p v) fun r=>K r m:=by
 show eo (match an E t x,an E t y with|some p,some v=>(bR b e E.P p v).map fun v=>(v,m)|_,_=>none) K=_
 cases an E t x with
 | none=>rfl
 | some p=>cases an E t y with
  | none=>rfl
  | some v=>show eo ((bR b e E.P p v).map _) K=vM (bR b e E.P p v) _; cases bR b e E.P p v<;>rfl
def Jr{b:UnOp}{e:SY}{x:SZ}:bc E t m (.unOp b e x) K=vM (an E t x) fun p=>vM (Dz b p) fun r=>K r m:=by
 show eo (match an E t x with|some p=>(Dz b p).map fun v=>(v,m)|none=>none) K=_
 cases an E t x with
 | none=>rfl
 | some p=>show eo ((Dz b p).map _) K=vM (Dz b p) _; cases Dz b p<;>rfl
def Bb{e e':SY}{x:SZ}:bc E t m (.convert e e' x) K=vM (an E t x) fun p=>vM (jS E.P e e' p) fun r=>K r m:=by
 show eo (match an E t x with|some p=>(jS E.P e e' p).map fun v=>(v,m)|none=>none) K=_
 cases an E t x with
 | none=>rfl
 | some p=>show eo ((jS E.P e e' p).map _) K=vM (jS E.P e e' p) _; cases jS E.P e e' p<;>rfl
def wK{e:SY}{x:SZ}{f:Nat}:bc E t m (.fieldAddr e x f) K=vM (an E t x) fun p=>vM (aD E.P e p f) fun r=>K r m:=by
 show eo (match an E t x with|some p=>(aD E.P e p f).map fun v=>(v,m)|none=>none) K=_
 cases an E t x with
 | none=>rfl
 | some p=>show eo ((aD E.P e p f).map _) K=vM (aD E.P e p f) _; cases aD E.P e p f<;>rfl
def Et{e:SY}{x:SZ}{f:Nat}:bc E t m (.field e x f) K=vM (an E t x) fun p=>vM (gW E.P e p f) fun r=>K r m:=by
 show eo (match an E t x with|some p=>(gW E.P e p f).map fun v=>(v,m)|none=>none) K=_
 cases an E t x with
 | none=>rfl
 | some p=>show eo ((gW E.P e p f).map _) K=vM (gW E.P e p f) _; cases gW E.P e p f<;>rfl
def wS{e:SY}{x y:SZ}:bc E t m (.indexAddr e x y) K=vM (an E t x) fun p=>vM (an E t y) fun v=>vM (bW E.P e p v) fun r=>K r m:=by
 show eo (match an E t x,an E t y with|some p,some v=>(bW E.P e p v).map fun v=>(v,m)|_,_=>none) K=_
 cases an E t x with
 | none=>rfl
 | some p=>cases an E t y with
  | none=>rfl
  | some v=>show eo ((bW E.P e p v).map _) K=vM (bW E.P e p v) _; cases bW E.P e p v<;>rfl
def DO{e:SY}{x y:SZ}:bc E t m (.index e x y) K=vM (an E t x) fun p=>vM (an E t y) fun v=>vM (fZ E.P e p v) fun r=>K r m:=by
 show eo (match an E t x,an E t y with|some p,some v=>(fZ E.P e p v).map fun v=>(v,m)|_,_=>none) K=_
 cases an E t x with
 | none=>rfl
 | some p=>cases an E t y with
  | none=>rfl
  | some v=>show eo ((fZ E.P e p v).map _) K=vM (fZ E.P e p v) _; cases fZ E.P e p v<;>rfl
def zI{x:SZ}{i:Nat}{vs:TW SX}(h:an E t x=some (.tuple vs)):bc E t m (.extract x i) K=vM vs[i]? fun r=>K r m:=by
 show eo (match an E t x with|some (.tuple vs)=>(vs[i]?).map fun v=>(v,m)|_=>none) K=_
 rw[h]
 show eo ((vs[i]?).map _) K=_
 cases vs[i]?<;>rfl
def EP{e:SY}{x:SZ}{a b c:TN SZ}{v:SX}{l h k:TN SX}(h1:an E t x=some v)(h2:dF E t a=some l)(h3:dF E t b=some h)(h4:dF E t c=some k):bc E t m (.slice e x a b c) K=vM (bP E.P e v l h k m) fun r=>K r m:=by
 show eo (match an E t x,dF E t a,dF E t b,dF E t c with|some v,some l,some h,some k=>(bP E.P e v l h k m).map fun v=>(v,m)|_,_,_,_=>none) K=_
 rw[h1,h2,h3,h4]
 show eo ((bP E.P e v l h k m).map _) K=_
 cases bP E.P e v l h k m<;>rfl
def DT{e:SY}:bc E t m (.alloc e) K=eo (eS E t m (.alloc e)) K:=rfl
def yT{f:T1}{a b:TW SZ}:bc E t m (.makeFunc (.func f) a b) K=vM (bq E t a.toList) fun fs=>vM (bq E t b.toList) fun cs=>K (.func (.func f) fs.toArray cs.toArray) m:=by
 show eo (match bq E t a.toList,bq E t b.toList with|some fs,some cs=>some (.func (.func f) fs.toArray cs.toArray,m)|_,_=>none) K=_
 cases bq E t a.toList with
 | none=>rfl
 | some fs=>cases bq E t b.toList<;>rfl
def AQ{e:SY}:bc E t m (.makeMap e none) K=K (.map (some m.next)) (m.alloc (.map [])):=rfl
def AP{b:Builtin}{a:TW SZ}{ts:TW SY}:bc E t m (.call ⟨.builtin b,a,ts⟩) K=vM (bq E t a.toList) fun vs=>eo (aZ E.P b ts vs m) K:=by
 show eo (match bq E t a.toList with|some vs=>aZ E.P b ts vs m|none=>none) K=_
 cases bq E t a.toList<;>rfl
end
def LF{ty len elem w b o i:Nat}{kd:IntKind}(hu:P.underlying ty=some (.array len elem))(hk:known P elem=true)(hs:aB P elem=w)(hi:i<len):bW P ty (ptr b o) (.int kd (i:Int))=some (ptr b (o+i*w)):=by
 have hd:decide ((0:Int)<=(i:Int)/\(i:Int)<(len:Nat))=true:=by simp; omega
 simp only[bW,ptr,hu,hk,hd,RU,if_true,hs,Rb]
def Ig{ty b o:Nat}{cs:TO SX}{tag:Tag}{v:SX}(hk:known P ty=true)(ha:dD P ty=false)(hg:m.get b=some (.cells cs tag))(hv:cs[o]? = some v):dK P ty (ptr b o) m=some v:=by
 simp only[dK,ptr,hk,ha,hg,Rv,Q8,if_false,hv]
def Ij{ty b o w:Nat}{cs l:TO SX}{tag:Tag}(hk:known P ty=true)(ha:dD P ty=true)(hs:aB P ty=w)(hg:m.get b=some (.cells cs tag))(hl:(cs.drop o).take w=l)(hw:l.length=w):dK P ty (ptr b o) m=some (.agg l.toArray):=by
 simp only[dK,ptr,hk,ha,hs,Rv,Q8,if_false,if_true,TS.dQ,hg,hl,hw,QZ]
end
def wrap_i64(n:Int)(h1 : -9223372036854775808<=n)(h2:n<=9223372036854775807):IntKind.i64.wrap n=n:=by
 try unfold S6
 unfold IntKind.wrap IntKind.bits IntKind.signed;simp only;rw[show((2:Int) ^ 64)=18446744073709551616 by rfl,show((2:Int) ^ (64-1))=9223372036854775808 by rfl]
 split
 rename_i h; simp at h; omega
 rename_i h; simp at h; omega
structure Pick(α:Type) where
 run:F8 α->α
structure Upd(α:Type) where
 run:F8 α->(α->(α->Bool)->Bool)->(F8 α->Bool)->Bool
structure Get where
 run:Tm->(SX->Bool)->Bool
structure Hy where
 run:Tm->SX->(Tm->Bool)->Bool
structure OpSem where
 run:Tm->TS->(SX->TS->Bool)->Bool
section
variable{E:Env}{t:Tm}{m:TS}
structure Gets where
 run:Tm->(TO SX->Bool)->Bool
structure Parts where
 run:Tm->(TO (Nat×SX)->Bool)->Bool
structure OptGet where
 run:Tm->(TN SX->Bool)->Bool
structure BinSem where
 run:SX->SX->(SX->Bool)->Bool
structure UnSem where
 run:SX->(SX->Bool)->Bool
structure LoadSem where
 run:SX->TS->(SX->Bool)->Bool
structure StoreSem where
 run:SX->SX->TS->(TS->Bool)->Bool
structure AddrSem where
 run:SX->(SX->Bool)->Bool
structure IdxSem where
 run:SX->SX->(SX->Bool)->Bool
structure AppSem where
 run:SX->SX->TS->(SX->TS->Bool)->Bool
end
structure Look where
 run:SX->SX->TS->(SX->Bool)->Bool
structure MapUp where
 run:SX->SX->SX->TS->(TS->Bool)->Bool
structure Hand where
 call:T1->TO SX->TS->(SX->TS->Bool)->Bool
 round:Nat->TO SX->TS->(SX->TS->Bool)->Bool
structure OperSem where
 run:Hand->Tm->TS->(SX->TS->Bool)->Bool
def Hz{t:Tm}{d:Nat}{b:Bool}(h:t.at d=.bool b):t.get d=some (.bool b):=by
 unfold Tm.at at h;cases hg:Trie.get t d with
 | none=>rw[hg] at h; cases h
 | some v=>rw[hg] at h; exact Rf some h
structure Guard where
 run:Tm->Bool->Bool->Bool
structure RegSem where
 run:Hand->Tm->TS->(Tm->TS->Bool)->Bool
structure NoteSem where
 run:Hand->Tm->TS->TO Note->(Tm->TS->TO Note->Bool)->Bool
structure Sem where
 run:Hand->TN Nat->Tm->TS->(TT->Tm->TS->Bool)->Bool
section
variable{E:Env}{n:Nat}{fn:T1}{ro:TN Nat}{Q:TT->Tm->TS->Prop}{t:Tm}{m:TS}
end
structure ResSem where
 run:Tm->TS->(TO SX->Bool)->Bool
structure FunSem where
 run:Hand->TO SX->TS->(SX->TS->Bool)->Bool
structure PSem where
 run:TO SX->TS->(SX->TS->Bool)->Bool
def Qo(E:Env)(F:T1->TN PSem):Prop:=∀{f:T1} {S:PSem},F f=some S->∃p,E.cH f=some p/\∀{args:TO SX} {m:TS} {K:SX->TS->Bool},S.run args m K=true->∃v m',p.run args m=some (v,m')/\K v m'=true
def aI.cH{E:Env}{f:T1}{p:Prim}{args:TO SX}{m m':TS}{v:SX}{R:SX->TS->Prop}(hp:E.cH f=some p)(h:p.run args m=some (v,m'))(hR:R v m'):aI E f args m R:=by
 have hpa:ub E f args m=some (v,m'):=by
  unfold ub;rw[hp];exact h
 exact⟨v,m',bz (k:=0) (by simp only[step,hpa]),hR⟩
section
variable{E:Env}{n:Nat}{t:Tm}{m:TS}{K:Tm->TS->Prop}{ops:TW Oper}{os:TO Oper}{ty:SY}{p:String}{af:TW Edge}{d:Nat}
variable{L:Tm->TS->TO Note->Prop}{ns:TO Note}
variable{a b r v:SX}{x y:SZ}{e e':SY}
def Kg(h:an E t x=some v)(K':SX->TS->Prop):bc E t m (.move x) K'=K' v m:=by rw[Jm,h]; rfl
def D5(h:an E t x=some v)(K':SX->TS->Prop):bc E t m (.assign x) K'=K' v m:=by rw[Cz,h]; rfl
def Iy{c:SZ}(hc:an E t c=some (.bool true))(h:an E t x=some v)(K':SX->TS->Prop):bc E t m (.pick c x y) K'=K' v m:=by rw[Cg,hc,Bg,h]; rfl
def I5{c:SZ}(hc:an E t c=some (.bool false))(h:an E t y=some v)(K':SX->TS->Prop):bc E t m (.pick c x y) K'=K' v m:=by rw[Cg,hc,xX,h]; rfl
def MX(h:an E t x=some v)(K':SX->TS->Prop):bc E t m (.box e x) K'=K' (ptr m.next 0) (m.alloc (.cells v.cells.toList .own)):=by rw[LZ,h]; rfl
def Nz{op:BinOp}(h:an E t x=some a)(h':an E t y=some b)(hr:bR op e E.P a b=some r)(K':SX->TS->Prop):bc E t m (.binOp op e x y e') K'=K' r m:=by rw[Fo,h,dw,h',dw,hr]; rfl
def Cs{op:UnOp}(h:an E t x=some a)(hr:Dz op a=some r)(K':SX->TS->Prop):bc E t m (.unOp op e x) K'=K' r m:=by rw[Jr,h,dw,hr]; rfl
def Ln(h:an E t x=some a)(hr:jS E.P e e' a=some r)(K':SX->TS->Prop):bc E t m (.convert e e' x) K'=K' r m:=by rw[Bb,h,dw,hr]; rfl
def Fv(h:an E t x=some a)(hr:dK E.P e a m=some r)(K':SX->TS->Prop):bc E t m (.load e x) K'=K' r m:=by rw[IM,h,dw,hr]; rfl
def HY{m':TS}(h:an E t x=some a)(h':an E t y=some b)(hr:ga E.P e a b m=some m')(K':SX->TS->Prop):bc E t m (.store e x y) K'=K' undef m':=by rw[F2,h,dw,h',dw,hr]; rfl
def yP{f:Nat}(h:an E t x=some a)(hr:aD E.P e a f=some r)(K':SX->TS->Prop):bc E t m (.fieldAddr e x f) K'=K' r m:=by rw[wK,h,dw,hr]; rfl
def Jz{f:Nat}(h:an E t x=some a)(hr:gW E.P e a f=some r)(K':SX->TS->Prop):bc E t m (.field e x f) K'=K' r m:=by rw[Et,h,dw,hr]; rfl
def xx(h:an E t x=some a)(h':an E t y=some b)(hr:bW E.P e a b=some r)(K':SX->TS->Prop):bc E t m (.indexAddr e x y) K'=K' r m:=by rw[wS,h,dw,h',dw,hr]; rfl
def IX(h:an E t x=some a)(h':an E t y=some b)(hr:fZ E.P e a b=some r)(K':SX->TS->Prop):bc E t m (.index e x y) K'=K' r m:=by rw[DO,h,dw,h',dw,hr]; rfl
def CZ{i:Nat}{vs:TW SX}(h:an E t x=some (.tuple vs))(hr:vs[i]? = some r)(K':SX->TS->Prop):bc E t m (.extract x i) K'=K' r m:=by rw[zI h,hr]; rfl
def mC{l h k:TN SZ}{l' h' k':TN SX}(h1:an E t x=some a)(h2:dF E t l=some l')(h3:dF E t h=some h')(h4:dF E t k=some k')(hr:bP E.P e a l' h' k' m=some r)(K':SX->TS->Prop):bc E t m (.slice e x l h k) K'=K' r m:=by rw[EP h1 h2 h3 h4,hr]; rfl
def IZ{z:SX}(hz:bj E.P e=some z)(hp:bB z=true)(K':SX->TS->Prop):bc E t m (.alloc e) K'=K' (ptr m.next 0) (m.alloc (.cells z.cells.toList .own)):=by
 rw[DT]; simp only[eS,hz,hp,if_true]; rfl
def dc{bi:Builtin}{ars:TW SZ}{ts:TW SY}{vs:TO SX}{m':TS}(h:bq E t ars.toList=some vs)(hr:aZ E.P bi ts vs m=some (r,m'))(K':SX->TS->Prop):bc E t m (.call ⟨.builtin bi,ars,ts⟩) K'=K' r m':=by rw[AP,h,dw,hr]; rfl
def JI{op:Op}{m':TS}(hc:nY op=none)(hr:eS E t m op=some (r,m'))(K':SX->TS->Prop):bc E t m op K'=K' r m':=by
 unfold bc; rw[hc]; simp only[hr]; rfl
def PZ{ops:TW Oper}{t:Tm}{dst:TN Tmp}{o:Op}{ty:SY}{p:String}{a:TW Edge}{j d:Nat}{b c:Bool}(hd:(ops[j]?).bind (·.dst)=some d)(h:t.at d=.bool c):bQ ops ⟨dst,o,ty,p,a,some (j,b)⟩ t=(c==b):=by
 rw[GH]; unfold eY; rw[hd]; simp only[Hz h]
end
section
variable{E:Env}{n:Nat}{fn:T1}{ro:TN Nat}{Q:TT->Tm->TS->Prop}{t:Tm}{m:TS}{w:Nat}
def iI(E:Env)(n:Nat)(ops:TW Oper)(K:Tm->TS->Prop):TO Oper->Tm->TS->Nat->Prop
 | [],t,m,w=>K t (m.ww w)
 | o::os,t,m,w =>
  if bQ ops o t then(∀b,aK E t o.op=some b->b<m.next)/\bc E t (m.ww m.next) o.op fun v m'=>D4 (jy n t o.dst v) fun t'=>iI E n ops K os t' m' (min w m'.wl)
  else D4 (jy n t o.dst undef) fun t'=>iI E n ops K os t' m w
def uG{r:TN Nat}{x y:Nat}{z:TN Nat}{u:Nat->Bool}(h:∀b,r=some b->b<y):fm { read:=r,wl:=x,next:=y,wrote:=z,kept:=u}=true:=by
 cases r with
 | none=>rfl
 | some b =>
  have:=h b rfl
  show Nat.blt b y=true
  rw[SA]; exact this
def nL{ops:TW Oper}{K:Tm->TS->Prop}:∀{os:TO Oper} {t:Tm} {m:TS} {w:Nat} {ns:TO Note},iI E n ops K os t m w->ns.all fm=true->hJ E n ops (fun t m ns=>ns.all fm=true/\K t m) os t (m.ww w) ns
 | [],t,m,w,ns,h,hn=>⟨by simpa using hn,h⟩
 | o::os,t,m,w,ns,h,hn=>by
  simp only[iI] at h;simp only[hJ]
  split at h
  ·rename_i hw;rw[QH hw];obtain⟨h1,h2⟩:=h;refine h2.A.mono fun v m' hv=>?_;obtain⟨t',hp,h3⟩:=hv.A;refine⟨t',hp,?_⟩;have:=nL (ns:={ read:=aK E t o.op,wl:=m'.wl,next:=m.next,wrote:=eu E t o.op,kept:=iJ m m'}::ns) h3 (by rw[Sk,hn,Bool.and_true]; exact uG h1)
   exact this
  rename_i hw;rw[QF hw];obtain⟨t',hp,h2⟩:=h.A;exact⟨t',hp,nL h2 (by rw[Sk,hn]; rfl)⟩
def bT.M1{id:Nat}{ops:TW Oper}(hp:kB ops=some [])(h:∀K:Tm->TS->Prop,(∀t m,Q .normal t m->K t m)->iI E n ops K ops.toList t m m.wl):bT E n fn ro (.region id ops true) Q t m:=by
 refine .draw hp ?_;have h1:=nL (ns:=[]) (h (fun t m=>Q .normal t m) fun _ _ h=>h) rfl;have mono:∀{os:TO Oper} {t:Tm} {m:TS} {ns:TO Note},hJ E n ops (fun t m ns=>ns.all fm=true/\Q .normal t m) os t m ns->hJ E n ops (fun t m ns=>(([]:TO (Nat×Nat)).all (dA ns ops)&&ns.all fm)=true/\Q .normal t m) os t m ns:=by
  intro os t m ns h
  simpa using h
 exact mono h1
variable{K:Tm->TS->Prop}{ops:TW Oper}{os:TO Oper}{ty:SY}{p:String}{af:TW Edge}{d:Nat}{g:TN (Nat×Bool)}{v a b r:SX}{x y:SZ}{e:SY}
def IY{xs:TO SZ}{vs:TO SX}(h:an E t x=some v)(hs:bq E t xs=some vs):bq E t (x::xs)=some (v::vs):=by simp only[bq,h,hs]
end
end Go.Ab
section
namespace Go.Ab.W
open Go Go.Ab
abbrev Fs:=TO (Nat×SX)
def lk:Fs->Nat->TN SX
 | [],_=>none
 | p::l,i=>match Nat.beq p.1 i with
  | true=>some p.2
  | false=>lk l i
def Fr(t:Tm)(fs:Fs):Prop:=∀i v,lk fs i=some v->t.at i=v
def Fr.nil(t:Tm):Fr t []:=fun i v h=>by cases h
def Fr.set{t:Tm}{fs:Fs}{d:Nat}{v:SX}(h:Fr t fs):Fr (Trie.set t d v) ((d,v)::fs):=by
 intro i x hx;unfold lk at hx;rw[at_set]
 split at hx
 rename_i e;have:d=i:=RI e;rw[QH this.symm]; exact QL hx
 rename_i e;have:d≠i:=SD e;rw[QF (Ne.symm this)]; exact h i x hx
def sub(fs:Fs):Fs->Prop
 | []=>True
 | p::l=>lk fs p.1=some p.2/\sub fs l
def Fr.sub{t:Tm}{fs:Fs}:∀{fs':Fs},Fr t fs->sub fs fs'->Fr t fs'
 | [],_,_=>Fr.nil t
 | p::l,h,hs=>by
  intro i v hv;unfold lk at hv
  split at hv
  rename_i e;have:p.1=i:=RI e;subst this;cases hv;exact h _ _ hs.1
  exact Fr.sub h hs.2 i v hv
def ev(E:Env)(fs:Fs):SZ->TN SX
 | .tmp i=>lk fs i
 | .const v=>match bB v with
  | true=>some v
  | false=>none
 | .global g=>match Nat.blt g E.glob with
  | true=>some (ptr g 0)
  | false=>none
 | .func f=>some (.func (.func f) #[] #[])
def fX(E:Env)(fs:Fs):TO SZ->TN (TO SX)
 | []=>some []
 | x::xs=>match ev E fs x with
  | some v=>match fX E fs xs with
   | some vs=>some (v::vs)
   | none=>none
  | none=>none
def iY(E:Env)(fs:Fs):TN SZ->TN (TN SX)
 | none=>some none
 | some x=>match ev E fs x with
  | some v=>some (some v)
  | none=>none
def Hr(E:Env)(fs:Fs):TO (Nat×SZ)->TN (TO (Nat×SX))
 | []=>some []
 | x::xs=>match ev E fs x.2 with
  | some v=>match Hr E fs xs with
   | some vs=>some ((x.1,v)::vs)
   | none=>none
  | none=>none
section
variable{E:Env}{t:Tm}{fs:Fs}
def Fr.ev(h:Fr t fs):∀{x:SZ} {v:SX},ev E fs x=some v->an E t x=some v
 | .tmp i,v,e=>by show some (t.at i)=some v; rw[h i v e]
 | .const c,v,e=>by
  simp only[Go.Ab.W.ev] at e
  split at e
  rename_i hp; cases e; simp only[an]; rw[QH hp]
  cases e
 | .global g,v,e=>by
  simp only[Go.Ab.W.ev] at e
  split at e
  rename_i hp; cases e; simp only[an]; rw[QH (by rwa[SA] at hp)]
  cases e
 | .func f,v,e=>by simp only[Go.Ab.W.ev] at e; exact e
def Fr.fX(h:Fr t fs):∀{xs:TO SZ} {vs:TO SX},fX E fs xs=some vs->bq E t xs=some vs
 | [],vs,e=>by simp only[Go.Ab.W.fX] at e; exact e
 | x::xs,vs,e=>by
  simp only[Go.Ab.W.fX] at e
  split at e
  rename_i v hv
  split at e
  rename_i ws hw;cases e;exact IY (h.ev hv) (Fr.fX h hw)
  cases e
  cases e
def Fr.iY(h:Fr t fs):∀{x:TN SZ} {v:TN SX},iY E fs x=some v->dF E t x=some v
 | none,v,e=>by simp only[Go.Ab.W.iY] at e; exact e
 | some x,v,e=>by
  simp only[Go.Ab.W.iY] at e
  split at e
  rename_i w hw; cases e; simp only[dF]; rw[h.ev hw]; rfl
  cases e
def Fr.Hr(h:Fr t fs):∀{xs:TO (Nat×SZ)} {vs:TO (Nat×SX)},Hr E fs xs=some vs->dU E t xs=some vs
 | [],vs,e=>by simp only[Go.Ab.W.Hr] at e; exact e
 | x::xs,vs,e=>by
  simp only[Go.Ab.W.Hr] at e
  split at e
  rename_i v hv
  split at e
  rename_i ws hw;cases e;obtain⟨i,y⟩:=x;unfold dU;rw[h.ev hv,Fr.Hr h hw]
  cases e
  cases e
end
def pE(m:TS)(b o w:Nat)(es:SS):Prop :=
 b<m.next/\∃all tg,m.get b=some (.cells all tg)/\(∀sz,tg=.more sz->sz=w)/\∀i e,es[i]? = some e->(all.drop (o+i*w)).take w=e/\e.length=w
def kK:SU->TN Nat
 | some a=>some a.block
 | none=>none
def Rd(m:TS)(a:SU)(cap w n:Nat)(es:SS):Prop :=
 es.length=n/\n<=cap/\((a=none/\n=0)\/(∃b sp,a=some ⟨b,0,some sp⟩/\n=0/\cap=0/\b<m.next)\/∃b o,a=some ⟨b,o,none⟩/\pE m b o w es)
def Rd.lt{m:TS}{a:SU}{cap w n:Nat}{es:SS}(h:Rd m a cap w n es){b:Nat}(hb:kK a=some b):b<m.next:=by
 rcases h.2.2 with⟨rfl,_⟩|⟨b',sp,rfl,_,_,h4⟩|⟨b',o,rfl,h4⟩
 cases hb
 cases hb; exact h4
 cases hb; exact h4.1
def Cl(lo:Nat)(m:TS)(b w n:Nat)(es:SS)(tg:Tag):Prop :=
 lo<=b/\b<m.next/\m.get b=some (.cells es.flatten tg)/\es.length=n/\(∀e∈es,e.length=w)/\(tg=.own\/tg=.more w)/\0<w
structure GPc where
 ow:Nat->Prop
 rd:Nat->Prop
 P:TS->Prop
 st:∀m m':TS,P m->m.next<=m'.next->(∀b,ow b\/rd b->b<m.next->m'.get b=m.get b)->P m'
 lt:∀(m:TS) b,P m->ow b\/rd b->b<m.next
 fr:Bool:=false
inductive Pc
 | obj (b:Nat) (o:TU)
 | arr (b w n:Nat) (es:SS) (tg:Tag)
 | sl (a:SU) (w n:Nat) (es:SS)
 | rd (a:SU) (cap w n:Nat) (es:SS)
 | ro (b o w n:Nat) (es:SS)
 | gen (g:GPc)
def Pc.qP:Pc->TN Nat
 | .obj b _=>some b
 | .arr b _ _ _ _=>some b
 | .sl a _ _ _=>kK a
 | .rd a _ _ _ _=>kK a
 | .ro b _ _ _ _=>some b
 | .gen _=>none
def Pc.own:Pc->Bool
 | .obj _ _|.arr _ _ _ _ _|.sl _ _ _ _=>true
 | _=>false
def Pc.P4:Pc->Nat->Prop
 | .gen g=>g.ow
 | _=>fun _=>False
def Pc.CB:Pc->Nat->Prop
 | .gen g=>fun b=>g.ow b\/g.rd b
 | _=>fun _=>False
def Pc.ow(p:Pc)(b:Nat):Prop:=(p.own=true/\p.qP=some b)\/p.P4 b
def Pc.any(p:Pc)(b:Nat):Prop:=p.qP=some b\/p.CB b
def Pc.gZ{p:Pc}{b:Nat}(h:p.ow b):p.any b:=by
 rcases h with h|h
 exact .inl h.2
 ·cases p with
  | gen g=>exact .inr (.inl h)
  | _=>exact h.elim
def Pc.NO{p:Pc}{b:Nat}(ho:p.own=true)(hb:p.qP=some b):p.ow b:=.inl ⟨ho,hb⟩
def Pc.uY{p:Pc}{b:Nat}(ho:p.own=true)(h:p.any b):p.qP=some b:=by
 rcases h with h|h
 exact h
 ·cases p with
  | gen g=>cases ho
  | _=>exact h.elim
def Pc.ok(lo:Nat)(m:TS):Pc->Prop
 | .obj b o=>lo<=b/\b<m.next/\m.get b=some o
 | .arr b w n es tg=>Cl lo m b w n es tg
 | .sl a w n es=>(n=0/\es=[]/\a=none/\0<w)\/∃b tg,a=some ⟨b,0,none⟩/\Cl lo m b w n es tg
 | .rd a cap w n es=>Rd m a cap w n es
 | .ro b o w n es=>es.length=n/\pE m b o w es
 | .gen g=>g.P m/\(g.fr=false->∀b,g.ow b->lo<=b)
def Pc.bound:Pc->Bool
 | .gen g=>!g.fr
 | _=>true
def Pc.apart(p q:Pc):Prop:=(∀b,p.ow b->q.any b->False)/\∀b,q.ow b->p.any b->False
structure Hp(m0 m:TS)(ps:TO Pc):Prop where
 ext:Ext m0 m
 ok:∀p∈ps,p.ok m0.next m
 apart:ps.Pairwise Pc.apart
def pk:TO Pc->Nat->TN Pc
 | [],_=>none
 | p::_,0=>some p
 | _::l,k+1=>pk l k
def bI:TO Pc->Nat->Pc->TO Pc
 | [],_,_=>[]
 | _::l,0,p=>p::l
 | q::l,k+1,p=>q::bI l k p
def jg(p:Pc)(l:TO Pc):pk (p::l) 0=some p:=rfl
def ef(p:Pc)(l:TO Pc)(k:Nat):pk (p::l) (k+1)=pk l k:=rfl
def iW:∀{ps:TO Pc} {k:Nat} {p:Pc},pk ps k=some p->p∈ps:=by
 intro ps
 induction ps with
 | nil=>intro k p h; simp[pk] at h
 | cons q l ih =>
  intro k p h;cases k with
  | zero=>rw[jg] at h; have:=QL h; simp[this]
  | succ k=>rw[ef] at h; have:=ih h; simp[this]
def ir(q:Pc)(l:TO Pc)(p:Pc):bI (q::l) 0 p=p::l:=rfl
def dG(q:Pc)(l:TO Pc)(k:Nat)(p:Pc):bI (q::l) (k+1) p=q::bI l k p:=rfl
def ue:∀{l:TO Pc} {k:Nat} {p r:Pc},r∈bI l k p->r∈l\/r=p:=by
 intro l
 induction l with
 | nil=>intro k p r h; simp[bI] at h
 | cons a l ih =>
  intro k p r h;cases k with
  | zero =>
   rw[ir,QY] at h;rcases h with h|h
   exact .inr h
   exact .inl (by simp[h])
  | succ k =>
   rw[dG,QY] at h;rcases h with h|h
   exact .inl (by simp[h])
   rcases ih h with h1|h1
   exact .inl (by simp[h1])
   exact .inr h1
def pE.j6{m m':TS}{b o w:Nat}{es:SS}(h:pE m b o w es)(hn:m.next<=m'.next)(hg:m'.get b=m.get b):pE m' b o w es:=by
 obtain⟨h1,all,tg,h2,h3⟩:=h;exact⟨by omega,all,tg,by rw[hg]; exact h2,h3⟩
def Cl.j6{lo:Nat}{m m':TS}{b w n:Nat}{es:SS}{tg:Tag}(h:Cl lo m b w n es tg)(hn:m.next<=m'.next)(hg:m'.get b=m.get b):Cl lo m' b w n es tg:=by
 obtain⟨h1,h2,h3,h4⟩:=h;exact⟨h1,by omega,by rw[hg]; exact h3,h4⟩
def Rd.j6{m m':TS}{a:SU}{cap w n:Nat}{es:SS}(h:Rd m a cap w n es)(hn:m.next<=m'.next)(hg:∀b,kK a=some b->b<m.next->m'.get b=m.get b):Rd m' a cap w n es:=by
 obtain⟨h1,h2,h4⟩:=h;refine⟨h1,h2,?_⟩;rcases h4 with h4|⟨b,sp,rfl,a1,a2,a3⟩|⟨b,o,rfl,h⟩
 exact .inl h4
 exact .inr (.inl ⟨b,sp,rfl,a1,a2,QT a3 hn⟩)
 exact .inr (.inr ⟨b,o,rfl,h.j6 hn (hg b rfl h.1)⟩)
def Pc.fx{lo:Nat}{m m':TS}{p:Pc}(h:p.ok lo m)(hn:m.next<=m'.next)(hg:∀b,p.any b->b<m.next->m'.get b=m.get b):p.ok lo m':=by
 cases p with
 | obj b o=>exact⟨h.1,by have:=h.2.1; omega,by rw[hg b (.inl rfl) h.2.1]; exact h.2.2⟩
 | arr b w n es tg=>exact Cl.j6 h hn (hg b (.inl rfl) h.2.1)
 | sl a w n es =>
  rcases h with h|⟨b,tg,rfl,h⟩
  exact .inl h
  exact .inr ⟨b,tg,rfl,h.j6 hn (hg b (.inl rfl) h.2.1)⟩
 | rd a cap w n es=>exact Rd.j6 h hn fun b hb=>hg b (.inl hb)
 | ro b o w n es=>exact⟨h.1,h.2.j6 hn (hg b (.inl rfl) h.2.1)⟩
 | gen g=>exact⟨g.st m m' h.1 hn fun b hb=>hg b (.inr hb),h.2⟩
def Pc.fh{lo:Nat}{m:TS}{p:Pc}(h:p.ok lo m){b:Nat}(hb:p.any b):b<m.next:=by
 cases p with
 | obj b' o=>rcases hb with hb|hb; cases hb; exact h.2.1; exact hb.elim
 | arr b' w n es tg=>rcases hb with hb|hb; cases hb; exact h.2.1; exact hb.elim
 | sl a w n es =>
  rcases hb with hb|hb
  rcases h with⟨_,_,rfl,_⟩|⟨b',tg,rfl,h⟩
  cases hb
  cases hb; exact h.2.1
  exact hb.elim
 | rd a cap w n es=>rcases hb with hb|hb; exact Rd.lt h hb; exact hb.elim
 | ro b' o w n es=>rcases hb with hb|hb; cases hb; exact h.2.1; exact hb.elim
 | gen g=>rcases hb with hb|hb; cases hb; exact g.lt m b h.1 hb
def Pc.KW{lo:Nat}{m:TS}{p:Pc}(h:p.ok lo m){b:Nat}(hb:p.qP=some b):b<m.next:=Pc.fh h (.inl hb)
def Pc.qh{lo:Nat}{m:TS}{p:Pc}(h:p.ok lo m)(hf:p.bound=true){b:Nat}(hb:p.ow b):lo<=b:=by
 rcases hb with⟨ho,hb⟩|hb
 ·cases p with
  | obj b' o=>cases hb; exact h.1
  | arr b' w n es tg=>cases hb; exact h.1
  | sl a w n es =>
   rcases h with⟨_,_,rfl,_⟩|⟨b',tg,rfl,h⟩
   cases hb
   cases hb; exact h.1
  | rd a cap w n es=>cases ho
  | ro b' o w n es=>cases ho
  | gen g=>cases ho
 ·cases p with
  | gen g=>exact h.2 (by simpa [Pc.bound] using hf) b hb
  | _=>exact hb.elim
def Pc.Fk{lo:Nat}{m:TS}{p:Pc}(h:p.ok lo m)(ho:p.own=true){b:Nat}(hb:p.qP=some b):lo<=b:=Pc.qh h (by cases p<;>first|rfl|cases ho) (.inl ⟨ho,hb⟩)
section
variable{m0 m m':TS}{ps:TO Pc}
def Hp.get(h:Hp m0 m ps){k:Nat}{p:Pc}(hp:pk ps k=some p):p.ok m0.next m:=h.ok p (iW hp)
def Pc.gp{p r:Pc}(h:Pc.apart p r):Pc.apart r p:=⟨h.2,h.1⟩
def iL:∀{ps:TO Pc} {k:Nat} {p p':Pc},pk ps k=some p->(∀r∈ps,Pc.apart p r->Pc.apart p' r)->ps.Pairwise Pc.apart->(bI ps k p').Pairwise Pc.apart:=by
 intro ps
 induction ps with
 | nil=>intro k p p' hk; simp[pk] at hk
 | cons q l ih =>
  intro k p p' hk hr h;rw[Q2] at h;cases k with
  | zero =>
   rw[jg] at hk;have hk:=QL hk;subst hk;rw[ir];exact Q2.2 ⟨fun r hm=>hr r (by simp[hm]) (h.1 r hm),h.2⟩
  | succ k =>
   rw[ef] at hk;rw[dG];refine Q2.2 ⟨fun r hm=>?_,ih hk (fun r hm=>hr r (by simp[hm])) h.2⟩
   rcases ue hm with hm|hm
   exact h.1 r hm
   rw[hm]; exact Pc.gp (hr q (by simp) (Pc.gp (h.1 p (iW hk))))
def zt:∀{ps:TO Pc} {k:Nat} {p p' r:Pc},pk ps k=some p->ps.Pairwise Pc.apart->r∈bI ps k p'->r=p'\/(r∈ps/\Pc.apart r p):=by
 intro ps
 induction ps with
 | nil=>intro k p p' r hk; simp[pk] at hk
 | cons q l ih =>
  intro k p p' r hk h hr;rw[Q2] at h;cases k with
  | zero =>
   rw[jg] at hk;have hk:=QL hk;subst hk;rw[ir,QY] at hr;rcases hr with hr|hr
   exact .inl hr
   exact .inr ⟨by simp[hr],Pc.gp (h.1 r hr)⟩
  | succ k =>
   rw[ef] at hk;rw[dG,QY] at hr;rcases hr with hr|hr
   rw[hr]; exact .inr ⟨by simp,h.1 p (iW hk)⟩
   rcases ih hk h.2 hr with h1|⟨h1,h2⟩
   exact .inl h1
   exact .inr ⟨by simp[h1],h2⟩
def Hp.CH(h:Hp m0 m ps){k:Nat}{p p':Pc}(hp:pk ps k=some p)(nF:∀b,p'.ow b->p.ow b\/m.next<=b)(hany:∀b,p'.any b->p.any b\/m.next<=b)(hn:m.next<=m'.next)(hext:Ext m0 m')
  (hok:p'.ok m0.next m') (hg:∀b,¬p.ow b->b<m.next->m'.get b=m.get b):Hp m0 m' (bI ps k p') where
 ext:=hext
 apart:=iL hp (fun r hr ha=>⟨fun b a c=>(nF b a).elim (fun a=>ha.1 b a c) fun a=>by have:=Pc.fh (h.ok r hr) c; omega,fun b a c=>(hany b c).elim (fun c=>ha.2 b a c) fun c=>by have:=Pc.fh (h.ok r hr) (Pc.gZ a); omega⟩) h.apart
 ok:=fun r hr=>by
  rcases zt hp h.apart hr with rfl|⟨h1,h2⟩
  exact hok
  exact Pc.fx (h.ok r h1) hn fun b hb' hlt=>hg b (fun e=>h2.2 b e hb') hlt
def Hp.put(h:Hp m0 m ps){k:Nat}{p p':Pc}(hp:pk ps k=some p)(ho:p.own=true)(hb:p'.qP=p.qP)(ho':p'.own=true)(hn:m.next<=m'.next)(hext:Ext m0 m')
  (hok:p'.ok m0.next m') (hg:∀b,p.qP≠some b->b<m.next->m'.get b=m.get b):Hp m0 m' (bI ps k p') :=
 h.CH hp (fun b a=>.inl (.inl ⟨ho,by rw[<-hb]; exact Pc.uY ho' (Pc.gZ a)⟩)) (fun b a=>.inl (.inl (by rw[<-hb]; exact Pc.uY ho' a))) hn hext hok fun b hb' hlt=>hg b (fun e=>hb' (.inl ⟨ho,e⟩)) hlt
def Hp.J6(h:Hp m0 m ps){p:Pc}(hn:m.next<=m'.next)(hext:Ext m0 m')(hsame:∀b,b<m.next->m'.get b=m.get b)(hp:p.ok m0.next m')(hb:∀b,p.any b->m.next<=b):Hp m0 m' (p::ps) where
 ext:=hext
 ok:=fun q hq=>by
  rcases QY.1 hq with rfl|hq
  exact hp
  exact Pc.fx (h.ok q hq) hn fun b hb' hlt=>hsame b hlt
 apart:=Q2.2 ⟨fun q hq=>⟨fun b h1 h2=>by
  have:=Pc.fh (h.ok q hq) h2;have:=hb b (Pc.gZ h1);omega,fun b h1 h2=>by
  have:=Pc.fh (h.ok q hq) (Pc.gZ h1);have:=hb b h2;omega⟩,h.apart⟩
def Hp.cons(h:Hp m0 m ps){p:Pc}(hn:m.next<=m'.next)(hext:Ext m0 m')(hsame:∀b,b<m.next->m'.get b=m.get b)(hp:p.ok m0.next m')(hb:∀b,p.qP=some b->m.next<=b)(hng:∀b,¬p.CB b:=by exact fun _ h=>h):Hp m0 m' (p::ps) :=
 h.J6 hn hext hsame hp fun b hb'=>hb'.elim (hb b) fun h=>Q1 h (hng b)
def al(ps:TO Pc):TO Nat->TN (TO Pc)
 | []=>some []
 | k::ks=>match pk ps k with
  | some p=>match al ps ks with
   | some qs=>some (p::qs)
   | none=>none
  | none=>none
def kF:TO Nat->Bool
 | []=>true
 | k::ks=>!(ks.any (Nat.beq k))&&kF ks
def pM:∀{ks:TO Nat} {qs:TO Pc},al ps ks=some qs->∀q∈qs,∃k∈ks,pk ps k=some q:=by
 intro ks
 induction ks with
 | nil=>intro qs h q hq; simp only[al,Option.some.injEq] at h; subst h; cases hq
 | cons k ks ih =>
  intro qs h q hq;simp only[al] at h
  split at h
  rename_i p hp
  split at h
  rename_i qs' hqs;simp only[Option.some.injEq] at h;subst h;rcases QY.1 hq with rfl|hq
  exact⟨k,by simp,hp⟩
  obtain⟨k',h1,h2⟩:=ih hqs q hq;exact⟨k',by simp[h1],h2⟩
  cases h
  cases h
def eX:∀{ps:TO Pc} {i j:Nat} {p q:Pc},ps.Pairwise Pc.apart->pk ps i=some p->pk ps j=some q->i≠j->Pc.apart p q:=by
 intro ps
 induction ps with
 | nil=>intro i j p q _ h; simp[pk] at h
 | cons r l ih =>
  intro i j p q h hi hj hne;rw[Q2] at h;cases i with
  | zero =>
   cases j with
   | zero=>exact Q1 rfl hne
   | succ j =>
    rw[jg] at hi;rw[ef] at hj;rw[<-QL hi];exact h.1 q (iW hj)
  | succ i =>
   cases j with
   | zero =>
    rw[jg] at hj;rw[ef] at hi;rw[<-QL hj];exact Pc.gp (h.1 p (iW hi))
   | succ j=>rw[ef] at hi hj; exact ih h.2 hi hj (fun e=>hne (by rw[e]))
def jB:∀{ps:TO Pc} {r:Pc},r∈ps->∃k,pk ps k=some r:=by
 intro ps
 induction ps with
 | nil=>intro r h; cases h
 | cons p l ih =>
  intro r h;rcases QY.1 h with rfl|h
  exact⟨0,rfl⟩
  obtain⟨k,hk⟩:=ih h; exact⟨k+1,hk⟩
def Hp.yE(h:Hp m0 m ps){k:Nat}{p q:Pc}(hp:pk ps k=some p)(hpo:∀b,¬p.ow b)(hq:q.ok m0.next m)(hqo:∀b,¬q.ow b)(hb:∀b,q.any b->p.any b):Hp m0 m (q::ps) where
 ext:=h.ext
 ok:=fun r hr=>by
  rcases QY.1 hr with rfl|hr
  exact hq
  exact h.ok r hr
 apart:=Q2.2 ⟨fun r hr=>⟨fun b h1 _=>hqo b h1,fun b h1 h2=>by
  obtain⟨k',hk'⟩:=jB hr;have hne:k≠k':=fun e=>by
   rw[<-e,hp] at hk';exact hpo b (by rw[QL hk']; exact h1)
  exact(eX h.apart hp hk' hne).2 b h1 (hb b h2)⟩,h.apart⟩
def Hp.more(h:Hp m0 m ps){k:Nat}{p q:Pc}(hp:pk ps k=some p)(hpo:p.own=false)(hq:q.ok m0.next m)(hqo:q.own=false)(hb:∀b,q.qP=some b->p.qP=some b)(hpg:∀b,¬p.P4 b:=by exact fun _ h=>h)(hqg:∀b,¬q.CB b:=by exact fun _ h=>h):Hp m0 m (q::ps) :=
 h.yE hp (fun b h=>h.elim (fun h=>by rw[hpo] at h; cases h.1) (hpg b)) hq (fun b h=>h.elim (fun h=>by rw[hqo] at h; cases h.1) fun h=>hqg b (by cases q with|gen g=>exact .inl h|_=>exact h)) fun b h=>h.elim (fun h=>.inl (hb b h)) fun h=>Q1 h (hqg b)
def yB(h:ps.Pairwise Pc.apart):∀{ks:TO Nat} {qs:TO Pc},kF ks=true->al ps ks=some qs->qs.Pairwise Pc.apart:=by
 intro ks
 induction ks with
 | nil=>intro qs _ e; simp only[al,Option.some.injEq] at e; subst e; exact .nil
 | cons k ks ih =>
  intro qs hnd e;simp only[kF,QJ,RD,List.any_eq_false] at hnd;simp only[al] at e
  split at e
  rename_i p hp
  split at e
  rename_i qs' hqs;simp only[Option.some.injEq] at e;subst e;refine Q2.2 ⟨fun q hq=>?_,ih hnd.2 hqs⟩;obtain⟨k',h1,h2⟩:=pM hqs q hq;exact eX h hp h2 fun e=>hnd.1 k' h1 (by rw[e]; exact Nat.beq_refl _)
  cases e
  cases e
def Hp.al(h:Hp m0 m ps)(ks:TO Nat){qs:TO Pc}(hnd:kF ks=true)(e:W.al ps ks=some qs):Hp m0 m qs where
 ext:=h.ext
 ok:=fun q hq=>by
  obtain⟨k,_,hk⟩:=pM e q hq;exact h.ok q (iW hk)
 apart:=yB h.apart hnd e
def Pc.Ci{lo lo':Nat}{m:TS}{p:Pc}(h:p.ok lo m)(hle:lo'<=lo):p.ok lo' m:=by
 have up:∀{b w n es tg},Cl lo m b w n es tg->Cl lo' m b w n es tg:=fun ho=>⟨Rc hle ho.1,ho.2⟩;cases p with
 | obj b o=>exact⟨Rc hle h.1,h.2⟩
 | arr b w n es tg=>exact up h
 | sl a w n es =>
  rcases h with h1|⟨b,tg,e,h1⟩
  exact .inl h1
  exact .inr ⟨b,tg,e,up h1⟩
 | rd a cap w n es=>exact h
 | ro b o w n es=>exact h
 | gen g=>exact⟨h.1,fun hf b hb=>Rc hle (h.2 hf b hb)⟩
def Hp.AZ(h:Hp m0 m ps){new:TO Pc}(h':Hp m m' new)(hbd:∀p∈new,p.bound=true)(hro:∀p∈new,∀b,p.any b->m.next<=b\/(¬p.ow b/\∃q∈ps,(∀b,¬q.ow b)/\q.any b)):Hp m0 m' (new++ps) where
 ext:=h.ext.trans h'.ext
 ok:=fun q hq=>by
  rcases Q3.1 hq with hq|hq
  exact Pc.Ci (h'.ok q hq) h.ext.next
  exact Pc.fx (h.ok q hq) h'.ext.next fun b _ hlt=>h'.ext.same b hlt
 apart:=R2.2 ⟨h'.apart,h.apart,fun p hp q hq=>⟨fun b h1 h2=>by
  have:=Pc.qh (h'.ok p hp) (hbd p hp) h1;have:=Pc.fh (h.ok q hq) h2;omega,fun b h1 h2=>by
  rcases hro p hp b h2 with h3|⟨_,r,hr,hr1,hr2⟩
  have:=Pc.fh (h.ok q hq) (Pc.gZ h1);omega
  obtain⟨i,hi⟩:=jB hq;obtain⟨j,hj⟩:=jB hr;have hne:i≠j:=fun e=>by
   rw[e,hj] at hi;exact hr1 b (by rw[QL hi]; exact h1)
  exact(eX h.apart hi hj hne).1 b h1 hr2⟩⟩
def Hp.after(h:Hp m0 m ps){new:TO Pc}(h':Hp m m' new)(hro:∀p∈new,p.own=true):Hp m0 m' (new++ps) :=
 h.AZ h' (fun p hp=>by have:=hro p hp; cases p<;>first|rfl|cases this) fun p hp b hb=>.inl (Pc.Fk (h'.ok p hp) (hro p hp) (Pc.uY (hro p hp) hb))
def k5(ps:TO Pc)(b:Nat):Prop:=∃p∈ps,p.ow b
def Hp.du(h:Hp m0 m ps):∀b,k5 ps b->b<m.next:=fun _ ⟨p,hp,hb⟩=>Pc.fh (h.ok p hp) (Pc.gZ hb)
def th(H:SV):GPc:={ ow:=H,rd:=fun _=>False,P:=fun m=>∀b,H b->b<m.next,fr:=true,st:=fun _ _ h hn _ b hb=>QT (h b hb) hn,lt:=fun _ b h hb=>hb.elim (h b) fun h=>h.elim}
def Hp.sb(m:TS){H:SV}(hH:∀b,H b->b<m.next):Hp m m [.gen (th H)]:=⟨.refl m,fun p h=>by rw[QW.1 h]; exact⟨hH,fun h=>by cases h⟩,List.pairwise_singleton ..⟩
def Hp.GI(h:Hp m0 m ps){new:TO Pc}(h':Hp m m' (new++[.gen (th (k5 ps))]))(hbd:∀p∈new,p.bound=true):Hp m0 m' (new++ps) where
 ext:=h.ext.trans h'.ext
 ok:=fun q hq=>by
  rcases Q3.1 hq with hq|hq
  exact Pc.Ci (h'.ok q (Rg _ hq)) h.ext.next
  exact Pc.fx (h.ok q hq) h'.ext.next fun b _ hlt=>h'.ext.same b hlt
 apart:=R2.2 ⟨(R2.1 h'.apart).1,h.apart,fun p hp q hq=>⟨fun b h1 h2=>by
  have:=Pc.qh (h'.ok p (Rg _ hp)) (hbd p hp) h1;have:=Pc.fh (h.ok q hq) h2;omega,fun b h1 h2=>((R2.1 h'.apart).2.2 p hp _ (QW.2 rfl)).2 b (.inr ⟨q,hq,h1⟩) h2⟩⟩
def Hp.NF(h:Hp m0 m ps){k cap w n:Nat}{a:SU}{es:SS}(hp:pk ps k=some (.rd a cap w n es)):∀b,kK a=some b->¬k5 ps b:=fun b hb ⟨q,hq,h1⟩=>by
 obtain⟨i,hi⟩:=jB hq;have hne:i≠k:=fun e=>by
  rw[e,hp] at hi;cases hi;exact h1.elim (fun h=>by cases h.1) fun h=>h.elim
 exact(eX h.apart hi hp hne).1 b h1 (.inl hb)
end
structure TyI(P:S0)(ty:SY)(ag:Bool)(sz:Nat):Prop where
 known:known P ty=true
 agg:dD P ty=ag
 size:aB P ty=sz
structure SlT(P:S0)(ty elem:SY)(w:Nat):Prop where
 und:P.underlying ty=some (.slice elem)
 known:known P elem=true
 size:aB P elem=w
 pos:0<w
 zero:(bj P elem).any (fun z=>z.cells.size==w&&z.cells.toList.all aP)=true
 bytes:∃i,P.info? elem=some i/\i.bytes≠0/\i.bytes<=1024
structure ArT(P:S0)(ty elem:SY)(len w:Nat):Prop where
 und:P.underlying ty=some (.array len elem)
 known:known P elem=true
 size:aB P elem=w
def NJ(P:S0)(ty elem:SY)(w:Nat):Bool :=
 (match P.underlying ty with|some (.slice e)=>Nat.beq e elem|_=>false)&&known P elem&&Nat.beq (aB P elem) w&&Nat.blt 0 w &&(bj P elem).any (fun z=>z.cells.size==w&&z.cells.toList.all aP) &&(match P.info? elem with|some i=>!(Nat.beq i.bytes 0)&&Nat.ble i.bytes 1024|none=>false)
def SlT.of{P:S0}{ty elem:SY}{w:Nat}(h:NJ P ty elem w=true):SlT P ty elem w:=by
 simp only[NJ,QJ] at h;obtain⟨⟨⟨⟨⟨h1,h2⟩,h3⟩,h4⟩,h5⟩,h6⟩:=h;refine⟨?_,h2,RI h3,by rwa[SA] at h4,h5,?_⟩
 split at h1
 rename_i e he; rw[he,RI h1]
 cases h1
 split at h6
 rename_i i hi;simp only[QJ,RD] at h6;exact⟨i,hi,SD h6.1,RH h6.2⟩
 cases h6
section
variable{E:Env}{n:Nat}{m0:TS}{fs:Fs}{ps:TO Pc}
def Od(E:Env)(m0:TS)(fs:Fs)(ps:TO Pc)(o:Op)(v:SX)(ps':TO Pc):Prop :=
 ∀t m,Fr t fs->Hp m0 m ps->(∀b,aK E t o=some b->b<m.next)/\∀K:SX->TS->Prop,(∀m',Hp m0 m' ps'->K v m')->bc E t m o K
def Ox(E:Env)(m0:TS)(fs:Fs)(ps:TO Pc)(o:Op){α:Type}(V:α->SX)(N:α->TO Pc):Prop :=
 ∀t m,Fr t fs->Hp m0 m ps->(∀b,aK E t o=some b->b<m.next)/\∀K:SX->TS->Prop,(∀x m',Hp m0 m' (N x)->K (V x) m')->bc E t m o K
def Od.pure{o:Op}{v:SX}(hr:∀t,aK E t o=none)(h:∀t m,Fr t fs->∀K,bc E t m o K=K v m):Od E m0 fs ps o v ps :=
 fun t m hf hp=>⟨fun b hb=>(by rw[hr] at hb; cases hb),fun K hK=>by rw[h t m hf]; exact hK m hp⟩
variable{x y z:SZ}{a b r v:SX}{ty ty':SY}
def aS(h:ev E fs x=some v):Od E m0 fs ps (.move x) v ps:=.pure (fun _=>rfl) fun _ _ hf=>Go.Ab.Kg (hf.ev h)
def bC(h:ev E fs x=some v):Od E m0 fs ps (.assign x) v ps:=.pure (fun _=>rfl) fun _ _ hf=>Go.Ab.D5 (hf.ev h)
def FX{c:SZ}(hc:ev E fs c=some (.bool true))(h:ev E fs x=some v):Od E m0 fs ps (.pick c x y) v ps:=.pure (fun _=>rfl) fun _ _ hf=>Go.Ab.Iy (hf.ev hc) (hf.ev h)
def Oq{c:SZ}(hc:ev E fs c=some (.bool false))(h:ev E fs y=some v):Od E m0 fs ps (.pick c x y) v ps:=.pure (fun _=>rfl) fun _ _ hf=>Go.Ab.I5 (hf.ev hc) (hf.ev h)
def aJ{op:BinOp}(h:ev E fs x=some a)(h':ev E fs y=some b)(hr:bR op ty E.P a b=some r):Od E m0 fs ps (.binOp op ty x y ty') r ps:=.pure (fun _=>rfl) fun _ _ hf=>Go.Ab.Nz (hf.ev h) (hf.ev h') hr
def Cs{op:UnOp}(h:ev E fs x=some a)(hr:Dz op a=some r):Od E m0 fs ps (.unOp op ty x) r ps:=.pure (fun _=>rfl) fun _ _ hf=>Go.Ab.Cs (hf.ev h) hr
def kC(h:ev E fs x=some a)(hr:jS E.P ty ty' a=some r):Od E m0 fs ps (.convert ty ty' x) r ps:=.pure (fun _=>rfl) fun _ _ hf=>Go.Ab.Ln (hf.ev h) hr
def aG{f:Nat}(h:ev E fs x=some a)(hr:aD E.P ty a f=some r):Od E m0 fs ps (.fieldAddr ty x f) r ps:=.pure (fun _=>rfl) fun _ _ hf=>Go.Ab.yP (hf.ev h) hr
def PA{f:Nat}(h:ev E fs x=some a)(hr:gW E.P ty a f=some r):Od E m0 fs ps (.field ty x f) r ps:=.pure (fun _=>rfl) fun _ _ hf=>Go.Ab.Jz (hf.ev h) hr
def Mz(h:ev E fs x=some a)(h':ev E fs y=some b)(hr:bW E.P ty a b=some r):Od E m0 fs ps (.indexAddr ty x y) r ps:=.pure (fun _=>rfl) fun _ _ hf=>Go.Ab.xx (hf.ev h) (hf.ev h') hr
def HT{i:Nat}{vs:TW SX}(h:ev E fs x=some (.tuple vs))(hr:vs[i]? = some r):Od E m0 fs ps (.extract x i) r ps:=.pure (fun _=>rfl) fun _ _ hf=>Go.Ab.CZ (hf.ev h) hr
def je{f:T1}{xs ys:TW SZ}{vs ws:TO SX}(h:fX E fs xs.toList=some vs)(h':fX E fs ys.toList=some ws):Od E m0 fs ps (.makeFunc (.func f) xs ys) (.func (.func f) vs.toArray ws.toArray) ps :=
 .pure (fun _=>rfl) fun _ _ hf K=>by rw[Go.Ab.yT,hf.fX h,Go.Ab.dw,hf.fX h',Go.Ab.dw]
def ll{bi:Builtin}{ars:TW SZ}{ts:TW SY}{vs:TO SX}(h:fX E fs ars.toList=some vs)(hn:(match bi with|.len|.cap=>false|_=>true)=true)(hr:∀m,aZ E.P bi ts vs m=some (r,m)):Od E m0 fs ps (.call ⟨.builtin bi,ars,ts⟩) r ps :=
 .pure (fun _=>by cases bi<;>first|rfl|cases hn) fun _ _ hf K=>Go.Ab.dc (hf.fX h) (hr _) K
def cp{parts:TW (Nat×SZ)}{vs:TO (Nat×SX)}{z:SX}(h:Hr E fs parts.toList=some vs)(hz:bj E.P ty=some z)(hpz:bB z=true)(hr:lH E.P ty vs=some r):Od E m0 fs ps (.build ty parts) r ps :=
 .pure (fun _=>rfl) fun t m hf K=>by
  have:eS E t m (.build ty parts)=some (r,m):=by simp only[eS,hf.Hr h,hz,hpz,if_true,hr,QZ]
  exact Go.Ab.JI rfl this K
def w7(ag:Bool)(sz:Nat)(cs:TO SX)(o:Nat):TN SX :=
 match ag with
 | true=>match Nat.beq ((cs.drop o).take sz).length sz with
  | true=>some (.agg ((cs.drop o).take sz).toArray)
  | false=>none
 | false=>cs[o]?
def qK{P:S0}{m:TS}{ag:Bool}{sz b o:Nat}{cs:TO SX}{tg:Tag}(ht:TyI P ty ag sz)(hg:m.get b=some (.cells cs tg))(h:w7 ag sz cs o=some v):dK P ty (ptr b o) m=some v:=by
 cases ag with
 | false=>exact Ig ht.known ht.agg hg h
 | true =>
  simp only[w7] at h
  split at h
  rename_i e;cases h;exact Ij ht.known ht.agg ht.size hg rfl (RI e)
  cases h
def wg(ag:Bool)(sz c w:Nat):Bool:=(match ag with|true=>true|false=>Nat.beq sz 1)&&Nat.ble (c+sz) w
def uU{ag:Bool}{sz c w:Nat}(h:wg ag sz c w=true):(ag=false->sz=1)/\c+sz<=w:=by
 simp only[wg,QJ] at h;exact⟨fun e=>by subst e; exact RI h.1,RH h.2⟩
def Od.load{b o:Nat}(hx:ev E fs x=some (ptr b o))(h:∀m,Hp m0 m ps->b<m.next/\dK E.P ty (ptr b o) m=some v):Od E m0 fs ps (.load ty x) v ps :=
 fun t m hf hp=>⟨fun b' hb=>by
  simp only[aK,hf.ev hx] at hb;cases hb; exact(h m hp).1,fun K hK=>by
  rw[Go.Ab.Fv (hf.ev hx) (h m hp).2]; exact hK m hp⟩
def aH{ag:Bool}{sz b o k:Nat}{cs:TO SX}{tg:Tag}(ht:TyI E.P ty ag sz)(hx:ev E fs x=some (ptr b o))(hp:pk ps k=some (.obj b (.cells cs tg)))(hv:w7 ag sz cs o=some v):Od E m0 fs ps (.load ty x) v ps :=
 .load hx fun m h=>⟨(h.get hp).2.1,qK ht (h.get hp).2.2 hv⟩
def I0{ag:Bool}{sz o w c:Nat}{all e:TO SX}(he:(all.drop o).take w=e)(hsz:ag=false->sz=1)(hc:c+sz<=w)(h:w7 ag sz e c=some v):w7 ag sz all (o+c)=some v:=by
 subst he;have key:((List.take w (List.drop o all)).drop c).take sz=(all.drop (o+c)).take sz:=by
  rw[List.drop_take,List.take_take,Sy,Nat.min_eq_left (by omega)]
 cases ag with
 | true=>simp only[w7,key] at h ⊢; exact h
 | false =>
  simp only[w7,RK,RL] at h ⊢
  split at h
  exact h
  cases h
def pP{P:S0}{m:TS}{ag:Bool}{sz b o w j c:Nat}{es:SS}{e:TO SX}(ht:TyI P ty ag sz)(hl:pE m b o w es)(he:es[j]? = some e)(hv:w7 ag sz e c=some v)(hsz:ag=false->sz=1)(hc:c+sz<=w):dK P ty (ptr b (o+j*w+c)) m=some v:=by
 obtain⟨_,all,tg,hg,_,h⟩:=hl;exact qK ht hg (I0 (h j e he).1 hsz hc hv)
def BZ{w:Nat}:∀{es:SS} {j:Nat} {e:TO SX},(∀e∈es,e.length=w)->es[j]? = some e->(es.flatten.drop (j*w)).take w=e:=by
 intro es
 induction es with
 | nil=>intro j e _ h; simp at h
 | cons x es ih =>
  intro j e hw h;have hx:=hw x (by simp)
  cases j with
  | zero =>
   simp only[Q6,Option.some.injEq] at h;subst h;rw[Rx,SM,Sx,List.take_left' hx]
  | succ j =>
   rw[Rm] at h;rw[Rx,Sc,Nat.add_comm,<-Sy,List.drop_left' hx];exact ih (fun e he=>hw e (by simp[he])) h
def Cl.NY{lo:Nat}{m:TS}{b w n:Nat}{es:SS}{tg:Tag}(h:Cl lo m b w n es tg):pE m b 0 w es :=
 ⟨h.2.1,_,tg,h.2.2.1,fun sz e=>(by rcases h.2.2.2.2.2.1 with h1|h1<;>rw[h1] at e<;>cases e; rfl),fun i e he=>⟨by rw[Ra]; exact BZ h.2.2.2.2.1 he,h.2.2.2.2.1 e (Q4 he)⟩⟩
def fC{ag:Bool}{sz b w n j c k:Nat}{es:SS}{tg:Tag}{e:TO SX}(ht:TyI E.P ty ag sz)(hx:ev E fs x=some (ptr b (j*w+c)))(hp:pk ps k=some (.arr b w n es tg))(he:es[j]? = some e)(hv:w7 ag sz e c=some v)(hs:wg ag sz c w=true):Od E m0 fs ps (.load ty x) v ps:=by
 have hs:=uU hs;refine .load hx fun m h=>⟨(h.get hp).2.1,?_⟩;have:=pP (P:=E.P) ht (Cl.NY (h.get hp)) he hv hs.1 hs.2;rwa[Ra] at this
def p8{ag:Bool}{sz b o w n j c k:Nat}{es:SS}{e:TO SX}(ht:TyI E.P ty ag sz)(hx:ev E fs x=some (ptr b (o+j*w+c)))(hp:pk ps k=some (.ro b o w n es))(he:es[j]? = some e)(hv:w7 ag sz e c=some v)(hs:wg ag sz c w=true):Od E m0 fs ps (.load ty x) v ps:=by
 have hs:=uU hs;exact .load hx fun m h=>⟨(h.get hp).2.1,pP (P:=E.P) ht (h.get hp).2 he hv hs.1 hs.2⟩
def lL{elem:SY}{b o w n cap:Nat}{i:Int}{kd:IntKind}(ht:SlT E.P ty elem w)(hx:ev E fs x=some (.slice (some ⟨b,o,none⟩) n cap))(hy:ev E fs y=some (.int kd i))(hi:0<=i/\i.toNat<n):Od E m0 fs ps (.indexAddr ty x y) (ptr b (o+i.toNat*w+0)) ps:=by
 refine Mz hx hy ?_;have hd:decide ((0:Int)<=i/\i<(n:Nat))=true:=by simp; omega
 simp only[bW,ht.und,ht.known,hd,RU,if_true,ht.size,RV]
def sC{elem:SY}{b w n cap:Nat}{i:Int}{kd:IntKind}(ht:SlT E.P ty elem w)(hx:ev E fs x=some (.slice (some ⟨b,0,none⟩) n cap))(hy:ev E fs y=some (.int kd i))(hi:0<=i/\i.toNat<n):Od E m0 fs ps (.indexAddr ty x y) (ptr b (i.toNat*w+0)) ps:=by
 have:=lL (m0:=m0) (ps:=ps) ht hx hy hi;rwa[Ra] at this
def Hp.write{m:TS}(h:Hp m0 m ps){k b:Nat}{p p':Pc}{o':TU}(hp:pk ps k=some p)(ho:p.own=true)(hb:p.qP=some b)(hb':p'.qP=some b)(ho':p'.own=true)(hok:p'.ok m0.next (m.set b o')):Hp m0 (m.set b o') (bI ps k p') :=
 h.put hp ho (hb'.trans hb.symm) ho' (QK _) (h.ext.set (Pc.Fk (h.get hp) ho hb) _) hok fun x hx _=>by
  rw[TS.bl,QF (fun e=>hx (by rw[e]; exact hb))]
def Ja(cs:TO SX)(o:Nat)(v:SX)(sz:Nat):TN (TO SX) :=
 match Nat.beq v.cells.toList.length sz&&Nat.blt 0 sz&&aV v.cells.toList&&Nat.ble (o+sz) cs.length with
 | true=>some (ay cs o v.cells.toList)
 | false=>none
def iy:∀(cs:TO SX) (o:Nat) (vs:TO SX),o+vs.length<=cs.length->(ay cs o vs).length=cs.length
 | cs,0,[],_=>by cases cs<;>rfl
 | [],0,v::vs,h=>by simp at h
 | c::cs,0,v::vs,h=>by simp only[ay,Rl]; rw[iy cs 0 vs (by simpa using h)]
 | [],o+1,vs,h=>by simp at h
 | c::cs,o+1,vs,h=>by simp only[ay,Rl]; rw[iy cs o vs (by simp at h; omega)]
def yJ{P:S0}{m:TS}{ag:Bool}{sz b o:Nat}{cs cs':TO SX}{tg:Tag}(ht:TyI P ty ag sz)(hg:m.get b=some (.cells cs tg))(htg:tg≠.ro)(h:Ja cs o v sz=some cs'):ga P ty (ptr b o) v m=some (m.set b (.cells cs' tg)):=by
 simp only[Ja] at h
 split at h
 ·rename_i e;cases h;simp only[QJ] at e;obtain⟨⟨⟨h1,h2⟩,h3⟩,h4⟩:=e;have h1:=RI h1;have h2:0<sz:=by rwa[SA] at h2
  have h4:=RH h4;have hs:(v.cells.size==aB P ty)=true:=by rw[ht.size,<-h1]; simp
  simp only[ga,ptr,ht.known,hs,h3,RU,if_true,TS.cM];cases hc:v.cells.toList with
  | nil=>rw[hc] at h1; simp at h1; omega
  | cons x xs =>
   rw[hc] at h1;simp only[hg];cases tg with
   | ro=>exact Q1 rfl htg
   | own=>rw[QH (by rw[h1]; exact h4)]
   | more s=>rw[QH (by rw[h1]; exact h4)]
 cases h
def Od.store{bk o:Nat}{p':TO Pc}(hx:ev E fs x=some (ptr bk o))(hy:ev E fs y=some v)(h:∀m,Hp m0 m ps->∃m',ga E.P ty (ptr bk o) v m=some m'/\Hp m0 m' p'):Od E m0 fs ps (.store ty x y) undef p' :=
 fun t m hf hp=>⟨fun b hb=>by simp[aK] at hb,fun K hK=>by
  obtain⟨m',h1,h2⟩:=h m hp;rw[Go.Ab.HY (hf.ev hx) (hf.ev hy) h1]; exact hK m' h2⟩
def qj:Tag->Bool
 | .ro=>false
 | _=>true
def ek{ag:Bool}{sz b o k:Nat}{cs cs':TO SX}{tg:Tag}(ht:TyI E.P ty ag sz)(hx:ev E fs x=some (ptr b o))(hy:ev E fs y=some v)(hp:pk ps k=some (.obj b (.cells cs tg)))(htg:qj tg=true)(hv:Ja cs o v sz=some cs'):Od E m0 fs ps (.store ty x y) undef (bI ps k (.obj b (.cells cs' tg))) :=
 .store hx hy fun m h=>⟨_,yJ ht (h.get hp).2.2 (fun e=>by rw[e] at htg; cases htg) hv,h.write hp rfl rfl rfl rfl ⟨(h.get hp).1,(h.get hp).2.1,by rw[TS.bl,QH rfl]⟩⟩
def Aw:∀(l r vs:TO SX) (c:Nat),c+vs.length<=l.length->ay (l++r) c vs=ay l c vs++r:=by
 intro l r
 induction l with
 | nil =>
  intro vs c h;have h0:c+vs.length<=0:=h;have h1:c=0:=by omega
  have h2:vs=[]:=Rh.1 (by omega)
  subst h1 h2;cases r<;>rfl
 | cons a l ihl =>
  intro vs c h;cases c with
  | zero=>cases vs with
   | nil=>rfl
   | cons v vs=>simp only[Sn,ay]; rw[ihl vs 0 (by simpa using h)]
  | succ c=>simp only[Sn,ay]; rw[ihl vs c (by simp at h; omega)]
def qA:∀(l r vs:TO SX) (o:Nat),ay (l++r) (l.length+o) vs=l++ay r o vs:=by
 intro l r vs
 induction l with
 | nil=>intro o; simp
 | cons a l ihl=>intro o; rw[Sn,Rl,show l.length+1+o=(l.length+o)+1 by omega,ay,ihl o]; rfl
def xb{w c:Nat}{vs:TO SX}:∀{es:SS} {j:Nat} {e:TO SX},(∀e∈es,e.length=w)->es[j]? = some e->c+vs.length<=w->ay es.flatten (j*w+c) vs=(es.set j (ay e c vs)).flatten:=by
 intro es
 induction es with
 | nil=>intro j e _ h; simp at h
 | cons x es ih =>
  intro j e hw h hc;have hx:=hw x (by simp)
  cases j with
  | zero =>
   simp only[Q6,Option.some.injEq] at h;subst h;rw[Rx,SM,Ra,Aw _ _ _ _ (by omega)]
   simp[Rx]
  | succ j =>
   rw[Rm] at h;rw[Rx,Sc,show j*w+w+c=x.length+(j*w+c) by omega,qA,ih (fun e he=>hw e (by simp[he])) h hc]
   simp[Rx]
def np{ag:Bool}{sz b w n j c k:Nat}{es:SS}{e e':TO SX}{tg:Tag}(ht:TyI E.P ty ag sz)(hx:ev E fs x=some (ptr b (j*w+c)))(hy:ev E fs y=some v)(hp:pk ps k=some (.arr b w n es tg))(he:es[j]? = some e)(hv:Ja e c v sz=some e'):Od E m0 fs ps (.store ty x y) undef (bI ps k (.arr b w n (es.set j e') tg)):=by
 refine .store hx hy fun m h=>?_;obtain⟨g1,g2,g3,g4,g5,g6,g7⟩:=h.get hp;have hew:=g5 e (Q4 he);simp only[Ja] at hv
 split at hv
 ·rename_i e1;cases hv;simp only[QJ] at e1;obtain⟨⟨⟨h1,h2⟩,h3⟩,h4⟩:=e1;have h1:=RI h1;have h2':0<sz:=by rwa[SA] at h2
  have h4:=RH h4;have hj:j<es.length:=(QU.1 he).1;have hfl:∀(l:SS),(∀e∈l,e.length=w)->l.flatten.length=l.length*w:=by
   intro l
   induction l with
   | nil=>intro _; simp
   | cons x l ih=>intro hl; rw[Rx,QV,ih (fun e he=>hl e (by simp[he])),hl x (by simp),Rl,Sc]; omega
  have hmul:(j+1)*w<=es.length*w:=RM w hj;rw[Sc] at hmul;have hst:Ja es.flatten (j*w+c) v sz=some (ay es.flatten (j*w+c) v.cells.toList):=by
   have:(Nat.beq v.cells.toList.length sz&&Nat.blt 0 sz&&aV v.cells.toList&&Nat.ble (j*w+c+sz) es.flatten.length)=true:=by
    simp only[QJ];exact⟨⟨⟨by rw[h1]; exact Nat.beq_refl _,h2⟩,h3⟩,Nat.ble_eq_true_of_le (by rw[hfl es g5]; omega)⟩
   simp only[Ja,this]
  refine⟨_,yJ ht g3 (by rcases g6 with rfl|rfl<;>simp) hst,h.write hp rfl rfl rfl rfl ?_⟩
  refine⟨g1,g2,?_,by simpa using g4,fun e'' he''=>?_,g6,g7⟩
  rw[TS.bl,QH rfl,xb g5 he (by omega)]
  rcases List.mem_or_eq_of_mem_set he'' with h5|h5
  exact g5 _ h5
  rw[h5,iy _ _ _ (by omega)]; exact hew
 cases hv
def Ox.made{o:Op}{ob:Nat->TU}{p:Nat->Pc}{V:Nat->SX}(hr:∀t,aK E t o=none)(h:∀t m,Fr t fs->∀K,bc E t m o K=K (V m.next) (m.alloc (ob m.next)))
  (hb:∀b,(p b).qP=some b) (hp:∀lo m b,lo<=b->b<m.next->m.get b=some (ob b)->(p b).ok lo m) (hpg:∀b x,¬(p b).CB x:=by exact fun _ _ h=>h):Ox E m0 fs ps o V (fun b=>p b::ps) :=
 fun t m hf hm=>⟨fun b hb=>(by rw[hr] at hb; cases hb),fun K hK=>by
  rw[h t m hf];refine hK m.next _ (hm.cons (Nat.le_succ _) (hm.ext.alloc _) (fun b hlt=>by rw[TS.aU,S8]) (hp _ _ _ hm.ext.next (Ss _) (by rw[TS.aU,QH rfl])) (fun b' h'=>?_) (hpg _))
  rw[hb] at h'; cases h'; exact QK _⟩
def xr{z:SX}(hz:bj E.P ty=some z)(hp:bB z=true):Ox E m0 fs ps (.alloc ty) (fun b=>ptr b 0) (fun b=>.obj b (.cells z.cells.toList .own)::ps) :=
 .made (ob:=fun _=>.cells z.cells.toList .own) (p:=fun b=>.obj b (.cells z.cells.toList .own)) (fun _=>rfl) (fun _ _ _ K=>Go.Ab.IZ hz hp K) (fun _=>rfl) fun _ _ _ h1 h2 h3=>⟨h1,h2,h3⟩
def KZ(h:ev E fs x=some v):Ox E m0 fs ps (.box ty x) (fun b=>ptr b 0) (fun b=>.obj b (.cells v.cells.toList .own)::ps) :=
 .made (ob:=fun _=>.cells v.cells.toList .own) (p:=fun b=>.obj b (.cells v.cells.toList .own)) (fun _=>rfl) (fun _ _ hf K=>Go.Ab.MX (hf.ev h) K) (fun _=>rfl) fun _ _ _ h1 h2 h3=>⟨h1,h2,h3⟩
def Fu:Ox E m0 fs ps (.makeMap ty none) (fun b=>.map (some b)) (fun b=>.obj b (.map [])::ps) :=
 .made (ob:=fun _=>.map []) (p:=fun b=>.obj b (.map [])) (fun _=>rfl) (fun _ _ _ _=>Go.Ab.AQ) (fun _=>rfl) fun _ _ _ h1 h2 h3=>⟨h1,h2,h3⟩
def O3(P:S0)(elem:SY)(w len:Nat)(vs:TO (Nat×SX)):TN (TO SX) :=
 match ff P elem len with
 | some zs=>match zs.all aP&&Nat.ble (len*w) 16777216 with
  | true=>iK (fun i=>some (i*w,w)) zs vs
  | false=>none
 | none=>none
def Nv(w:Nat)(es:SS):Bool:=es.all fun e=>Nat.beq e.length w
def Jo{w:Nat}{es:SS}(h:Nv w es=true):∀e∈es,e.length=w:=fun e he=>RI (QS.1 h e he)
def bY{elem:SY}{w len:Nat}{parts:TW (Nat×SZ)}{vs:TO (Nat×SX)}{es:SS}(ht:SlT E.P ty elem w)(h:Hr E fs parts.toList=some vs)(hf:O3 E.P elem w len vs=some es.flatten)(hl:Nat.beq es.length len=true)(hw:Nv w es=true) :
  Ox E m0 fs ps (.buildSlice ty len parts) (fun b=>.slice (some ⟨b,0,none⟩) len len) (fun b=>.arr b w len es .own::ps):=by
 refine .made (ob:=fun _=>.cells es.flatten .own) (p:=fun b=>.arr b w len es .own) (fun _=>rfl) (fun t m hfr K=>?_) (fun _=>rfl) fun _ _ _ h1 h2 h3=>⟨h1,h2,h3,RI hl,Jo hw,.inl rfl,ht.pos⟩;simp only[O3] at hf
 split at hf
 rename_i zs hz
 split at hf
 rename_i hc;simp only[QJ] at hc;have:eS E t m (.buildSlice ty len parts)=some (.slice (some ⟨m.next,0,none⟩) len len,m.alloc (.cells es.flatten .own)):=by
  have h2:¬(len*w>2 ^ 24):=by have:=RH hc.2; omega
  simp only[eS,ht.und,hfr.Hr h,ht.known,ht.size,hz,hc.1,hf,Rv,Bool.false_or,QO h2,if_true,QZ]
  rfl
 exact Go.Ab.JI rfl this K
 cases hf
 cases hf
def lim(n:Nat):Bool:=Nat.ble n 1073741824
def qi{z:TO SX}:∀n,bf z n=(List.replicate n z).flatten
 | 0=>rfl
 | n+1=>by rw[bf,qi n,List.replicate_succ,Rx]
end
attribute [local irreducible] Tm.at Trie.set Trie.get TS.get TS.set TS.alloc TS.ww TS.kill
section
variable{E:Env}{n:Nat}{m0 m m':TS}{fs:Fs}{ps:TO Pc}{x y:SZ}{v:SX}{ty:SY}
def Cl.rd{lo b w n:Nat}{es:SS}{tg:Tag}(h:Cl lo m b w n es tg):Rd m (some ⟨b,0,none⟩) n w n es :=
 ⟨h.2.2.2.1,QK _,.inr (.inr ⟨b,0,rfl,h.NY⟩)⟩
inductive IsRd:Pc->SU->Nat->Nat->Nat->SS->Prop
 | arr (b w n:Nat) (es:SS) (tg:Tag):IsRd (.arr b w n es tg) (some ⟨b,0,none⟩) n w n es
 | sl (a:SU) (w n:Nat) (es:SS):IsRd (.sl a w n es) a n w n es
 | rd (a:SU) (cap w n:Nat) (es:SS):IsRd (.rd a cap w n es) a cap w n es
 | nil {p:Pc} (w:Nat):IsRd p none 0 w 0 []
def Pc.CM{p:Pc}{a:SU}{lo cap w n:Nat}{es:SS}(h:p.ok lo m)(hi:IsRd p a cap w n es):Rd m a cap w n es:=by
 cases hi with
 | arr b w n es tg=>exact Cl.rd h
 | sl a w n es =>
  rcases h with⟨rfl,rfl,rfl,_⟩|⟨b,tg,rfl,h⟩
  exact⟨rfl,QK _,.inl ⟨rfl,rfl⟩⟩
  exact h.rd
 | rd a cap w n es=>exact h
 | nil w=>exact⟨rfl,QK _,.inl ⟨rfl,rfl⟩⟩
def Hp.rd(h:Hp m0 m ps){k:Nat}{p:Pc}{a:SU}{cap w n:Nat}{es:SS}(hp:pk ps k=some p)(hi:IsRd p a cap w n es):Rd m a cap w n es:=Pc.CM (h.get hp) hi
def Rd.nil(m:TS)(w:Nat):Rd m none 0 w 0 []:=⟨rfl,QK _,.inl ⟨rfl,rfl⟩⟩
def Rd.cells{a:SU}{cap w n:Nat}{es:SS}(h:Rd m a cap w n es):cN w (.slice a n cap) n m=some es.flatten:=by
 obtain⟨h1,h2,h4⟩:=h
 by_cases hn:n=0
 ·subst hn;have:es=[]:=Rh.1 h1;subst this;cases a with
  | none=>rfl
  | some a=>obtain⟨b,o,sp⟩:=a; cases sp<;>rfl
 ·rcases h4 with h4|⟨b,sp,rfl,h4,_⟩|⟨b,o,rfl,_,all,tg,hg,_,hl⟩
  exact Q1 h4.2 hn
  exact Q1 h4 hn
  ·simp only[cN,QF hn,TS.dQ,hg];have key:∀(es:SS) (k:Nat),(∀i e,es[i]? = some e->(all.drop (o+(k+i)*w)).take w=e/\e.length=w)->(all.drop (o+k*w)).take (es.length*w)=es.flatten/\es.flatten.length=es.length*w:=by
    intro es
    induction es with
    | nil=>intro k _; simp
    | cons e es ih =>
     intro k hk;obtain⟨a1,a2⟩:=hk 0 e rfl;obtain⟨b1,b2⟩:=ih (k+1) fun i e' he'=>by
      have:=hk (i+1) e' (by simpa using he')
      rwa[show k+(i+1)=k+1+i by omega] at this
     rw[RV] at a1;refine⟨?_,by rw[Rx,QV,a2,b2,Rl,Sc]; omega⟩
     rw[Rl,Sc,Nat.add_comm,List.take_add,a1,Sy,Rx,<-b1,Sc,Nat.add_assoc]
   have:=key es 0 (fun i e he=>by rw[Ra]; exact hl i e he)
   rw[SM,RV,h1] at this;rw[this.1,QH this.2]
def Hp.renew(h:Hp m0 m ps){k:Nat}{p p':Pc}(hp:pk ps k=some p)(hn:m.next<=m'.next)(hext:Ext m0 m')(hok:p'.ok m0.next m')(hb:∀b,p'.qP=some b->m.next<=b)(hpo:p.own=true)(hg:∀b,p.qP≠some b->b<m.next->m'.get b=m.get b)(hng:∀b,¬p'.CB b:=by exact fun _ h=>h):Hp m0 m' (bI ps k p') :=
 h.CH hp (fun b a=>.inr ((Pc.gZ a).elim (hb b) fun h=>Q1 h (hng b))) (fun b a=>.inr (a.elim (hb b) fun h=>Q1 h (hng b))) hn hext hok fun b hb' hlt=>hg b (fun e=>hb' (.inl ⟨hpo,e⟩)) hlt
def dn(es:SS):Prop:=∀e∈es,e.all j8=true
def A7{α:Type}{f:α->TO SX}(h:∀x,(f x).all j8=true)(xs:TO α):dn (xs.map f):=fun e he=>by
 obtain⟨x,_,rfl⟩:=Rj.1 he; exact h x
def gL{es:SS}(h:dn es):aV es.flatten=true:=by
 unfold aV;rw[QS];intro v hv;obtain⟨l,h1,h2⟩:=List.mem_flatten.1 hv;exact QS.1 (h l h1) v h2
def cy{w:Nat}:∀{l:SS},(∀e∈l,e.length=w)->l.flatten.length=l.length*w:=by
 intro l
 induction l with
 | nil=>intro _; simp
 | cons x l ih=>intro hl; rw[Rx,QV,ih (fun e he=>hl e (by simp[he])),hl x (by simp),Rl,Sc]; omega
def pS {P:S0} {elem ty2:SY} {w k n0 c0:Nat} {a a0:SU} {es es2:SS} (ht:SlT P ty elem w) (h2:∃e2,P.underlying ty2=some (.slice e2)) (h:Hp m0 m ps) (hp:pk ps k=some (.sl a w n es)) (hr:Rd m a0 c0 w n0 es2) (h1:∀e ∈ es2,e.length=w) (ho:dn es2) (hl:lim (n+n0)=true) :
  ∃a' m',cq P ty (some ty2) (.slice a n n) (.slice a0 n0 c0) m=some (.slice a' (n+n0) (n+n0),m')/\Hp m0 m' (bI ps k (.sl a' w (n+n0) (es++es2))):=by
 obtain⟨e2,h3⟩:=h2;obtain⟨inf,h4,h5,h6⟩:=ht.bytes;have hln:n+n0<=1073741824:=RH hl;have hc:=hr.cells;have hlen2:es2.flatten.length=n0*w:=by rw[cy h1,hr.1]
 have hnew:eA P elem (some ty2) (.slice a0 n0 c0) m=some (n0,es2.flatten):=by
  simp only[eA,Q9,h3,ht.size];have:cN w (.slice a0 n0 c0) n0 m=some es2.flatten:=hc;rw[this]; rfl
 have hfit:(P.info? elem).any (fun i=>dv i.bytes (n+n0)&&i.bytes != 0)=true:=by
  rw[h4];have hmul:(2*(n+n0)+2000)*inf.bytes<=(2*1073741824+2000)*1024:=SH (by omega) h6
  simp only[Option.any_some,dv,QJ,QR,bne_iff_ne,ne_eq];exact⟨by omega,h5⟩
 have hzero:(bj P elem).any (fun z=>z.cells.size==w&&z.cells.toList.all aP)=true:=ht.zero;have hpos:=ht.pos;have h7:(w==0)=false:=by simp; omega
 have hguard:(!(known P elem)||aB P elem==0 || !aV es2.flatten || !(P.info? elem).any (fun i=>dv i.bytes (n+n0)&&i.bytes != 0)||es2.flatten.length != n0*aB P elem || !(bj P elem).any (fun z=>z.cells.size==aB P elem&&z.cells.toList.all aP))=false:=by
  rw[ht.size,ht.known,hfit,hzero,gL ho,h7,hlen2]; simp
 have hres:∀a',(∃m',(.slice a' (n+n0) (n+n0),m')=((.slice a' (n+n0) (n+n0),m'):SX×TS)):=fun a'=>⟨m,rfl⟩;have hpc:=h.get hp;have hext:=h.ext;rcases hpc with⟨rfl,rfl,rfl,_⟩|⟨b,tg,rfl,hb⟩
 ·
  by_cases h0:n0=0
  ·subst h0;have hes:es2=[]:=Rh.1 hr.1;subst hes;refine⟨none,m,?_,?_⟩
   unfold cq;simp only[ht.und,hnew];rw[QF (by rw[hguard]; exact RP)]
   rfl
   ·have:bI ps k (.sl none w (0+0) ([]++[]))=ps:=by
     have:∀(l:TO Pc) (k:Nat) (p:Pc),pk l k=some p->bI l k p=l:=by
      intro l
      induction l with
      | nil=>intro k p h; simp[pk] at h
      | cons q l ih =>
       intro k p h;cases k with
       | zero=>rw[jg] at h; rw[ir,QL h]
       | succ k=>rw[ef] at h; rw[dG,ih k p h]
     exact this ps k _ hp
    rw[this]; exact h
  refine⟨some ⟨m.next,0,none⟩,m.alloc (.cells es2.flatten (.more w)),?_,?_⟩
  unfold cq;simp only[ht.und,hnew];rw[QF (by rw[hguard]; exact RP)]
  simp only[ht.size];rw[QF (by simp),QF h0,Ra]
  refine h.renew hp (by simp only[TS.next_alloc]; omega) (hext.alloc _) (.inr ⟨m.next,.more w,rfl,hext.next,(by rw[TS.next_alloc]; omega),?_,?_,?_,.inr rfl,hpos⟩) (fun b' hb'=>?_) rfl fun b' _ hlt=>?_
  rw[TS.aU,QH rfl,RR]
  rw[RR,hr.1,Ra]
  rw[RR]; exact h1
  cases hb'; exact QK _
  rw[TS.aU,S8]
 ·obtain⟨g4,g5,g0,g1,g2,g3,g6⟩:=hb;have hlen:es.flatten.length=n*w:=by rw[cy g2,g1]
  by_cases h0:n0=0
  ·subst h0;have hes:es2=[]:=Rh.1 hr.1;subst hes;refine⟨some ⟨b,0,none⟩,m,?_,?_⟩
   unfold cq;simp only[ht.und,hnew];rw[QF (by rw[hguard]; exact RP)]
   simp only[g0];rw[QH (SE (RV n))];simp[TS.cM]
   ·rw[Rr,RV];have:bI ps k (.sl (some ⟨b,0,none⟩) w n es)=ps:=by
     have:∀(l:TO Pc) (k:Nat) (p:Pc),pk l k=some p->bI l k p=l:=by
      intro l
      induction l with
      | nil=>intro k p h; simp[pk] at h
      | cons q l ih =>
       intro k p h;cases k with
       | zero=>rw[jg] at h; rw[ir,QL h]
       | succ k=>rw[ef] at h; rw[dG,ih k p h]
     exact this ps k _ hp
    rw[this]; exact h
  have hcap:¬(n+n0<=n):=by omega
  have htake:es.flatten.take (n*w)=es.flatten:=R6 (by omega)
  have hok:∀(mm:TS),m.next<=mm.next->Pc.ok m0.next (mm.alloc (.cells (es.flatten++es2.flatten) (.more w))) (.sl (some ⟨mm.next,0,none⟩) w (n+n0) (es++es2)):=fun mm hmm =>
   .inr ⟨mm.next,.more w,rfl,Rc hext.next hmm,(by rw[TS.next_alloc]; omega),by rw[TS.aU,QH rfl,RX],by rw[QV,g1,hr.1],fun e he=>by
    rcases Q3.1 he with he|he
    exact g2 e he
    exact h1 e he,.inr rfl,hpos⟩
  rcases g3 with rfl|rfl
  refine⟨some ⟨m.next,0,none⟩,m.alloc (.cells (es.flatten++es2.flatten) (.more w)),?_,?_⟩
  unfold cq;simp only[ht.und,hnew];rw[QF (by rw[hguard]; exact RP)]
  simp only[ht.size,g0];rw[QF hcap];have hld:m.dQ b 0 (n*w)=some es.flatten:=by
   simp only[TS.dQ,g0,Sx,htake];rw[QH hlen]
  simp only[hld]
  refine h.renew hp (by simp only[TS.next_alloc]; omega) (hext.alloc _) (hok m (QK _)) (fun b' hb'=>?_) rfl fun b' _ hlt=>?_
  cases hb'; exact QK _
  rw[TS.aU,S8]
  refine⟨some ⟨(m.kill b).next,0,none⟩,(m.kill b).alloc (.cells (es.flatten++es2.flatten) (.more w)),?_,?_⟩
  unfold cq;simp only[ht.und,hnew];rw[QF (by rw[hguard]; exact RP)]
  simp only[ht.size,g0];rw[QF hcap];simp only[and_self,if_true,htake,hlen,TS.next_kill]
  have hk:Ext m0 (m.kill b):=⟨by rw[TS.next_kill]; exact hext.next,fun x hx=>by rw[TS.dB,S8]; exact hext.same x hx,by
   rw[TS.wl_kill];have:=hext.wl; omega⟩
  refine h.renew hp (by simp only[TS.next_alloc,TS.next_kill]; omega) (hk.alloc _) (hok (m.kill b) (by rw[TS.next_kill]; exact QK _)) (fun b' hb'=>?_) rfl fun b' hb' hlt=>?_
  cases hb'; rw[TS.next_kill]; exact QK _
  rw[TS.aU,QF (by simp; omega),TS.dB,QF (fun e=>hb' (by rw[e]; rfl))]
def HN{elem ty2:SY}{w k k2 n0 c0:Nat}{a a0:SU}{es es2:SS}{ars:TW SZ}{p0:Pc}(ht:SlT E.P ty elem w)(h0:∃e2,E.P.underlying ty2=some (.slice e2))(ha:fX E fs ars.toList=some [.slice a n n,.slice a0 n0 c0])(hp:pk ps k=some (.sl a w n es))(h1:pk ps k2=some p0)(hr:IsRd p0 a0 c0 w n0 es2)(h2:∀e∈es2,e.length=w)(ho:dn es2)(hl:lim (n+n0)=true) :
  Ox E m0 fs ps (.call ⟨.builtin .append,ars,#[ty,ty2]⟩) (fun a':SU=>.slice a' (n+n0) (n+n0)) (fun a'=>bI ps k (.sl a' w (n+n0) (es++es2))) :=
 fun t m hf h=>⟨fun b hb=>(by simp[aK] at hb),fun K hK=>by
  obtain⟨a',m',h3,h4⟩:=pS (n:=n) ht h0 h hp (h.rd h1 hr) h2 ho hl;have:aZ E.P .append #[ty,ty2] [.slice a n n,.slice a0 n0 c0] m=some (.slice a' (n+n0) (n+n0),m'):=h3;rw[Go.Ab.dc (hf.fX ha) this];exact hK a' m' h4⟩
def nX{k cap:Nat}{a:SU}{ars:TW SZ}{p:Pc}{elem:SY}(hu:E.P.underlying ty=some (.slice elem))(ha:fX E fs ars.toList=some [.slice a n cap])(hp:pk ps k=some p)(hb:kK a=p.qP\/a=none) :
  Od E m0 fs ps (.call ⟨.builtin .len,ars,#[ty]⟩) (.int .i64 (n:Int)) ps :=
 fun t m hf h=>⟨fun b hb'=>by
  simp only[aK,hf.fX ha] at hb';have hab:dx (.slice a n cap)=kK a:=by cases a<;>rfl
  rw[hab] at hb';exact hb.elim (fun hb=>Pc.KW (h.get hp) (hb▸hb')) (fun hb=>by rw[hb] at hb'; exact nomatch hb'),fun K hK=>by
  have:aZ E.P .len #[ty] [.slice a n cap] m=some (.int .i64 (n:Int),m):=by
   have ht:(#[ty]:TW SY)[0]? = some ty:=rfl;simp only[aZ,ht,Q9,hu]
  rw[Go.Ab.dc (hf.fX ha) this]; exact hK m h⟩
def mH{n cap lo hi:Nat}(h1:lo<=hi)(h2:hi<=cap){l h:TN SX}(hl:l=none/\lo=0\/∃k,l=some (.int k (lo:Int)))(hh:h=none/\hi=n\/∃k,h=some (.int k (hi:Int))):bK n cap l h none=some (lo,hi,cap):=by
 have hb:∀(k:IntKind) (x y:Nat),x<=y->iX (.int k (x:Int)) y=some x:=fun k x y hxy=>by
  simp only[iX]; rw[QH ⟨by omega,by omega⟩,Rb]
 rcases hl with⟨rfl,rfl⟩|⟨k1,rfl⟩<;>rcases hh with⟨rfl,rfl⟩|⟨k2,rfl⟩<;>(unfold bK; simp only[hb _ _ _ h1,hb _ _ _ h2])
def pE.drop{b o w:Nat}{es:SS}(h:pE m b o w es)(lo k:Nat):pE m b (o+lo*w) w ((es.drop lo).take k):=by
 obtain⟨h1,all,tg,h2,hs,h3⟩:=h;refine⟨h1,all,tg,h2,hs,fun i e he=>?_⟩;rw[RK] at he
 split at he
 rw[RL] at he;have:=h3 (lo+i) e he;rwa[Sm,<-Nat.add_assoc] at this
 cases he
def F1{P:S0}{elem:SY}{cap w lo hi:Nat}{a:SU}{es:SS}{l h:TN SX}(ht:SlT P ty elem w)(hr:Rd m a cap w n es)(h1:lo<=hi)(h2:hi<=n)(hl:l=none/\lo=0\/∃k,l=some (.int k (lo:Int)))(hh:h=none/\hi=n\/∃k,h=some (.int k (hi:Int))) :
  ∃a' cap',bP P ty (.slice a n cap) l h none m=some (.slice a' (hi-lo) cap')/\Rd m a' cap' w (hi-lo) ((es.drop lo).take (hi-lo))/\(kK a'=kK a):=by
 obtain⟨r1,r2,r4⟩:=hr;have hlen:((es.drop lo).take (hi-lo)).length=hi-lo:=by rw[QX,Rt,r1]; omega
 have hb:=mH (n:=n) (cap:=cap) h1 (Rc h2 r2) hl hh;rcases r4 with⟨rfl,rfl⟩|⟨b,sp,rfl,rfl,rfl,hlt⟩|⟨b,o,rfl,hli⟩
 refine⟨none,cap-lo,?_,⟨hlen,by omega,.inl ⟨rfl,by omega⟩⟩,rfl⟩
 simp only[bP,ht.und,ht.known,if_true,hb]
 have e1:lo=0:=by omega
 have e2:hi=0:=by omega
 subst e1 e2;refine⟨some ⟨b,0,some sp⟩,0,?_,⟨hlen,QK _,.inr (.inl ⟨b,sp,rfl,rfl,rfl,hlt⟩)⟩,rfl⟩;simp only[bP,ht.und,ht.known,if_true,hb,Sd]
 ·have hli':=hli.drop lo (hi-lo);obtain⟨hlt,all,tg,hg,hs,hall⟩:=hli;have plain:(∀sz,tg≠.more sz)->∃a' cap',bP P ty (.slice (some ⟨b,o,none⟩) n cap) l h none m=some (.slice a' (hi-lo) cap')/\Rd m a' cap' w (hi-lo) ((es.drop lo).take (hi-lo))/\(kK a'=kK (some ⟨b,o,none⟩)):=by
   intro hne;have:bP P ty (.slice (some ⟨b,o,none⟩) n cap) l h none m=some (.slice (some (if cap=lo then⟨b,o,none⟩ else⟨b,o+lo*w,none⟩)) (hi-lo) (cap-lo)):=by
    cases tg with
    | more sz=>exact Q1 rfl (hne sz)
    | ro=>simp only[bP,ht.und,ht.known,if_true,hg,hb,ht.size]
    | own=>simp only[bP,ht.und,ht.known,if_true,hg,hb,ht.size]
   by_cases hc:cap=lo
   rw[QH hc] at this;have e0:hi-lo=0:=by omega
   refine⟨_,_,this,⟨hlen,by omega,.inr (.inr ⟨b,o,rfl,hlt,all,tg,hg,hs,fun i e he=>?_⟩)⟩,rfl⟩
   rw[e0,List.take_zero] at he; simp at he
   rw[QF hc] at this;exact⟨_,_,this,⟨hlen,by omega,.inr (.inr ⟨b,_,rfl,hli'⟩)⟩,rfl⟩
  cases tg with
  | ro=>exact plain fun sz e=>(by cases e)
  | own=>exact plain fun sz e=>(by cases e)
  | more sz =>
   have hsz:=hs sz rfl;subst hsz;have hb':=mH (n:=n) (cap:=cap) h1 (Rc h2 r2) hl hh
   by_cases hc:cap=lo
   have e0:hi-lo=0:=by omega
   have e1:((es.drop lo).take (hi-lo))=[]:=by rw[e0]; rfl
   refine⟨some ⟨b,0,some 0⟩,0,?_,⟨hlen,by omega,.inr (.inl ⟨b,0,rfl,e0,rfl,hlt⟩)⟩,rfl⟩
   simp only[bP,ht.und,ht.known,if_true,hg,hb',ht.size,ne_eq,not_true_eq_false,if_false,e0,fU];rw[QH hc]
   refine⟨some ⟨b,o+lo*sz,none⟩,cap-lo,?_,⟨hlen,by omega,.inr (.inr ⟨b,_,rfl,hli'⟩)⟩,rfl⟩
   simp only[bP,ht.und,ht.known,if_true,hg,hb',ht.size,hc,ne_eq,not_true_eq_false,if_false]
def M3{elem:SY}{k cap w lo hi:Nat}{a:SU}{es:SS}{x:SZ}{lx hx:TN SZ}{l h:TN SX}(ht:SlT E.P ty elem w)(hv:ev E fs x=some (.slice a n cap))(e1:iY E fs lx=some l)(e2:iY E fs hx=some h)(hp:pk ps k=some (.rd a cap w n es))(h1:lo<=hi)(h2:hi<=n)(hl:l=none/\lo=0\/∃k,l=some (.int k (lo:Int)))(hh:h=none/\hi=n\/∃k,h=some (.int k (hi:Int))) :
  Ox E m0 fs ps (.slice ty x lx hx none) (fun r:SU×Nat=>.slice r.1 (hi-lo) r.2) (fun r=>.rd r.1 r.2 w (hi-lo) ((es.drop lo).take (hi-lo))::ps) :=
 fun t m hf hm=>by
  obtain⟨a',cap',s1,s2,s3⟩:=F1 ht (hm.get hp) h1 h2 hl hh;refine⟨fun b hb=>?_,fun K hK=>?_⟩
  have hab:dx (.slice a n cap)=kK a:=by cases a<;>rfl
  simp only[aK,hf.ev hv,Q9,hab] at hb;exact Rd.lt (hm.get hp) hb
  rw[Go.Ab.mC (hf.ev hv) (hf.iY e1) (hf.iY e2) rfl s1];exact hK (a',cap') m (hm.more hp rfl s2 rfl fun b hb=>by
   have:kK a'=some b:=hb;rw[s3] at this; exact this)
def vB(ps:TO Pc):Bool:=ps.all Pc.own
def ln{α:Type}{V:α->SX}{N:α->TO Pc}{f:SZ}{g:T1}{first cap:TW SX}{ars:TW SZ}{ts:TW SY}{args:TO SX}(hf:ev E fs f=some (.func (.func g) first cap))(ha:fX E fs ars.toList=some args)(hc:∀m,Hp m0 m ps->aI E g (first.toList++args++cap.toList) m (fun v m'=>∃x,v=V x/\Hp m0 m' (N x))):Ox E m0 fs ps (.call ⟨.value f,ars,ts⟩) V N :=
 fun t m hfr hm=>⟨fun b hb=>(by simp[aK] at hb),fun K hK=>by
  have hev:an E t f=some (.func (.func g) first cap):=by
   cases f with
   | tmp i=>exact hfr.ev hf
   | const c=>exact hfr.ev hf
   | global g=>exact hfr.ev hf
   | func g=>exact hfr.ev hf
  show jQ E (an E t f) (bq E t ars.toList) m _
  rw[hev,hfr.fX ha]
  show aI E g (first.toList++args++cap.toList) m K
  exact(hc m hm).mono fun v m' ⟨x,e,h⟩=>by rw[e]; exact hK x m' h⟩
def Pd{α:Type}{V:α->SX}{N:α->TO Pc}{f:SZ}{g:T1}{ars:TW SZ}{ts:TW SY}{args:TO SX}(hf:ev E fs f=some (.func (.func g) #[] #[]))(ha:fX E fs ars.toList=some args)(hc:∀m,Hp m0 m ps->aI E g args m (fun v m'=>∃x,v=V x/\Hp m m' (N x)))(ho:∀x,vB (N x)=true):Ox E m0 fs ps (.call ⟨.value f,ars,ts⟩) V (fun x=>N x++ps) :=
 ln hf ha fun m hm=>by
  simp only[RR,Rr];exact(hc m hm).mono fun v m' ⟨x,e,h⟩=>⟨x,e,hm.after h fun p hp=>QS.1 (ho x) p hp⟩
end
def Ext.OQ{m0 m:TS}(h:Ext m0 m){w:Nat}(hw:min m0.wl m0.next<=w):Ext m0 (m.ww w):=⟨by rw[TS.next_ww]; exact h.next,fun b hb=>by rw[TS.get_ww]; exact h.same b hb,by rw[TS.wl_ww]; exact hw⟩
def Hp.ww{m0 m:TS}{ps:TO Pc}(h:Hp m0 m ps){w:Nat}(hw:min m0.wl m0.next<=w):Hp m0 (m.ww w) ps :=
 ⟨Ext.OQ h.ext hw,fun p hp=>Pc.fx (h.ok p hp) (by rw[TS.next_ww]; exact QK _) (fun b _ _=>by rw[TS.get_ww]),h.apart⟩
section
variable{E:Env}{n:Nat}{m0:TS}{fs:Fs}{ps ps':TO Pc}{ops:TW Oper}{os:TO Oper}{K:Tm->TS->Prop}{dr:Bool}
def Wo(dr:Bool)(E:Env)(n:Nat)(ops:TW Oper)(K:Tm->TS->Prop)(os:TO Oper)(m0:TS)(fs:Fs)(ps:TO Pc):Prop :=
 match dr with
 | false=>∀t m,Fr t fs->Hp m0 m ps->nS E n ops K os t m
 | true=>∀t m w,Fr t fs->Hp m0 m ps->min m0.wl m0.next<=w->iI E n ops K os t m w
variable{ty:SY}{p:String}{af:TW Edge}{d:Nat}{o:Op}{g:TN (Nat×Bool)}{v:SX}
def tF(ops:TW Oper)(fs:Fs)(g:TN (Nat×Bool))(b:Bool):Prop:=∀t d o ty p af,Fr t fs->bQ ops ⟨d,o,ty,p,af,g⟩ t=b
def gn:tF ops fs none true:=fun _ _ _ _ _ _ _=>rfl
def gg{j d:Nat}{b c r:Bool}(hd:(ops[j]?).bind (·.dst)=some d)(h:lk fs d=some (.bool c))(hr:(c==b)=r):tF ops fs (some (j,b)) r:=fun t d' o ty p af hf=>by
 rw[<-hr]; exact PZ hd (hf d _ h)
def Wo.x{α:Type}{V:α->SX}{N:α->TO Pc}(h:Ox E m0 fs ps o V N)(hg:tF ops fs g true)(hd:Nat.blt d n=true)(k:∀x,Wo dr E n ops K os m0 ((d,V x)::fs) (N x)):Wo dr E n ops K (⟨some d,o,ty,p,af,g⟩::os) m0 fs ps:=by
 have hd':d<n:=by rwa[SA] at hd
 cases dr with
 | false =>
  intro t m hf hm;simp only[nS,hg t _ _ _ _ _ hf,if_true];refine(h t m hf hm).2 _ fun x m' hm'=>?_;rw[cT,QH hd'];exact k x _ m' hf.set hm'
 | true =>
  intro t m w hf hm hw;simp only[iI,hg t _ _ _ _ _ hf,if_true];have hx:=hm.ext.next
  have hm':Hp m0 (m.ww m.next) ps:=hm.ww (by omega)
  refine⟨fun b hb=>?_,?_⟩
  have:=(h t _ hf hm').1 b hb;rwa[TS.next_ww] at this
  refine(h t _ hf hm').2 _ fun x m' hm''=>?_;rw[cT,QH hd'];have:=hm''.ext.wl;exact k x _ m' _ hf.set hm'' (by omega)
def Wo.x0{α:Type}{V:α->SX}{N:α->TO Pc}(h:Ox E m0 fs ps o V N)(hg:tF ops fs g true)(k:∀x,Wo dr E n ops K os m0 fs (N x)):Wo dr E n ops K (⟨none,o,ty,p,af,g⟩::os) m0 fs ps:=by
 cases dr with
 | false =>
  intro t m hf hm;simp only[nS,hg t _ _ _ _ _ hf,if_true];refine(h t m hf hm).2 _ fun x m' hm'=>?_;exact k x _ m' hf hm'
 | true =>
  intro t m w hf hm hw;simp only[iI,hg t _ _ _ _ _ hf,if_true];have hx:=hm.ext.next
  have hm':Hp m0 (m.ww m.next) ps:=hm.ww (by omega)
  refine⟨fun b hb=>?_,?_⟩
  have:=(h t _ hf hm').1 b hb;rwa[TS.next_ww] at this
  refine(h t _ hf hm').2 _ fun x m' hm''=>?_;have:=hm''.ext.wl;exact k x _ m' _ hf hm'' (by omega)
def Od.x(h:Od E m0 fs ps o v ps'):Ox E m0 fs ps o (fun _:TP=>v) (fun _=>ps'):=fun t m hf hm=>⟨(h t m hf hm).1,fun K hK=>(h t m hf hm).2 K fun m' hm'=>hK () m' hm'⟩
def Wo.od(h:Od E m0 fs ps o v ps')(hd:Nat.blt d n=true)(k:Wo dr E n ops K os m0 ((d,v)::fs) ps'):Wo dr E n ops K (⟨some d,o,ty,p,af,none⟩::os) m0 fs ps:=Wo.x h.x gn hd fun _=>k
def Wo.o0(h:Od E m0 fs ps o v ps')(k:Wo dr E n ops K os m0 fs ps'):Wo dr E n ops K (⟨none,o,ty,p,af,none⟩::os) m0 fs ps:=Wo.x0 h.x gn fun _=>k
def Wo.og(h:Od E m0 fs ps o v ps')(hg:tF ops fs g true)(hd:Nat.blt d n=true)(k:Wo dr E n ops K os m0 ((d,v)::fs) ps'):Wo dr E n ops K (⟨some d,o,ty,p,af,g⟩::os) m0 fs ps:=Wo.x h.x hg hd fun _=>k
def Wo.s(hg:tF ops fs g false)(hd:Nat.blt d n=true)(k:Wo dr E n ops K os m0 ((d,undef)::fs) ps):Wo dr E n ops K (⟨some d,o,ty,p,af,g⟩::os) m0 fs ps:=by
 have hd':d<n:=by rwa[SA] at hd
 cases dr with
 | false =>
  intro t m hf hm;simp only[nS,hg t _ _ _ _ _ hf,Q8,if_false];rw[cT,QH hd'];exact k _ m hf.set hm
 | true =>
  intro t m w hf hm hw;simp only[iI,hg t _ _ _ _ _ hf,Q8,if_false];rw[cT,QH hd'];exact k _ m w hf.set hm hw
def aa(m0:TS)(ps:TO Pc)(qs:TO Pc):Prop:=∀m,Hp m0 m ps->Hp m0 m qs
def Wo.aq(h:aa m0 ps ps')(k:Wo dr E n ops K os m0 fs ps'):Wo dr E n ops K os m0 fs ps:=by
 cases dr with
 | false=>exact fun t m hf hm=>k t m hf (h m hm)
 | true=>exact fun t m w hf hm hw=>k t m w hf (h m hm) hw
def Wo.open{k w l:Nat}{a:SU}{es:SS}(hp:pk ps k=some (.sl a w l es))(hl:0<l)(h:∀b tg,a=some ⟨b,0,none⟩->qj tg=true->Wo dr E n ops K os m0 fs (bI ps k (.arr b w l es tg))):Wo dr E n ops K os m0 fs ps:=by
 have key:∀m,Hp m0 m ps->∃b tg,a=some ⟨b,0,none⟩/\qj tg=true/\Hp m0 m (bI ps k (.arr b w l es tg)):=by
  intro m hm;have h0:=hm.get hp;rcases h0 with⟨h1,_⟩|⟨b,tg,rfl,h1⟩
  omega
  refine⟨b,tg,rfl,by rcases h1.2.2.2.2.2.1 with rfl|rfl<;>rfl,hm.put hp rfl rfl rfl (QK _) hm.ext h1 fun _ _ _=>rfl⟩
 cases dr with
 | false=>intro t m hf hm; obtain⟨b,tg,h1,h2,h3⟩:=key m hm; exact h b tg h1 h2 t m hf h3
 | true=>intro t m w' hf hm hw; obtain⟨b,tg,h1,h2,h3⟩:=key m hm; exact h b tg h1 h2 t m w' hf h3 hw
def Wo.bt{k w l cap:Nat}{a:SU}{es:SS}(hp:pk ps k=some (.rd a cap w l es))(hl:0<l)(h:∀b o,a=some ⟨b,o,none⟩->Wo dr E n ops K os m0 fs (.ro b o w l es::ps)):Wo dr E n ops K os m0 fs ps:=by
 have key:∀m,Hp m0 m ps->∃b o,a=some ⟨b,o,none⟩/\Hp m0 m (.ro b o w l es::ps):=by
  intro m hm;obtain⟨h1,h2,h3⟩:=hm.get hp;rcases h3 with⟨_,h3⟩|⟨_,_,_,h3,_⟩|⟨b,o,rfl,h3⟩
  omega
  omega
  exact⟨b,o,rfl,hm.more hp rfl ⟨h1,h3⟩ rfl fun b' hb=>hb⟩
 cases dr with
 | false=>intro t m hf hm; obtain⟨b,o,h1,h3⟩:=key m hm; exact h b o h1 t m hf h3
 | true=>intro t m w' hf hm hw; obtain⟨b,o,h1,h3⟩:=key m hm; exact h b o h1 t m w' hf h3 hw
def aa.trans{ps'':TO Pc}(h:aa m0 ps ps')(h':aa m0 ps' ps''):aa m0 ps ps'':=fun m hm=>h' m (h m hm)
def aa.al(ks:TO Nat)(hnd:kF ks=true)(e:W.al ps ks=some ps'):aa m0 ps ps':=fun _ h=>h.al ks hnd e
def aa.close{k b w l:Nat}{es:SS}{tg:Tag}(hp:pk ps k=some (.arr b w l es tg)):aa m0 ps (bI ps k (.sl (some ⟨b,0,none⟩) w l es)):=fun _ h =>
 h.put hp rfl rfl rfl (QK _) h.ext (.inr ⟨b,tg,rfl,h.get hp⟩) fun _ _ _=>rfl
def aa.nil(w:Nat)(hw:Nat.blt 0 w=true):aa m0 ps (.sl none w 0 []::ps):=fun m h =>
 h.cons (QK _) h.ext (fun _ _=>rfl) (.inl ⟨rfl,rfl,rfl,by rwa[SA] at hw⟩) fun b hb=>(by cases hb)
def tN{ps:TO Pc}{k:Nat}{p p':Pc}(hk:pk ps k=some p)(ho:p'.own=false)(hb:∀b,p'.qP=some b->p.qP=some b/\p.own=true)(h:ps.Pairwise Pc.apart)(hng:∀b,¬p'.CB b:=by exact fun _ h=>h):(bI ps k p').Pairwise Pc.apart :=
 iL hk (fun r _ ha=>⟨fun b a c=>a.elim (fun a=>by rw[ho] at a; cases a.1) fun a=>hng b (by cases p' with|gen g=>exact .inl a|_=>exact a),fun b a c=>ha.2 b a (c.elim (fun c=>.inl (hb b c).1) fun c=>Q1 c (hng b))⟩) h
def aa.freeze{k w l:Nat}{a:SU}{es:SS}(hp:pk ps k=some (.sl a w l es)):aa m0 ps (bI ps k (.rd a l w l es)):=fun m h =>
 ⟨h.ext,fun q hq=>by
  rcases zt hp h.apart hq with rfl|⟨h1,_⟩
  exact Pc.CM (h.get hp) (.sl a w l es)
  exact h.ok q h1,tN hp rfl (fun b hb=>⟨hb,rfl⟩) h.apart⟩
variable{fn:T1}{ro:TN Nat}{Q:TT->Tm->TS->Prop}
def Wk(E:Env)(n:Nat)(fn:T1)(ro:TN Nat)(c:Code)(Q:TT->Tm->TS->Prop)(m0:TS)(fs:Fs)(ps:TO Pc):Prop:=∀t m,Fr t fs->Hp m0 m ps->bT E n fn ro c Q t m
def At(Q:TT->Tm->TS->Prop)(e:TT)(m0:TS)(fs:Fs)(ps:TO Pc):Prop:=∀t m,Fr t fs->Hp m0 m ps->Q e t m
variable{a b c:Code}{id id':Nat}
def Wk.seq(h:Wk E n fn ro a (nu (bT E n fn ro b Q) Q) m0 fs ps):Wk E n fn ro (.seq a b) Q m0 fs ps:=fun t m hf hm=>.seq (h t m hf hm)
def Wk.skip(h:At Q .normal m0 fs ps):Wk E n fn ro .skip Q m0 fs ps:=fun t m hf hm=>.skip (h t m hf hm)
def Wk.exit(h:At Q (.exit id) m0 fs ps):Wk E n fn ro (.exit id) Q m0 fs ps:=fun t m hf hm=>.exit (h t m hf hm)
def Wk.ret(h:At Q .ret m0 fs ps):Wk E n fn ro .ret Q m0 fs ps:=fun t m hf hm=>.ret (h t m hf hm)
def Wk.cond{x:SZ}{r:Bool}(hx:ev E fs x=some (.bool r))(ht:r=true->Wk E n fn ro a Q m0 fs ps)(hf:r=false->Wk E n fn ro b Q m0 fs ps):Wk E n fn ro (.cond x a b) Q m0 fs ps:=fun t m hfr hm=>.cond (hfr.ev hx) (fun h=>ht h t m hfr hm) (fun h=>hf h t m hfr hm)
def Wk.cD{x:SZ}{r:Bool}(hx:ev E fs x=some (.bool r))(hr:r=true)(ht:Wk E n fn ro a Q m0 fs ps):Wk E n fn ro (.cond x a b) Q m0 fs ps:=.cond hx (fun _=>ht) (fun h=>by rw[hr] at h; cases h)
def Wk.dJ{x:SZ}{r:Bool}(hx:ev E fs x=some (.bool r))(hr:r=false)(ht:Wk E n fn ro b Q m0 fs ps):Wk E n fn ro (.cond x a b) Q m0 fs ps:=.cond hx (fun h=>by rw[hr] at h; cases h) (fun _=>ht)
def Wk.block(h:Wk E n fn ro a (gS id Q) m0 fs ps):Wk E n fn ro (.block id a) Q m0 fs ps:=fun t m hf hm=>.block (h t m hf hm)
def Wk.region(h:Wo false E n ops (Q .normal) ops.toList m0 fs ps):Wk E n fn ro (.region id ops false) Q m0 fs ps:=fun t m hf hm=>.Jh (h t m hf hm)
def AG{t:Tm}{m:TS}{o:Op}{K K':SX->TS->Prop}(h:bc E t m o K)(hk:∀v m',K v m'->K' v m'):bc E t m o K':=by
 unfold bc at h ⊢;cases hc:nY o with
 | some p =>
  obtain⟨f,ars⟩:=p;rw[hc] at h;simp only at h ⊢;cases hf:an E t f with
  | none=>rw[hf] at h; exact h.elim
  | some v =>
   cases ha:bq E t ars with
   | none=>rw[hf,ha] at h; unfold jQ at h; split at h<;>first |(rename_i h1 h2; cases h2)|exact h.elim
   | some vs =>
    rw[hf,ha] at h;unfold jQ at h ⊢
    split at h
    rename_i h1 h2;cases h1; cases h2;exact h.mono hk
    rename_i h1 h2;cases h1; cases h2;obtain⟨v,m',h5,hv⟩:=h;exact⟨v,m',h5,hk v m' hv⟩
    exact h.elim
 | none =>
  rw[hc] at h;simp only at h ⊢;cases he:eS E t m o with
  | none=>rw[he] at h; exact h.elim
  | some r=>rw[he] at h; exact hk r.1 r.2 h
def zJ{K K':Tm->TS->Prop}(hK:∀t m,K t m->K' t m):∀(os:TO Oper) (t:Tm) (m:TS) (w:Nat),iI E n ops K os t m w->iI E n ops K' os t m w:=by
 intro os
 induction os with
 | nil=>intro t m w hk; exact hK _ _ hk
 | cons o os ih =>
  intro t m w hk;simp only[iI] at hk ⊢
  split at hk
  rename_i hw;rw[QH hw];refine⟨hk.1,AG hk.2 fun v m' hv=>?_⟩;obtain⟨t',e,h4⟩:=hv.A
  show D4 (jy n t o.dst v) fun t'=>iI E n ops K' os t' m' (min w m'.wl)
  rw[e]; exact ih _ _ _ h4
  rename_i hw;rw[QF hw];obtain⟨t',e,h4⟩:=hk.A;rw[e]; exact ih _ _ _ h4
def Wk.draw(hp:kB ops=some [])(h:Wo true E n ops (Q .normal) ops.toList m0 fs ps):Wk E n fn ro (.region id ops true) Q m0 fs ps:=fun t m hf hm=>.M1 hp fun K hK=>by
 exact zJ hK _ _ _ _ (h t m m.wl hf hm hm.ext.wl)
def Wo.nil(h:At Q .normal m0 fs ps):Wo dr E n ops (Q .normal) [] m0 fs ps:=by
 cases dr with
 | false=>exact fun t m hf hm=>h t m hf hm
 | true=>exact fun t m w hf hm hw=>h t _ hf (hm.ww hw)
def At.tn(h:Wk E n fn ro b Q m0 fs ps):At (nu (bT E n fn ro b Q) Q) .normal m0 fs ps:=h
def At.te{K:Tm->TS->Prop}(h:At Q (.exit id) m0 fs ps):At (nu K Q) (.exit id) m0 fs ps:=h
def At.tr{K:Tm->TS->Prop}(h:At Q .ret m0 fs ps):At (nu K Q) .ret m0 fs ps:=h
def At.bn(h:At Q .normal m0 fs ps):At (gS id Q) .normal m0 fs ps:=h
def At.be(h:At Q .normal m0 fs ps):At (gS id Q) (.exit id) m0 fs ps:=fun t m hf hm=>by rw[BF,QH rfl]; exact h t m hf hm
def At.bx(hne:Nat.beq id' id=false)(h:At Q (.exit id') m0 fs ps):At (gS id Q) (.exit id') m0 fs ps:=fun t m hf hm=>by rw[BF,QF (SD hne)]; exact h t m hf hm
def At.br(h:At Q .ret m0 fs ps):At (gS id Q) .ret m0 fs ps:=h
def At.aq{e:TT}(h:aa m0 ps ps')(k:At Q e m0 fs ps'):At Q e m0 fs ps:=fun t m hf hm=>k t m hf (h m hm)
def Wk.Fq{fs':Fs}(hs:sub fs fs')(h:aa m0 ps ps')(k:Wk E n fn ro c Q m0 fs' ps'):Wk E n fn ro c Q m0 fs ps:=fun t m hf hm=>k t m (hf.sub hs) (h m hm)
structure En where
 e:TT
 fs:Fs
 ps:TO Pc
def lT(m0:TS){γ:Type}(G:γ->En)(e:TT)(t:Tm)(m:TS):Prop:=∃g,e=(G g).e/\Fr t (G g).fs/\Hp m0 m (G g).ps
def At.en{γ:Type}{G:γ->En}{e:TT}(g:γ)(he:e=(G g).e)(hs:sub fs (G g).fs)(ht:aa m0 ps (G g).ps):At (lT m0 G) e m0 fs ps:=fun _ m hf hm=>⟨g,he,hf.sub hs,ht m hm⟩
def Wk.cut{γ:Type}{G:γ->En}(h:Wk E n fn ro c (lT m0 G) m0 fs ps)(k:∀g,At Q (G g).e m0 (G g).fs (G g).ps):Wk E n fn ro c Q m0 fs ps:=fun t m hf hm =>
 (h t m hf hm).mono fun e t' m' ⟨g,h1,h2,h3⟩=>by rw[h1]; exact k g t' m' h2 h3
def bH{σ ρ:Type}(body:σ->TN (σ⊕ρ)):Nat->σ->TN ρ
 | 0,_=>none
 | k+1,s=>match body s with
  | some (.inl s')=>bH body k s'
  | some (.inr r)=>some r
  | none=>none
def Wk.loop{σ ρ γ:Type}{δ:ρ->Type}(body:σ->TN (σ⊕ρ))(I:σ->γ->En)(X:(r:ρ)->δ r->En)
  (hb:∀s g r,body s=some r->Wk E n fn ro c (match r with|.inl s'=>lT m0 (I s')|.inr r=>lT m0 (X r)) m0 (I s g).fs (I s g).ps)
  (hn:∀s g,(I s g).e=.normal) (hx:∀r g,(X r g).e≠.normal) :
  ∀(N:Nat) (s:σ) (r:ρ),bH body N s=some r->∀g,Wk E n fn ro (.loop c) (lT m0 (X r)) m0 (I s g).fs (I s g).ps:=by
 intro N
 induction N with
 | zero=>intro s r h; cases h
 | succ N ih =>
  intro s r h g t m hf hm;refine .loop (.round ?_);simp only[bH] at h
  split at h
  ·rename_i s' hs;refine(hb s g _ hs t m hf hm).mono fun e t' m' ⟨g',h1,h2,h3⟩=>?_;rw[h1,hn];have:=ih s' r h g' t' m' h2 h3;obtain⟨e2,t2,m2,⟨k2,hk2⟩,q2⟩:=this;cases k2 with
   | zero=>cases hk2
   | succ k2=>exact⟨e2,t2,m2,⟨k2,hk2⟩,q2⟩
  ·rename_i r' hs;simp only[Option.some.injEq] at h;subst h;refine(hb s g _ hs t m hf hm).mono fun e t' m' ⟨g',h1,h2,h3⟩=>?_;have hq:lT m0 (X r') e t' m':=⟨g',h1,h2,h3⟩;cases he:e with
   | normal=>rw[h1] at he; exact Q1 he (hx _ _)
   | exit id=>rw[he] at hq; exact hq
   | ret=>rw[he] at hq; exact hq
  cases h
def nB:TO SX->Nat->Fs->Fs
 | [],_,fs=>fs
 | v::vs,i,fs=>nB vs (i+1) ((i,v)::fs)
def Fr.args:∀(vs:TO SX) (i:Nat) (fs:Fs) (t:Tm),Fr t fs->Fr (Trie.ofList vs i t) (nB vs i fs)
 | [],_,_,_,h=>h
 | _::vs,i,_,_,h=>Fr.args vs (i+1) _ _ h.set
def aQ{f:T1}{F:Func}{c:Code}{args:TO SX}{rs:TO ResultVar}{N:Nat}{R:SX->TS->Prop}(hp:E.cH f=none)(hf:E.P.funcs[f]? = some F)(hb:F.body=some c)(hrs:F.results.toList=rs)(hN:max args.length F.ntmps=N)
  {m:TS} (hm:Hp m0 m ps) (h:Wk E N f none c (iF E rs R) m0 (nB args 0 []) ps):aI E f args m R :=
 aI.Mx hp hf hb hrs hN (h _ m (Fr.args args 0 [] _ (Fr.nil _)) hm)
def Hp.start(m:TS):Hp m m []:=⟨.refl m,fun p h=>(by cases h),.nil⟩
inductive Res1(E:Env)(fs:Fs)(ps:TO Pc):TO ResultVar->TO SX->Prop
 | nil:Res1 E fs ps [] []
 | tmp {i:Nat} {v:SX} {rs:TO ResultVar} {vs:TO SX} (h:lk fs i=some v) (k:Res1 E fs ps rs vs):Res1 E fs ps (.tmp i::rs) (v::vs)
 | cell {i k b o sz:Nat} {ty:SY} {v:SX} {rs:TO ResultVar} {vs:TO SX} {cs:TO SX} {tg:Tag} {ag:Bool} (ht:TyI E.P ty ag sz) (h:lk fs i=some (ptr b o)) (hp:pk ps k=some (.obj b (.cells cs tg))) (hv:w7 ag sz cs o=some v) (k:Res1 E fs ps rs vs):Res1 E fs ps (.cell i ty::rs) (v::vs)
def Res1.ok{fs:Fs}{ps:TO Pc}{t:Tm}{m:TS}(hf:Fr t fs)(hm:Hp m0 m ps):∀{rs:TO ResultVar} {vs:TO SX},Res1 E fs ps rs vs->cE E t m rs=some vs:=by
 intro rs vs h
 induction h with
 | nil=>rfl
 | tmp h _ ih=>simp only[cE,ih,hf _ _ h,QZ]
 | cell ht h hp hv _ ih=>simp only[cE,hf _ _ h,qK ht (hm.get hp).2.2 hv,ih]
def At.ret{rs:TO ResultVar}{vs:TO SX}{R:SX->TS->Prop}(h:Res1 E fs ps rs vs)(k:∀m,Hp m0 m ps->R (gU vs) m):At (iF E rs R) .ret m0 fs ps:=fun t m hf hm=>by
 rw[Le,h.ok hf hm]; exact k m hm
def At.fin{rs:TO ResultVar}{vs:TO SX}{R:SX->TS->Prop}(h:Res1 E fs ps rs vs)(k:∀m,Hp m0 m ps->R (gU vs) m):At (iF E rs R) .normal m0 fs ps:=fun t m hf hm=>by
 rw[Dg,h.ok hf hm]; exact k m hm
end
end Go.Ab.W
section
open Go Go.Ab Go.Ab.W
abbrev Ts:=@Wo.x
abbrev Tc:=@Wo.od
abbrev Tz:=@Wo.o0
abbrev Tu:=@Wo.og
abbrev Tq:=@Wo.aq
abbrev Tv:=@Wo.bt
abbrev To:=@aa.trans
abbrev Ti:=@aa.al
abbrev Tj:=@aa.close
abbrev TH:=@aa.nil
abbrev Tg:=@aa.freeze
abbrev Td:=@Wk.seq
abbrev TA:=@Wk.skip
abbrev TF:=@Wk.ret
abbrev Ty:=@Wk.cD
abbrev TC:=@Wk.dJ
abbrev Th:=@Wk.block
abbrev Te:=@Wk.region
abbrev Tk:=@Wo.nil
abbrev Tl:=@At.tn
abbrev TJ:=@At.be
abbrev Tn:=@At.aq
abbrev Tp:=@Hp.start
abbrev Tt:=@At.ret
end
end
