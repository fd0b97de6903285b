/- A part of the proof. -/
import Derived.Test.YtmndpgfbkicndaaGreatCf1
import Derived.RangeFuncRecord
import Derived.Scope
import Derived.OpenShut
import Derived.FnData
import Derived.MakeChecks
import Derived.CallsIn
import Derived.Laws.Twins
set_option linter.all false
namespace Go.Ab
open Go
def oY:∀{l:List Nat},vS l=true->l.Nodup
 | [],_=>List.nodup_nil
 | x::xs,h=>by
  simp only[vS,Sa,S8,List.contains_eq_mem,decide_eq_false_iff_not] at h;exact TT.2 ⟨h.1,oY h.2⟩
def CC:∀{l:List Oper} {x y:Nat} {a b:Oper} {d:Tmp},(l.filterMap (·.dst)).Nodup->l[x]? = some a->l[y]? = some b->a.dst=some d->b.dst=some d->x=y
 | [],x,y,a,b,d,_,h,_,_,_=>by simp at h
 | o::l,0,0,a,b,d,_,_,_,_,_=>rfl
 | o::l,0,y+1,a,b,d,hn,ha,hb,hda,hdb=>by
  simp at ha; subst ha;have hb':l[y]? = some b:=by simpa using hb
  rw[List.filterMap_cons_some hda] at hn;exact Ss (List.mem_filterMap.2 ⟨b,Sf hb',hdb⟩) (TT.1 hn).1
 | o::l,x+1,0,a,b,d,hn,ha,hb,hda,hdb=>by
  simp at hb; subst hb;have ha':l[x]? = some a:=by simpa using ha
  rw[List.filterMap_cons_some hdb] at hn;exact Ss (List.mem_filterMap.2 ⟨a,Sf ha',hda⟩) (TT.1 hn).1
 | o::l,x+1,y+1,a,b,d,hn,ha,hb,hda,hdb=>by
  have hn':(l.filterMap (·.dst)).Nodup:=by
   cases ho:o.dst with
   | none=>rw[List.filterMap_cons_none ho] at hn; exact hn
   | some d'=>rw[List.filterMap_cons_some ho] at hn; exact(TT.1 hn).2
  exact SK (· + 1) (CC hn' (by simpa using ha) (by simpa using hb) hda hdb)
def CG(bs:List Nat)(i j:Nat):Prop:=(bs.getD j 0).testBit i=true
structure OrderOk(ops:Array Oper)(bs:List Nat):Prop where
 uniq:∀(x y:Nat) (a b:Oper) (d:Tmp),ops[x]? = some a->ops[y]? = some b->a.dst=some d->b.dst=some d->x=y
 edge:∀(j:Nat) (o:Oper),ops[j]? = some o->∀e∈cM o,e<j
 guard:∀(j:Nat) (o:Oper) (g:Nat) (want:Bool),ops[j]? = some o->o.guard=some (g,want)->g<j/\CG bs g j
 anc:∀(i j:Nat) (o:Oper),i<j->ops[j]? = some o->CG bs i j->∃e∈cM o,e=i\/(i<e/\CG bs i e)
 apart:∀(i j:Nat) (a b:Oper),i<j->ops[i]? = some a->ops[j]? = some b->¬CG bs i j->ru ops a b=true
def dF{ops:Array Oper}{i:Nat}{o:Oper}(h:ops[i]? = some o):ops.getD i default=o:=by
 rw[Array.getD_eq_getD_getElem?,h]; rfl
def AN{ops:Array Oper}{bs:List Nat}(h:xj ops bs=true):OrderOk ops bs:=by
 simp only[xj,Sa,Si,TF] at h;obtain⟨h1,h2⟩:=h;have hlt:∀{i:Nat} {o:Oper},ops[i]? = some o->i<ops.size:=fun h=>(Sh.1 h).1;refine⟨?_,?_,?_,?_,?_⟩
 intro x y a b d ha hb hda hdb;exact CC (oY h1) (by simpa using ha) (by simpa using hb) hda hdb
 intro j o ho e he;have:=(h2 j (hlt ho)).1.1;rw[dF ho] at this
 simpa using this e he
 intro j o g want ho hg;have:=(h2 j (hlt ho)).1.2;rw[dF ho,hg] at this;simp only[Sa,Sn] at this;exact this
 intro i j o hij ho hb;have:=(h2 j (hlt ho)).2 i hij;rw[dF ho] at this;unfold CG at hb;rw[R7 hb] at this;simp only[TX,Tp,beq_iff_eq,Sa,Uc] at this;obtain⟨e,he,h3⟩:=this;exact⟨e,he,h3.imp id fun h=>⟨h.1,h.2⟩⟩
 intro i j a b hij ha hb hnb;have:=(h2 j (hlt hb)).2 i hij;rw[dF ha,dF hb] at this;unfold CG at hnb;rw[R6 hnb] at this;exact this
def Gp{ops:Array Oper}{bs:List Nat}(hO:OrderOk ops bs){D:Ux}(hD:∀j o,ops[j]? = some o->D j->∀e∈cM o,D e) :
  ∀(j:Nat) (o:Oper),ops[j]? = some o->(∀e∈cM o,D e)->∀i,i<j->CG bs i j->D i:=by
 intro j
 induction j using Nat.strongRecOn with
 | _ j ih =>
  intro o ho he i hij hb;obtain⟨e,hee,rfl|⟨hie,hbe⟩⟩:=hO.anc i j o hij ho hb
  exact he _ hee
  have hej:=hO.edge j o ho e hee;have hsz:e<ops.size:=Nat.lt_trans hej (Sh.1 ho).1;have hoe:ops[e]? = some ops[e]:=by simp[hsz]
  exact ih e hej _ hoe (hD e _ hoe (he e hee)) i hie hbe
def lZ{ops:Array Oper}{a b:Oper}(h:ru ops a b=true):(∀d,a.dst=some d->d∉looks ops b)/\(∀d,b.dst=some d->d∉looks ops a)/\¬(aE a.op=true/\aE b.op=true):=by
 simp only[ru,Sa,S8,Bool.and_eq_false_imp] at h;obtain⟨⟨h1,h2⟩,h3⟩:=h;refine⟨fun d hd=>?_,fun d hd=>?_,fun hh=>?_⟩
 rw[hd] at h2;simp only[Sa,S8,List.contains_eq_mem,decide_eq_false_iff_not] at h2;exact h2.1
 rw[hd] at h3
 simpa only[S8,List.contains_eq_mem,decide_eq_false_iff_not] using h3
 have:=h1 hh.1;rw[hh.2] at this; cases this
def uD{E:Env}{t:Tm}{o:Op}{b:Nat}(h:aQ E t o=some b):oZ o=true:=by
 cases o<;>simp only[aQ] at h<;>try(cases h; done)
 all_goals first|rfl|skip
 rename_i c;cases hc:c.callee with
 | builtin bb =>
  rw[hc] at h;cases bb<;>simp only[oZ,hc]<;>first|rfl |(cases h; done)
 | _=>rw[hc] at h; cases h
section
variable{E:Env}{k:K}{ops:Array Oper}{n:Nat}
def BB {t:Tm} {tmps:Array Uy} {j:aS} (o:Oper) (h:∀g want d,o.guard=some (g,want)->(ops[g]?).bind (·.dst)=some d->VR j (t.at d) (tmps.getD d undef)):Region.wanted o (yielded ops tmps)=cg ops o t:=by
 unfold Region.wanted cg;cases hgd:o.guard with
 | none=>rfl
 | some p =>
  obtain⟨g,want⟩:=p;simp only;have key:yielded ops tmps g=fy ops t g:=by
   unfold yielded fy;cases hd:(ops[g]?).bind (·.dst) with
   | none=>rfl
   | some d =>
    simp only[SA];have hv:=h g want d hgd hd;unfold Tm.at at hv;cases hg:t.get d with
    | none =>
     rw[hg] at hv;simp only[Option.getD_none] at hv;have:tmps[d]? = none\/tmps[d]? = some undef:=by
      cases ha:tmps[d]? with
      | none=>exact .inl rfl
      | some x =>
       right
       have:tmps.getD d undef=x:=by simp[ha]
       rw[this] at hv;have:x=undef:=gJ (by rfl) hv
       rw[this]
     rcases this with e|e<;>rw[e]<;>rfl
    | some x =>
     rw[hg] at hv;simp only[Option.getD_some] at hv;cases ha:tmps[d]? with
     | none =>
      have:tmps.getD d undef=undef:=by simp[ha]
      rw[this] at hv;cases x<;>first|rfl|cases hv
     | some y =>
      have:tmps.getD d undef=y:=by simp[ha]
      rw[this] at hv;cases hv with
      | junk hj=>cases y<;>first|rfl |(simp[An,aU] at hj)
      | _=>rfl
  rw[key];cases fy ops t g with
  | none=>rfl
  | some b=>simp
structure Can(k:K)(E:Env)(n:Nat)(ops:Array Oper)(j0:aS)(w0:UC)(T:Nat->Tm)(M:Nat->Vo)(V:Nat->Uy)(ns:List Note):Prop where
 hk:∀tk r,k tk=some r->cT E tk r
 tr:Tr k E n ops 0 ops.size T M V ns
 mr:MR E j0 (M 0) w0
 ghost:∀i,i<=ops.size->∃jc wc tc,Sim E j0 (M 0) w0 jc (M i) wc/\TR n jc (T i) tc
def Ep(hk:∀tk r,k tk=some r->cT E tk r){j0:aS}{w0:UC}{T:Nat->Tm}{M:Nat->Vo}{V:Nat->Uy}{ns:List Note}(tr:Tr k E n ops 0 ops.size T M V ns)(h0:MR E j0 (M 0) w0){t0:Array Uy}(ht0:TR n j0 (T 0) t0) :
  ∀i,i<=ops.size->∃jc wc tc,Sim E j0 (M 0) w0 jc (M i) wc/\TR n jc (T i) tc:=by
 intro i
 induction i with
 | zero=>exact fun _=>⟨j0,w0,t0,.refl h0,ht0⟩
 | succ i ih =>
  intro hi;obtain⟨jc,wc,tc,s,ht⟩:=ih (by omega)
  obtain⟨note,_,o,ho,hp,hst⟩:=tr.step i (by omega)
  rcases hst with⟨_,r,e,hm,_⟩|⟨_,hv,hm,_⟩
  have hd:=lW (a:={ tmps:=tc,defers:=[]}) hk (s.mr.vn (x:=(M i).next)) ht e
  obtain⟨v',w',j',s',hv'⟩:=hd.ends;exact⟨j',w',_,s.trans h0 (hm▸s'.Pn),TR.put (a:={ tmps:=tc,defers:=[]}) (ht.mono s'.le) hv' hp⟩
  rw[hm];exact⟨jc,wc,_,s,TR.put (a:={ tmps:=tc,defers:=[]}) ht (hv▸VR.undef jc) hp⟩
variable{j0:aS}{w0:UC}{T:Nat->Tm}{M:Nat->Vo}{V:Nat->Uy}{ns:List Note}
def zE{t:Tm}{m:Vo}{o:Op}(h:aE o=false):ez k E t m o=fq E t m o:=by
 unfold ez;cases o with
 | call c =>
  simp only;cases hc:c.callee with
  | value f=>simp[aE,hc] at h
  | _=>rfl
 | _=>rfl
def wG{m m':Vo}{b o:Nat}{vs:List Uy}(h:m.cW b o vs=some m'){x:Nat}(hx:x≠b):m'.get x=m.get x:=by
 unfold Vo.cW at h
 split at h
 cases h; rfl
 split at h
 cases h
 split at h
 cases h; rw[Vo.bC,R6 hx]
 cases h
 cases h
def AS{t:Tm}{m r:Vo}{o:Op}{v:Uy}{b':Nat}(h:ez k E t m o=some (v,r))(hw:fb E t o=some b'):∀b,b≠b'->r.get b=m.get b:=by
 cases o<;>simp only[fb] at hw<;>try(cases hw; done)
 rename_i ty a x;simp only[ez,fq] at h
 split at h
 rename_i p v0 hp hv;obtain⟨m1,hm,he⟩:=map_some h;cases he;rw[hp] at hw;unfold gG at hm
 split at hm
 rename_i b o;simp only[Option.some.injEq] at hw;subst hw
 split at hm
 exact fun b hb=>wG hm hb
 cases hm
 cases hm
 cases h
def uP:∀{v u:Uy},w9 v u=true->v=u:=by
 intro v u h;unfold w9 at h
 split at h
 simp only[Sa,Sn] at h; rw[h.1,h.2]
 simp only[beq_iff_eq] at h; rw[h]
 simp only[Sa,Sn,Nat.beq_eq] at h; rw[h.1,h.2.1,h.2.2]
 simp only[Sn] at h; rw[h]
 simp only[Sn] at h; rw[h]
 cases h
def pX:∀{v u:List Uy},sx v u=true->v=u
 | [],[],_=>rfl
 | v::vs,u::us,h=>by
  simp only[sx,Sa] at h;rw[uP h.1,pX h.2]
 | [],_::_,h=>by cases h
 | _::_,[],h=>by cases h
def rQ:∀{v u:Uy},zq v u=true->v=u:=by
 intro v u h;unfold zq at h
 split at h
 rename_i f a c f' a' c';simp only[Sa] at h;have h1:=Td h.1;have h2:=pX h.2.1;have h3:=pX h.2.2;subst h1;obtain⟨a⟩:=a;obtain⟨a'⟩:=a';obtain⟨c⟩:=c;obtain⟨c'⟩:=c';simp only at h2 h3;rw[h2,h3]
 exact uP h
def zj:∀{v u:List Uy},Cw v u=true->v=u
 | [],[],_=>rfl
 | v::vs,u::us,h=>by
  simp only[Cw,Sa] at h;rw[rQ h.1,zj h.2]
 | [],_::_,h=>by cases h
 | _::_,[],h=>by cases h
def uR:∀{v u:List (Uy×Uy)},xu v u=true->v=u
 | [],[],_=>rfl
 |(a,b)::vs,(c,d)::us,h=>by
  simp only[xu,Sa] at h;rw[show a=c from rQ h.1.1,show b=d from rQ h.1.2,uR h.2]
 | [],_::_,h=>by cases h
 | _::_,[],h=>by cases h
def EI{a b:Option Vq}(h:HX a b=true):a=b:=by
 unfold HX at h
 split at h
 simp only[Sa,Sn] at h; rw[h.1,zj h.2]
 rw[uR h]
 cases h
def Jh{m m':Vo}{b:Nat}(h:iX m m' b=true):m.get b=m'.get b:=by
 unfold iX at h;rcases(Tp _ _).mp h with h|h
 exact EI h
 exact @of_decide_eq_true _ (Classical.propDecidable _) h
inductive Kind(k:K)(E:Env)(ops:Array Oper)(M:Nat->Vo)(o:Oper)(i:Nat)(t:Tm)(v:Uy):Prop
 | skip (hw:cg ops o t=false) (hv:v=undef) (hm:M (i+1)=M i)
 | quiet (hw:cg ops o t=true) (he:aE o.op=false) (hn:(M (i+1)).next=(M i).next) (hg:∀b,(M (i+1)).get b=(M i).get b)
   (ha:∀m2:Vo,(∀b0,aQ E t o.op=some b0->m2.get b0=(M i).get b0)->fq E t m2 o.op=some (v,m2))
 | makes (hw:cg ops o t=true) (he:aE o.op=false) (vb:Nat->Uy) (ao:Vq) (hv:v=vb (M i).next) (hn:(M (i+1)).next=(M i).next+1)
   (hg:∀b,(M (i+1)).get b=if b=(M i).next then some ao else(M i).get b) (ha:∀m2:Vo,fq E t m2 o.op=some (vb m2.next,m2.alloc ao))
 | effect (hw:cg ops o t=true) (he:aE o.op=true) (r:Vo) (hr:ez k E t { M i with wl:=(M i).next} o.op=some (v,r)) (hm:M (i+1) ={ r with wl:=min (M i).wl r.wl})
def Can.kind(c:Can k E n ops j0 w0 T M V ns){i:Nat}(hi:i<ops.size):∃o,ops[i]? = some o/\jQ n (T i) o.dst (V i)=some (T (i+1))/\Kind k E ops M o i (T i) (V i):=by
 obtain⟨note,_,o,ho,hp,hst⟩:=c.tr.step i hi;rw[SD] at ho;refine⟨o,ho,hp,?_⟩;rcases hst with⟨hw,r,e,hm,_⟩|⟨hw,hv,hm,_⟩
 ·cases he:aE o.op with
  | true=>exact .effect hw he r e hm
  | false =>
   rw[zE he] at e;obtain⟨jc,wc,tc,s,ht⟩:=c.ghost i (by omega)
   rcases wK (a:={ tmps:=tc,defers:=[]}) (s.mr.vn (x:=(M i).next)) ht e with⟨h1,h2,_⟩|⟨ao,co,vb,v',h1,h2,_,_,_,h3⟩|⟨h1,_⟩
   subst h1;exact .quiet hw he (by rw[hm]) (fun b=>by rw[hm]; rfl) (fun m2 hm2=>h2 m2 hm2)
   subst h2;refine .makes hw he vb ao h1 (by rw[hm]; rfl) (fun b=>?_) h3
   rw[hm];exact Vo.aZ { M i with wl:=(M i).next} ao b
   rw[he] at h1; cases h1
 exact .skip hw hv hm
def Can.ext(c:Can k E n ops j0 w0 T M V ns){i:Nat}(hi:i<ops.size):AExt (M i) (M (i+1)):=by
 obtain⟨note,_,o,ho,hp,hst⟩:=c.tr.step i hi;rcases hst with⟨hw,r,e,hm,_⟩|⟨hw,hv,hm,_⟩
 obtain⟨jc,wc,tc,s,ht⟩:=c.ghost i (by omega)
 obtain⟨v',w',j',s',hv'⟩:=(lW (a:={ tmps:=tc,defers:=[]}) c.hk (s.mr.vn (x:=(M i).next)) ht e).ends
 rw[hm]; exact s'.Pn.ext
 rw[hm]; exact .refl _
def Can.note(c:Can k E n ops j0 w0 T M V ns){i:Nat}(hi:i<ops.size):∃note o,ns[i]? = some note/\ops[i]? = some o/\note.next=(M i).next /\
  (∀b,b<(M i).next->(b<note.wl\/(∃b',note.wrote=some b'/\b≠b')\/note.kept b=true)->(M (i+1)).get b=(M i).get b)/\(cg ops o (T i)=true->note.read=aQ E (T i) o.op):=by
 obtain⟨note,hn,o,ho,hp,hst⟩:=c.tr.step i hi;rw[SD] at ho;refine⟨note,o,hn,ho,?_⟩;rcases hst with⟨hw,r,e,hm,hnote⟩|⟨hw,hv,hm,hnote⟩
 obtain⟨jc,wc,tc,s,ht⟩:=c.ghost i (by omega)
 obtain⟨v',w',j',s',hv'⟩:=(lW (a:={ tmps:=tc,defers:=[]}) c.hk (s.mr.vn (x:=(M i).next)) ht e).ends
 subst hnote;refine⟨rfl,fun b hb hc=>?_,fun _=>rfl⟩;rw[hm];rcases hc with hc|⟨b',hc,hne⟩|hc
 exact s'.ext.same b hb hc
 exact AS e hc b hne
 exact(Jh hc).symm
 subst hnote;exact⟨rfl,fun b hb _=>by rw[hm],fun h=>by rw[hw] at h; cases h⟩
def Can.keep(c:Can k E n ops j0 w0 T M V ns){i:Nat}{o:Oper}(ho:ops[i]? = some o)(he:aE o.op=false\/cg ops o (T i)=false):∀b,b<(M i).next->(M (i+1)).get b=(M i).get b:=by
 obtain⟨o',ho',_,hk⟩:=c.kind (Sh.1 ho).1;rw[ho] at ho'; cases ho';cases hk with
 | skip _ _ hm=>intro b _; rw[hm]
 | quiet _ _ _ hg _=>exact fun b _=>hg b
 | makes _ _ vb ao _ _ hg _=>intro b hb; rw[hg,UF]
 | effect hw he' _ _ _ =>
  rcases he with he|he
  rw[he] at he'; cases he'
  rw[he] at hw; cases hw
def Can.cE(c:Can k E n ops j0 w0 T M V ns){x y:Nat}(hy:y<=ops.size)(h:x<=y):(M x).next<=(M y).next:=by
 induction y with
 | zero =>
  have:x=0:=by omega
  subst this; exact Sc _
 | succ y ih =>
  rcases S0 y x with hlt|hge
  have:x=y+1:=by omega
  subst this; exact Sc _
  exact SC (ih (by omega) hge) (c.ext (by omega)).next
def Can.O2(c:Can k E n ops j0 w0 T M V ns){x y:Nat}(hy:y<=ops.size)(h:x<=y):(M y).wl<=(M x).wl:=by
 induction y with
 | zero =>
  have:x=0:=by omega
  subst this; exact Sc _
 | succ y ih =>
  rcases S0 y x with hlt|hge
  have:x=y+1:=by omega
  subst this; exact Sc _
  exact SC (c.ext (by omega)).wl (ih (by omega) hge)
def Can.fQ(_:Can k E n ops j0 w0 T M V ns){x y:Nat}(hy:y<=ops.size)(hxy:x<=y){b:Nat}(hb:b<(M x).next)(H:∀z,x<=z->z<y->(M (z+1)).get b=(M z).get b):(M y).get b=(M x).get b:=by
 induction y with
 | zero =>
  have:x=0:=by omega
  subst this; rfl
 | succ y ih =>
  rcases S0 y x with hlt|hge
  have:x=y+1:=by omega
  subst this; rfl
  rw[H y hge (by omega)]
  exact ih (by omega) hge fun z h1 h2=>H z h1 (by omega)
def Made(M:Nat->Vo)(i b:Nat):Prop:=(M i).next<=b/\b<(M (i+1)).next
def Can.vd(c:Can k E n ops j0 w0 T M V ns){i i' b:Nat}(hi:i<ops.size)(hi':i'<ops.size)(h:Made M i b)(h':Made M i' b):i=i':=by
 rcases Nat.lt_trichotomy i i' with hlt|heq|hgt
 have:=c.cE (x:=i+1) (y:=i') (by omega) (by omega)
 have:=h.2; have:=h'.1; omega
 exact heq
 have:=c.cE (x:=i'+1) (y:=i) (by omega) (by omega)
 have:=h'.2; have:=h.1; omega
def rq:∀{y:Nat} {b x:Nat},x<=y->(M x).next<=b->b<(M y).next->∃i,x<=i/\i<y/\Made M i b
 | 0,b,x,hx,h1,h2=>by
  have:x=0:=by omega
  subst this; omega
 | y+1,b,x,hx,h1,h2=>by
  rcases S0 b (M y).next with hlt|hge
  rcases S0 y x with hyx|hyx
  have:x=y+1:=by omega
  subst this; omega
  obtain⟨i,a1,a2,a3⟩:=rq hyx h1 hlt;exact⟨i,a1,by omega,a3⟩
  rcases S0 y x with hyx|hyx
  have:x=y+1:=by omega
  subst this; omega
  exact⟨y,hyx,by omega,hge,h2⟩
def xz(M:Nat->Vo):Nat->Nat->Option Vq
 | 0,_=>none
 | x+1,b=>if(M x).next<=b/\b<(M (x+1)).next then(M (x+1)).get b else xz M x b
def cont(M:Nat->Vo)(N s b:Nat):Option Vq:=if b<(M s).next then(M s).get b else xz M N b
def nK(M:Nat->Vo)(N s:Nat):Vo:={ next:=(M N).next,wl:=(M N).wl,objs:=.nil,base:=cont M N s}
def du(N s b:Nat):(nK M N s).get b=cont M N s b:=by simp[Vo.get,nK,Heap.get_nil]
def Can.born(c:Can k E n ops j0 w0 T M V ns){i b:Nat}(h:Made M i b):∀{x:Nat},x<=ops.size->i<x->xz M x b=(M (i+1)).get b
 | 0,_,hi=>by omega
 | x+1,hx,hi=>by
  simp only[xz]
  split
  rename_i h2;rw[c.vd (i:=i) (i':=x) (by omega) (by omega) h h2]
  rename_i h2;rcases S0 i x with hlt|hge
  exact c.born h (by omega) hlt
  have:i=x:=by omega
  subst this; exact(h2 h).elim
def Can.dq(_:Can k E n ops j0 w0 T M V ns){s b:Nat}(h:b<(M s).next):cont M ops.size s b=(M s).get b:=by simp[cont,h]
def Can.qj(c:Can k E n ops j0 w0 T M V ns){s i b:Nat}(hi:i<ops.size)(h:Made M i b)(hs:(M s).next<=b):cont M ops.size s b=(M (i+1)).get b:=by
 unfold cont;rw[UF]
 exact c.born h (Sc _) hi
def Can.Az(c:Can k E n ops j0 w0 T M V ns){s s':Nat}(hs:s<=s')(hs':s'<=ops.size)(H:∀x,s<=x->x<s'->∀b,b<(M x).next->(M (x+1)).get b=(M x).get b):cont M ops.size s=cont M ops.size s':=by
 funext b
 rcases S0 b (M s).next with h1|h1
 rw[c.dq h1,c.dq (Sj h1 (c.cE hs' hs))];exact(c.fQ hs' hs h1 fun z hz hz'=>H z hz hz' b (Sj h1 (c.cE (by omega) hz))).symm
 rcases S0 b (M s').next with h2|h2
 obtain⟨i,a1,a2,a3⟩:=rq hs h1 h2;rw[c.qj (by omega) a3 h1,c.dq h2]
 exact(c.fQ (x:=i+1) hs' (by omega) a3.2 fun z hz hz'=>H z (by omega) hz' b (Sj a3.2 (c.cE (by omega) hz))).symm
 unfold cont;rw[UF,UF]
structure TD(n:Nat)(ops:Array Oper)(T:Nat->Tm)(V:Nat->Uy)(D:Ux)(j:aS)(tmps:Array Uy):Prop where
 size:tmps.size=n
 done:∀x o d,ops[x]? = some o->D x->o.dst=some d->VR j (V x) (tmps.getD d undef)
 rest:∀d,(∀x o,ops[x]? = some o->D x->o.dst≠some d)->VR j ((T 0).at d) (tmps.getD d undef)
def TD.mono{D:Ux}{j j':aS}{tmps:Array Uy}(h:TD n ops T V D j tmps)(hj:j.le j'):TD n ops T V D j' tmps :=
 ⟨h.size,fun x o d a b c=>(h.done x o d a b c).mono hj,fun d hd=>(h.rest d hd).mono hj⟩
def Can.Jb(c:Can k E n ops j0 w0 T M V ns):∀{i:Nat},i<=ops.size->∀d,(∃x o,x<i/\ops[x]? = some o/\o.dst=some d/\(T i).at d=V x)\/((∀x o,x<i->ops[x]? = some o->o.dst≠some d)/\(T i).at d=(T 0).at d)
 | 0,_,d=>.inr ⟨fun x o h=>by omega,rfl⟩
 | i+1,hi,d=>by
  obtain⟨o,ho,hp,_⟩:=c.kind (i:=i) (by omega)
  unfold jQ at hp;cases hd:o.dst with
  | none =>
   rw[hd] at hp;simp only[Option.some.injEq] at hp;rw[<-hp];rcases c.Jb (i:=i) (by omega) d with⟨x,o',h1,h2,h3,h4⟩|⟨h1,h2⟩
   exact .inl ⟨x,o',by omega,h2,h3,h4⟩
   refine .inr ⟨fun x o' hx ho'=>?_,h2⟩;rcases S0 x i with hlt|hge
   exact h1 x o' hlt ho'
   have:x=i:=by omega
   subst this;rw[ho] at ho'; cases ho';rw[hd]; simp
  | some d0 =>
   rw[hd] at hp;simp only at hp
   split at hp
   simp only[Option.some.injEq] at hp;rw[<-hp]
   by_cases hdd:d=d0
   subst hdd;exact .inl ⟨i,o,by omega,ho,hd,by simp[Tm.at,Trie.bC]⟩
   have hat:Tm.at ((T i).set d0 (V i)) d=Tm.at (T i) d:=by simp[Tm.at,Trie.bC,hdd]
   rw[hat];rcases c.Jb (i:=i) (by omega) d with⟨x,o',h1,h2,h3,h4⟩|⟨h1,h2⟩
   exact .inl ⟨x,o',by omega,h2,h3,h4⟩
   refine .inr ⟨fun x o' hx ho'=>?_,h2⟩;rcases S0 x i with hlt|hge
   exact h1 x o' hlt ho'
   have:x=i:=by omega
   subst this;rw[ho] at ho'; cases ho';rw[hd]; simp only[ne_eq,Option.some.injEq]; exact fun h=>hdd h.symm
   cases hp
def Can.A1(c:Can k E n ops j0 w0 T M V ns){i:Nat}{o:Oper}(ho:ops[i]? = some o){d:Tmp}(hd:o.dst=some d):d<n:=by
 obtain⟨o',ho',hp,_⟩:=c.kind (Sh.1 ho).1;rw[ho] at ho'; cases ho';unfold jQ at hp;rw[hd] at hp;simp only at hp
 split at hp
 rename_i h; simpa using h
 cases hp
def TD.put{bs:List Nat}(hO:OrderOk ops bs){D:Ux}{j:aS}{a:Act}{i:Nat}{o:Oper}(h:TD n ops T V D j a.tmps)(ho:ops[i]? = some o)(hn:∀d,o.dst=some d->d<n){v':Uy}(hv:VR j (V i) v') :
  TD n ops T V (fun x=>D x\/x=i) j (a.put o.dst v').tmps:=by
 cases hd:o.dst with
 | none =>
  refine⟨h.size,fun x o' d a1 a2 a3=>?_,fun d hd'=>h.rest d fun x o' a1 a2=>hd' x o' a1 (.inl a2)⟩;rcases a2 with a2|rfl
  exact h.done x o' d a1 a2 a3
  rw[ho] at a1; cases a1; rw[hd] at a3; cases a3
 | some d0 =>
  have hlt:d0<a.tmps.size:=by rw[h.size]; exact hn d0 hd
  have hget:∀d,(a.put (some d0) v').tmps.getD d undef=if d=d0 then v' else a.tmps.getD d undef:=by
   intro d
   show(a.tmps.setIfInBounds d0 v').getD d undef=_
   by_cases hdd:d=d0
   subst hdd; simp[hlt]
   rw[R6 hdd];simp[TE (Ne.symm hdd)]
  refine⟨by rw[<-h.size]; simp[Act.put],fun x o' d a1 a2 a3=>?_,fun d hd'=>?_⟩
  rw[hget]
  by_cases hdd:d=d0
  subst hdd;rw[R7 rfl];have:x=i:=hO.uniq x i o' o d a1 ho a3 hd;subst this; exact hv
  rw[R6 hdd];rcases a2 with a2|rfl
  exact h.done x o' d a1 a2 a3
  rw[ho] at a1; cases a1; rw[hd] at a3; cases a3; exact(hdd rfl).elim
  rw[hget]
  by_cases hdd:d=d0
  subst hdd; exact(hd' i o ho (.inr rfl) hd).elim
  rw[R6 hdd];exact h.rest d fun x o' a1 a2=>hd' x o' a1 (.inl a2)
structure Inv(E:Env)(n:Nat)(ops:Array Oper)(j0:aS)(w0:UC)(T:Nat->Tm)(M:Nat->Vo)(V:Nat->Uy)(ds:List Deferred)(D:Ux)(s:Nat)(j:aS)(a:Act)(w:UC):Prop where
 le:s<=ops.size
 tmps:TD n ops T V D j a.tmps
 defers:a.defers=ds
 jle:j0.le j
 new:∀b kb,j b=some kb->j0 b=none->∃i,i<ops.size/\D i/\Made M i b
 mr:MR E j (nK M ops.size s) w
 size:w0.heap.size<=w.heap.size
 full:∀i,i<ops.size->D i->∀b,Made M i b->(cont M ops.size s b).isSome=true->∃kb,j b=some kb
 fresh:∀b kb,j b=some kb->j0 b=none->w0.heap.size<=kb.c\/∃b0 k0,j0 b0=some k0/\((M 0).get b0).isSome=true/\k0.c=kb.c/\(M ops.size).wl<=b0
 frame:∀c,c<w0.heap.size->(∀b kb,j0 b=some kb->((M 0).get b).isSome=true->kb.c=c->b<(M ops.size).wl)->w.heap[c]? = w0.heap[c]?
 calm:jb E w0 w
 unt:∀i,i<s->¬D i->∀b,Made M i b->(M s).get b=(M (i+1)).get b
variable{ds:List Deferred}{D:Nat->Prop}{s:Nat}{j:aS}{a:Act}{w:UC}
def Inv.shift(c:Can k E n ops j0 w0 T M V ns)(h:Inv E n ops j0 w0 T M V ds D s j a w){s':Nat}(hs:s<=s')(hs':s'<=ops.size)(H:∀x,s<=x->x<s'->∀b,b<(M x).next->(M (x+1)).get b=(M x).get b) :
  Inv E n ops j0 w0 T M V ds D s' j a w:=by
 have hc:=c.Az hs hs' H;have hm:nK M ops.size s'=nK M ops.size s:=by simp only[nK,hc]
 refine{ h with le:=hs',mr:=by rw[hm]; exact h.mr,full:=by rw[<-hc]; exact h.full,unt:=fun i hi hD b hb=>?_}
 rcases S0 i s with hlt|hge
 rw[<-h.unt i hlt hD b hb];have hb':b<(M s).next:=Sj hb.2 (c.cE (by omega) hlt)
 exact c.fQ hs' hs hb' fun z hz hz'=>H z hz hz' b (Sj hb' (c.cE (by omega) hz))
 exact c.fQ hs' (by omega) hb.2 fun z hz hz'=>H z (by omega) hz' b (Sj hb.2 (c.cE (by omega) hz))
def Inv.sZ(c:Can k E n ops j0 w0 T M V ns)(h:Inv E n ops j0 w0 T M V ds D s j a w){i b:Nat}(hi:i<ops.size)(hD:¬D i)(hb:Made M i b):j b=none:=by
 cases hj:j b with
 | none=>rfl
 | some kb =>
  cases hj0:j0 b with
  | some k0 =>
   have:=(c.mr.lt b k0 hj0).1;have:=c.cE (x:=0) (y:=i) (by omega) (Th _)
   have:=hb.1;omega
  | none =>
   obtain⟨i',hi',hD',hb'⟩:=h.new b kb hj hj0;exact Ss (c.vd hi hi' hb hb'▸hD') hD
def Inv.quiet{bs:List Nat}(hO:OrderOk ops bs)(c:Can k E n ops j0 w0 T M V ns)(h:Inv E n ops j0 w0 T M V ds D s j a w){i:Nat}{o:Oper}(ho:ops[i]? = some o)(hn:(M (i+1)).next=(M i).next){v':Uy}(hv:VR j (V i) v') :
  Inv E n ops j0 w0 T M V ds (fun x=>D x\/x=i) s j (a.put o.dst v') w where
 le:=h.le
 tmps:=h.tmps.put hO ho (fun d hd=>c.A1 ho hd) hv
 defers:=by rw[<-h.defers]; cases o.dst<;>rfl
 jle:=h.jle
 new:=fun b kb h1 h2=>let⟨x,a1,a2,a3⟩:=h.new b kb h1 h2;⟨x,a1,.inl a2,a3⟩
 mr:=h.mr
 size:=h.size
 full:=fun x hx hD b hb hl=>by
  rcases hD with hD|rfl
  exact h.full x hx hD b hb hl
  have:=hb.1; have:=hb.2; omega
 fresh:=h.fresh
 frame:=h.frame
 calm:=h.calm
 unt:=fun x hx hD b hb=>h.unt x hx (fun hd=>hD (.inl hd)) b hb
def Inv.makes{bs:List Nat}(hO:OrderOk ops bs)(c:Can k E n ops j0 w0 T M V ns)(h:Inv E n ops j0 w0 T M V ds D s j a w){i:Nat}{o:Oper}(ho:ops[i]? = some o)(hD:¬D i){ao:Vq}(hn:(M (i+1)).next=(M i).next+1)
  (hg:(M (i+1)).get (M i).next=some ao) {co:Obj} (hor:OR j ⟨w.heap.size,none⟩ ao co) {v':Uy} (hv:VR (j.set (M i).next ⟨w.heap.size,none⟩) (V i) v') :
  Inv E n ops j0 w0 T M V ds (fun x=>D x\/x=i) s (j.set (M i).next ⟨w.heap.size,none⟩) (a.put o.dst v') (w.alloc co):=by
 have hi:i<ops.size:=(Sh.1 ho).1;have hmade:Made M i (M i).next:=⟨Sc _,by omega⟩
 have hnone:j (M i).next=none:=h.sZ c hi hD hmade
 have hle:j.le (j.set (M i).next ⟨w.heap.size,none⟩):=aS.oJ _ hnone
 have hcont:cont M ops.size s (M i).next=some ao:=by
  rcases S0 i s with hlt|hge
  rw[c.dq (Sj hmade.2 (c.cE h.le hlt)),h.unt i hlt hD _ hmade,hg]
  rw[c.qj hi hmade (c.cE (by omega) hge),hg]
 have hheap:∀x,x<w.heap.size->(w.alloc co).heap[x]? = w.heap[x]?:=fun x hx=>by
  show(w.heap.push co)[x]? = w.heap[x]?
  rw[TP,UF]
 have hnew:(w.alloc co).heap[w.heap.size]? = some co:=World.alloc_heap_new w co;have hcase:∀b kb,(j.set (M i).next ⟨w.heap.size,none⟩) b=some kb->(b=(M i).next/\kb=⟨w.heap.size,none⟩)\/(b≠(M i).next/\j b=some kb):=by
  intro b kb hb
  by_cases hbx:b=(M i).next
  subst hbx; rw[aS.cB] at hb; cases hb; exact .inl ⟨rfl,rfl⟩
  rw[aS.cd _ _ hbx] at hb; exact .inr ⟨hbx,hb⟩
 refine⟨h.le,(h.tmps.mono hle).put hO ho (fun d hd=>c.A1 ho hd) hv,by rw[<-h.defers]; cases o.dst<;>rfl,h.jle.trans hle,?_,⟨?_,?_,?_,?_⟩,?_,?_,?_,?_,h.calm,fun x hx hDx b hb=>h.unt x hx (fun hd=>hDx (.inl hd)) b hb⟩
 intro b kb hb hb0;rcases hcase b kb hb with⟨rfl,rfl⟩|⟨_,hj⟩
 exact⟨i,hi,.inr rfl,hmade⟩
 obtain⟨x,a1,a2,a3⟩:=h.new b kb hj hb0;exact⟨x,a1,.inl a2,a3⟩
 intro b kb hb;rcases hcase b kb hb with⟨rfl,rfl⟩|⟨_,hj⟩
 exact⟨Sj hmade.2 (c.cE (Sc _) hi),by rw[World.size_alloc]; exact T3 _⟩
 exact⟨(h.mr.lt b kb hj).1,by rw[World.size_alloc]; exact Nat.lt_succ_of_lt (h.mr.lt b kb hj).2⟩
 intro b o1 kb hg1 hb;rcases hcase b kb hb with⟨rfl,rfl⟩|⟨_,hj⟩
 rw[du,hcont] at hg1; cases hg1;exact⟨co,hnew,hor.mono hle⟩
 obtain⟨o',h1,h2⟩:=h.mr.obj b o1 kb hg1 hj;exact⟨o',by rw[hheap _ (h.mr.lt b kb hj).2]; exact h1,h2.mono hle⟩
 intro b b' kb kb' hb hb' hl hl' he;rcases hcase b kb hb with⟨rfl,rfl⟩|⟨_,hj⟩<;>rcases hcase b' kb' hb' with⟨rfl,rfl⟩|⟨_,hj'⟩
 rfl
 have:=(h.mr.lt b' kb' hj').2;simp only at he; omega
 have:=(h.mr.lt b kb hj).2;simp only at he; omega
 exact h.mr.inj b b' kb kb' hj hj' hl hl' he
 intro g hgl;exact hle g _ (h.mr.glob g hgl)
 rw[World.size_alloc]; exact Nat.le_succ_of_le h.size
 intro x hx hDx b hb hl;rcases hDx with hDx|rfl
 obtain⟨kb,hkb⟩:=h.full x hx hDx b hb hl;exact⟨kb,hle b kb hkb⟩
 have hbx:b=(M x).next:=by have:=hb.1; have:=hb.2; omega
 subst hbx;exact⟨_,aS.cB _ _ _⟩
 intro b kb hb hb0;rcases hcase b kb hb with⟨rfl,rfl⟩|⟨_,hj⟩
 exact .inl h.size
 exact h.fresh b kb hj hb0
 intro x hx H;rw[hheap x (Sj hx h.size)];exact h.frame x hx H
def Inv.OL(c:Can k E n ops j0 w0 T M V ns){e:Nat}(he:e<=ops.size)(h:Inv E n ops j0 w0 T M V ds D e j a w){x:Nat}:MR E (j.below (M e).next) { M e with wl:=x} w:=by
 obtain⟨jc,wc,tc,sg,_⟩:=c.ghost e he;have hcdom:∀b kb,jc b=some kb->b<(M e).next:=fun b kb hb=>(sg.mr.lt b kb hb).1
 refine⟨fun b kb hb=>?_,fun b o kb hg hb=>?_,fun b b' kb kb' hb hb' hl hl' hc=>?_,fun g hg=>?_⟩
 obtain⟨h1,h2⟩:=aS.bE.1 hb;exact⟨h1,(h.mr.lt b kb h2).2⟩
 ·obtain⟨h1,h2⟩:=aS.bE.1 hb;have hg':(M e).get b=some o:=hg;obtain⟨o',h3,h4⟩:=h.mr.obj b o kb (by rw[du,c.dq h1]; exact hg') h2
  refine⟨o',h3,?_⟩;obtain⟨kc,hkc⟩:∃kc,jc b=some kc:=by
   cases hj0:j0 b with
   | some k0=>exact⟨k0,sg.le b k0 hj0⟩
   | none =>
    obtain⟨i,hi,_,hm⟩:=h.new b kb h2 hj0;have:=c.cE (x:=0) (y:=i) (by omega) (Th _)
    exact sg.full b (SC this hm.1) h1 (by rw[hg']; rfl)
  obtain⟨o2,_,h6⟩:=sg.mr.obj b o kc hg' hkc;exact h4.cut hcdom h6
 obtain⟨h1,h2⟩:=aS.bE.1 hb;obtain⟨h1',h2'⟩:=aS.bE.1 hb';refine h.mr.inj b b' kb kb' h2 h2' ?_ ?_ hc
 rw[du,c.dq h1]; exact hl
 rw[du,c.dq h1']; exact hl'
 refine aS.bE.2 ⟨?_,h.mr.glob g hg⟩;exact Sj (c.mr.lt g _ (c.mr.glob g hg)).1 (c.cE he (Th _))
def aS.over(j' j:aS)(y:Nat):aS:=fun b=>if b<y then j' b else j b
def Inv.effect{bs:List Nat}(hO:OrderOk ops bs)(c:Can k E n ops j0 w0 T M V ns){e:Nat}(h:Inv E n ops j0 w0 T M V ds D e j a w){o:Oper}(ho:ops[e]? = some o)(hD:¬D e){r:Vo}(hm:M (e+1) ={ r with wl:=min (M e).wl r.wl})
  {j':aS} {w':UC} (sm:Sim E (j.below (M e).next) { M e with wl:=(M e).next} w j' r w') {v':Uy} (hv:VR j' (V e) v') :
  Inv E n ops j0 w0 T M V ds (fun x=>D x\/x=e) (e+1) (j'.over j (M (e+1)).next) (a.put o.dst v') w':=by
 have hi:e<ops.size:=(Sh.1 ho).1;have hrn:r.next=(M (e+1)).next:=by rw[hm]
 have hrg:∀b,r.get b=(M (e+1)).get b:=fun b=>by rw[hm]; rfl
 have hrw:(M ops.size).wl<=r.wl:=by
  have h1:=c.O2 (x:=e+1) (y:=ops.size) (Sc _) hi;have h2:(M (e+1)).wl=min (M e).wl r.wl:=by rw[hm]
  omega
 have hnx:(M e).next<=(M (e+1)).next:=(c.ext hi).next
 have hjlow:∀b kb,j b=some kb->b<(M e).next\/(M (e+1)).next<=b:=by
  intro b kb hb;rcases S0 b (M e).next with h1|h1
  exact .inl h1
  rcases S0 b (M (e+1)).next with h2|h2
  rw[h.sZ c hi hD ⟨h1,h2⟩] at hb; cases hb
  exact .inr h2
 have hj'lt:∀b kb,j' b=some kb->b<(M (e+1)).next:=fun b kb hb=>hrn ▸(sm.mr.lt b kb hb).1
 have hle':j'.le (j'.over j (M (e+1)).next):=fun b kb hb=>by
  unfold aS.over; rw[R7 (hj'lt b kb hb)]; exact hb
 have hlej:j.le (j'.over j (M (e+1)).next):=fun b kb hb=>by
  rcases hjlow b kb hb with h1|h1
  exact hle' b kb (sm.le b kb (aS.bE.2 ⟨h1,hb⟩))
  unfold aS.over; rw[UF]; exact hb
 have hcase:∀b kb,(j'.over j (M (e+1)).next) b=some kb->(b<(M (e+1)).next/\j' b=some kb)\/((M (e+1)).next<=b/\j b=some kb):=by
  intro b kb hb;unfold aS.over at hb
  split at hb
  exact .inl ⟨by assumption,hb⟩
  exact .inr ⟨by omega,hb⟩
 have hsplit:∀b kb,j' b=some kb->(j.below (M e).next b=some kb)\/(Made M e b/\j.below (M e).next b=none):=by
  intro b kb hb;cases hj:j.below (M e).next b with
  | some k0=>have:=sm.le b k0 hj; rw[hb] at this; cases this; exact .inl rfl
  | none=>exact .inr ⟨⟨sm.new b kb hb hj,hj'lt b kb hb⟩,rfl⟩
 have hcold:∀b,b<(M (e+1)).next->cont M ops.size (e+1) b=r.get b:=fun b hb=>by rw[c.dq hb,hrg]
 have hcnew:∀b,(M (e+1)).next<=b->cont M ops.size (e+1) b=cont M ops.size e b:=fun b hb=>by
  unfold cont; rw[UF,UF]
 have halive:∀b kb,j.below (M e).next b=some kb->(r.get b).isSome=true->((M e).get b).isSome=true:=by
  intro b kb hb hl;cases hg:(M e).get b with
  | some _=>rfl
  | none =>
   have:=sm.ext.dead b (aS.bE.1 hb).1 hg;rw[this] at hl; cases hl
 have hmemlow:∀b,b<(M e).next->(nK M ops.size e).get b=(M e).get b:=fun b hb=>by rw[du,c.dq hb]
 have hcross:∀b b' kb kb',b<(M (e+1)).next->j' b=some kb->(M (e+1)).next<=b'->j b'=some kb'->(r.get b).isSome=true->(cont M ops.size e b').isSome=true->kb.c≠kb'.c:=by
  intro b b' kb kb' h1 h2 h3 h4 hl hl' he;have old:∀b0 k0,j.below (M e).next b0=some k0->((M e).get b0).isSome=true->k0.c=kb'.c->False:=by
   intro b0 k0 hb0 hl0 he0;obtain⟨a1,a2⟩:=aS.bE.1 hb0;have:=h.mr.inj b0 b' k0 kb' a2 h4 (by rw[hmemlow b0 a1]; exact hl0) (by rw[du]; exact hl') he0
   omega
  rcases hsplit b kb h2 with hs|⟨hs,hs0⟩
  exact old b kb hs (halive b kb hs hl) he
  rcases sm.fresh b kb h2 hs0 with hf|⟨b0,k0,a1,a2,a3,a4⟩
  have:=(h.mr.lt b' kb' h4).2;omega
  exact old b0 k0 a1 a2 (a3.trans he)
 have hframe:∀b' kb',(M (e+1)).next<=b'->j b'=some kb'->(cont M ops.size e b').isSome=true->w'.heap[kb'.c]? = w.heap[kb'.c]?:=by
  intro b' kb' h3 h4 hl';refine sm.frame kb'.c (h.mr.lt b' kb' h4).2 fun b0 k0 hb0 hl0 he0=>?_;obtain⟨a1,a2⟩:=aS.bE.1 hb0;have:=h.mr.inj b0 b' k0 kb' a2 h4 (by rw[hmemlow b0 a1]; exact hl0) (by rw[du]; exact hl') he0
  omega
 refine⟨hi,((h.tmps.mono hlej).put hO ho (fun d hd=>c.A1 ho hd) (hv.mono hle')),by rw[<-h.defers]; cases o.dst<;>rfl,h.jle.trans hlej,?_,⟨?_,?_,?_,fun g hg=>hlej g _ (h.mr.glob g hg)⟩,SC h.size sm.size,?_,?_,?_,jb.trans h.calm sm.calm,?_⟩
 intro b kb hb hb0;rcases hcase b kb hb with⟨_,h2⟩|⟨_,h2⟩
 rcases hsplit b kb h2 with hs|⟨hs,_⟩
 obtain⟨x,a1,a2,a3⟩:=h.new b kb (aS.bE.1 hs).2 hb0;exact⟨x,a1,.inl a2,a3⟩
 exact⟨e,hi,.inr rfl,hs⟩
 obtain⟨x,a1,a2,a3⟩:=h.new b kb h2 hb0;exact⟨x,a1,.inl a2,a3⟩
 intro b kb hb;rcases hcase b kb hb with⟨h1,h2⟩|⟨h1,h2⟩
 exact⟨Sj h1 (c.cE (Sc _) hi),(sm.mr.lt b kb h2).2⟩
 exact⟨(h.mr.lt b kb h2).1,Sj (h.mr.lt b kb h2).2 sm.size⟩
 intro b o1 kb hg1 hb;rw[du] at hg1;rcases hcase b kb hb with⟨h1,h2⟩|⟨h1,h2⟩
 rw[hcold b h1] at hg1;obtain⟨o',a1,a2⟩:=sm.mr.obj b o1 kb hg1 h2;exact⟨o',a1,a2.mono hle'⟩
 rw[hcnew b h1] at hg1;obtain⟨o',a1,a2⟩:=h.mr.obj b o1 kb (by rw[du]; exact hg1) h2
 exact⟨o',by rw[hframe b kb h1 h2 (by rw[hg1]; rfl)]; exact a1,a2.mono hlej⟩
 intro b b' kb kb' hb hb' hl hl' he;rw[du] at hl hl';rcases hcase b kb hb with⟨h1,h2⟩|⟨h1,h2⟩<;>rcases hcase b' kb' hb' with⟨h1',h2'⟩|⟨h1',h2'⟩
 exact sm.mr.inj b b' kb kb' h2 h2' (by rw[<-hcold b h1]; exact hl) (by rw[<-hcold b' h1']; exact hl') he
 exact(hcross b b' kb kb' h1 h2 h1' h2' (by rw[<-hcold b h1]; exact hl) (by rw[<-hcnew b' h1']; exact hl') he).elim
 exact(hcross b' b kb' kb h1' h2' h1 h2 (by rw[<-hcold b' h1']; exact hl') (by rw[<-hcnew b h1]; exact hl) he.symm).elim
 exact h.mr.inj b b' kb kb' h2 h2' (by rw[du,<-hcnew b h1]; exact hl) (by rw[du,<-hcnew b' h1']; exact hl') he
 ·intro x hx hDx b hb hl;rcases hDx with hDx|rfl
  ·have hold:(cont M ops.size e b).isSome=true:=by
    rcases S0 b (M (e+1)).next with h1|h1
    ·rw[hcold b h1] at hl;have hxe:x≠e:=fun hxe=>hD (hxe▸hDx);have hxlt:x<e:=by
      rcases S0 x e with hlt|hge
      exact hlt
      have:=c.cE (x:=e+1) (y:=x) (by omega) (by omega)
      have:=hb.1; omega
     have hb2:b<(M e).next:=Sj hb.2 (c.cE (by omega) hxlt)
     rw[c.dq hb2];cases hg:(M e).get b with
     | some _=>rfl
     | none =>
      have:=sm.ext.dead b hb2 hg;rw[this] at hl; cases hl
    rw[<-hcnew b h1]; exact hl
   obtain⟨kb,hkb⟩:=h.full x hx hDx b hb hold;exact⟨kb,hlej b kb hkb⟩
  rw[hcold b hb.2] at hl;obtain⟨kb,hkb⟩:=sm.full b hb.1 (by rw[hrn]; exact hb.2) hl
  exact⟨kb,hle' b kb hkb⟩
 ·
  have freshOf:∀b0 k0,j.below (M e).next b0=some k0->((M e).get b0).isSome=true->(M ops.size).wl<=b0->w0.heap.size<=k0.c\/∃b1 k1,j0 b1=some k1/\((M 0).get b1).isSome=true/\k1.c=k0.c/\(M ops.size).wl<=b1:=by
   intro b0 k0 hb0 hl0 hw;have hb0':=(aS.bE.1 hb0).2;cases hj0:j0 b0 with
   | some k1 =>
    have:=h.jle b0 k1 hj0;rw[hb0'] at this; cases this;refine .inr ⟨b0,k0,hj0,?_,rfl,hw⟩;obtain⟨jc,wc,tc,sg,_⟩:=c.ghost e (by omega)
    cases hg:(M 0).get b0 with
    | some _=>rfl
    | none =>
     have:=sg.ext.dead b0 (c.mr.lt b0 k0 hj0).1 hg;rw[this] at hl0; cases hl0
   | none=>exact h.fresh b0 k0 hb0' hj0
  intro b kb hb hb0;rcases hcase b kb hb with⟨_,h2⟩|⟨_,h2⟩
  rcases hsplit b kb h2 with hs|⟨_,hs0⟩
  exact h.fresh b kb (aS.bE.1 hs).2 hb0
  rcases sm.fresh b kb h2 hs0 with hf|⟨b0,k0,a1,a2,a3,a4⟩
  exact .inl (SC h.size hf)
  rcases freshOf b0 k0 a1 a2 (SC hrw a4) with hf|⟨b1,k1,c1,c2,c3,c4⟩
  exact .inl (a3▸hf)
  exact .inr ⟨b1,k1,c1,c2,c3.trans a3,c4⟩
  exact h.fresh b kb h2 hb0
 ·intro x hx H;rw[<-h.frame x hx H];refine sm.frame x (Sj hx h.size) fun b0 k0 hb0 hl0 he0=>?_;have hb0':=(aS.bE.1 hb0).2;cases hj0:j0 b0 with
  | some k1 =>
   have:=h.jle b0 k1 hj0;rw[hb0'] at this; cases this;refine Sj (H b0 k0 hj0 ?_ he0) hrw;obtain⟨jc,wc,tc,sg,_⟩:=c.ghost e (by omega)
   cases hg:(M 0).get b0 with
   | some _=>rfl
   | none =>
    have hl0':((M e).get b0).isSome=true:=hl0;have:=sg.ext.dead b0 (c.mr.lt b0 k0 hj0).1 hg;rw[this] at hl0'; cases hl0'
  | none =>
   rcases h.fresh b0 k0 hb0' hj0 with hf|⟨b1,k1,c1,c2,c3,c4⟩
   omega
   have:=H b1 k1 c1 c2 (c3.trans he0);omega
 ·intro x hx hDx b hb;have hDx':¬D x:=fun hd=>hDx (.inl hd);rcases S0 x e with hlt|hge
  ·have hb2:b<(M e).next:=Sj hb.2 (c.cE (by omega) hlt)
   rw[<-h.unt x hlt hDx' b hb,<-hrg];refine sm.away b hb2 ?_;cases hj:j.below (M e).next b with
   | none=>rfl
   | some kb =>
    have:=(aS.bE.1 hj).2;rw[h.sZ c (by omega) hDx' hb] at this; cases this
  exact Ss (by omega:x=e) (fun hxe=>hDx (.inr hxe))
structure Ready(ops:Array Oper)(bs:List Nat)(D:Ux)(i:Nat)(o:Oper):Prop where
 op:ops[i]? = some o
 out:¬D i
 edges:∀e∈cM o,D e
 closed:∀j o,ops[j]? = some o->D j->∀e∈cM o,D e
def Ready.before{bs:List Nat}(hO:OrderOk ops bs){i:Nat}{o:Oper}(hr:Ready ops bs D i o){x:Nat}(hx:x<i)(hb:CG bs x i):D x:=Gp hO hr.closed i o hr.op hr.edges x hx hb
def Ready.behind{bs:List Nat}(hO:OrderOk ops bs){i:Nat}{o:Oper}(hr:Ready ops bs D i o){x:Nat}{ox:Oper}(hox:ops[x]? = some ox)(hx:i<x)(hD:D x):¬CG bs i x:=fun hb =>
 hr.out (Gp hO hr.closed x ox hox (hr.closed x ox hox hD) i hx hb)
def Ready.looked{bs:List Nat}(hO:OrderOk ops bs)(c:Can k E n ops j0 w0 T M V ns){i:Nat}{o:Oper}(hr:Ready ops bs D i o){tmps:Array Uy}(h:TD n ops T V D j tmps):∀d∈looks ops o,VR j ((T i).at d) (tmps.getD d undef):=by
 intro d hd;have hi:i<ops.size:=(Sh.1 hr.op).1;have seen:∀x ox,x<i->ops[x]? = some ox->ox.dst=some d->D x:=by
  intro x ox hx hox hdx
  by_cases hb:CG bs x i
  exact hr.before hO hx hb
  exact((lZ (hO.apart x i ox o hx hox hr.op hb)).1 d hdx hd).elim
 rcases c.Jb (i:=i) (by omega) d with⟨x,ox,h1,h2,h3,h4⟩|⟨h1,h2⟩
 rw[h4];exact h.done x ox d h2 (seen x ox h1 h2 h3) h3
 rw[h2];refine h.rest d fun x ox hox hDx hdx=>?_;rcases Nat.lt_trichotomy x i with hlt|heq|hgt
 exact h1 x ox hlt hox hdx
 subst heq; exact hr.out hDx
 have hnb:=hr.behind hO hox hgt hDx;exact(lZ (hO.apart i x o ox hgt hr.op hox hnb)).2.1 d hdx hd
def qU{bs:List Nat}{i j:Nat}{a b:Oper}(hij:i<j)(ha:ops[i]? = some a)(hb:ops[j]? = some b)(hn:¬CG bs i j)(hc:clash a b=true):(i,j)∈mX ops bs:=by
 have hj:j<ops.size:=(Sh.1 hb).1;simp only[mX,List.mem_flatMap,TF,Ts,List.mem_filter,Sa,S8];refine⟨j,hj,i,⟨hij,?_,?_⟩,rfl⟩
 unfold CG at hn
 simpa using hn
 rw[dF ha,dF hb]; exact hc
def Inv.reads{bs:List Nat}(hO:OrderOk ops bs)(c:Can k E n ops j0 w0 T M V ns)(hpairs:(mX ops bs).all (dQ ns ops)=true)(hnote:ns.all fM=true)(h:Inv E n ops j0 w0 T M V ds D s j a w)
  (heff:∀x o,ops[x]? = some o->aE o.op=true->(D x↔x<s)) {i:Nat} {o:Oper} (hr:Ready ops bs D i o) (hw:cg ops o (T i)=true) (_:aE o.op=false) {b:Nat} (hb:aQ E (T i) o.op=some b) :
  cont M ops.size s b=(M i).get b:=by
 have hi:i<ops.size:=(Sh.1 hr.op).1;obtain⟨ni,o',hn1,ho',hn2,hn3,hn4⟩:=c.note hi;rw[hr.op] at ho'; cases ho';have hread:ni.read=some b:=by rw[hn4 hw,hb]
 have hblt:b<(M i).next:=by
  have:=Si.1 hnote ni (Sf hn1);unfold fM at this;rw[hread] at this;rw[<-hn2]; simpa using this
 have hrd:oZ o.op=true:=uD hb;have okOf:∀x nx,ns[x]? = some nx->Note.ok ni nx=true->b<(M x).next->x<ops.size->(M (x+1)).get b=(M x).get b:=by
  intro x nx hnx hok hbx hx;obtain⟨nx',ox,g1,g2,g3,g4,g5⟩:=c.note hx;rw[hnx] at g1; cases g1;refine g4 b hbx ?_;unfold Note.ok at hok;rw[hread] at hok;simp only[Tp,Sn] at hok;rcases hok with((hok|hok)|hok)|hok
  exact .inl hok
  rw[g3] at hok; omega
  split at hok
  rename_i b' hb';exact .inr (.inl ⟨b',hb',by simpa using hok⟩)
  cases hok
  exact .inr (.inr hok)
 have pairAt:∀x y,(x,y)∈mX ops bs->∃nx ny,ns[x]? = some nx/\ns[y]? = some ny/\(aE (ops.getD y default).op=true->Note.ok nx ny=true)/\(aE (ops.getD x default).op=true->Note.ok ny nx=true):=by
  intro x y hxy;have:=Si.1 hpairs _ hxy;unfold dQ at this
  split at this
  rename_i nx ny g1 g2;simp only[Sa,Tp,S8] at this;exact⟨nx,ny,g1,g2,fun he=>this.1.resolve_left (fun hf=>Ss (he.symm.trans hf) (by simp)),fun he=>this.2.resolve_left (fun hf=>Ss (he.symm.trans hf) (by simp))⟩
  cases this
 have stepOk:∀x,x<ops.size->b<(M x).next->((x<i/\¬x<s)\/(i<=x/\x<s))->(M (x+1)).get b=(M x).get b:=by
  intro x hx hbx hcase;obtain⟨ox,hox⟩:∃ox,ops[x]? = some ox:=⟨ops[x],by simp[hx]⟩
  cases hex:aE ox.op with
  | false=>exact c.keep hox (.inl hex) b hbx
  | true =>
   rcases hcase with⟨h1,h2⟩|⟨h1,h2⟩
   have hnD:¬D x:=fun hd=>h2 ((heff x ox hox hex).1 hd);have hnb:¬CG bs x i:=fun hb=>hnD (hr.before hO h1 hb);obtain⟨nx,ny,g1,g2,g3,g4⟩:=pairAt x i (qU h1 hox hr.op hnb (by simp[clash,hex,hrd]))
   rw[hn1] at g2; cases g2;exact okOf x nx g1 (g4 (by rw[dF hox]; exact hex)) hbx hx
   have hD:D x:=(heff x ox hox hex).2 h2;have hxi:i≠x:=fun he=>hr.out (he▸hD);have hnb:=hr.behind hO hox (by omega) hD
   obtain⟨nx,ny,g1,g2,g3,g4⟩:=pairAt i x (qU (by omega) hr.op hox hnb (by simp[clash,hex,hrd]))
   rw[hn1] at g1; cases g1;exact okOf x ny g2 (g3 (by rw[dF hox]; exact hex)) hbx hx
 rcases S0 i s with his|his
 have hbs:b<(M s).next:=Sj hblt (c.cE h.le (by omega))
 rw[c.dq hbs];exact c.fQ h.le (by omega) hblt fun z h1 h2=>stepOk z (by have:=h.le; omega) (Sj hblt (c.cE (by have:=h.le; omega) h1)) (.inr ⟨h1,h2⟩)
 rcases S0 b (M s).next with h1|h1
 rw[c.dq h1];exact(c.fQ (by omega) his h1 fun z h2 h3=>stepOk z (by omega) (Sj h1 (c.cE (by omega) h2)) (.inl ⟨h3,by omega⟩)).symm
 obtain⟨x,a1,a2,a3⟩:=rq his h1 hblt;rw[c.qj (by omega) a3 h1]
 exact(c.fQ (x:=x+1) (by omega) (by omega) a3.2 fun z h2 h3=>stepOk z (by omega) (Sj a3.2 (c.cE (by omega) h2)) (.inl ⟨h3,by omega⟩)).symm
def sb{m:Vo}{t:Tm}{o:Oper}(h:MR E j m w)(ht:∀d∈tmpsOf o.op.operands.toList,VR j (t.at d) (a.tmps.getD d undef)){v:Uy}{m':Vo}(e:fq E t m o.op=some (v,m'))(hne:aE o.op=false) :
  (m'=m/\∃v',lC E.P (execOp a.eval o) v' w w/\VR j v v') \/
  (∃(ao:Vq) (co:Obj) (vb:Nat->Uy) (v':Uy),lC E.P (execOp a.eval o) v' w (w.alloc co)/\OR j ⟨w.heap.size,none⟩ ao co/\(∀(j':aS) (b:Nat),j' b=some ⟨w.heap.size,none⟩->VR j' (vb b) v') /\
   ∀m2:Vo,fq E t m2 o.op=some (vb m2.next,m2.alloc ao)):=by
 have hT:TR (ll a.tmps (tmpsOf o.op.operands.toList)).size j (qB t (tmpsOf o.op.operands.toList)) ({ tmps:=ll a.tmps (tmpsOf o.op.operands.toList),defers:=a.defers}:Act).tmps:=by
  refine⟨rfl,fun d=>?_⟩
  show VR j _ ((ll a.tmps _).getD d undef)
  rw[mn,kX]
  split
  rename_i hd; exact ht d hd
  exact VR.undef j
 have hev:∀x∈o.op.operands.toList,aw E (qB t (tmpsOf o.op.operands.toList)) x=aw E t x:=by
  intro x hx;cases x with
  | tmp d=>simp only[aw,mn,R7 (jl.2 hx)]
  | _=>rfl
 have hex:execOp ({ tmps:=ll a.tmps (tmpsOf o.op.operands.toList),defers:=a.defers}:Act).eval o=execOp a.eval o:=by
  refine execOp_congr o (fun cs b hs=>?_) fun x hx=>?_
  rw[hs] at e; simp[fq] at e
  ·cases x with
   | tmp d =>
    show(ll a.tmps _).getD d undef=a.tmps.getD d undef
    rw[kX,R7 (jl.2 (by simpa using hx))]
   | _=>rfl
 rcases wK h hT ((pN hev).trans e) with⟨h1,_,v',h2,h3⟩|⟨ao,co,vb,v',_,_,h2,h3,h4,h5⟩|⟨h1,_⟩
 rw[hex] at h2;exact .inl ⟨h1,v',h2,h3⟩
 rw[hex] at h2;exact .inr ⟨ao,co,vb,v',h2,h3,h4,fun m2=>(pN hev).symm.trans (h5 m2)⟩
 rw[hne] at h1; cases h1
def yc{listed:Array Bool}{o:Oper}(h:∀e∈o.after,Region.binds .any e=true->listed.getD e.on false=true):∀e∈cM o,listed.getD e false=true:=by
 intro e he;unfold cM at he;obtain⟨x,hx,hxe⟩:=List.mem_filterMap.1 he
 split at hxe
 rename_i hb;cases hxe;exact h x (by simpa using hx) hb
 cases hxe
def yU{listed:Array Bool}{o:Oper}(h:∀e∈cM o,listed.getD e false=true):∀e∈o.after,Region.binds .any e=true->listed.getD e.on false=true:=by
 intro e he hb;exact h e.on (List.mem_filterMap.2 ⟨e,by simpa using he,by rw[R7 hb]⟩)
def outs(listed:Array Bool)(N:Nat):Nat:=((List.range N).filter fun i=>!listed.getD i false).length
def filter_lt{l:List Nat}{p q:Nat->Bool}(h:∀x,q x=true->p x=true):(l.filter q).length<=(l.filter p).length:=by
 induction l with
 | nil=>simp
 | cons x l ih =>
  simp only[List.filter_cons];cases hq:q x with
  | true=>simp[h x hq,ih]
  | false=>cases p x<;>simp<;>omega
def AF{l:List Nat}{p q:Nat->Bool}(h:∀x,q x=true->p x=true){y:Nat}(hy:y∈l)(hp:p y=true)(hq:q y=false):(l.filter q).length<(l.filter p).length:=by
 induction l with
 | nil=>simp at hy
 | cons x l ih =>
  simp only[List.filter_cons];rcases Sx.1 hy with rfl|hy
  have:=filter_lt (l:=l) h;simp[hp,hq]; omega
  ·have:=ih hy;cases hqx:q x with
   | true=>simp[h x hqx,this]
   | false=>cases p x<;>simp<;>omega
def tV{listed:Array Bool}{i:Nat}(hi:i<listed.size)(x:Nat):(listed.setIfInBounds i true).getD x false=true↔(listed.getD x false=true\/x=i):=by
 by_cases hx:i=x
 subst hx; simp[hi]
 rw[getD_set_ne false hx];constructor
 exact .inl
 rintro(h|h)
 exact h
 exact(hx h.symm).elim
def H0{listed:Array Bool}{N i:Nat}(hs:listed.size=N)(hi:i<N)(h:listed.getD i false=false):outs (listed.setIfInBounds i true) N<outs listed N:=by
 refine AF (y:=i) (fun x hx=>?_) (TF.2 hi) (by simp[h]) ?_
 ·simp only[S8] at hx ⊢;cases hl:listed.getD x false with
  | false=>rfl
  | true=>rw[(tV (by omega) x).2 (.inl hl)] at hx; cases hx
 simp only[Bool.not_eq_false'];exact(tV (by omega) i).2 (.inr rfl)
def Es{listed:Array Bool}{N:Nat}(h:outs listed N=0):∀i,i<N->listed.getD i false=true:=by
 intro i hi;unfold outs at h;have:=SN.1 h;have:=(List.filter_eq_nil_iff.1 this) i (TF.2 hi)
 simpa using this
def Inv.congr{D':Ux}(h:Inv E n ops j0 w0 T M V ds D s j a w)(e:∀x,D x↔D' x):Inv E n ops j0 w0 T M V ds D' s j a w:=by
 have:D=D':=funext fun x=>propext (e x);rw[<-this]; exact h
def MD{bs:List Nat}(hO:OrderOk ops bs)(c:Can k E n ops j0 w0 T M V ns)(hpairs:(mX ops bs).all (dQ ns ops)=true)(hnote:ns.all fM=true){F:Fence}(hF:kC F){Q:Exit->Act->UC->Prop}
  (hQ:∀j' w' a',Sim E j0 (M 0) w0 j' (M ops.size) w'->TR n j' (T ops.size) a'.tmps->a'.defers=ds->Q .normal a' w') :
  ∀(fuel:Nat) (listed:Array Bool) (s:Nat) (j:aS) (a:Act) (w:UC),listed.size=ops.size->outs listed ops.size<=fuel->(∀x o,ops[x]? = some o->listed.getD x false=true->∀e∈cM o,listed.getD e false=true) ->
   Inv E n ops j0 w0 T M V ds (fun x=>listed.getD x false=true) s j a w->(∀x o,ops[x]? = some o->aE o.op=true->(listed.getD x false=true↔x<s)) ->
   wpAnyIn F 0 E.P .any ops Q fuel listed a w:=by
 have fin:∀(listed:Array Bool) (s:Nat) (j:aS) (a:Act) (w:UC),(∀i,i<ops.size->listed.getD i false=true)->Inv E n ops j0 w0 T M V ds (fun x=>listed.getD x false=true) s j a w ->
   (∀x o,ops[x]? = some o->aE o.op=true->(listed.getD x false=true↔x<s))->Q .normal a w:=by
  intro listed s j a w hall hinv heff;have hx:=hinv.shift c (s':=ops.size) hinv.le (Sc _) fun x h1 h2 b hb=>by
   obtain⟨ox,hox⟩:∃ox,ops[x]? = some ox:=⟨ops[x],by simp[h2]⟩
   refine c.keep hox (.inl ?_) b hb;cases he:aE ox.op with
   | false=>rfl
   | true=>have:=(heff x ox hox he).1 (hall x h2); omega
  obtain⟨jc,wc,tc,sg,_⟩:=c.ghost ops.size (Sc _);have hmem:∀b,b<(M ops.size).next->(nK M ops.size ops.size).get b=(M ops.size).get b:=fun b hb=>by rw[du,c.dq hb]
  refine hQ j w a ⟨sg.ext,hx.jle,fun b kb h1 h2=>?_,⟨fun b kb hb=>hx.mr.lt b kb hb,fun b o kb hg hb=>?_,fun b b' kb kb' hb hb' hl hl' he=>?_,hx.mr.glob⟩,hx.size,fun b h1 h2 hl=>?_,sg.away,hx.fresh,hx.frame,hx.calm⟩ ⟨hx.tmps.size,fun d=>?_⟩ hx.defers
  obtain⟨i,a1,_,a3⟩:=hx.new b kb h1 h2;exact SC (c.cE (by omega) (Th _)) a3.1
  exact hx.mr.obj b o kb (by rw[hmem b (hx.mr.lt b kb hb).1]; exact hg) hb
  exact hx.mr.inj b b' kb kb' hb hb' (by rw[hmem b (hx.mr.lt b kb hb).1]; exact hl) (by rw[hmem b' (hx.mr.lt b' kb' hb').1]; exact hl') he
  obtain⟨i,a1,a2,a3⟩:=rq (Th ops.size) h1 h2;exact hx.full i a2 (hall i a2) b a3 (by rw[c.dq h2]; exact hl)
  rcases c.Jb (i:=ops.size) (Sc _) d with⟨x,o,h1,h2,h3,h4⟩|⟨h1,h2⟩
  rw[h4]; exact hx.tmps.done x o d h2 (hall x h1) h3
  rw[h2]; exact hx.tmps.rest d fun x o ho _=>h1 x o (Sh.1 ho).1 ho
 intro fuel
 induction fuel with
 | zero =>
  intro listed s j a w hsz hout hcl hinv heff;have hall:=Es (Nat.le_zero.1 hout);refine⟨?_,fin listed s j a w hall hinv heff⟩;cases hr:Region.ready .any ops listed with
  | nil=>rfl
  | cons i l =>
   have hi:i∈Region.ready .any ops listed:=by rw[hr]; simp
   obtain⟨h1,o,ho,_⟩:=mem_ready.1 hi;have hlt:i<ops.size:=(Sh.1 ho).1;have h2:=hall i hlt;have:listed.getD i true=listed.getD i false:=by simp[hsz,hlt]
   rw[this,h2] at h1; cases h1
 | succ fuel ih =>
  intro listed s j a w hsz hout hcl hinv heff;refine⟨fun hnil=>fin listed s j a w (fun i hi=>?_) hinv heff,fun i hi=>?_⟩
  ·
   induction i using Nat.strongRecOn with
   | _ i ihi =>
    cases hl:listed.getD i false with
    | true=>rfl
    | false =>
     obtain⟨o,ho⟩:∃o,ops[i]? = some o:=⟨ops[i],by simp[hi]⟩
     have hmem:i∈Region.ready .any ops listed:=by
      refine mem_ready.2 ⟨?_,o,ho,yU fun e he=>ihi e (hO.edge i o ho e he) (Nat.lt_trans (hO.edge i o ho e he) hi)⟩;have:listed.getD i true=listed.getD i false:=by simp[hsz,hi]
      rw[this,hl]
     rw[hnil] at hmem; cases hmem
  ·obtain⟨h1,o,ho,h3⟩:=mem_ready.1 hi;have hlt:i<ops.size:=(Sh.1 ho).1;have hl:listed.getD i false=false:=by
    have:listed.getD i true=listed.getD i false:=by simp[hsz,hlt]
    rw[<-this]; exact h1
   have hr:Ready ops bs (fun x=>listed.getD x false=true) i o:=⟨ho,by simp[hl],yc h3,hcl⟩
   have hlook:=hr.looked hO c hinv.tmps;have hwant:Region.wanted o (yielded ops a.tmps)=cg ops o (T i):=BB o fun g want d hg hd=>hlook d (by
    unfold looks;rw[hg];exact To _ (by simp[hd]))
   have hoper:∀d∈tmpsOf o.op.operands.toList,VR j ((T i).at d) (a.tmps.getD d undef):=fun d hd=>hlook d (SQ _ hd);have next:∀(s':Nat) (j':aS) (a':Act) (w':UC),Inv E n ops j0 w0 T M V ds (fun x=>listed.getD x false=true\/x=i) s' j' a' w'->(∀x o,ops[x]? = some o->aE o.op=true->((listed.getD x false=true\/x=i)↔x<s')) ->
     wpAnyIn F 0 E.P .any ops Q fuel (listed.setIfInBounds i true) a' w':=by
    intro s' j' a' w' hinv' heff';have hiff:=tV (listed:=listed) (i:=i) (by omega)
    refine ih _ s' j' a' w' (by simp[hsz]) (by have:=H0 hsz hlt hl; omega) (fun x ox hox hx e he=>?_) (hinv'.congr fun x=>(hiff x).symm) fun x ox hox he=>(hiff x).trans (heff' x ox hox he)
    rcases(hiff x).1 hx with hx|rfl
    exact(hiff e).2 (.inl (hcl x ox hox hx e he))
    rw[ho] at hox; cases hox;exact(hiff e).2 (.inl (hr.edges e he))
   have effs:aE o.op=true->s<=i/\(∀x ox,ops[x]? = some ox->aE ox.op=true->s<=x->x<i->False)/\(∀x o,ops[x]? = some o->aE o.op=true->((listed.getD x false=true\/x=i)↔x<i+1)):=by
    intro he;have hsi:s<=i:=by
     rcases S0 i s with h|h
     have:=(heff i o ho he).2 h;rw[hl] at this; cases this
     exact h
    have hbefore:∀x ox,ops[x]? = some ox->aE ox.op=true->x<i->listed.getD x false=true:=by
     intro x ox hox hex hxi
     by_cases hb:CG bs x i
     exact hr.before hO hxi hb
     exact((lZ (hO.apart x i ox o hxi hox ho hb)).2.2 ⟨hex,he⟩).elim
    refine⟨hsi,fun x ox hox hex h1 h2=>?_,fun x ox hox hex=>⟨?_,fun hx=>?_⟩⟩
    have:=(heff x ox hox hex).1 (hbefore x ox hox hex h2);omega
    rintro(hx|rfl)
    have:=(heff x ox hox hex).1 hx; omega
    omega
    rcases S0 x i with h|h
    exact .inl (hbefore x ox hox hex h)
    exact .inr (by omega)
   have noEff:aE o.op=false->∀x ox,ops[x]? = some ox->aE ox.op=true->((listed.getD x false=true\/x=i)↔x<s):=by
    intro he x ox hox hex;rw[<-heff x ox hox hex];refine⟨fun h=>h.resolve_right fun hxi=>?_,.inl⟩;subst hxi;rw[ho] at hox; cases hox;rw[he] at hex; cases hex
   obtain⟨o',ho',hput,hkind⟩:=c.kind hlt;rw[ho] at ho'; cases ho';unfold wpOpIn;simp only[ho];cases hkind with
   | skip hw hv hm =>
    rw[hwant,hw];simp only[Sw,if_false];refine⟨fun f _=>hF.fn f,?_⟩;have hvu:VR j (V i) undef:=by rw[hv]; exact VR.undef j
    have hinv':=hinv.quiet hO c ho (by rw[hm]) hvu
    cases he:aE o.op with
    | false=>exact next s j _ w hinv' (noEff he)
    | true =>
     obtain⟨e1,e2,e3⟩:=effs he;refine next (i+1) j _ w (hinv'.shift c (by omega) hlt fun x h1 h2 b hb=>?_) e3
     rcases S0 x i with hxi|hxi
     ·obtain⟨ox,hox⟩:∃ox,ops[x]? = some ox:=⟨ops[x]'(by omega),TN (by omega)⟩
      refine c.keep hox (.inl ?_) b hb;cases hex:aE ox.op with
      | false=>rfl
      | true=>exact(e2 x ox hox hex h1 hxi).elim
     have:x=i:=by omega
     subst this;rw[hm]
   | quiet hw he hn hg ha =>
    rw[hwant,hw];simp only[if_true];have hopA:=ha (nK M ops.size s) fun b0 hb0=>by rw[du]; exact hinv.reads hO c hpairs hnote heff hr hw he hb0
    rcases sb (a:=a) hinv.mr hoper hopA he with⟨_,v',h5,h6⟩|⟨ao,co,vb,v',_,_,_,h8⟩
    ·exact dG hF (mE hopA) h5 (next s j _ w (hinv.quiet hO c ho hn h6) (noEff he))
    have:=h8 (nK M ops.size s);rw[hopA] at this;simp only[Option.some.injEq,Prod.mk.injEq] at this;have h9:=SK Vo.next this.2
    simp only[Vo.alloc] at h9;omega
   | makes hw he vb ao hv hn hg ha =>
    rw[hwant,hw];simp only[if_true];have hopA:=ha (nK M ops.size s);rcases sb (a:=a) hinv.mr hoper hopA he with⟨h4,_⟩|⟨ao',co,vb',v',h5,h6,h7,h8⟩
    have h9:=SK Vo.next h4
    simp only[Vo.alloc] at h9;omega
    ·have hao:ao=ao':=by
      have:=(ha (nK M ops.size s)).symm.trans (h8 (nK M ops.size s));simp only[Option.some.injEq,Prod.mk.injEq] at this;have h9:=SK (fun m=>Vo.get m (nK M ops.size s).next) this.2
      simp only[Vo.aZ,if_true,Option.some.injEq] at h9;exact h9
     subst hao;have hvb:V i=vb' (M i).next:=by
      have:=(ha (M i)).symm.trans (h8 (M i));simp only[Option.some.injEq,Prod.mk.injEq] at this;rw[hv]; exact this.1
     have hget:(M (i+1)).get (M i).next=some ao:=by rw[hg,R7 rfl]
     refine dG hF (mE hopA) h5 (next s _ _ _ (hinv.makes hO c ho (by simp[hl]) hn hget h6 ?_) (noEff he))
     rw[hvb];exact h7 _ _ (aS.cB _ _ _)
   | effect hw he r hr' hm =>
    rw[hwant,hw];simp only[if_true];obtain⟨e1,e2,e3⟩:=effs he;have hinv':=hinv.shift c (s':=i) e1 (by omega) fun x h1 h2 b hb=>by
     obtain⟨ox,hox⟩:∃ox,ops[x]? = some ox:=⟨ops[x]'(by omega),TN (by omega)⟩
     refine c.keep hox (.inl ?_) b hb;cases hex:aE ox.op with
     | false=>rfl
     | true=>exact(e2 x ox hox hex h1 h2).elim
    have hmr:=hinv'.OL c (by omega) (x:=(M i).next)
    obtain⟨jc,wc,tc,sg,htg⟩:=c.ghost i (by omega)
    have hops:∀d∈tmpsOf o.op.operands.toList,VR (j.below (M i).next) ((T i).at d) (a.tmps.getD d undef):=fun d hd =>
     (hoper d hd).cut (fun b kb hb=>(sg.mr.lt b kb hb).1) (htg.2 d)
    refine(Aa (a:=a) c.hk hmr hops hr').wpIn hF (nU hr') ?_;rintro v' w' ⟨j',sm,hv'⟩;exact next (i+1) _ _ _ (hinv'.effect hO c ho (by simp[hl]) hm sm hv') e3
def GR(hk:∀tk r,k tk=some r->cT E tk r)(hmix:E.P.follows .mixedOrders=true){ps:List (Nat×Nat)}{t tf:Tm}{m mf:Vo}(hp:kA ops=some ps)
  (hr:dS k E n ops ops.toList t m=some (tf,mf,ns)) (hok:ps.all (dQ ns ops)=true) (hnote:ns.all fM=true) {id:Nat} {F:Fence} {Q:Exit->Act->UC->Prop} (h:MR E j m w) (ht:TR n j t a.tmps) (hF:kC F)
  (hQ:∀j' w' a',Sim E j m w j' mf w'->TR n j' tf a'.tmps->a'.defers=a.defers->Q .normal a' w'):(Code.region id ops true).wpIn F 0 E.P Q a w:=by
 unfold kA at hp
 split at hp
 rename_i hord;cases hp;have hO:=AN hord;obtain⟨T,M,V,htr,h4,h5,h2,h3⟩:=yp ops.toList 0 t m tf mf ns rfl hr;rw[TO] at htr h2 h3;subst h4 h5;have s0:Sim E j (M 0) w j (M 0) { w with drawn:=w.drawn+1}:=Sim.of_heap h rfl;have c:Can k E n ops j { w with drawn:=w.drawn+1} T M V ns:=⟨hk,htr,s0.mr,Ep hk htr s0.mr ht⟩;refine wpIn_region_any hmix ?_;refine MD (ds:=a.defers) hO c hok hnote hF (fun j' w' a' s' ht' hd'=>hQ j' w' a' (h3▸s0.trans h s') (h2▸ht') hd') ops.size _ 0 j a _ (by simp) ?_ ?_ ?_ ?_
 unfold outs;exact SC (List.length_filter_le _ _) (by simp)
 intro x o ho hx;simp[(Sh.1 ho).1] at hx
 have hnone:∀x,¬((Um ops.size false).getD x false=true):=by
  intro x hx
  by_cases hlt:x<ops.size<;>simp[hlt] at hx
 have h6:MR E j (nK M ops.size 0) { w with drawn:=w.drawn+1}:=by
  have hlow:∀b kb,j b=some kb->(nK M ops.size 0).get b=(M 0).get b:=fun b kb hb=>by rw[du,c.dq (h.lt b kb hb).1]
  refine⟨fun b kb hb=>⟨Sj (h.lt b kb hb).1 (c.cE (Sc _) (Th _)),(h.lt b kb hb).2⟩,fun b o kb hg hb=>?_,fun b b' kb kb' hb hb' hl hl' he=>?_,h.glob⟩
  rw[hlow b kb hb] at hg;exact h.obj b o kb hg hb
  rw[hlow b kb hb] at hl;rw[hlow b' kb' hb'] at hl';exact h.inj b b' kb kb' hb hb' hl hl' he
 exact⟨Th _,⟨ht.1,fun x o d _ hx=>(hnone x hx).elim,fun d _=>ht.2 d⟩,rfl,.refl j,fun b kb h0 h1=>(by rw[h1] at h0; cases h0),h6,Sc _,fun i _ hx=>(hnone i hx).elim,fun b kb h0 h1=>(by rw[h1] at h0; cases h0),fun _ _ _=>rfl,.refl _,fun i hi=>Ss hi (Nat.not_lt_zero i)⟩
 intro x o ho _;have:¬((Um ops.size false).getD x false=true):=by
  intro hx
  by_cases hlt:x<ops.size<;>simp[hlt] at hx
 exact⟨fun hx=>(this hx).elim,fun hx=>Ss hx (Nat.not_lt_zero x)⟩
 cases hp
end
section
variable{E:Env}{k:K}
section
variable{P:UB}{F:Fence}{n:Nat}{b:Frame}{a:Act}{ks:List Item}{cs:List Frame}{w:UC}{Q:Exit->Act->UC->Prop}{c:Code}
def fW:Go.step P (lone (b.atR a (.code (.scope c)::ks)) cs w)=.next (lone (b.atR a (.code c::.inScope c::ks)) cs w) :=
 step_lone_go (by simp[stepG,stepG.exec,Frame.atR])
def uL:Go.step P (lone (b.atR a (.inScope c::ks)) cs w)=.next (lone (b.atR a ks) cs w) :=
 step_lone_go (by simp[stepG,stepG.exec,Frame.atR])
def BD(h:c.wpIn F n P (Exit.noGoto Q) a w):(Code.scope c).wpIn F n P Q a w:=by
 intro b k cs hro hb hr;have h0:(lone (b.atR a (.code (.scope c)::k)) cs w).fenced P F:=fenced_calm hb hr rfl;obtain⟨e,a₁,w₁,hq,harr⟩:=h b (.inScope c::k) cs hro hb hr;cases e with
 | normal=>exact⟨.normal,a₁,w₁,hq,.head h0 fW (StepsIn.trans harr (.one (fenced_calm hb hr rfl) uL))⟩
 | exit id =>
  refine⟨.exit id,a₁,w₁,hq,fun k' hk=>.head h0 fW (harr.1 k' (by simpa [exitTo] using hk)),fun hr' hk=>?_⟩
  obtain⟨k₁,h1,h2⟩:=harr.2 hr' (by simpa [exitTo] using hk)
  exact⟨k₁,h1,.head h0 fW h2⟩
 | goto l=>exact hq.elim
 | ret=>exact⟨.ret,a₁,w₁,hq,ArrivesIn.of_steps (k:=k) (e:=.ret) (.one h0 fW) harr⟩
 | panic ch=>exact⟨.panic ch,a₁,w₁,hq,ArrivesIn.of_steps (k:=k) (e:=.panic ch) (.one h0 fW) harr⟩
 | outgrown=>exact⟨.outgrown,a₁,w₁,hq,ArrivesIn.of_steps (k:=k) (e:=.outgrown) (.one h0 fW) harr⟩
def lI(h:oG F n P c Q a w):(Code.loop c).wpIn F n P Q a w:=fun b k cs hro hb hr =>
 let⟨e,a',w',hq,harr⟩:=h b k cs hro hb hr
 ⟨e,a',w',hq,.of_steps (.one (fenced_calm hb hr rfl) stepR_loop) harr⟩
def kF(h:c.wpIn F n P (Exit.then (fun a' w'=>oG F n P c Q a' w') Q) a w):oG F n P c Q a w:=by
 intro b k cs hro hb hr;obtain⟨e,a₁,w₁,hq,harr⟩:=h b (.inLoop c::k) cs hro hb hr;cases e with
 | normal =>
  obtain⟨e₂,a₂,w₂,hq₂,harr₂⟩:=hq b k cs hro hb hr;exact⟨e₂,a₂,w₂,hq₂,.of_steps (StepsIn.trans harr (.one (fenced_calm hb hr rfl) stepR_inLoop)) harr₂⟩
 | exit id=>exact⟨_,a₁,w₁,hq,.pass (x:=.inLoop c) rfl (fun _ _=>.inl (by simp)) harr⟩
 | goto l=>exact⟨_,a₁,w₁,hq,.pass (x:=.inLoop c) rfl (fun _ _=>.inl (by simp)) harr⟩
 | ret=>exact⟨_,a₁,w₁,hq,.pass (x:=.inLoop c) rfl (fun _ _=>.inl (by simp)) harr⟩
 | panic ch=>exact⟨_,a₁,w₁,hq,.pass (x:=.inLoop c) rfl (fun _ _=>.inl (by simp)) harr⟩
 | outgrown=>exact⟨_,a₁,w₁,hq,.pass (x:=.inLoop c) rfl (fun _ _=>.inl (by simp)) harr⟩
end
def mF.from{j j1:aS}{m m1 m':Vo}{w w1 w':UC}{N n:Nat}{e:Vp}{t:Tm}{e':Exit}{a':Act}(h:MR E j m w)(s:Sim E j m w j1 m1 w1)(q:mF E j1 m1 w1 N n e t m' e' a' w'):mF E j m w N n e t m' e' a' w' :=
 let⟨he,j2,s2,ht,hm⟩:=q
 ⟨he,j2,s.trans h s2,ht,hm⟩
def yN{j:aS}{m:Vo}{w:UC}(h:MR E j m w){t:Uz}{x x' v:Uy}(e:ee E.P t x m=some v)(hx:VR j x x') :
  ∃v',(do loadVar t (<-asAddr x'):Sem Uy).run E.P w=.ok v' w/\VR j v v':=by
 obtain⟨v',h1,h2⟩:=y6 h e hx;refine⟨v',?_,h2⟩;unfold ee at e
 split at e
 ·cases hx with
  | ptr hj =>
   simp only[Instr.loadAt,Instr.sureAddr,Sem.run_bind,Sem.run_pure,Result.andThen_ok] at h1;simp only[asAddr,Sem.run_bind,Sem.run_pure,Result.andThen_ok];exact h1
 cases e
def kB{j:aS}{m:Vo}{w:UC}(h:MR E j m w){n:Nat}{t:Tm}{tmps:Array Uy}(ht:TR n j t tmps){f:ResultVar->Sem Uy}(h1:∀i,f (.tmp i)=pure (tmps.getD i undef))
  (h2:∀a ty,f (.cell a ty)=(do loadVar ty (<-asAddr (tmps.getD a undef)))) :
  ∀{rs:List ResultVar} {vs:List Uy},cP E t m rs=some vs->∃vs',(rs.mapM f).run E.P w=.ok vs' w/\LR j vs vs'
 | [],vs,e=>by cases e; exact⟨[],rfl,.nil j⟩
 | .tmp i::rs,vs,e=>by
  simp only[cP] at e;obtain⟨vs0,e0,rfl⟩:=map_some e;obtain⟨vs',r1,r2⟩:=kB h ht h1 h2 e0;exact⟨tmps.getD i undef::vs',by simp only[List.mapM_cons,h1,Sem.run_bind,Sem.run_pure,Result.andThen_ok,r1],.cons (ht.2 i) r2⟩
 | .cell a ty::rs,vs,e=>by
  simp only[cP] at e
  split at e
  rename_i v vs0 hv hvs;cases e;obtain⟨vs',r1,r2⟩:=kB h ht h1 h2 hvs;obtain⟨v',l1,l2⟩:=yN h hv (ht.2 a);refine⟨v'::vs',?_,.cons l2 r2⟩;rw[List.mapM_cons,Sem.run_bind,h2,l1];simp only[Sem.run_bind,Sem.run_pure,Result.andThen_ok,r1]
  cases e
def xG{j:aS}{m:Vo}{w:UC}(h:MR E j m w){n:Nat}{t:Tm}{tmps:Array Uy}(ht:TR n j t tmps){f:ResultVar->Sem Uy}(h1:∀i,f (.tmp i)=pure (tmps.getD i undef))
  (h2:∀a ty,f (.cell a ty)=(do loadVar ty (<-asAddr (tmps.getD a undef)))) {rs:Array ResultVar} {vs:List Uy} (e:cP E t m rs.toList=some vs) :
  ∃v',(do let vs <-rs.mapM f; pure (if h:vs.size=1 then vs[0] else .tuple vs):Sem Uy).run E.P w=.ok v' w/\VR j (iA vs) v':=by
 obtain⟨l⟩:=rs;simp only[List.mapM_toArray,Sem.run_bind,Sem.run_map];obtain⟨vs',h1,h2⟩:=kB h ht h1 h2 e;rw[h1];simp only[Result.andThen_ok,Sem.run_pure];cases h2':vs' with
 | nil =>
  subst h2';have hv:vs=[]:=by have:=h2.1; simp at this; exact this
  subst hv;exact⟨_,rfl,.tuple' (by simpa using LR.nil j)⟩
 | cons v' l' =>
  subst h2';cases hv:vs with
  | nil=>subst hv; exact Ss h2.1 (by simp)
  | cons v l =>
   subst hv;cases l' with
   | nil =>
    have hl:l=[]:=by have:=h2.1; simp at this; exact this
    subst hl;exact⟨_,rfl,h2.head⟩
   | cons v2' l2' =>
    cases l with
    | nil=>exact Ss h2.1 (by simp)
    | cons v2 l2=>exact⟨_,rfl,.tuple' (by simpa using h2)⟩
def qw{j:aS}{m:Vo}{w:UC}(h:MR E j m w){n:Nat}{t:Tm}{tmps:Array Uy}(ht:TR n j t tmps){fn:Func}{vs:List Uy}(e:cP E t m fn.results.toList=some vs) :
  ∃v',(results fn tmps).run E.P w=.ok v' w/\VR j (iA vs) v' :=
 xG h ht (fun _=>rfl) (fun _ _=>rfl) e
def Sim.shut{j j':aS}{m m':Vo}{w w':UC}(s:Sim E j m w j' m' w'){r:Nat}(hr:w'.heap[r]? = some (.deferred (some [])))(hs:w.heap.size<=r)(o:Obj):Sim E j m w j' m' (w'.putObj r o) where
 ext:=s.ext
 le:=s.le
 new:=s.new
 mr:=⟨fun b k e=>⟨(s.mr.lt b k e).1,by simpa using(s.mr.lt b k e).2⟩,fun b o k hg e=>by
   obtain⟨o',h1,h2⟩:=s.mr.obj b o k hg e;have hne:k.c≠r:=yQ s.mr hr b k e (by rw[hg]; rfl)
   exact⟨o',by rw[World.putObj_heap_other hne]; exact h1,h2⟩,s.mr.inj,s.mr.glob⟩
 size:=by simpa using s.size
 full:=s.full
 away:=s.away
 fresh:=s.fresh
 frame:=fun c hc H=>by rw[World.putObj_heap_other (by omega)]; exact s.frame c hc H
 calm:=s.calm
def kO{fn:Func}{tmps:Array Uy}{R:Ending->UC->Prop}{j j':aS}{m m':Vo}{w:UC}
  (hR:∀w'',Sim E j m w j' m' w''->∃v,(results fn tmps).run E.P w''=.ok v w''/\R (.returned v) w'') :
  ∀(rs:List Nat) (w':UC),Sim E j m w j' m' w'->rs.Nodup->(∀r∈rs,w.heap.size<=r/\w'.heap[r]? = some (.deferred (some [])))->LeavesInM Fence.wide 0 E.P fn tmps R (rs.map tH) .returning w'
 | [],w',s,_,_=>hR w' s
 | r::rs,w',s,hn,hr=>by
  have h0:=hr r (by simp)
  refine⟨by simp,.inl ⟨r,w'.putObj r (.deferred none),rfl,run_takeDeferred h0.2,?_⟩⟩
  refine kO hR rs _ (s.shut h0.2 h0.1 _) (TT.1 hn).2 fun x hx=>?_;have hne:x≠r:=fun e=>(TT.1 hn).1 (e▸hx);have h1:=hr x (by simp[hx])
  exact⟨h1.1,by rw[World.putObj_heap_other hne]; exact h1.2⟩
def s9:∀(vs:List Uy) (i:Nat) (t:Tm) (d:Nat),(Trie.ofList vs i t).get d=if i<=d/\d<i+vs.length then vs[d-i]? else t.get d
 | [],i,t,d=>by
  have:¬(i<=d/\d<i+([]:List Uy).length):=by simp only[List.length_nil]; omega
  rw[R6 this]; rfl
 | v::vs,i,t,d=>by
  simp only[Trie.ofList,s9 vs (i+1),Trie.bC]
  by_cases h:d=i
  subst h;rw[UF,R7 rfl,R7 (by simp)]; simp
  by_cases h2:i<=d/\d<i+(v::vs).length
  have h3:i+1<=d/\d<i+1+vs.length:=by simp at h2; omega
  rw[R7 h2,R7 h3];obtain⟨x,hx⟩:∃x,d-i=x+1:=⟨d-i-1,by omega⟩
  rw[hx,show d-(i+1)=x by omega]; rfl
  have h3:¬(i+1<=d/\d<i+1+vs.length):=by simp at h2; omega
  rw[R6 h2,R6 h3,R6 h]
def TR.enter{j:aS}{args args':List Uy}(h:LR j args args')(nt:Nat):TR (max args.length nt) j (Trie.ofList args 0 .nil) (args'.toArray++Um (nt-args'.toArray.size) undef):=by
 refine⟨by simp[h.1]; omega,fun i=>?_⟩
 unfold Tm.at
 rw[s9]
 by_cases hi:i<args.length
 rw[UG]
 have hi':i<args'.length:=h.1▸hi;obtain⟨v',h1,h2⟩:=h.2 i args[i] (by simp[hi])
 have e1:(args[i-0]?).getD undef=args[i]:=by simp[hi]
 have e2:(args'.toArray++Um (nt-args'.toArray.size) undef).getD i undef=v':=by
  rw[Array.getD_eq_getD_getElem?,Array.getElem?_append_left (by simpa using hi')]
  simp[h1]
 rw[e1,e2]; exact h2
 rw[UF]
 have e2:(args'.toArray++Um (nt-args'.toArray.size) undef).getD i undef=undef:=by
  rw[Array.getD_eq_getD_getElem?,Array.getElem?_append_right (by simp[<-h.1]; omega)]
  simp only[Array.getElem?_replicate]
  split<;>rfl
 rw[e2,Trie.get_nil]; exact VR.undef j
def vK(hE:EnvOk E)(hk:∀tk r,k tk=some r->cT E tk r){f:FuncId}{args:List Uy}{m:Vo}{r:Res}(h:step E k (.call f args m)=some r):cT E (.call f args m) r:=by
 simp only[step] at h
 split at h
 ·rename_i r0 hp;obtain⟨v,m'⟩:=r0;cases h;unfold vy at hp;cases hpf:E.cZ f with
  | none=>rw[hpf] at hp; cases hp
  | some p =>
   rw[hpf] at hp;exact⟨v,m',rfl,fun j w args' hm hl=>hE.cZ f p hpf args m v m' hp j w args' hm hl⟩
 ·rename_i hp
  split at h
  ·rename_i fn hfn
   split at h
   ·rename_i c hb
    split at h
    cases h
    ·rename_i e t m' hne hkc;obtain⟨vs,hvs,rfl⟩:=map_some h;obtain⟨e0,t0,m0,hr0,H⟩:=hk _ _ hkc;cases hr0;refine⟨iA vs,m',rfl,fun j w args' hm hl=>.inl ⟨hE.call f fn c hfn hb _ w,?_⟩⟩;refine callsIn_of_wp_marks hfn hb trivial ?_;refine wpIn_mono (H j w { tmps:=args'.toArray++Um (fn.ntmps-args'.toArray.size) undef,defers:=[]} Fence.wide w.heap.size hm (TR.enter hl fn.ntmps) rfl (Marks.nil _ _) (Sc _)) ?_;rintro e' a' w' ⟨rfl,j',s,ht,rs,hnd,hds,hrs⟩;have hleave:LeavesInM Fence.wide 0 E.P fn a'.tmps (fun e w'=>∃v,e=.returned v/\ji E j m w (iA vs) m' v w') a'.defers .returning w':=by
      rw[hds];refine kO (fun w'' s'=>?_) rs w' s hnd hrs;obtain⟨v',hv1,hv2⟩:=qw s'.mr ht hvs;exact⟨v',hv1,v',rfl,j',s',hv2⟩
     cases e with
     | normal=>exact hleave
     | ret=>exact hleave
     | exit id=>exact(hne id rfl).elim
    cases h
   cases h
  cases h
def TR.set{n:Nat}{j:aS}{t:Tm}{tmps:Array Uy}{p:Tmp}{v v':Uy}(h:TR n j t tmps)(hv:VR j v v')(hp:p<n):TR n j (t.set p v) (tmps.setIfInBounds p v') :=
 TR.put (a:={ tmps:=tmps,defers:=[]}) (dst:=some p) h hv (by
  have:Nat.blt p n=true:=by simpa using hp
  simp only[jQ,this])
def nS{n:Nat}{j:aS}:∀{ps:List Tmp} {vs vs':List Uy} {t t':Tm} {tmps:Array Uy},iQ n t ps vs=some t'->LR j vs vs'->TR n j t tmps ->
  TR n j t' ((ps.zip vs').foldl (fun tm (x:Tmp×Uy)=>tm.setIfInBounds x.1 x.2) tmps)
 | [],vs,vs',t,t',tmps,h,hl,ht=>by cases h; exact ht
 | p::ps,[],vs',t,t',tmps,h,hl,ht=>by
  cases h;cases hl.dx;exact ht
 | p::ps,v::vs,vs',t,t',tmps,h,hl,ht=>by
  obtain⟨v',l',rfl,h1,h2⟩:=hl.cons_inv;simp only[iQ] at h
  split at h
  rename_i hlt
  show TR n j t' ((ps.zip l').foldl (fun tm (x:Tmp×Uy)=>tm.setIfInBounds x.1 x.2) (tmps.setIfInBounds p v'))
  exact nS h h2 (ht.set h1 (by simpa using hlt))
  cases h
def tv(ps:Array Tmp)(vs:List Uy)(tmps:Array Uy) :
  (ps.zip vs.toArray).foldl (fun tm (x:Tmp×Uy)=>tm.setIfInBounds x.1 x.2) tmps=(ps.toList.zip vs).foldl (fun tm (x:Tmp×Uy)=>tm.setIfInBounds x.1 x.2) tmps:=by
 rw[<-Array.foldl_toList,Array.toList_zip]
def MR.sQ{j:aS}{m:Vo}{w:UC}(h:MR E j m w){b:Nat}{kb:Blk}(hk:j b=some kb){r:ALoop}(hg:m.get b=some (.loop r)) :
  ∃r',w.heap[kb.c]? = some (.loop r')/\r.state=r'.state/\r.pending=r'.pending/\r.params=r'.params/\r.assign=r'.assign/\r.body=r'.body/\TR r.n j r.tmps r'.tmps:=by
 obtain⟨o,h1,h2⟩:=h.obj b _ kb hg hk;cases o with
 | loop r'=>exact⟨r',h1,h2⟩
 | _=>exact h2.elim
def uN (hk:∀tk r,k tk=some r->cT E tk r) {l:Nat} {args:List Uy} {m:Vo} {r:Res} (h:step E k (.round l args m)=some r):cT E (.round l args m) r:=by
 simp only[step] at h
 split at h
 ·rename_i rec hl
  split at h
  ·rename_i hst
   split at h
   cases h
   ·rename_i hlen
    split at h
    cases h
    ·rename_i t0 hsp
     split at h
     ·rename_i t1 m1 hka
      split at h
      ·rename_i r1 h2
       split at h
       ·rename_i h5
        split at h
        ·rename_i e t2 m2 hkb
         split at h
         ·rename_i r2 h3;cases h;obtain⟨e0,t0',m0',h1,HA⟩:=hk _ _ hka;cases h1;obtain⟨e0,t0',m0',h1,HB⟩:=hk _ _ hkb;cases h1;refine⟨_,_,rfl,fun j w kb args' hm hj hargs=>?_⟩;obtain⟨rc,hrc,c4,c5,c0,c1,c2,c3⟩:=hm.sQ hj hl;have hsz:args'.toArray.size=rc.params.size:=by
           rw[<-c0]; have:=hargs.1; simp; omega
          refine⟨_,_,_,_,run_yield hrc hsz,?_⟩;refine roundIn_of_wpIn trivial ?_;have htm:TR rec.n j t0 ((rc.params.zip args'.toArray).foldl (fun tm (x:Tmp×Uy)=>tm.setIfInBounds x.1 x.2) rc.tmps):=by
           rw[tv,<-c0];exact nS hsp hargs c3
          have HA':=HA j w { tmps:=(rc.params.zip args'.toArray).foldl (fun tm (x:Tmp×Uy)=>tm.setIfInBounds x.1 x.2) rc.tmps,defers:=[]} (Fence.wide.inRound kb.c) w.heap.size hm htm ⟨kb,hj,rfl⟩ (Marks.nil _ _) (Sc _);rw[<-c1,<-c2];refine wpIn_mono HA' ?_;rintro e' a0 w1 ⟨rfl,j1,s1,h6,h7⟩;have h0:=s1.le _ _ hj;obtain⟨r0,h8,d0,d1,d2,d3,d4,d5⟩:=s1.mr.sQ h0 h2;refine⟨_,run_beginRound h8 (by rw[<-d0]; exact h5),?_⟩
          have s2:Sim E j1 m1 w1 j1 (m1.set l (.loop { r1 with state:=.busy})) (w1.putObj kb.c (.loop { r0 with state:=.busy})) :=
           iL s1.mr h0 (by rw[h2]; rfl) ⟨rfl,d1,d2,d3,d4,d5⟩
          have HB':=HB j1 (w1.putObj kb.c (.loop { r0 with state:=.busy})) a0 (Fence.wide.inRound kb.c) w.heap.size s2.mr h6 ⟨kb,h0,rfl⟩ (h7.G4 s1.mr s2) (SC s1.size s2.size);refine wpIn_mono HB' ?_;rintro e' a1 w2 ⟨rfl,j2,s3,h10,h11⟩;have h4:=s3.le _ _ h0;obtain⟨r3,h9,f3,f4,f0,f1,f5,f2⟩:=s3.mr.sQ h4 h3;have fin:∀jump:Option Code,∃v w',(Instr.endRound kb.c jump).run E.P w2=.ok v w'/\∃v',Ending.returned v=.returned v'/\ji E j m w (.bool jump.isNone) (m2.set l (.loop { r2 with state:=if jump.isNone then .ready else .done,pending:=jump})) v' w':=by
           intro jump;refine⟨_,_,run_endRound jump h9,_,rfl,j2,?_,.bool _⟩;have s4:Sim E j2 m2 w2 j2 (m2.set l (.loop { r2 with state:=if jump.isNone then .ready else .done,pending:=jump})) (w2.putObj kb.c (.loop { r3 with state:=if jump.isNone then .ready else .done,pending:=jump})) :=
            iL s3.mr h4 (by rw[h3]; rfl) ⟨rfl,rfl,f0,f1,f5,f2⟩
           exact s1.trans hm (s2.trans s1.mr (s3.trans s2.mr s4))
          cases e with
          | normal=>exact fin none
          | ret=>exact fin (some .ret)
          | exit id=>exact fin (some (.exit id))
         cases h
        cases h
       cases h
      cases h
     cases h
  cases h
 cases h
def Dp{j:aS}{m:Vo}{w:UC}(h:MR E j m w)(o:Obj):Sim E j m w j m (w.alloc o):=by
 have hget:∀c,c<w.heap.size->(w.alloc o).heap[c]? = w.heap[c]?:=fun c hc=>by
  show(w.heap.push o)[c]? = w.heap[c]?
  rw[TP,UF]
 exact{ Sim.refl h with
  mr:=⟨fun b k e=>⟨(h.lt b k e).1,by rw[World.size_alloc]; exact Nat.lt_succ_of_lt (h.lt b k e).2⟩,fun b o k hg e=>by
    obtain⟨o',h1,h2⟩:=h.obj b o k hg e;exact⟨o',by rw[hget _ (h.lt b k e).2]; exact h1,h2⟩,h.inj,h.glob⟩
  size:=by rw[World.size_alloc]; omega
  frame:=fun c hc _=>hget c hc}
def nI{P:UB}{w:UC}{l:Nat}{r:Loop}(h:w.heap[l]? = some (.loop r))(fn:FuncId)(tmps:Array Uy)(ps:Array Tmp)(assign body:Code) :
  (Instr.enterLoop fn tmps ps assign body (some l)).run P w=.ok (w.heap.size,[]) (w.alloc (.loop { state:=.ready,pending:=none,fn,tmps,params:=ps,assign,body,defers:=r.defers})):=by
 unfold Instr.enterLoop;simp only[Sem.run_bind,run_getLoop h,run_newObj_alloc,Result.andThen,Sem.run_pure]
def uF (hk:∀tk r,k tk=some r->cT E tk r) {g:UA} {ps:Array Tmp} {assign body:Code} {fr:Fr} {m:Vo} {r:Res} (h:step E k (.code (.rangeFunc g ps assign body) fr m)=some r) :
  cT E (.code (.rangeFunc g ps assign body) fr m) r:=by
 simp only[step] at h
 split at h
 ·rename_i gf first captured hg har
  split at h
  ·rename_i v0 m2 hkc
   split at h
   ·rename_i r2 h2;obtain⟨v1,m1',h4,HC⟩:=hk _ _ hkc;cases h4;have common:r2.state≠.busy->∀(j:aS) (w:UC) (a:Act) (F:Fence) (N:Nat),MR E j m w->TR fr.n j fr.tmps a.tmps->kQ j fr.round F->Marks N w a.defers->N<=w.heap.size->∀Q:Exit->Act->UC->Prop,
      (∀(j2:aS) (w2:UC) (a0:Act),Sim E j m w j2 (m2.set m.next (.loop { r2 with state:=.exhausted})) w2->TR fr.n j2 fr.tmps a0.tmps->Marks N w2 a0.defers ->
       (r2.pending=none->Q .normal a0 w2)/\(∀c,r2.pending=some c->c.wpIn F 0 E.P Q a0 w2))->(Code.rangeFunc g ps assign body).wpIn F 0 E.P Q a w:=by
     intro hbusy j w a F N hm ht hro hmk hN Q hQ;have hF:=hro.wide;refine wpIn_rangeFunc fun fnId _=>?_;have hfv:=aV hm ht hg;generalize hfe:a.eval g=fv at hfv;cases hfv with
     | func h5 h6 h7 h8 =>
     rename_i ys ds;have enter:∃(l:Nat) (mark:List Deferred) (w1:UC) (j1:aS) (kb:Blk),(Instr.enterLoop fnId a.tmps ps assign body F.round).run E.P w=.ok (l,mark) w1/\kb.c=l/\j1 m.next=some kb /\
       Sim E j m w j1 (m.alloc (.loop { state:=.ready,pending:=none,fn:=fr.fn,tmps:=fr.tmps,n:=fr.n,params:=ps,assign,body})) w1/\Marks N w1 (mark++a.defers):=by
      unfold kh at har;simp only[Sa] at har;have hround:=har.2;cases hfr:fr.round with
      | none =>
       rw[hfr] at hro;have hFw:F=Fence.wide:=hro;subst hFw;have s0:=Dp hm (.deferred (some []));have s1:=nz s0.mr (ao:=.loop { state:=.ready,pending:=none,fn:=fr.fn,tmps:=fr.tmps,n:=fr.n,params:=ps,assign,body}) (mo:=none)
        (co:=.loop { state:=.ready,pending:=none,fn:=fnId,tmps:=a.tmps,params:=ps,assign,body,defers:=w.heap.size}) ⟨rfl,rfl,rfl,rfl,rfl,ht⟩
       refine⟨_,_,_,_,_,run_enterLoop_outer fnId a.tmps ps assign body,?_,aS.cB _ _ _,s0.trans hm s1,?_⟩
       show(w.alloc (.deferred (some []))).heap.size=_
       rw[World.size_alloc]
       obtain⟨rs,n1,n0,n3⟩:=(hmk.G4 hm s0).G4 s0.mr s1;obtain⟨rs',p2,p0,p1⟩:=hmk;have hrs:rs=rs':=by
        have e:=n0.symm.trans p0;refine List.map_inj_right (f:=tH) (fun x y hxy=>?_) |>.1 e
        simpa [tH] using hxy
       subst hrs;refine⟨w.heap.size::rs,TT.2 ⟨fun hin=>?_,n1⟩,by simp[tH,n0],fun x hx=>?_⟩
       have:=(Sh.1 (p1 _ hin).2).1;omega
       rcases Sx.1 hx with rfl|hx
       refine⟨hN,?_⟩;have hlt:w.heap.size<(w.alloc (.deferred (some []))).heap.size:=by rw[World.size_alloc]; omega
       rw[s1.frame _ hlt fun b kb hb hl he=>Ss (hm.lt b kb hb).2 (by omega)]
       exact World.alloc_heap_new _ _
       exact n3 x hx
      | some l0 =>
       rw[hfr] at hro hround;obtain⟨k0,h9,rfl⟩:=hro;simp only at hround
       split at hround
       rename_i r3 h10;obtain⟨r1,h11,_⟩:=hm.sQ h9 h10;have s1:=nz hm (ao:=.loop { state:=.ready,pending:=none,fn:=fr.fn,tmps:=fr.tmps,n:=fr.n,params:=ps,assign,body}) (mo:=none)
        (co:=.loop { state:=.ready,pending:=none,fn:=fnId,tmps:=a.tmps,params:=ps,assign,body,defers:=r1.defers}) ⟨rfl,rfl,rfl,rfl,rfl,ht⟩
       exact⟨_,_,_,_,_,nI h11 fnId a.tmps ps assign body,rfl,aS.cB _ _ _,s1,by simpa using hmk.G4 hm s1⟩
       cases hround
     obtain⟨l,mark,w1,j1,kb,e1,e2,e0,s1,h12⟩:=enter;subst e2;have hprim:(E.cZ gf).isSome=false:=by
      unfold kh at har;simp only[Sa,hg] at har;cases hp:E.cZ gf with
      | none=>rfl
      | some p=>rw[hp] at har; simp at har
     have hl:LR j1 (first.toList++[Value.func (.yield m.next) #[] #[]]++captured.toList) (ys.toList++[Value.func (.yield kb.c) #[] #[]]++ds.toList) :=
      (((LR.fK h5 h6).mono s1.le).append (.cons (.yield e0 rfl (fun i a _=>by simp at a)) (.nil _))).append ((LR.fK h7 h8).mono s1.le)
     have hcs:=HC j1 w1 _ s1.mr hl;have harr:(ys.toList++[Value.func (.yield kb.c) #[] #[]]++ds.toList).toArray=ys++#[Value.func (.yield kb.c) #[] #[]]++ds:=by apply Tq.1; simp
     rw[harr] at hcs;rcases hcs with⟨hr,hci⟩|⟨hpr,_⟩
     ·refine⟨kb.c,mark,w1,{ target:=.fn (.func gf) ds,args:=ys++#[Value.func (.yield kb.c) #[] #[]]},w1,gf,ys++#[Value.func (.yield kb.c) #[] #[]]++ds,w1,e1,?_,fun f' _=>hF.fn f',?_,hF.depth,?_⟩
      have hmap:Array.map a.eval #[Operand.const (Value.func (Fn.yield kb.c) #[] #[])]=#[Value.func (Fn.yield kb.c) #[] #[]]:=by
       apply Tq.1; rw[Array.toList_map]; rfl
      simp only[resolve,hfe,Deferred.ofValue,Sem.run_pure,hmap]
      simp only[invoke]; exact hr
      ·refine CallsIn.mono (hF.calls hci) ?_;rintro e' w3 ⟨v',rfl,j3,s3,hv⟩;have h3:=s3.le _ _ e0;obtain⟨r0,h13,f1,f0,f2,f3,f5,f4⟩:=s3.mr.sQ h3 h2;have s2:Sim E j3 m2 w3 j3 (m2.set m.next (.loop { r2 with state:=.exhausted})) (w3.putObj kb.c (.loop { r0 with state:=.exhausted})) :=
        iL s3.mr h3 (by rw[h2]; rfl) ⟨rfl,f0,f2,f3,f5,f4⟩
       have sall:=s1.trans hm (s3.trans s1.mr s2);refine⟨r0.pending,_,run_endLoop h13 (by rw[<-f1]; exact hbusy),?_⟩
       have hfin:=hQ j3 _ { a with defers:=mark++a.defers} sall (ht.mono sall.le) ((h12.G4 s1.mr s3).G4 s3.mr s2);rw[f0] at hfin;generalize(w3.putObj kb.c (.loop { r0 with state:=.exhausted}))=w4 at hfin ⊢;cases hp:r0.pending with
       | none=>exact hfin.1 hp
       | some c=>exact hfin.2 c hp
     rw[hprim] at hpr; cases hpr
    split at h
    cases h
    rename_i hbusy
    split at h
    rename_i hpend;cases h;refine⟨.normal,fr.tmps,_,rfl,fun j w a F N hm ht hro hmk hN=>?_⟩;refine common hbusy j w a F N hm ht hro hmk hN _ fun j2 w2 a0 s2 h0 h1=>?_;exact⟨fun _=>⟨rfl,j2,s2,h0,h1⟩,fun c hc=>Ss (hpend.symm.trans hc) (by simp)⟩
    rename_i c hpend
    split at h
    rename_i e t m' hkp;cases h;obtain⟨e3,t0,m0,h14,HP⟩:=hk _ _ hkp;cases h14;refine⟨e,t,m',rfl,fun j w a F N hm ht hro hmk hN=>?_⟩;refine common hbusy j w a F N hm ht hro hmk hN _ fun j2 w2 a0 s2 h0 h1=>?_;refine⟨fun hc=>Ss (hpend.symm.trans hc) (by simp),fun c' hc=>?_⟩
    rw[hpend] at hc; cases hc;exact wpIn_mono (HP j2 w2 a0 F N s2.mr h0 (hro.mono s2.le) h1 (SC hN s2.size)) fun e' a' w' q=>q.from hm s2
    cases h
   cases h
  cases h
 cases h
def wX(hE:EnvOk E)(hk:∀tk r,k tk=some r->cT E tk r){c:Code}{fr:Fr}{m:Vo}{r:Res}(h:step E k (.code c fr m)=some r):cT E (.code c fr m) r:=by
 cases c with
 | skip =>
  simp only[step,Option.some.injEq] at h;subst h;exact⟨.normal,fr.tmps,m,rfl,fun j w a F N hm ht hro hd hN=>wpIn_skip ⟨rfl,j,.refl hm,ht,hd⟩⟩
 | label l =>
  simp only[step,Option.some.injEq] at h;subst h;exact⟨.normal,fr.tmps,m,rfl,fun j w a F N hm ht hro hd hN=>wpIn_label ⟨rfl,j,.refl hm,ht,hd⟩⟩
 | exit id =>
  simp only[step,Option.some.injEq] at h;subst h;exact⟨.exit id,fr.tmps,m,rfl,fun j w a F N hm ht hro hd hN=>wpIn_exit ⟨rfl,j,.refl hm,ht,hd⟩⟩
 | ret =>
  simp only[step,Option.some.injEq] at h;subst h;exact⟨.ret,fr.tmps,m,rfl,fun j w a F N hm ht hro hd hN=>wpIn_ret ⟨rfl,j,.refl hm,ht,hd⟩⟩
 | seq x y =>
  simp only[step] at h
  split at h
  rename_i t1 m1 h1;obtain⟨e0,t0,m0,hr0,H1⟩:=hk _ _ h1;cases hr0;obtain⟨e2,t2,m2,rfl,H2⟩:=hk _ _ h;refine⟨e2,t2,m2,rfl,fun j w a F N hm ht hro hd hN=>wpIn_seq (wpIn_mono (H1 j w a F N hm ht hro hd hN) ?_)⟩;rintro e' a' w' ⟨rfl,j',s,ht',hd'⟩;exact wpIn_mono (H2 j' w' a' F N s.mr ht' (hro.mono s.le) hd' (SC hN s.size)) fun _ _ _ q=>q.from hm s
  ·rename_i e1 t1 m1 hne h1;cases h;obtain⟨e0,t0,m0,hr0,H1⟩:=hk _ _ h1;cases hr0;refine⟨e1,t1,m1,rfl,fun j w a F N hm ht hro hd hN=>wpIn_seq (wpIn_mono (H1 j w a F N hm ht hro hd hN) ?_)⟩;rintro e' a' w' q;have he:=q.1;subst he;cases e1 with
   | normal=>exact(hne rfl).elim
   | exit id=>exact q
   | ret=>exact q
  cases h
 | cond x a b =>
  simp only[step] at h
  split at h
  rename_i hx;obtain⟨e2,t2,m2,rfl,H⟩:=hk _ _ h;refine⟨e2,t2,m2,rfl,fun j w a F N hm ht hro hd hN=>?_⟩;have hv:=aV hm ht hx;generalize hxe:a.eval x=xv at hv;cases hv;exact wpIn_cond_true hxe (H j w a F N hm ht hro hd hN)
  rename_i hx;obtain⟨e2,t2,m2,rfl,H⟩:=hk _ _ h;refine⟨e2,t2,m2,rfl,fun j w a F N hm ht hro hd hN=>?_⟩;have hv:=aV hm ht hx;generalize hxe:a.eval x=xv at hv;cases hv;exact wpIn_cond_false hxe (H j w a F N hm ht hro hd hN)
  cases h
 | block id c =>
  simp only[step] at h
  split at h
  rename_i id' t1 m1 h1;obtain⟨e0,t0,m0,hr0,H⟩:=hk _ _ h1;cases hr0
  split at h
  rename_i hid;cases h;refine⟨.normal,t1,m1,rfl,fun j w a F N hm ht hro hd hN=>wpIn_block (wpIn_mono (H j w a F N hm ht hro hd hN) ?_)⟩;rintro e' a' w' ⟨rfl,q⟩;simp only[HJ,Exit.inBlock,hid,if_true];exact⟨rfl,q⟩
  rename_i hid;cases h;refine⟨.exit id',t1,m1,rfl,fun j w a F N hm ht hro hd hN=>wpIn_block (wpIn_mono (H j w a F N hm ht hro hd hN) ?_)⟩;rintro e' a' w' ⟨rfl,q⟩;simp only[HJ,Exit.inBlock,hid,if_false];exact⟨rfl,q⟩
  ·rename_i e1 t1 m1 hne h1;cases h;obtain⟨e0,t0,m0,hr0,H⟩:=hk _ _ h1;cases hr0;refine⟨e1,t1,m1,rfl,fun j w a F N hm ht hro hd hN=>wpIn_block (wpIn_mono (H j w a F N hm ht hro hd hN) ?_)⟩;rintro e' a' w' ⟨rfl,q⟩;cases e1 with
   | normal=>exact⟨rfl,q⟩
   | exit id=>exact(hne _ rfl).elim
   | ret=>exact⟨rfl,q⟩
  cases h
 | loop c =>
  simp only[step] at h;obtain⟨e2,t2,m2,rfl,H⟩:=hk _ _ h;exact⟨e2,t2,m2,rfl,fun j w a F N hm ht hro hd hN=>lI (H j w a F N hm ht hro hd hN)⟩
 | scope c =>
  simp only[step] at h
  split at h
  rename_i e1 t1 m1 h1;cases h;obtain⟨e0,t0,m0,hr0,H⟩:=hk _ _ h1;cases hr0;refine⟨e1,t1,m1,rfl,fun j w a F N hm ht hro hd hN=>BD (wpIn_mono (H j w a F N hm ht hro hd hN) ?_)⟩;rintro e' a' w' ⟨rfl,q⟩;cases e1<;>exact⟨rfl,q⟩
  cases h
 | region id ops draw =>
  simp only[step] at h
  split at h
  rename_i hdraw
  split at h
  rename_i ps hps
  split at h
  rename_i t1 m1 ns hr
  split at h
  rename_i hok;cases h;refine⟨.normal,t1,m1,rfl,fun j w a F N hm ht hro hd hN=>?_⟩;rw[hdraw];simp only[Sa] at hok;exact GR hk hE.mixed hps hr hok.1 hok.2 hm ht hro.wide fun j' w' a' s ht' hds=>⟨rfl,j',s,ht',by rw[hds]; exact hd.G4 hm s⟩
  cases h
  cases h
  cases h
  rename_i hdraw;have hdraw':draw=false:=by simpa using hdraw
  split at h
  rename_i t1 m1 hr;cases h;refine⟨.normal,t1,m1,rfl,fun j w a F N hm ht hro hd hN=>?_⟩;rw[hdraw'];refine wpIn_region ?_;have:=kD (ops:=ops) (n:=fr.n) (tf:=t1) (mf:=m1) hk hro.wide hm a.defers (Q:=mF E j m w N fr.n .normal t1 m1) (fun j' w' a' s ht' hds=>⟨rfl,j',s,ht',by rw[hds]; exact hd.G4 hm s⟩) ops.toList 0 fr.tmps m j w a rfl hr (.refl hm) ht rfl
  rw[List.range_eq_range']
  simpa using this
  cases h
 | rangeFunc g ps assign body=>exact uF hk h
 | goto l=>simp[step] at h
 | refuse why=>simp[step] at h
def wv(hk:∀tk r,k tk=some r->cT E tk r){c:Code}{fr:Fr}{m:Vo}{r:Res}(h:step E k (.loop c fr m)=some r):cT E (.loop c fr m) r:=by
 simp only[step] at h
 split at h
 rename_i t1 m1 h1;obtain⟨e0,t0,m0,hr0,H1⟩:=hk _ _ h1;cases hr0;obtain⟨e2,t2,m2,rfl,H2⟩:=hk _ _ h;refine⟨e2,t2,m2,rfl,fun j w a F N hm ht hro hd hN=>kF (wpIn_mono (H1 j w a F N hm ht hro hd hN) ?_)⟩;rintro e' a' w' ⟨rfl,j',s,ht',hd'⟩;intro b k' cs hro' hb hr;obtain⟨e3,a3,w3,q,harr⟩:=H2 j' w' a' F N s.mr ht' (hro.mono s.le) hd' (SC hN s.size) b k' cs hro' hb hr;exact⟨e3,a3,w3,q.from hm s,harr⟩
 ·rename_i e1 t1 m1 hne h1;cases h;obtain⟨e0,t0,m0,hr0,H1⟩:=hk _ _ h1;cases hr0;refine⟨e1,t1,m1,rfl,fun j w a F N hm ht hro hd hN=>kF (wpIn_mono (H1 j w a F N hm ht hro hd hN) ?_)⟩;rintro e' a' w' q;have he:=q.1;subst he;cases e1 with
  | normal=>exact(hne rfl).elim
  | exit id=>exact q
  | ret=>exact q
 cases h
def HI(hE:EnvOk E)(hk:∀tk r,k tk=some r->cT E tk r){tk:Task}{r:Res}(h:step E k tk=some r):cT E tk r:=by
 cases tk with
 | code c fr m=>exact wX hE hk h
 | loop c fr m=>exact wv hk h
 | call f args m=>exact vK hE hk h
 | round l args m=>exact uN hk h
def pM(hE:EnvOk E):∀(fuel:Nat) (tk:Task) (r:Res),run E fuel tk=some r->cT E tk r
 | 0,_,_,h=>by cases h
 | n+1,_,_,h=>HI hE (pM hE n) h
end
section
variable{E:Env}{k k':K}
def Pv(k k':K):Prop:=∀tk r,k tk=some r->k' tk=some r
def ky (h:Pv k k') {t:Tm} {m:Vo} {o:Op} {x:Uy × Vo} (e:ez k E t m o=some x):ez k' E t m o=some x:=by
 unfold ez at e ⊢
 split at e
 ·rename_i c
  try simp only
  split at e
  ·rename_i f hc
   try simp only
   split at e
   ·rename_i g first captured args h1 h2
    try simp only[h1,h2]
    split at e
    rename_i v m' hk;rw[h _ _ hk]; exact e
    cases e
   ·rename_i l first cap args h1 h2
    try simp only[h1,h2]
    split at e
    rename_i v m' hk;rw[h _ _ hk]; exact e
    cases e
   cases e
  ·rename_i hne
   first
    | exact e
    | (split
       rename_i f hc; exact(hne f hc).elim
       exact e)
 ·rename_i hne
  first
   | exact e
   | (split
      rename_i c; exact(hne c rfl).elim
      exact e)
def jN(h:Pv k k'){n:Nat}{ops:Array Oper}:∀{os:List Oper} {t:Tm} {m:Vo} {x:Tm×Vo},iS k E n ops os t m=some x->iS k' E n ops os t m=some x
 | [],t,m,x,e=>e
 | o::os,t,m,x,e=>by
  simp only[iS] at e ⊢
  split at e
  ·rename_i hw;rw[R7 hw]
   split at e
   ·rename_i v m' ho;rw[ky h ho]
    try simp only
    split at e
    ·rename_i t' hp
     try simp only[hp]
     exact jN h e
    cases e
   cases e
  ·rename_i hw;rw[R6 hw]
   split at e
   ·rename_i t' hp
    try simp only[hp]
    exact jN h e
   cases e
def gV(h:Pv k k'){n:Nat}{ops:Array Oper}:∀{os:List Oper} {t:Tm} {m:Vo} {x:Tm×Vo×List Note},dS k E n ops os t m=some x->dS k' E n ops os t m=some x
 | [],t,m,x,e=>e
 | o::os,t,m,x,e=>by
  simp only[dS] at e ⊢
  split at e
  ·rename_i hw;rw[R7 hw]
   split at e
   ·rename_i v m' ho;rw[ky h ho]
    try simp only
    split at e
    ·rename_i t' hp
     try simp only[hp]
     split at e
     rename_i a b c hr;rw[gV h hr]; exact e
     cases e
    cases e
   cases e
  ·rename_i hw;rw[R6 hw]
   split at e
   ·rename_i t' hp
    try simp only[hp]
    split at e
    rename_i a b c hr;rw[gV h hr]; exact e
    cases e
   cases e
def D1 (h:Pv k k') {tk:Task} {r:Res} (e:step E k tk=some r):step E k' tk=some r:=by
 cases tk with
 | code c fr m =>
  cases c with
  | seq a b =>
   simp only[step] at e ⊢
   split at e
   rename_i t1 m1 h1;rw[h _ _ h1]; exact h _ _ e
   ·rename_i e1 t1 m1 hne h1;rw[h _ _ h1];cases e1 with
    | normal=>exact(hne rfl).elim
    | exit id=>exact e
    | ret=>exact e
   cases e
  | cond x a b =>
   simp only[step] at e ⊢
   split at e
   ·rename_i hx; try simp only[hx]
    exact h _ _ e
   ·rename_i hx; try simp only[hx]
    exact h _ _ e
   cases e
  | block id a =>
   simp only[step] at e ⊢
   split at e
   rename_i id' t1 m1 h1;rw[h _ _ h1]; exact e
   ·rename_i e1 t1 m1 hne h1;rw[h _ _ h1];cases e1 with
    | exit id'=>exact(hne _ rfl).elim
    | normal=>exact e
    | ret=>exact e
   cases e
  | loop a=>simp only[step] at e ⊢; exact h _ _ e
  | scope a =>
   simp only[step] at e ⊢
   split at e
   rename_i e1 t1 m1 h1;rw[h _ _ h1]; exact e
   cases e
  | region id ops draw =>
   simp only[step] at e ⊢
   split at e
   ·rename_i hd;rw[R7 hd]
    split at e
    ·rename_i ps hps
     try simp only[hps]
     split at e
     rename_i t1 m1 ns hr;rw[gV h hr]; exact e
     cases e
    cases e
   rename_i hd;rw[R6 hd]
   split at e
   rename_i t1 m1 hr;rw[jN h hr]; exact e
   cases e
  | rangeFunc f ps ars bd =>
   simp only[step] at e ⊢
   split at e
   ·rename_i g first captured hg har
    try simp only[hg,har]
    split at e
    ·rename_i v m2 hk;rw[h _ _ hk]
     try simp only
     split at e
     ·rename_i r2 hl
      try simp only[hl]
      split at e
      cases e
      ·rename_i hb;revert e;cases hs:r2.state
       case busy=>exact(hb hs).elim
       all_goals
        cases hp:r2.pending with
        | none=>intro e; exact e
        | some c =>
         intro e;simp only at e ⊢
         split at e
         rename_i e1 t1 m1 hk2;rw[h _ _ hk2]; exact e
         cases e
     cases e
    cases e
   cases e
  | _=>exact e
 | loop c fr m =>
  simp only[step] at e ⊢
  split at e
  rename_i t1 m1 h1;rw[h _ _ h1]; exact h _ _ e
  ·rename_i e1 t1 m1 hne h1;rw[h _ _ h1];cases e1 with
   | normal=>exact(hne rfl).elim
   | exit id=>exact e
   | ret=>exact e
  cases e
 | call f args m =>
  simp only[step] at e ⊢
  split at e
  ·rename_i p hp
   try simp only[hp]
   exact e
  ·rename_i hp
   try simp only[hp]
   split at e
   ·rename_i fn hf
    try simp only[hf]
    split at e
    ·rename_i c hb
     try simp only[hb]
     split at e
     cases e
     ·rename_i e1 t1 m1 hne h1;rw[h _ _ h1];cases e1 with
      | exit id=>exact(hne _ rfl).elim
      | normal=>exact e
      | ret=>exact e
     cases e
    cases e
   cases e
 | round l args m =>
  simp only[step] at e ⊢
  split at e
  ·rename_i r1 hl
   try simp only[hl]
   split at e
   ·rename_i hs
    try simp only[hs]
    split at e
    cases e
    ·rename_i hlen;rw[R6 hlen]
     split at e
     cases e
     ·rename_i t0 hsp
      try simp only[hsp]
      split at e
      ·rename_i t1 m1 h1;rw[h _ _ h1]
       try simp only
       split at e
       ·rename_i r2 hl2
        try simp only[hl2]
        split at e
        ·rename_i hs2
         try simp only[hs2]
         split at e
         rename_i e2 t2 m2 h2;rw[h _ _ h2]; exact e
         cases e
        cases e
       cases e
      cases e
   cases e
  cases e
def H4{n:Nat}{tk:Task}{r:Res}:run E n tk=some r->run E (n+1) tk=some r:=by
 induction n generalizing tk r with
 | zero=>intro h; cases h
 | succ n ih=>intro h; exact D1 (fun _ _=>ih) h
def kU{n n':Nat}(hn:n<=n'){tk:Task}{r:Res}(h:run E n tk=some r):run E n' tk=some r:=by
 induction hn with
 | refl=>exact h
 | step _ ih=>exact H4 ih
def Gc(E:Env)(tk:Task)(r:Res):Prop:=∃n,run E n tk=some r
end
section
variable{E:Env}{n:Nat}{fn:FuncId}{ro:Option Nat}
def aC(E:Env)(f:FuncId)(args:List Uy)(m:Vo)(Q:Uy->Vo->Prop):Prop:=∃v m',Gc E (.call f args m) (.val v m')/\Q v m'
def AQ(E:Env)(l:Nat)(args:List Uy)(m:Vo)(Q:Uy->Vo->Prop):Prop:=∃v m',Gc E (.round l args m) (.val v m')/\Q v m'
def cp(E:Env)(n:Nat)(fn:FuncId)(ro:Option Nat)(c:Code)(Q:Vp->Tm->Vo->Prop)(t:Tm)(m:Vo):Prop:=∃e t' m',Gc E (.code c ⟨t,n,fn,ro⟩ m) (.code e t' m')/\Q e t' m'
def BU(E:Env)(n:Nat)(fn:FuncId)(ro:Option Nat)(c:Code)(Q:Vp->Tm->Vo->Prop)(t:Tm)(m:Vo):Prop:=∃e t' m',Gc E (.loop c ⟨t,n,fn,ro⟩ m) (.code e t' m')/\Q e t' m'
def aC.mono{f:FuncId}{args:List Uy}{m:Vo}{Q Q':Uy->Vo->Prop}(h:aC E f args m Q)(hq:∀v m',Q v m'->Q' v m'):aC E f args m Q' :=
 let⟨v,m',r,q⟩:=h;⟨v,m',r,hq v m' q⟩
def cp.mono{c:Code}{Q Q':Vp->Tm->Vo->Prop}{t:Tm}{m:Vo}(h:cp E n fn ro c Q t m)(hq:∀e t m,Q e t m->Q' e t m):cp E n fn ro c Q' t m :=
 let⟨e,t',m',r,q⟩:=h;⟨e,t',m',r,hq _ _ _ q⟩
def nX(K:Tm->Vo->Prop)(Q:Vp->Tm->Vo->Prop):Vp->Tm->Vo->Prop
 | .normal,t,m=>K t m
 | .exit id,t,m=>Q (.exit id) t m
 | .ret,t,m=>Q .ret t m
def ik(id:Nat)(Q:Vp->Tm->Vo->Prop):Vp->Tm->Vo->Prop
 | .normal,t,m=>Q .normal t m
 | .exit id',t,m=>if id'=id then Q .normal t m else Q (.exit id') t m
 | .ret,t,m=>Q .ret t m
variable{Q:Vp->Tm->Vo->Prop}{t:Tm}{m:Vo}
def bK{k:Nat}{tk:Task}{r:Res}(h:step E (run E k) tk=some r):Gc E tk r:=⟨k+1,h⟩
def cp.skip(h:Q .normal t m):cp E n fn ro .skip Q t m:=⟨_,_,_,bK (k:=0) rfl,h⟩
def cp.exit{id:Nat}(h:Q (.exit id) t m):cp E n fn ro (.exit id) Q t m:=⟨_,_,_,bK (k:=0) rfl,h⟩
def cp.ret(h:Q .ret t m):cp E n fn ro .ret Q t m:=⟨_,_,_,bK (k:=0) rfl,h⟩
def cp.seq{a b:Code}(h:cp E n fn ro a (nX (cp E n fn ro b Q) Q) t m):cp E n fn ro (.seq a b) Q t m:=by
 obtain⟨e,t1,m1,⟨k1,h1⟩,q⟩:=h;cases e with
 | normal =>
  obtain⟨e2,t2,m2,⟨k2,h2⟩,q2⟩:=q;refine⟨e2,t2,m2,bK (k:=max k1 k2) ?_,q2⟩;simp only[step,kU (Nat.le_max_left k1 k2) h1];exact kU (Nat.le_max_right k1 k2) h2
 | exit id=>exact⟨_,_,_,bK (k:=k1) (by simp only[step,h1]),q⟩
 | ret=>exact⟨_,_,_,bK (k:=k1) (by simp only[step,h1]),q⟩
def cp.cond{x:UA}{a b:Code}{c:Bool}(hx:aw E t x=some (.bool c))(ht:c=true->cp E n fn ro a Q t m)(hf:c=false->cp E n fn ro b Q t m):cp E n fn ro (.cond x a b) Q t m:=by
 cases c with
 | true =>
  obtain⟨e,t1,m1,⟨k1,h1⟩,q⟩:=ht rfl;exact⟨e,t1,m1,bK (k:=k1) (by simp only[step,hx]; exact h1),q⟩
 | false =>
  obtain⟨e,t1,m1,⟨k1,h1⟩,q⟩:=hf rfl;exact⟨e,t1,m1,bK (k:=k1) (by simp only[step,hx]; exact h1),q⟩
def cp.block{id:Nat}{a:Code}(h:cp E n fn ro a (ik id Q) t m):cp E n fn ro (.block id a) Q t m:=by
 obtain⟨e,t1,m1,⟨k1,h1⟩,q⟩:=h;cases e with
 | normal=>exact⟨_,_,_,bK (k:=k1) (by simp only[step,h1]),q⟩
 | exit id' =>
  simp only[ik] at q
  by_cases hid:id'=id
  rw[R7 hid] at q;exact⟨_,_,_,bK (k:=k1) (by simp only[step,h1,R7 hid]),q⟩
  rw[R6 hid] at q;exact⟨_,_,_,bK (k:=k1) (by simp only[step,h1,R6 hid]),q⟩
 | ret=>exact⟨_,_,_,bK (k:=k1) (by simp only[step,h1]),q⟩
def cp.loop{a:Code}(h:BU E n fn ro a Q t m):cp E n fn ro (.loop a) Q t m:=by
 obtain⟨e,t1,m1,⟨k1,h1⟩,q⟩:=h;exact⟨_,_,_,bK (k:=k1) (by simp only[step]; exact h1),q⟩
def BU.round{a:Code}(h:cp E n fn ro a (nX (BU E n fn ro a Q) Q) t m):BU E n fn ro a Q t m:=by
 obtain⟨e,t1,m1,⟨k1,h1⟩,q⟩:=h;cases e with
 | normal =>
  obtain⟨e2,t2,m2,⟨k2,h2⟩,q2⟩:=q;refine⟨e2,t2,m2,bK (k:=max k1 k2) ?_,q2⟩;simp only[step,kU (Nat.le_max_left k1 k2) h1];exact kU (Nat.le_max_right k1 k2) h2
 | exit id=>exact⟨_,_,_,bK (k:=k1) (by simp only[step,h1]),q⟩
 | ret=>exact⟨_,_,_,bK (k:=k1) (by simp only[step,h1]),q⟩
def lq(E:Env)(t:Tm)(m:Vo)(o:Op)(K:Uy->Vo->Prop):Prop:=∃v m',(∃k,ez (run E k) E t m o=some (v,m'))/\K v m'
def rJ{k k':Nat}(h:k<=k'):Pv (run E k) (run E k'):=fun _ _=>kU h
def lq.plain{o:Op}{v:Uy}{m':Vo}{K:Uy->Vo->Prop}(he:fq E t m o=some (v,m'))(h:K v m'):lq E t m o K:=by
 refine⟨v,m',⟨0,?_⟩,h⟩;unfold ez
 split
 rename_i c
 split
 rename_i f hc;simp[fq,hc] at he
 exact he
 exact he
def lq.call{c:Call}{f:UA}{g:FuncId}{first captured:Array Uy}{args:List Uy}{K:Uy->Vo->Prop}(hc:c.callee=.value f)(hf:aw E t f=some (.func (.func g) first captured))(ha:bG E t c.args.toList=some args)
  (h:aC E g (first.toList++args++captured.toList) m K):lq E t m (.call c) K:=by
 obtain⟨v,m',⟨k,hk⟩,q⟩:=h;exact⟨v,m',⟨k,by simp only[ez,hc,hf,ha,hk]⟩,q⟩
def lq.round{c:Call}{f:UA}{l:Nat}{first cap:Array Uy}{args:List Uy}{K:Uy->Vo->Prop}(hc:c.callee=.value f)(hf:aw E t f=some (.func (.yield l) first cap))(ha:bG E t c.args.toList=some args)
  (h:AQ E l (first.toList++args) m K):lq E t m (.call c) K:=by
 obtain⟨v,m',⟨k,hk⟩,q⟩:=h;exact⟨v,m',⟨k,by simp only[ez,hc,hf,ha,hk]⟩,q⟩
def KO(n:Nat)(t:Tm)(dst:Option Tmp)(v:Uy)(K:Tm->Prop):Prop:=∃t',jQ n t dst v=some t'/\K t'
def Bz(E:Env)(n:Nat)(ops:Array Oper)(K:Tm->Vo->Prop):List Oper->Tm->Vo->Prop
 | [],t,m=>K t m
 | o::os,t,m=>if cg ops o t then lq E t m o.op fun v m'=>KO n t o.dst v fun t'=>Bz E n ops K os t' m' else KO n t o.dst undef fun t'=>Bz E n ops K os t' m
def nD{ops:Array Oper}{K:Tm->Vo->Prop}:∀{os:List Oper} {t:Tm} {m:Vo},Bz E n ops K os t m->∃k t' m',iS (run E k) E n ops os t m=some (t',m')/\K t' m'
 | [],t,m,h=>⟨0,t,m,rfl,h⟩
 | o::os,t,m,h=>by
  simp only[Bz] at h
  split at h
  rename_i hw;obtain⟨v,m1,⟨k1,h1⟩,t1,hp,h2⟩:=h;obtain⟨k2,t2,m2,h3,h4⟩:=nD h2;refine⟨max k1 k2,t2,m2,?_,h4⟩;simp only[iS,R7 hw,ky (rJ (Nat.le_max_left k1 k2)) h1,hp];exact jN (rJ (Nat.le_max_right k1 k2)) h3
  rename_i hw;obtain⟨t1,hp,h2⟩:=h;obtain⟨k2,t2,m2,h3,h4⟩:=nD h2;refine⟨k2,t2,m2,?_,h4⟩;simp only[iS,R6 hw,hp];exact h3
def cp.region{id:Nat}{ops:Array Oper}(h:Bz E n ops (Q .normal) ops.toList t m):cp E n fn ro (.region id ops false) Q t m:=by
 obtain⟨k,t',m',h1,h2⟩:=nD h;exact⟨_,_,_,bK (k:=k) (by simp only[step,Sw,if_false,h1]),h2⟩
def iB(E:Env)(n:Nat)(ops:Array Oper)(K:Tm->Vo->List Note->Prop):List Oper->Tm->Vo->List Note->Prop
 | [],t,m,ns=>K t m ns.reverse
 | o::os,t,m,ns =>
  if cg ops o t then lq E t { m with wl:=m.next} o.op fun v m'=>KO n t o.dst v fun t' =>
   iB E n ops K os t' { m' with wl:=min m.wl m'.wl} ({ read:=aQ E t o.op,wl:=m'.wl,next:=m.next,wrote:=fb E t o.op,kept:=iX m m'}::ns)
  else KO n t o.dst undef fun t'=>iB E n ops K os t' m ({ read:=none,wl:=m.next,next:=m.next,wrote:=none,kept:=fun _=>false}::ns)
def lF{ops:Array Oper}{K:Tm->Vo->List Note->Prop}:∀{os:List Oper} {t:Tm} {m:Vo} {ns:List Note},iB E n ops K os t m ns->∃k t' m' ns',dS (run E k) E n ops os t m=some (t',m',ns')/\K t' m' (ns.reverse++ns')
 | [],t,m,ns,h=>⟨0,t,m,[],rfl,by rw[SP]; exact h⟩
 | o::os,t,m,ns,h=>by
  simp only[iB] at h
  split at h
  rename_i hw;obtain⟨v,m1,⟨k1,h1⟩,t1,hp,h2⟩:=h;obtain⟨k2,t2,m2,ns2,h3,h4⟩:=lF h2;refine⟨max k1 k2,t2,m2,_::ns2,?_,by simpa using h4⟩
  simp only[dS,R7 hw,ky (rJ (Nat.le_max_left k1 k2)) h1,hp,gV (rJ (Nat.le_max_right k1 k2)) h3]
  rename_i hw;obtain⟨t1,hp,h2⟩:=h;obtain⟨k2,t2,m2,ns2,h3,h4⟩:=lF h2;refine⟨k2,t2,m2,_::ns2,?_,by simpa using h4⟩
  simp only[dS,R6 hw,hp,h3]
def cp.draw{id:Nat}{ops:Array Oper}{ps:List (Nat×Nat)}(hp:kA ops=some ps)(h:iB E n ops (fun t m ns=>(ps.all (dQ ns ops)&&ns.all fM)=true/\Q .normal t m) ops.toList t m []):cp E n fn ro (.region id ops true) Q t m:=by
 obtain⟨k,t',m',ns,h1,h2,h3⟩:=lF h;simp only[List.reverse_nil,Tw] at h2;exact⟨_,_,_,bK (k:=k) (by simp only[step,if_true,hp,h1,h2]),h3⟩
def aC.enter{f:FuncId}{F:Func}{c:Code}{args:List Uy}{R:Uy->Vo->Prop}(hp:E.cZ f=none)(hf:E.P.funcs[f]? = some F)(hb:F.body=some c)
  (h:cp E (max args.length F.ntmps) f none c (fun e t' m'=>(∀id,e≠.exit id)/\∃vs,cP E t' m' F.results.toList=some vs/\R (iA vs) m') (Trie.ofList args 0 .nil) m):aC E f args m R:=by
 obtain⟨e,t',m',⟨k,h1⟩,hne,vs,h2,h3⟩:=h;refine⟨_,m',bK (k:=k) ?_,h3⟩;have hpa:vy E f args m=none:=by unfold vy; rw[hp]; rfl
 simp only[step,hpa,hf,hb,h1];cases e with
 | exit id=>exact(hne id rfl).elim
 | normal=>simp only[h2,Sq]
 | ret=>simp only[h2,Sq]
end
section
variable{E:Env}{n:Nat}{fn:FuncId}{ro:Option Nat}{Q:Vp->Tm->Vo->Prop}{t:Tm}{m:Vo}
def eX(r:Option (Uy×Vo))(K:Uy->Vo->Prop):Prop :=
 match r with
 | some (v,m)=>K v m
 | none=>False
def Ib(r:Option Tm)(K:Tm->Prop):Prop :=
 match r with
 | some t=>K t
 | none=>False
def kq(E:Env)(f:Option Uy)(args:Option (List Uy))(m:Vo)(K:Uy->Vo->Prop):Prop :=
 match f,args with
 | some (.func (.func g) first captured),some ars=>aC E g (first.toList++ars++captured.toList) m K
 | some (.func (.yield l) first _),some ars=>AQ E l (first.toList++ars) m K
 | _,_=>False
def ot(g:FuncId)(ars:List Uy)(K:Uy->Vo->Prop):kq E (some (.func (.func g) #[] #[])) (some ars) m K=aC E g ars m K:=by
 simp[kq]
def oR(o:Op):Option (UA×List UA) :=
 match o with
 | .call c=>match c.callee with
  | .value f=>some (f,c.args.toList)
  | _=>none
 | _=>none
def bo(E:Env)(t:Tm)(m:Vo)(o:Op)(K:Uy->Vo->Prop):Prop :=
 match oR o with
 | some (f,ars)=>kq E (aw E t f) (bG E t ars) m K
 | none=>eX (fq E t m o) K
def bo.A{o:Op}{K:Uy->Vo->Prop}(h:bo E t m o K):lq E t m o K:=by
 unfold bo at h
 split at h
 rename_i f ars hc;unfold oR at hc
 split at hc
 rename_i c
 split at hc
 rename_i f' hcal;cases hc;unfold kq at h
 split at h
 rename_i g first captured args h1 h2
 exact .call hcal h1 h2 h
 rename_i l first cap args h1 h2
 exact .round hcal h1 h2 h
 exact h.elim
 cases hc
 cases hc
 unfold eX at h
 split at h
 rename_i v m' he;exact .plain he h
 exact h.elim
def oB(E:Env)(n:Nat)(ops:Array Oper)(K:Tm->Vo->Prop):List Oper->Tm->Vo->Prop
 | [],t,m=>K t m
 | o::os,t,m=>if cg ops o t then bo E t m o.op fun v m'=>Ib (jQ n t o.dst v) fun t'=>oB E n ops K os t' m' else Ib (jQ n t o.dst undef) fun t'=>oB E n ops K os t' m
def lq.mono{o:Op}{K K':Uy->Vo->Prop}(h:lq E t m o K)(hk:∀v m',K v m'->K' v m'):lq E t m o K' :=
 let⟨v,m',r,q⟩:=h;⟨v,m',r,hk v m' q⟩
def Ib.A{r:Option Tm}{K:Tm->Prop}(h:Ib r K):∃t',r=some t'/\K t':=by
 cases r with
 | none=>exact h.elim
 | some t=>exact⟨t,rfl,h⟩
def nh{ops:Array Oper}{K:Tm->Vo->Prop}:∀{os:List Oper} {t:Tm} {m:Vo},oB E n ops K os t m->Bz E n ops K os t m
 | [],t,m,h=>h
 | o::os,t,m,h=>by
  simp only[oB] at h;simp only[Bz]
  split at h
  rename_i hw;rw[R7 hw];refine h.A.mono fun v m' hv=>?_;obtain⟨t',hp,h2⟩:=hv.A;exact⟨t',hp,nh h2⟩
  rename_i hw;rw[R6 hw];obtain⟨t',hp,h2⟩:=h.A;exact⟨t',hp,nh h2⟩
def cp.JH{id:Nat}{ops:Array Oper}(h:oB E n ops (Q .normal) ops.toList t m):cp E n fn ro (.region id ops false) Q t m:=.region (nh h)
def xx(E:Env)(n:Nat)(ops:Array Oper)(K:Tm->Vo->List Note->Prop):List Oper->Tm->Vo->List Note->Prop
 | [],t,m,ns=>K t m ns.reverse
 | o::os,t,m,ns =>
  if cg ops o t then bo E t { m with wl:=m.next} o.op fun v m'=>Ib (jQ n t o.dst v) fun t' =>
   xx E n ops K os t' { m' with wl:=min m.wl m'.wl} ({ read:=aQ E t o.op,wl:=m'.wl,next:=m.next,wrote:=fb E t o.op,kept:=iX m m'}::ns)
  else Ib (jQ n t o.dst undef) fun t'=>xx E n ops K os t' m ({ read:=none,wl:=m.next,next:=m.next,wrote:=none,kept:=fun _=>false}::ns)
end
section
variable{E:Env}{n:Nat}{fn:FuncId}{ro:Option Nat}{t:Tm}{m:Vo}
section
variable{Q:Vp->Tm->Vo->Prop}
def CL{id id':Nat}:ik id Q (.exit id') t m=if id'=id then Q .normal t m else Q (.exit id') t m:=rfl
end
def xP(r:Option (List Uy))(R:Uy->Prop):Prop :=
 match r with
 | some vs=>R (iA vs)
 | none=>False
def jh(E:Env)(rs:List ResultVar)(R:Uy->Vo->Prop):Vp->Tm->Vo->Prop
 | .exit _,_,_=>False
 | .normal,t,m=>xP (cP E t m rs) fun v=>R v m
 | .ret,t,m=>xP (cP E t m rs) fun v=>R v m
def DK{rs:List ResultVar}{R:Uy->Vo->Prop}:jh E rs R .normal t m=xP (cP E t m rs) fun v=>R v m:=rfl
def No{rs:List ResultVar}{R:Uy->Vo->Prop}:jh E rs R .ret t m=xP (cP E t m rs) fun v=>R v m:=rfl
def aC.Nn{f:FuncId}{F:Func}{c:Code}{args:List Uy}{rs:List ResultVar}{N:Nat}{R:Uy->Vo->Prop}(hp:E.cZ f=none)(hf:E.P.funcs[f]? = some F)(hb:F.body=some c)(hrs:F.results.toList=rs)(hN:max args.length F.ntmps=N)
  (h:cp E N f none c (jh E rs R) (Trie.ofList args 0 .nil) m):aC E f args m R:=by
 subst hrs hN;refine .enter hp hf hb (h.mono fun e t' m' hq=>?_);cases e with
 | exit id=>exact hq.elim
 | normal =>
  refine⟨fun id h=>(by cases h),?_⟩
  simp only[jh] at hq;unfold xP at hq
  split at hq
  rename_i vs hv; exact⟨vs,hv,hq⟩
  exact hq.elim
 | ret =>
  refine⟨fun id h=>(by cases h),?_⟩
  simp only[jh] at hq;unfold xP at hq
  split at hq
  rename_i vs hv; exact⟨vs,hv,hq⟩
  exact hq.elim
end
def at_set(t:Tm)(i j:Nat)(v:Uy):Tm.at (Trie.set t i v) j=if j=i then v else Tm.at t j:=by
 unfold Tm.at; rw[Trie.bC]; split<;>rfl
def dj(n:Nat)(t:Tm)(d:Nat)(v:Uy):jQ n t (some d) v=if d<n then some (Trie.set t d v) else none:=by
 unfold jQ
 by_cases h:d<n
 have:Nat.blt d n=true:=by simpa using h
 simp only[this,R7 h]
 ·have:Nat.blt d n=false:=by
   cases hb:Nat.blt d n with
   | false=>rfl
   | true=>exact(h (by simpa using hb)).elim
  simp only[this,R6 h]
section
variable{E:Env}{t:Tm}{ty:Uz}{P:UB}
def bR(k:IntKind)(a b:Int):cb .add ty P (.int k a) (.int k b)=some (.int k (k.wrap (a+b))):=by simp only[cb,if_true]
def bN(k:IntKind)(a b:Int):cb .sub ty P (.int k a) (.int k b)=some (.int k (k.wrap (a-b))):=by simp only[cb,if_true]
def cz(k:IntKind)(a b:Int):cb .mul ty P (.int k a) (.int k b)=some (.int k (k.wrap (a*b))):=by simp only[cb,if_true]
def CY(k:IntKind)(a b:Int)(h:b≠0):cb .rem ty P (.int k a) (.int k b)=some (.int k (a.tmod b)):=by simp only[cb,if_true,R6 h]
def gi(k:IntKind)(a b:Int):cb .lss ty P (.int k a) (.int k b)=some (.bool (decide (a<b))):=by simp only[cb,if_true]
def IP(k:IntKind)(a b:Int):cb .leq ty P (.int k a) (.int k b)=some (.bool (decide (a<=b))):=by simp only[cb,if_true]
def jM(k:IntKind)(a b:Int):cb .gtr ty P (.int k a) (.int k b)=some (.bool (decide (b<a))):=by simp only[cb,if_true,gt_iff_lt]
def wI(k:IntKind)(a b:Int):cb .geq ty P (.int k a) (.int k b)=some (.bool (decide (b<=a))):=by simp only[cb,if_true,ge_iff_le]
def ng(k:IntKind)(a b:Int):cb .eql ty P (.int k a) (.int k b)=some (.bool (decide (a=b))):=by simp only[cb,if_true]; rfl
def IU(k:IntKind)(a b:Int):cb .neq ty P (.int k a) (.int k b)=some (.bool (decide (a≠b))):=by
 simp only[cb,if_true]
 by_cases h:a=b<;>simp[h]
end
structure Ext(m m':Vo):Prop where
 next:m.next<=m'.next
 same:∀b,b<m.next->m'.get b=m.get b
 wl:min m.wl m.next<=m'.wl
def Ext.refl(m:Vo):Ext m m:=⟨Sc _,fun _ _=>rfl,Nat.min_le_left _ _⟩
def Ext.trans{a b c:Vo}(h:Ext a b)(h':Ext b c):Ext a c :=
 ⟨SC h.next h'.next,fun x hx=>(h'.same x (Sj hx h.next)).trans (h.same x hx),by
  have h1:=h.wl; have h2:=h'.wl; have h3:=h.next; omega⟩
def Ext.alloc{m m':Vo}(h:Ext m m')(o:Vq):Ext m (m'.alloc o) :=
 ⟨Nat.le_succ_of_le h.next,fun b hb=>by
  rw[Vo.aZ,R6 (by have:=h.next; omega)]; exact h.same b hb,h.wl⟩
def Ext.set{m m':Vo}(h:Ext m m'){b:Nat}(hb:m.next<=b)(o:Vq):Ext m (m'.set b o) :=
 ⟨h.next,fun x hx=>by rw[Vo.bC,UF]; exact h.same x hx,by
  show min m.wl m.next<=min m'.wl b
  have:=h.wl; omega⟩
inductive SlA(m:Vo)(w:Nat):Uy->Uv->Prop
 | nil:SlA m w (.slice none 0 0) []
 | at {b o cap:Nat} {cs:List Uy} {tag:Tag} {xs:Uv} (hb:b<m.next) (hg:m.get b=some (.cells cs tag)) (hc:xs.length<=cap) (hx:∀i x,xs[i]? = some x->(cs.drop (o+i*w)).take w=x/\x.length=w) :
   SlA m w (.slice (some ⟨b,o,none⟩) xs.length cap) xs
def BF (P : UB) : Bool := P.funcs.toList.all (fun fn => !(fn.name == "runtime.NumGoroutine")) && P.follows .mixedOrders
def yq{E:Env}(h:BF E.P=true)(hp:∀f p,E.cZ f=some p->∀args m v m',p.run args m=some (v,m')->∀(j:aS) (w:UC) (args':List Uy),MR E j m w->LR j args args'->gI E.P (E.cZ f).isSome f args'.toArray w (ji E j m w v m')):EnvOk E:=by
 simp only[BF,Sa] at h;refine⟨fun f fn c hf hb args w=>?_,h.2,hp⟩;have hnm:=Si.1 h.1 fn (Sf (by simpa using hf))
 have hname : (fn.name == "runtime.NumGoroutine") = false := by simpa using hnm
 have h1 : fn.name ≠ "runtime.NumGoroutine" := by simpa using hname
 simp[callFunc,hf,h1,hb]
def pn{E:Env}(hE:EnvOk E){fuel:Nat}{f:FuncId}{args:List Uy}{m m':Vo}{v:Uy}(e:run E fuel (.call f args m)=some (.val v m'))(hp:E.cZ f=none){j:aS}{W:UC}{args':List Uy}(h:MR E j m W)(hl:LR j args args') :
  CallsIn Fence.wide 0 E.P f args'.toArray W fun e W'=>∃v',e=.returned v'/\∃j',Sim E j m W j' m' W'/\VR j' v v':=by
 obtain⟨v1,m1,hr,hs⟩:=pM hE fuel _ _ e;cases hr;rcases hs j W args' h hl with⟨_,h1⟩|⟨h1,_⟩
 exact h1
 rw[hp] at h1; cases h1
def Sim.grown{E:Env}{j j':aS}{m m':Vo}{w w':UC}(s:Sim E j m w j' m' w')(h:MR E j m w)(hwl:m.next<=m'.wl):∀c,c<w.heap.size->w'.heap[c]? = w.heap[c]? :=
 fun c hc=>s.frame c hc fun b k hb _ _=>Sj (h.lt b k hb).1 hwl
def q9{E:Env}{w w':UC}(h1:jb E w w')(h2:∀c,c<w.heap.size->w'.heap[c]? = w.heap[c]?)(may:MemPlace->Prop):w.keptBut w' may:=by
 refine World.keptBut_mono (fun _ f=>f.elim) (?_:w.keptBut w' fun _=>False);refine⟨h1.1,h1.2.1,fun i hi=>?_⟩;rw[h2 i hi];exact(World.keptBut_refl w (fun _=>False)).2.2 i hi
def Eo(n:Nat)(gs:Nat->Option (List Uy)):Vo:={ next:=n,wl:=n,objs:=.nil,base:=fun b=>(gs b).map fun cs=>.cells cs .ro}
def DD(n:Nat):aS:=fun b=>if b<n then some ⟨b,none⟩ else none
def KJ{E:Env}{n:Nat}{gs:Nat->Option (List Uy)}{W:UC}(hn:E.glob<=n)(hW:n<=W.heap.size)
  (hg:∀b cs,gs b=some cs->b<n->∃c t fz,W.heap[b]? = some (.cells c t fz)/\LR (DD n) cs c.toList):MR E (DD n) (Eo n gs) W:=by
 have hj:∀b k,DD n b=some k->b<n/\k=⟨b,none⟩:=by
  intro b k h;unfold DD at h
  split at h
  cases h; exact⟨by assumption,rfl⟩
  cases h
 refine⟨fun b k h=>?_,fun b o k hget h=>?_,fun b b' k k' h h' _ _ he=>?_,fun g hgl=>?_⟩
 obtain⟨h1,rfl⟩:=hj b k h;exact⟨h1,Sj h1 hW⟩
 obtain⟨h1,rfl⟩:=hj b k h;have hget':(gs b).map (fun cs=>Vq.cells cs .ro)=some o:=by simpa [Vo.get,Eo,Heap.get_nil] using hget
 obtain⟨cs,e1,rfl⟩:=map_some hget';obtain⟨c,t,fz,h2,h3⟩:=hg b cs e1 h1;refine⟨_,h2,⟨⟨rfl,by have:=h3.1; simpa using this.symm⟩,fun i v hi=>?_⟩⟩
 obtain⟨v',h4,h5⟩:=h3.get hi;exact⟨v',by simpa using h4,h5⟩
 obtain⟨_,rfl⟩:=hj b k h;obtain⟨_,rfl⟩:=hj b' k' h';exact he
 unfold DD;rw[UG]
structure Grown(m m1:Vo):Prop where
 next:m.next<=m1.next
 same:∀b,b<m.next->m1.get b=m.get b
 wl:m.next<=m1.wl
section
variable{E:Env}{j j1:aS}{m m1:Vo}{w w1:UC}
def MR.env{E E':Env}(hg:E'.glob=E.glob)(h:MR E j m w):MR E' j m w:=⟨h.lt,h.obj,h.inj,fun g hl=>h.glob g (hg▸hl)⟩
def Sim.env{E E':Env}{m':Vo}{w':UC}{j':aS}(hg:E'.glob=E.glob)(hm:E'.mono->E.mono)(s:Sim E j m w j' m' w'):Sim E' j m w j' m' w' :=
 ⟨s.ext,s.le,s.new,s.mr.env hg,s.size,s.full,s.away,s.fresh,s.frame,s.calm.1,s.calm.2.1,s.calm.2.2.1,fun e=>s.calm.2.2.2 (hm e)⟩
def Sim.old(h:MR E j m w)(s:Sim E j { m with wl:=m.next} w j1 m1 w1)(g:Grown m m1):∀c,c<w.heap.size->w1.heap[c]? = w.heap[c]? :=
 fun c hc=>s.frame c hc fun b k hb _ _=>Sj (h.lt b k hb).1 g.wl
def MR.after(h:MR E j m w)(s:Sim E j { m with wl:=m.next} w j1 m1 w1)(g:Grown m m1):MR E j m w1 where
 lt:=fun b k hb=>⟨(h.lt b k hb).1,Sj (h.lt b k hb).2 s.size⟩
 obj:=fun b o k ho hb=>by
  obtain⟨o',h1,h2⟩:=h.obj b o k ho hb;exact⟨o',(s.old h g k.c (h.lt b k hb).2).trans h1,h2⟩
 inj:=h.inj
 glob:=h.glob
def Sim.forget(h:MR E j m w)(s:Sim E j { m with wl:=m.next} w j1 m1 w1)(g:Grown m m1):Sim E j m w j m w1 where
 ext:=.refl m
 le:=.refl j
 new:=fun b k h h'=>by simp[h'] at h
 mr:=h.after s g
 size:=s.size
 full:=fun b h h' _=>Ss h (by omega)
 away:=fun _ _ _=>rfl
 fresh:=fun b k h h'=>by simp[h'] at h
 frame:=fun c hc _=>s.old h g c hc
 calm:=s.calm
def VR.Dc{j j':aS}{v v':Uy}(hp:Ab.bL v=true)(h:VR j' v v'):VR j v v':=by
 unfold Ab.bL at hp
 split at hp
 ·cases h with
  | agg hs ha =>
   refine .agg hs fun i a b=>?_;have hpi:=Si.1 hp _ (SB (l:=Array.toList _) (by simpa using a))
   simp only[Array.getElem_toList] at hpi;have:=fV hpi (ha i a b);rw[this]; exact .aU hpi
 ·cases h with
  | tuple hs ha =>
   refine .tuple hs fun i a b=>?_;have hpi:=Si.1 hp _ (SB (l:=Array.toList _) (by simpa using a))
   simp only[Array.getElem_toList] at hpi;have:=fV hpi (ha i a b);rw[this]; exact .aU hpi
 have:=fV hp h;rw[this]; exact .aU hp
def mu{P:UB}{pr pr':Bool}{f:FuncId}{args:Array Uy}{w:UC}{R R':Uy->UC->Prop}(hp:pr=true->pr'=true)(h:gI P pr f args w R)(hR:∀v w',R v w'->R' v w'):gI P pr' f args w R':=by
 rcases h with⟨h1,h2⟩|⟨h1,v,w',h2,h3⟩
 exact .inl ⟨h1,h2.mono fun e w' ⟨v,he,hv⟩=>⟨v,he,hR v w' hv⟩⟩
 exact .inr ⟨hp h1,v,w',h2,hR v w' h3⟩
end
def Vo.ww(m:Vo)(x:Nat):Vo:={ m with wl:=x}
section
variable{E:Env}{n:Nat}{fn:FuncId}{ro:Option Nat}{Q:Vp->Tm->Vo->Prop}{t:Tm}{m:Vo}{P:UB}
@[simp] theorem Vo.get_ww (m:Vo) (x b:Nat):(m.ww x).get b=m.get b:=rfl
@[simp] theorem Vo.next_ww (m:Vo) (x:Nat):(m.ww x).next=m.next:=rfl
@[simp] theorem Vo.wl_ww (m:Vo) (x:Nat):(m.ww x).wl=x:=rfl
def gM(b:Bool)(A B:Prop):Prop:=if b then A else B
def vM{α:Type}(r:Option α)(K:α->Prop):Prop :=
 match r with
 | some v=>K v
 | none=>False
def dP{α:Type}(v:α)(K:α->Prop):vM (some v) K=K v:=rfl
def vv(c a b:Option Uy)(K:Uy->Prop):Prop :=
 match c with
 | some (.bool true)=>vM a K
 | some (.bool false)=>vM b K
 | _=>False
def Aw(a b:Option Uy)(K:Uy->Prop):vv (some (.bool true)) a b K=vM a K:=rfl
def yG(a b:Option Uy)(K:Uy->Prop):vv (some (.bool false)) a b K=vM b K:=rfl
@[congr] theorem gM_congr {b b':Bool} {A B:Prop} (h:b=b'):gM b A B=gM b' A B:=by rw[h]
@[congr] theorem vM_congr {α:Type} {r r':Option α} {K:α->Prop} (h:r=r'):vM r K=vM r' K:=by rw[h]
@[congr] theorem pickM_congr {c c' a b:Option Uy} {K:Uy->Prop} (h:c=c'):vv c a b K=vv c' a b K:=by rw[h]
@[congr] theorem valM_congr {r r':Option (Uy×Vo)} {K:Uy->Vo->Prop} (h:r=r'):eX r K=eX r' K:=by rw[h]
@[congr] theorem tmM_congr {r:Option Tm} {K:Tm->Prop}:Ib r K=Ib r K:=rfl
@[congr] theorem callM_congr {f f':Option Uy} {ars ars':Option (List Uy)} {K:Uy->Vo->Prop} (h:f=f') (h':ars=ars'):kq E f ars m K=kq E f' ars' m K:=by rw[h,h']
@[congr] theorem callA_congr {f:FuncId} {ars ars':List Uy} {K:Uy->Vo->Prop} (h:ars=ars'):aC E f ars m K=aC E f ars' m K:=by rw[h]
@[congr] theorem operM_congr {o:Op} {K:Uy->Vo->Prop}:bo E t m o K=bo E t m o K:=rfl
@[congr] theorem wantedA_congr {ops:Array Oper} {o:Oper}:cg ops o t=cg ops o t:=rfl
@[congr] theorem opsM_congr {ops:Array Oper} {K:Tm->Vo->Prop} {os:List Oper}:oB E n ops K os t m=oB E n ops K os t m:=rfl
@[congr] theorem notedM_congr {ops:Array Oper} {K:Tm->Vo->List Note->Prop} {os:List Oper} {ns:List Note}:xx E n ops K os t m ns=xx E n ops K os t m ns:=rfl
@[congr] theorem codeA_congr {c:Code}:cp E n fn ro c Q t m=cp E n fn ro c Q t m:=rfl
def Hj{ops:Array Oper}{d:Option Tmp}{o:Op}{ty:Uz}{p:String}{a:Array Edge}{j:Nat}{b:Bool}:cg ops ⟨d,o,ty,p,a,some (j,b)⟩ t=(match fy ops t j with|some c=>c==b|none=>false):=rfl
section
variable{K:Uy->Vo->Prop}
def Kq{x:UA}:bo E t m (.move x) K=vM (aw E t x) fun v=>K v m:=by show eX ((aw E t x).map _) K=_; cases aw E t x<;>rfl
def Ee{x:UA}:bo E t m (.assign x) K=vM (aw E t x) fun v=>K v m:=by show eX ((aw E t x).map _) K=_; cases aw E t x<;>rfl
def Cl{c a b:UA}:bo E t m (.pick c a b) K=vv (aw E t c) (aw E t a) (aw E t b) fun v=>K v m:=by
 show eX (match aw E t c with|some (.bool true)=>(aw E t a).map fun v=>(v,m)|some (.bool false)=>(aw E t b).map fun v=>(v,m)|_=>none) K=_
 unfold vv
 split
 cases aw E t a<;>rfl
 cases aw E t b<;>rfl
 rfl
def Mt{e:Uz}{x:UA}:bo E t m (.box e x) K=vM (aw E t x) fun v=>K (ptr m.next 0) (m.alloc (.cells v.cells.toList .own)):=by show eX ((aw E t x).map _) K=_; cases aw E t x<;>rfl
def JI{e:Uz}{x:UA}:bo E t m (.load e x) K=vM (aw E t x) fun p=>vM (ee E.P e p m) fun v=>K v m:=by
 show eX (match aw E t x with|some p=>(ee E.P e p m).map fun v=>(v,m)|none=>none) K=_
 cases aw E t x with
 | none=>rfl
 | some p=>show eX ((ee E.P e p m).map _) K=vM (ee E.P e p m) _; cases ee E.P e p m<;>rfl
def G5{e:Uz}{x y:UA}:bo E t m (.store e x y) K=vM (aw E t x) fun p=>vM (aw E t y) fun v=>vM (gG E.P e p v m) fun m'=>K undef m':=by
 show eX (match aw E t x,aw E t y with|some p,some v=>(gG E.P e p v m).map fun m'=>(undef,m')|_,_=>none) K=_
 cases aw E t x with
 | none=>rfl
 | some p=>cases aw E t y with
  | none=>rfl
  | some v=>show eX ((gG E.P e p v m).map _) K=vM (gG E.P e p v m) _; cases gG E.P e p v m<;>rfl
def Ga{b:BinOp}{e e':Uz}{x y:UA}:bo E t m (.binOp b e x y e') K=vM (aw E t x) fun p=>vM (aw E t y) fun v=>vM (cb b e E.P p v) fun r=>K r m:=by
 show eX (match aw E t x,aw E t y with|some p,some v=>(cb b e E.P p v).map fun v=>(v,m)|_,_=>none) K=_
 cases aw E t x with
 | none=>rfl
 | some p=>cases aw E t y with
  | none=>rfl
  | some v=>show eX ((cb b e E.P p v).map _) K=vM (cb b e E.P p v) _; cases cb b e E.P p v<;>rfl
def Kp{b:UnOp}{e:Uz}{x:UA}:bo E t m (.unOp b e x) K=vM (aw E t x) fun p=>vM (EA b p) fun r=>K r m:=by
 show eX (match aw E t x with|some p=>(EA b p).map fun v=>(v,m)|none=>none) K=_
 cases aw E t x with
 | none=>rfl
 | some p=>show eX ((EA b p).map _) K=vM (EA b p) _; cases EA b p<;>rfl
def BG{e e':Uz}{x:UA}:bo E t m (.convert e e' x) K=vM (aw E t x) fun p=>vM (ko E.P e e' p) fun r=>K r m:=by
 show eX (match aw E t x with|some p=>(ko E.P e e' p).map fun v=>(v,m)|none=>none) K=_
 cases aw E t x with
 | none=>rfl
 | some p=>show eX ((ko E.P e e' p).map _) K=vM (ko E.P e e' p) _; cases ko E.P e e' p<;>rfl
def vI{e:Uz}{x:UA}{f:Nat}:bo E t m (.fieldAddr e x f) K=vM (aw E t x) fun p=>vM (aF E.P e p f) fun r=>K r m:=by
 show eX (match aw E t x with|some p=>(aF E.P e p f).map fun v=>(v,m)|none=>none) K=_
 cases aw E t x with
 | none=>rfl
 | some p=>show eX ((aF E.P e p f).map _) K=vM (aF E.P e p f) _; cases aF E.P e p f<;>rfl
def Ih{e:Uz}{x:UA}{f:Nat}:bo E t m (.field e x f) K=vM (aw E t x) fun p=>vM (iz E.P e p f) fun r=>K r m:=by
 show eX (match aw E t x with|some p=>(iz E.P e p f).map fun v=>(v,m)|none=>none) K=_
 cases aw E t x with
 | none=>rfl
 | some p=>show eX ((iz E.P e p f).map _) K=vM (iz E.P e p f) _; cases iz E.P e p f<;>rfl
def wm{e:Uz}{x y:UA}:bo E t m (.indexAddr e x y) K=vM (aw E t x) fun p=>vM (aw E t y) fun v=>vM (cA E.P e p v) fun r=>K r m:=by
 show eX (match aw E t x,aw E t y with|some p,some v=>(cA E.P e p v).map fun v=>(v,m)|_,_=>none) K=_
 cases aw E t x with
 | none=>rfl
 | some p=>cases aw E t y with
  | none=>rfl
  | some v=>show eX ((cA E.P e p v).map _) K=vM (cA E.P e p v) _; cases cA E.P e p v<;>rfl
def GI{e:Uz}{x y:UA}:bo E t m (.index e x y) K=vM (aw E t x) fun p=>vM (aw E t y) fun v=>vM (gL E.P e p v) fun r=>K r m:=by
 show eX (match aw E t x,aw E t y with|some p,some v=>(gL E.P e p v).map fun v=>(v,m)|_,_=>none) K=_
 cases aw E t x with
 | none=>rfl
 | some p=>cases aw E t y with
  | none=>rfl
  | some v=>show eX ((gL E.P e p v).map _) K=vM (gL E.P e p v) _; cases gL E.P e p v<;>rfl
def AU{x:UA}{i:Nat}{vs:Array Uy}(h:aw E t x=some (.tuple vs)):bo E t m (.extract x i) K=vM vs[i]? fun r=>K r m:=by
 show eX (match aw E t x with|some (.tuple vs)=>(vs[i]?).map fun v=>(v,m)|_=>none) K=_
 rw[h]
 show eX ((vs[i]?).map _) K=_
 cases vs[i]?<;>rfl
def Ha{e:Uz}{x:UA}{a b c:Option UA}{v:Uy}{l h k:Option Uy}(h1:aw E t x=some v)(h2:dW E t a=some l)(h3:dW E t b=some h)(h4:dW E t c=some k):bo E t m (.slice e x a b c) K=vM (cf E.P e v l h k m) fun r=>K r m:=by
 show eX (match aw E t x,dW E t a,dW E t b,dW E t c with|some v,some l,some h,some k=>(cf E.P e v l h k m).map fun v=>(v,m)|_,_,_,_=>none) K=_
 rw[h1,h2,h3,h4]
 show eX ((cf E.P e v l h k m).map _) K=_
 cases cf E.P e v l h k m<;>rfl
def Gg{e:Uz}:bo E t m (.alloc e) K=eX (fq E t m (.alloc e)) K:=rfl
def zG{f:FuncId}{a b:Array UA}:bo E t m (.makeFunc (.func f) a b) K=vM (bG E t a.toList) fun fs=>vM (bG E t b.toList) fun cs=>K (.func (.func f) fs.toArray cs.toArray) m:=by
 show eX (match bG E t a.toList,bG E t b.toList with|some fs,some cs=>some (.func (.func f) fs.toArray cs.toArray,m)|_,_=>none) K=_
 cases bG E t a.toList with
 | none=>rfl
 | some fs=>cases bG E t b.toList<;>rfl
def AT{e:Uz}:bo E t m (.makeMap e none) K=K (.map (some m.next)) (m.alloc (.map [])):=rfl
def Bn{b:Builtin}{a:Array UA}{ts:Array Uz}:bo E t m (.call ⟨.builtin b,a,ts⟩) K=vM (bG E t a.toList) fun vs=>eX (bj E.P b ts vs m) K:=by
 show eX (match bG E t a.toList with|some vs=>bj E.P b ts vs m|none=>none) K=_
 cases bG E t a.toList<;>rfl
end
def Mf{ty len elem w b o i:Nat}{kd:IntKind}(hu:P.underlying ty=some (.array len elem))(hk:known P elem=true)(hs:aH P elem=w)(hi:i<len):cA P ty (ptr b o) (.int kd (i:Int))=some (ptr b (o+i*w)):=by
 have hd:decide ((0:Int)<=(i:Int)/\(i:Int)<(len:Nat))=true:=by simp; omega
 simp only[cA,ptr,hu,hk,hd,Tu,if_true,hs,Sv]
def KZ{ty b o:Nat}{cs:List Uy}{tag:Tag}{v:Uy}(hk:known P ty=true)(ha:dY P ty=false)(hg:m.get b=some (.cells cs tag))(hv:cs[o]? = some v):ee P ty (ptr b o) m=some v:=by
 simp only[ee,ptr,hk,ha,hg,SM,Sw,if_false,hv]
def J0{ty b o w:Nat}{cs l:List Uy}{tag:Tag}(hk:known P ty=true)(ha:dY P ty=true)(hs:aH P ty=w)(hg:m.get b=some (.cells cs tag))(hl:(cs.drop o).take w=l)(hw:l.length=w):ee P ty (ptr b o) m=some (.agg l.toArray):=by
 simp only[ee,ptr,hk,ha,hs,SM,Sw,if_false,if_true,Vo.eu,hg,hl,hw,Sq]
end
def wrap_i64(n:Int)(h1 : -9223372036854775808<=n)(h2:n<=9223372036854775807):IntKind.i64.wrap n=n:=by
 unfold IntKind.wrap IntKind.bits IntKind.signed;simp only;rw[show((2:Int) ^ 64)=18446744073709551616 by rfl,show((2:Int) ^ (64-1))=9223372036854775808 by rfl]
 split
 rename_i h; simp at h; omega
 rename_i h; simp at h; omega
structure Pick(α:Type) where
 run:F8 α->α
structure Upd(α:Type) where
 run:F8 α->(α->(α->Bool)->Bool)->(F8 α->Bool)->Bool
structure Get where
 run:Tm->(Uy->Bool)->Bool
structure JB where
 run:Tm->Uy->(Tm->Bool)->Bool
structure OpSem where
 run:Tm->Vo->(Uy->Vo->Bool)->Bool
section
variable{E:Env}{t:Tm}{m:Vo}
structure Gets where
 run:Tm->(List Uy->Bool)->Bool
structure Parts where
 run:Tm->(List (Nat×Uy)->Bool)->Bool
structure OptGet where
 run:Tm->(Option Uy->Bool)->Bool
structure BinSem where
 run:Uy->Uy->(Uy->Bool)->Bool
structure UnSem where
 run:Uy->(Uy->Bool)->Bool
structure LoadSem where
 run:Uy->Vo->(Uy->Bool)->Bool
structure StoreSem where
 run:Uy->Uy->Vo->(Vo->Bool)->Bool
structure AddrSem where
 run:Uy->(Uy->Bool)->Bool
structure IdxSem where
 run:Uy->Uy->(Uy->Bool)->Bool
structure AppSem where
 run:Uy->Uy->Vo->(Uy->Vo->Bool)->Bool
end
structure Look where
 run:Uy->Uy->Vo->(Uy->Bool)->Bool
structure MapUp where
 run:Uy->Uy->Uy->Vo->(Vo->Bool)->Bool
structure Hand where
 call:FuncId->List Uy->Vo->(Uy->Vo->Bool)->Bool
 round:Nat->List Uy->Vo->(Uy->Vo->Bool)->Bool
structure OperSem where
 run:Hand->Tm->Vo->(Uy->Vo->Bool)->Bool
def KE{t:Tm}{d:Nat}{b:Bool}(h:t.at d=.bool b):t.get d=some (.bool b):=by
 unfold Tm.at at h;cases hg:Trie.get t d with
 | none=>rw[hg] at h; cases h
 | some v=>rw[hg] at h; exact SK some h
structure Guard where
 run:Tm->Bool->Bool->Bool
structure RegSem where
 run:Hand->Tm->Vo->(Tm->Vo->Bool)->Bool
structure NoteSem where
 run:Hand->Tm->Vo->List Note->(Tm->Vo->List Note->Bool)->Bool
structure Sem where
 run:Hand->Option Nat->Tm->Vo->(Vp->Tm->Vo->Bool)->Bool
section
variable{E:Env}{n:Nat}{fn:FuncId}{ro:Option Nat}{Q:Vp->Tm->Vo->Prop}{t:Tm}{m:Vo}
end
structure ResSem where
 run:Tm->Vo->(List Uy->Bool)->Bool
structure FunSem where
 run:Hand->List Uy->Vo->(Uy->Vo->Bool)->Bool
structure PSem where
 run:List Uy->Vo->(Uy->Vo->Bool)->Bool
def aC.cZ{E:Env}{f:FuncId}{p:Prim}{args:List Uy}{m m':Vo}{v:Uy}{R:Uy->Vo->Prop}(hp:E.cZ f=some p)(h:p.run args m=some (v,m'))(hR:R v m'):aC E f args m R:=by
 have hpa:vy E f args m=some (v,m'):=by
  unfold vy;rw[hp];exact h
 exact⟨v,m',bK (k:=0) (by simp only[step,hpa]),hR⟩
section
variable{E:Env}{n:Nat}{t:Tm}{m:Vo}{K:Tm->Vo->Prop}{ops:Array Oper}{os:List Oper}{ty:Uz}{p:String}{af:Array Edge}{d:Nat}
variable{L:Tm->Vo->List Note->Prop}{ns:List Note}
variable{a b r v:Uy}{x y:UA}{e e':Uz}
def M7(h:aw E t x=some v)(K':Uy->Vo->Prop):bo E t m (.move x) K'=K' v m:=by rw[Kq,h]; rfl
def H3(h:aw E t x=some v)(K':Uy->Vo->Prop):bo E t m (.assign x) K'=K' v m:=by rw[Ee,h]; rfl
def Kk{c:UA}(hc:aw E t c=some (.bool true))(h:aw E t x=some v)(K':Uy->Vo->Prop):bo E t m (.pick c x y) K'=K' v m:=by rw[Cl,hc,Aw,h]; rfl
def Jp{c:UA}(hc:aw E t c=some (.bool false))(h:aw E t y=some v)(K':Uy->Vo->Prop):bo E t m (.pick c x y) K'=K' v m:=by rw[Cl,hc,yG,h]; rfl
def P1(h:aw E t x=some v)(K':Uy->Vo->Prop):bo E t m (.box e x) K'=K' (ptr m.next 0) (m.alloc (.cells v.cells.toList .own)):=by rw[Mt,h]; rfl
def Pw{op:BinOp}(h:aw E t x=some a)(h':aw E t y=some b)(hr:cb op e E.P a b=some r)(K':Uy->Vo->Prop):bo E t m (.binOp op e x y e') K'=K' r m:=by rw[Ga,h,dP,h',dP,hr]; rfl
def AA{op:UnOp}(h:aw E t x=some a)(hr:EA op a=some r)(K':Uy->Vo->Prop):bo E t m (.unOp op e x) K'=K' r m:=by rw[Kp,h,dP,hr]; rfl
def NY(h:aw E t x=some a)(hr:ko E.P e e' a=some r)(K':Uy->Vo->Prop):bo E t m (.convert e e' x) K'=K' r m:=by rw[BG,h,dP,hr]; rfl
def Gn(h:aw E t x=some a)(hr:ee E.P e a m=some r)(K':Uy->Vo->Prop):bo E t m (.load e x) K'=K' r m:=by rw[JI,h,dP,hr]; rfl
def Kg{m':Vo}(h:aw E t x=some a)(h':aw E t y=some b)(hr:gG E.P e a b m=some m')(K':Uy->Vo->Prop):bo E t m (.store e x y) K'=K' undef m':=by rw[G5,h,dP,h',dP,hr]; rfl
def Ah{f:Nat}(h:aw E t x=some a)(hr:aF E.P e a f=some r)(K':Uy->Vo->Prop):bo E t m (.fieldAddr e x f) K'=K' r m:=by rw[vI,h,dP,hr]; rfl
def JM{f:Nat}(h:aw E t x=some a)(hr:iz E.P e a f=some r)(K':Uy->Vo->Prop):bo E t m (.field e x f) K'=K' r m:=by rw[Ih,h,dP,hr]; rfl
def yr(h:aw E t x=some a)(h':aw E t y=some b)(hr:cA E.P e a b=some r)(K':Uy->Vo->Prop):bo E t m (.indexAddr e x y) K'=K' r m:=by rw[wm,h,dP,h',dP,hr]; rfl
def Jt(h:aw E t x=some a)(h':aw E t y=some b)(hr:gL E.P e a b=some r)(K':Uy->Vo->Prop):bo E t m (.index e x y) K'=K' r m:=by rw[GI,h,dP,h',dP,hr]; rfl
def Di{i:Nat}{vs:Array Uy}(h:aw E t x=some (.tuple vs))(hr:vs[i]? = some r)(K':Uy->Vo->Prop):bo E t m (.extract x i) K'=K' r m:=by rw[AU h,hr]; rfl
def np{l h k:Option UA}{l' h' k':Option Uy}(h1:aw E t x=some a)(h2:dW E t l=some l')(h3:dW E t h=some h')(h4:dW E t k=some k')(hr:cf E.P e a l' h' k' m=some r)(K':Uy->Vo->Prop):bo E t m (.slice e x l h k) K'=K' r m:=by rw[Ha h1 h2 h3 h4,hr]; rfl
def Ja{z:Uy}(hz:bu E.P e=some z)(hp:bL z=true)(K':Uy->Vo->Prop):bo E t m (.alloc e) K'=K' (ptr m.next 0) (m.alloc (.cells z.cells.toList .own)):=by
 rw[Gg]; simp only[fq,hz,hp,if_true]; rfl
def dD{bi:Builtin}{ars:Array UA}{ts:Array Uz}{vs:List Uy}{m':Vo}(h:bG E t ars.toList=some vs)(hr:bj E.P bi ts vs m=some (r,m'))(K':Uy->Vo->Prop):bo E t m (.call ⟨.builtin bi,ars,ts⟩) K'=K' r m':=by rw[Bn,h,dP,hr]; rfl
def LN{op:Op}{m':Vo}(hc:oR op=none)(hr:fq E t m op=some (r,m'))(K':Uy->Vo->Prop):bo E t m op K'=K' r m':=by
 unfold bo; rw[hc]; simp only[hr]; rfl
def Rb{ops:Array Oper}{t:Tm}{dst:Option Tmp}{o:Op}{ty:Uz}{p:String}{a:Array Edge}{j d:Nat}{b c:Bool}(hd:(ops[j]?).bind (·.dst)=some d)(h:t.at d=.bool c):cg ops ⟨dst,o,ty,p,a,some (j,b)⟩ t=(c==b):=by
 rw[Hj]; unfold fy; rw[hd]; simp only[KE h]
end
section
variable{E:Env}{n:Nat}{fn:FuncId}{ro:Option Nat}{Q:Vp->Tm->Vo->Prop}{t:Tm}{m:Vo}{w:Nat}
def jj(E:Env)(n:Nat)(ops:Array Oper)(K:Tm->Vo->Prop):List Oper->Tm->Vo->Nat->Prop
 | [],t,m,w=>K t (m.ww w)
 | o::os,t,m,w =>
  if cg ops o t then(∀b,aQ E t o.op=some b->b<m.next)/\bo E t (m.ww m.next) o.op fun v m'=>Ib (jQ n t o.dst v) fun t'=>jj E n ops K os t' m' (min w m'.wl)
  else Ib (jQ n t o.dst undef) fun t'=>jj E n ops K os t' m w
def u6{r:Option Nat}{x y:Nat}{z:Option Nat}{u:Nat->Bool}(h:∀b,r=some b->b<y):fM { read:=r,wl:=x,next:=y,wrote:=z,kept:=u}=true:=by
 cases r with
 | none=>rfl
 | some b =>
  have:=h b rfl
  show Nat.blt b y=true
  rw[Uc]; exact this
def ou{ops:Array Oper}{K:Tm->Vo->Prop}:∀{os:List Oper} {t:Tm} {m:Vo} {w:Nat} {ns:List Note},jj E n ops K os t m w->ns.all fM=true->iB E n ops (fun t m ns=>ns.all fM=true/\K t m) os t (m.ww w) ns
 | [],t,m,w,ns,h,hn=>⟨by simpa using hn,h⟩
 | o::os,t,m,w,ns,h,hn=>by
  simp only[jj] at h;simp only[iB]
  split at h
  ·rename_i hw;rw[R7 hw];obtain⟨h1,h2⟩:=h;refine h2.A.mono fun v m' hv=>?_;obtain⟨t',hp,h3⟩:=hv.A;refine⟨t',hp,?_⟩;have:=ou (ns:={ read:=aQ E t o.op,wl:=m'.wl,next:=m.next,wrote:=fb E t o.op,kept:=iX m m'}::ns) h3 (by rw[TZ,hn,Bool.and_true]; exact u6 h1)
   exact this
  rename_i hw;rw[R6 hw];obtain⟨t',hp,h2⟩:=h.A;exact⟨t',hp,ou h2 (by rw[TZ,hn]; rfl)⟩
def cp.Qj{id:Nat}{ops:Array Oper}(hp:kA ops=some [])(h:∀K:Tm->Vo->Prop,(∀t m,Q .normal t m->K t m)->jj E n ops K ops.toList t m m.wl):cp E n fn ro (.region id ops true) Q t m:=by
 refine .draw hp ?_;have h1:=ou (ns:=[]) (h (fun t m=>Q .normal t m) fun _ _ h=>h) rfl;have mono:∀{os:List Oper} {t:Tm} {m:Vo} {ns:List Note},iB E n ops (fun t m ns=>ns.all fM=true/\Q .normal t m) os t m ns->iB E n ops (fun t m ns=>(([]:List (Nat×Nat)).all (dQ ns ops)&&ns.all fM)=true/\Q .normal t m) os t m ns:=by
  intro os t m ns h
  simpa using h
 exact mono h1
variable{K:Tm->Vo->Prop}{ops:Array Oper}{os:List Oper}{ty:Uz}{p:String}{af:Array Edge}{d:Nat}{g:Option (Nat×Bool)}{v a b r:Uy}{x y:UA}{e:Uz}
def J1{xs:List UA}{vs:List Uy}(h:aw E t x=some v)(hs:bG E t xs=some vs):bG E t (x::xs)=some (v::vs):=by simp only[bG,h,hs]
end
end Go.Ab
namespace Go.Ab.W
open Go Go.Ab
abbrev Fs:=List (Nat×Uy)
def lk:Fs->Nat->Option Uy
 | [],_=>none
 | p::l,i=>match Nat.beq p.1 i with
  | true=>some p.2
  | false=>lk l i
def Fr(t:Tm)(fs:Fs):Prop:=∀i v,lk fs i=some v->t.at i=v
def Fr.nil(t:Tm):Fr t []:=fun i v h=>by cases h
def Fr.set{t:Tm}{fs:Fs}{d:Nat}{v:Uy}(h:Fr t fs):Fr (Trie.set t d v) ((d,v)::fs):=by
 intro i x hx;unfold lk at hx;rw[at_set]
 split at hx
 rename_i e;have:d=i:=Td e;rw[R7 this.symm]; exact R9 hx
 rename_i e;have:d≠i:=Ug e;rw[R6 (Ne.symm this)]; exact h i x hx
def sub(fs:Fs):Fs->Prop
 | []=>True
 | p::l=>lk fs p.1=some p.2/\sub fs l
def Fr.sub{t:Tm}{fs:Fs}:∀{fs':Fs},Fr t fs->sub fs fs'->Fr t fs'
 | [],_,_=>Fr.nil t
 | p::l,h,hs=>by
  intro i v hv;unfold lk at hv
  split at hv
  rename_i e;have:p.1=i:=Td e;subst this;cases hv;exact h _ _ hs.1
  exact Fr.sub h hs.2 i v hv
def ev(E:Env)(fs:Fs):UA->Option Uy
 | .tmp i=>lk fs i
 | .const v=>match bL v with
  | true=>some v
  | false=>none
 | .global g=>match Nat.blt g E.glob with
  | true=>some (ptr g 0)
  | false=>none
 | .func f=>some (.func (.func f) #[] #[])
def gw(E:Env)(fs:Fs):List UA->Option (List Uy)
 | []=>some []
 | x::xs=>match ev E fs x with
  | some v=>match gw E fs xs with
   | some vs=>some (v::vs)
   | none=>none
  | none=>none
def iY(E:Env)(fs:Fs):Option UA->Option (Option Uy)
 | none=>some none
 | some x=>match ev E fs x with
  | some v=>some (some v)
  | none=>none
def IM(E:Env)(fs:Fs):List (Nat×UA)->Option (List (Nat×Uy))
 | []=>some []
 | x::xs=>match ev E fs x.2 with
  | some v=>match IM E fs xs with
   | some vs=>some ((x.1,v)::vs)
   | none=>none
  | none=>none
section
variable{E:Env}{t:Tm}{fs:Fs}
def Fr.ev(h:Fr t fs):∀{x:UA} {v:Uy},ev E fs x=some v->aw E t x=some v
 | .tmp i,v,e=>by show some (t.at i)=some v; rw[h i v e]
 | .const c,v,e=>by
  simp only[Go.Ab.W.ev] at e
  split at e
  rename_i hp; cases e; simp only[aw]; rw[R7 hp]
  cases e
 | .global g,v,e=>by
  simp only[Go.Ab.W.ev] at e
  split at e
  rename_i hp; cases e; simp only[aw]; rw[R7 (by rwa[Uc] at hp)]
  cases e
 | .func f,v,e=>by simp only[Go.Ab.W.ev] at e; exact e
def Fr.gw(h:Fr t fs):∀{xs:List UA} {vs:List Uy},gw E fs xs=some vs->bG E t xs=some vs
 | [],vs,e=>by simp only[Go.Ab.W.gw] at e; exact e
 | x::xs,vs,e=>by
  simp only[Go.Ab.W.gw] at e
  split at e
  rename_i v hv
  split at e
  rename_i ws hw;cases e;exact J1 (h.ev hv) (Fr.gw h hw)
  cases e
  cases e
def Fr.iY(h:Fr t fs):∀{x:Option UA} {v:Option Uy},iY E fs x=some v->dW E t x=some v
 | none,v,e=>by simp only[Go.Ab.W.iY] at e; exact e
 | some x,v,e=>by
  simp only[Go.Ab.W.iY] at e
  split at e
  rename_i w hw; cases e; simp only[dW]; rw[h.ev hw]; rfl
  cases e
def Fr.IM(h:Fr t fs):∀{xs:List (Nat×UA)} {vs:List (Nat×Uy)},IM E fs xs=some vs->eA E t xs=some vs
 | [],vs,e=>by simp only[Go.Ab.W.IM] at e; exact e
 | x::xs,vs,e=>by
  simp only[Go.Ab.W.IM] at e
  split at e
  rename_i v hv
  split at e
  rename_i ws hw;cases e;obtain⟨i,y⟩:=x;unfold eA;rw[h.ev hv,Fr.IM h hw]
  cases e
  cases e
end
def qd(m:Vo)(b o w:Nat)(es:Uv):Prop :=
 b<m.next/\∃all tg,m.get b=some (.cells all tg)/\(∀sz,tg=.more sz->sz=w)/\∀i e,es[i]? = some e->(all.drop (o+i*w)).take w=e/\e.length=w
def j4:Uw->Option Nat
 | some a=>some a.block
 | none=>none
def Rd(m:Vo)(a:Uw)(cap w n:Nat)(es:Uv):Prop :=
 es.length=n/\n<=cap/\((a=none/\n=0)\/(∃b sp,a=some ⟨b,0,some sp⟩/\n=0/\cap=0/\b<m.next)\/∃b o,a=some ⟨b,o,none⟩/\qd m b o w es)
def Rd.lt{m:Vo}{a:Uw}{cap w n:Nat}{es:Uv}(h:Rd m a cap w n es){b:Nat}(hb:j4 a=some b):b<m.next:=by
 rcases h.2.2 with⟨rfl,_⟩|⟨b',sp,rfl,_,_,h4⟩|⟨b',o,rfl,h4⟩
 cases hb
 cases hb; exact h4
 cases hb; exact h4.1
def BM(lo:Nat)(m:Vo)(b w n:Nat)(es:Uv)(tg:Tag):Prop :=
 lo<=b/\b<m.next/\m.get b=some (.cells es.flatten tg)/\es.length=n/\(∀e∈es,e.length=w)/\(tg=.own\/tg=.more w)/\0<w
structure GPc where
 ow:Nat->Prop
 rd:Nat->Prop
 P:Vo->Prop
 st:∀m m':Vo,P m->m.next<=m'.next->(∀b,ow b\/rd b->b<m.next->m'.get b=m.get b)->P m'
 lt:∀(m:Vo) b,P m->ow b\/rd b->b<m.next
 fr:Bool:=false
inductive Pc
 | obj (b:Nat) (o:Vq)
 | arr (b w n:Nat) (es:Uv) (tg:Tag)
 | sl (a:Uw) (w n:Nat) (es:Uv)
 | rd (a:Uw) (cap w n:Nat) (es:Uv)
 | ro (b o w n:Nat) (es:Uv)
 | gen (g:GPc)
def Pc.rB:Pc->Option Nat
 | .obj b _=>some b
 | .arr b _ _ _ _=>some b
 | .sl a _ _ _=>j4 a
 | .rd a _ _ _ _=>j4 a
 | .ro b _ _ _ _=>some b
 | .gen _=>none
def Pc.own:Pc->Bool
 | .obj _ _|.arr _ _ _ _ _|.sl _ _ _ _=>true
 | _=>false
def Pc.Rs:Pc->Nat->Prop
 | .gen g=>g.ow
 | _=>fun _=>False
def Pc.DR:Pc->Nat->Prop
 | .gen g=>fun b=>g.ow b\/g.rd b
 | _=>fun _=>False
def Pc.ow(p:Pc)(b:Nat):Prop:=(p.own=true/\p.rB=some b)\/p.Rs b
def Pc.any(p:Pc)(b:Nat):Prop:=p.rB=some b\/p.DR b
def Pc.ir{p:Pc}{b:Nat}(h:p.ow b):p.any b:=by
 rcases h with h|h
 exact .inl h.2
 ·cases p with
  | gen g=>exact .inr (.inl h)
  | _=>exact h.elim
def Pc.P4{p:Pc}{b:Nat}(ho:p.own=true)(hb:p.rB=some b):p.ow b:=.inl ⟨ho,hb⟩
def Pc.wT{p:Pc}{b:Nat}(ho:p.own=true)(h:p.any b):p.rB=some b:=by
 rcases h with h|h
 exact h
 ·cases p with
  | gen g=>cases ho
  | _=>exact h.elim
def Pc.ok(lo:Nat)(m:Vo):Pc->Prop
 | .obj b o=>lo<=b/\b<m.next/\m.get b=some o
 | .arr b w n es tg=>BM lo m b w n es tg
 | .sl a w n es=>(n=0/\es=[]/\a=none/\0<w)\/∃b tg,a=some ⟨b,0,none⟩/\BM lo m b w n es tg
 | .rd a cap w n es=>Rd m a cap w n es
 | .ro b o w n es=>es.length=n/\qd m b o w es
 | .gen g=>g.P m/\(g.fr=false->∀b,g.ow b->lo<=b)
def Pc.bound:Pc->Bool
 | .gen g=>!g.fr
 | _=>true
def Pc.apart(p q:Pc):Prop:=(∀b,p.ow b->q.any b->False)/\∀b,q.ow b->p.any b->False
structure Hp(m0 m:Vo)(ps:List Pc):Prop where
 ext:Ext m0 m
 ok:∀p∈ps,p.ok m0.next m
 apart:ps.Pairwise Pc.apart
def pk:List Pc->Nat->Option Pc
 | [],_=>none
 | p::_,0=>some p
 | _::l,k+1=>pk l k
def bS:List Pc->Nat->Pc->List Pc
 | [],_,_=>[]
 | _::l,0,p=>p::l
 | q::l,k+1,p=>q::bS l k p
def jF(p:Pc)(l:List Pc):pk (p::l) 0=some p:=rfl
def eL(p:Pc)(l:List Pc)(k:Nat):pk (p::l) (k+1)=pk l k:=rfl
def jv:∀{ps:List Pc} {k:Nat} {p:Pc},pk ps k=some p->p∈ps:=by
 intro ps
 induction ps with
 | nil=>intro k p h; simp[pk] at h
 | cons q l ih =>
  intro k p h;cases k with
  | zero=>rw[jF] at h; have:=R9 h; simp[this]
  | succ k=>rw[eL] at h; have:=ih h; simp[this]
def iO(q:Pc)(l:List Pc)(p:Pc):bS (q::l) 0 p=p::l:=rfl
def dT(q:Pc)(l:List Pc)(k:Nat)(p:Pc):bS (q::l) (k+1) p=q::bS l k p:=rfl
def uZ:∀{l:List Pc} {k:Nat} {p r:Pc},r∈bS l k p->r∈l\/r=p:=by
 intro l
 induction l with
 | nil=>intro k p r h; simp[bS] at h
 | cons a l ih =>
  intro k p r h;cases k with
  | zero =>
   rw[iO,Sx] at h;rcases h with h|h
   exact .inr h
   exact .inl (by simp[h])
  | succ k =>
   rw[dT,Sx] at h;rcases h with h|h
   exact .inl (by simp[h])
   rcases ih h with h1|h1
   exact .inl (by simp[h1])
   exact .inr h1
def qd.kK{m m':Vo}{b o w:Nat}{es:Uv}(h:qd m b o w es)(hn:m.next<=m'.next)(hg:m'.get b=m.get b):qd m' b o w es:=by
 obtain⟨h1,all,tg,h2,h3⟩:=h;exact⟨by omega,all,tg,by rw[hg]; exact h2,h3⟩
def BM.kK{lo:Nat}{m m':Vo}{b w n:Nat}{es:Uv}{tg:Tag}(h:BM lo m b w n es tg)(hn:m.next<=m'.next)(hg:m'.get b=m.get b):BM lo m' b w n es tg:=by
 obtain⟨h1,h2,h3,h4⟩:=h;exact⟨h1,by omega,by rw[hg]; exact h3,h4⟩
def Rd.kK{m m':Vo}{a:Uw}{cap w n:Nat}{es:Uv}(h:Rd m a cap w n es)(hn:m.next<=m'.next)(hg:∀b,j4 a=some b->b<m.next->m'.get b=m.get b):Rd m' a cap w n es:=by
 obtain⟨h1,h2,h4⟩:=h;refine⟨h1,h2,?_⟩;rcases h4 with h4|⟨b,sp,rfl,a1,a2,a3⟩|⟨b,o,rfl,h⟩
 exact .inl h4
 exact .inr (.inl ⟨b,sp,rfl,a1,a2,Sj a3 hn⟩)
 exact .inr (.inr ⟨b,o,rfl,h.kK hn (hg b rfl h.1)⟩)
def Pc.fS{lo:Nat}{m m':Vo}{p:Pc}(h:p.ok lo m)(hn:m.next<=m'.next)(hg:∀b,p.any b->b<m.next->m'.get b=m.get b):p.ok lo m':=by
 cases p with
 | obj b o=>exact⟨h.1,by have:=h.2.1; omega,by rw[hg b (.inl rfl) h.2.1]; exact h.2.2⟩
 | arr b w n es tg=>exact BM.kK h hn (hg b (.inl rfl) h.2.1)
 | sl a w n es =>
  rcases h with h|⟨b,tg,rfl,h⟩
  exact .inl h
  exact .inr ⟨b,tg,rfl,h.kK hn (hg b (.inl rfl) h.2.1)⟩
 | rd a cap w n es=>exact Rd.kK h hn fun b hb=>hg b (.inl hb)
 | ro b o w n es=>exact⟨h.1,h.2.kK hn (hg b (.inl rfl) h.2.1)⟩
 | gen g=>exact⟨g.st m m' h.1 hn fun b hb=>hg b (.inr hb),h.2⟩
def Pc.fL{lo:Nat}{m:Vo}{p:Pc}(h:p.ok lo m){b:Nat}(hb:p.any b):b<m.next:=by
 cases p with
 | obj b' o=>rcases hb with hb|hb; cases hb; exact h.2.1; exact hb.elim
 | arr b' w n es tg=>rcases hb with hb|hb; cases hb; exact h.2.1; exact hb.elim
 | sl a w n es =>
  rcases hb with hb|hb
  rcases h with⟨_,_,rfl,_⟩|⟨b',tg,rfl,h⟩
  cases hb
  cases hb; exact h.2.1
  exact hb.elim
 | rd a cap w n es=>rcases hb with hb|hb; exact Rd.lt h hb; exact hb.elim
 | ro b' o w n es=>rcases hb with hb|hb; cases hb; exact h.2.1; exact hb.elim
 | gen g=>rcases hb with hb|hb; cases hb; exact g.lt m b h.1 hb
def Pc.N0{lo:Nat}{m:Vo}{p:Pc}(h:p.ok lo m){b:Nat}(hb:p.rB=some b):b<m.next:=Pc.fL h (.inl hb)
def Pc.qS{lo:Nat}{m:Vo}{p:Pc}(h:p.ok lo m)(hf:p.bound=true){b:Nat}(hb:p.ow b):lo<=b:=by
 rcases hb with⟨ho,hb⟩|hb
 ·cases p with
  | obj b' o=>cases hb; exact h.1
  | arr b' w n es tg=>cases hb; exact h.1
  | sl a w n es =>
   rcases h with⟨_,_,rfl,_⟩|⟨b',tg,rfl,h⟩
   cases hb
   cases hb; exact h.1
  | rd a cap w n es=>cases ho
  | ro b' o w n es=>cases ho
  | gen g=>cases ho
 ·cases p with
  | gen g=>exact h.2 (by simpa [Pc.bound] using hf) b hb
  | _=>exact hb.elim
def Pc.FA{lo:Nat}{m:Vo}{p:Pc}(h:p.ok lo m)(ho:p.own=true){b:Nat}(hb:p.rB=some b):lo<=b:=Pc.qS h (by cases p<;>first|rfl|cases ho) (.inl ⟨ho,hb⟩)
section
variable{m0 m m':Vo}{ps:List Pc}
def Hp.get(h:Hp m0 m ps){k:Nat}{p:Pc}(hp:pk ps k=some p):p.ok m0.next m:=h.ok p (jv hp)
def Pc.gD{p r:Pc}(h:Pc.apart p r):Pc.apart r p:=⟨h.2,h.1⟩
def jg:∀{ps:List Pc} {k:Nat} {p p':Pc},pk ps k=some p->(∀r∈ps,Pc.apart p r->Pc.apart p' r)->ps.Pairwise Pc.apart->(bS ps k p').Pairwise Pc.apart:=by
 intro ps
 induction ps with
 | nil=>intro k p p' hk; simp[pk] at hk
 | cons q l ih =>
  intro k p p' hk hr h;rw[Sr] at h;cases k with
  | zero =>
   rw[jF] at hk;have hk:=R9 hk;subst hk;rw[iO];exact Sr.2 ⟨fun r hm=>hr r (by simp[hm]) (h.1 r hm),h.2⟩
  | succ k =>
   rw[eL] at hk;rw[dT];refine Sr.2 ⟨fun r hm=>?_,ih hk (fun r hm=>hr r (by simp[hm])) h.2⟩
   rcases uZ hm with hm|hm
   exact h.1 r hm
   rw[hm]; exact Pc.gD (hr q (by simp) (Pc.gD (h.1 p (jv hk))))
def zn:∀{ps:List Pc} {k:Nat} {p p' r:Pc},pk ps k=some p->ps.Pairwise Pc.apart->r∈bS ps k p'->r=p'\/(r∈ps/\Pc.apart r p):=by
 intro ps
 induction ps with
 | nil=>intro k p p' r hk; simp[pk] at hk
 | cons q l ih =>
  intro k p p' r hk h hr;rw[Sr] at h;cases k with
  | zero =>
   rw[jF] at hk;have hk:=R9 hk;subst hk;rw[iO,Sx] at hr;rcases hr with hr|hr
   exact .inl hr
   exact .inr ⟨by simp[hr],Pc.gD (h.1 r hr)⟩
  | succ k =>
   rw[eL] at hk;rw[dT,Sx] at hr;rcases hr with hr|hr
   rw[hr]; exact .inr ⟨by simp,h.1 p (jv hk)⟩
   rcases ih hk h.2 hr with h1|⟨h1,h2⟩
   exact .inl h1
   exact .inr ⟨by simp[h1],h2⟩
def Hp.Df(h:Hp m0 m ps){k:Nat}{p p':Pc}(hp:pk ps k=some p)(uv:∀b,p'.ow b->p.ow b\/m.next<=b)(hany:∀b,p'.any b->p.any b\/m.next<=b)(hn:m.next<=m'.next)(hext:Ext m0 m')
  (hok:p'.ok m0.next m') (hg:∀b,¬p.ow b->b<m.next->m'.get b=m.get b):Hp m0 m' (bS ps k p') where
 ext:=hext
 apart:=jg hp (fun r hr ha=>⟨fun b a c=>(uv b a).elim (fun a=>ha.1 b a c) fun a=>by have:=Pc.fL (h.ok r hr) c; omega,fun b a c=>(hany b c).elim (fun c=>ha.2 b a c) fun c=>by have:=Pc.fL (h.ok r hr) (Pc.ir a); omega⟩) h.apart
 ok:=fun r hr=>by
  rcases zn hp h.apart hr with rfl|⟨h1,h2⟩
  exact hok
  exact Pc.fS (h.ok r h1) hn fun b hb' hlt=>hg b (fun e=>h2.2 b e hb') hlt
def Hp.put(h:Hp m0 m ps){k:Nat}{p p':Pc}(hp:pk ps k=some p)(ho:p.own=true)(hb:p'.rB=p.rB)(ho':p'.own=true)(hn:m.next<=m'.next)(hext:Ext m0 m')
  (hok:p'.ok m0.next m') (hg:∀b,p.rB≠some b->b<m.next->m'.get b=m.get b):Hp m0 m' (bS ps k p') :=
 h.Df hp (fun b a=>.inl (.inl ⟨ho,by rw[<-hb]; exact Pc.wT ho' (Pc.ir a)⟩)) (fun b a=>.inl (.inl (by rw[<-hb]; exact Pc.wT ho' a))) hn hext hok fun b hb' hlt=>hg b (fun e=>hb' (.inl ⟨ho,e⟩)) hlt
def Hp.K6(h:Hp m0 m ps){p:Pc}(hn:m.next<=m'.next)(hext:Ext m0 m')(hsame:∀b,b<m.next->m'.get b=m.get b)(hp:p.ok m0.next m')(hb:∀b,p.any b->m.next<=b):Hp m0 m' (p::ps) where
 ext:=hext
 ok:=fun q hq=>by
  rcases Sx.1 hq with rfl|hq
  exact hp
  exact Pc.fS (h.ok q hq) hn fun b hb' hlt=>hsame b hlt
 apart:=Sr.2 ⟨fun q hq=>⟨fun b h1 h2=>by
  have:=Pc.fL (h.ok q hq) h2;have:=hb b (Pc.ir h1);omega,fun b h1 h2=>by
  have:=Pc.fL (h.ok q hq) (Pc.ir h1);have:=hb b h2;omega⟩,h.apart⟩
def Hp.cons(h:Hp m0 m ps){p:Pc}(hn:m.next<=m'.next)(hext:Ext m0 m')(hsame:∀b,b<m.next->m'.get b=m.get b)(hp:p.ok m0.next m')(hb:∀b,p.rB=some b->m.next<=b)(hng:∀b,¬p.DR b:=by exact fun _ h=>h):Hp m0 m' (p::ps) :=
 h.K6 hn hext hsame hp fun b hb'=>hb'.elim (hb b) fun h=>Ss h (hng b)
def av(ps:List Pc):List Nat->Option (List Pc)
 | []=>some []
 | k::ks=>match pk ps k with
  | some p=>match av ps ks with
   | some qs=>some (p::qs)
   | none=>none
  | none=>none
def kI:List Nat->Bool
 | []=>true
 | k::ks=>!(ks.any (Nat.beq k))&&kI ks
def qo:∀{ks:List Nat} {qs:List Pc},av ps ks=some qs->∀q∈qs,∃k∈ks,pk ps k=some q:=by
 intro ks
 induction ks with
 | nil=>intro qs h q hq; simp only[av,Option.some.injEq] at h; subst h; cases hq
 | cons k ks ih =>
  intro qs h q hq;simp only[av] at h
  split at h
  rename_i p hp
  split at h
  rename_i qs' hqs;simp only[Option.some.injEq] at h;subst h;rcases Sx.1 hq with rfl|hq
  exact⟨k,by simp,hp⟩
  obtain⟨k',h1,h2⟩:=ih hqs q hq;exact⟨k',by simp[h1],h2⟩
  cases h
  cases h
def fx:∀{ps:List Pc} {i j:Nat} {p q:Pc},ps.Pairwise Pc.apart->pk ps i=some p->pk ps j=some q->i≠j->Pc.apart p q:=by
 intro ps
 induction ps with
 | nil=>intro i j p q _ h; simp[pk] at h
 | cons r l ih =>
  intro i j p q h hi hj hne;rw[Sr] at h;cases i with
  | zero =>
   cases j with
   | zero=>exact Ss rfl hne
   | succ j =>
    rw[jF] at hi;rw[eL] at hj;rw[<-R9 hi];exact h.1 q (jv hj)
  | succ i =>
   cases j with
   | zero =>
    rw[jF] at hj;rw[eL] at hi;rw[<-R9 hj];exact Pc.gD (h.1 p (jv hi))
   | succ j=>rw[eL] at hi hj; exact ih h.2 hi hj (fun e=>hne (by rw[e]))
def jV:∀{ps:List Pc} {r:Pc},r∈ps->∃k,pk ps k=some r:=by
 intro ps
 induction ps with
 | nil=>intro r h; cases h
 | cons p l ih =>
  intro r h;rcases Sx.1 h with rfl|h
  exact⟨0,rfl⟩
  obtain⟨k,hk⟩:=ih h; exact⟨k+1,hk⟩
def Hp.yx(h:Hp m0 m ps){k:Nat}{p q:Pc}(hp:pk ps k=some p)(hpo:∀b,¬p.ow b)(hq:q.ok m0.next m)(hqo:∀b,¬q.ow b)(hb:∀b,q.any b->p.any b):Hp m0 m (q::ps) where
 ext:=h.ext
 ok:=fun r hr=>by
  rcases Sx.1 hr with rfl|hr
  exact hq
  exact h.ok r hr
 apart:=Sr.2 ⟨fun r hr=>⟨fun b h1 _=>hqo b h1,fun b h1 h2=>by
  obtain⟨k',hk'⟩:=jV hr;have hne:k≠k':=fun e=>by
   rw[<-e,hp] at hk';exact hpo b (by rw[R9 hk']; exact h1)
  exact(fx h.apart hp hk' hne).2 b h1 (hb b h2)⟩,h.apart⟩
def Hp.more(h:Hp m0 m ps){k:Nat}{p q:Pc}(hp:pk ps k=some p)(hpo:p.own=false)(hq:q.ok m0.next m)(hqo:q.own=false)(hb:∀b,q.rB=some b->p.rB=some b)(hpg:∀b,¬p.Rs b:=by exact fun _ h=>h)(hqg:∀b,¬q.DR b:=by exact fun _ h=>h):Hp m0 m (q::ps) :=
 h.yx hp (fun b h=>h.elim (fun h=>by rw[hpo] at h; cases h.1) (hpg b)) hq (fun b h=>h.elim (fun h=>by rw[hqo] at h; cases h.1) fun h=>hqg b (by cases q with|gen g=>exact .inl h|_=>exact h)) fun b h=>h.elim (fun h=>.inl (hb b h)) fun h=>Ss h (hqg b)
def yk(h:ps.Pairwise Pc.apart):∀{ks:List Nat} {qs:List Pc},kI ks=true->av ps ks=some qs->qs.Pairwise Pc.apart:=by
 intro ks
 induction ks with
 | nil=>intro qs _ e; simp only[av,Option.some.injEq] at e; subst e; exact .nil
 | cons k ks ih =>
  intro qs hnd e;simp only[kI,Sa,S8,List.any_eq_false] at hnd;simp only[av] at e
  split at e
  rename_i p hp
  split at e
  rename_i qs' hqs;simp only[Option.some.injEq] at e;subst e;refine Sr.2 ⟨fun q hq=>?_,ih hnd.2 hqs⟩;obtain⟨k',h1,h2⟩:=qo hqs q hq;exact fx h hp h2 fun e=>hnd.1 k' h1 (by rw[e]; exact Nat.beq_refl _)
  cases e
  cases e
def Hp.av(h:Hp m0 m ps)(ks:List Nat){qs:List Pc}(hnd:kI ks=true)(e:W.av ps ks=some qs):Hp m0 m qs where
 ext:=h.ext
 ok:=fun q hq=>by
  obtain⟨k,_,hk⟩:=qo e q hq;exact h.ok q (jv hk)
 apart:=yk h.apart hnd e
def Pc.Cc{lo lo':Nat}{m:Vo}{p:Pc}(h:p.ok lo m)(hle:lo'<=lo):p.ok lo' m:=by
 have up:∀{b w n es tg},BM lo m b w n es tg->BM lo' m b w n es tg:=fun ho=>⟨SC hle ho.1,ho.2⟩;cases p with
 | obj b o=>exact⟨SC hle h.1,h.2⟩
 | arr b w n es tg=>exact up h
 | sl a w n es =>
  rcases h with h1|⟨b,tg,e,h1⟩
  exact .inl h1
  exact .inr ⟨b,tg,e,up h1⟩
 | rd a cap w n es=>exact h
 | ro b o w n es=>exact h
 | gen g=>exact⟨h.1,fun hf b hb=>SC hle (h.2 hf b hb)⟩
def Hp.BE(h:Hp m0 m ps){new:List Pc}(h':Hp m m' new)(hbd:∀p∈new,p.bound=true)(hro:∀p∈new,∀b,p.any b->m.next<=b\/(¬p.ow b/\∃q∈ps,(∀b,¬q.ow b)/\q.any b)):Hp m0 m' (new++ps) where
 ext:=h.ext.trans h'.ext
 ok:=fun q hq=>by
  rcases Su.1 hq with hq|hq
  exact Pc.Cc (h'.ok q hq) h.ext.next
  exact Pc.fS (h.ok q hq) h'.ext.next fun b _ hlt=>h'.ext.same b hlt
 apart:=Tz.2 ⟨h'.apart,h.apart,fun p hp q hq=>⟨fun b h1 h2=>by
  have:=Pc.qS (h'.ok p hp) (hbd p hp) h1;have:=Pc.fL (h.ok q hq) h2;omega,fun b h1 h2=>by
  rcases hro p hp b h2 with h3|⟨_,r,hr,hr1,hr2⟩
  have:=Pc.fL (h.ok q hq) (Pc.ir h1);omega
  obtain⟨i,hi⟩:=jV hq;obtain⟨j,hj⟩:=jV hr;have hne:i≠j:=fun e=>by
   rw[e,hj] at hi;exact hr1 b (by rw[R9 hi]; exact h1)
  exact(fx h.apart hi hj hne).1 b h1 hr2⟩⟩
def Hp.after(h:Hp m0 m ps){new:List Pc}(h':Hp m m' new)(hro:∀p∈new,p.own=true):Hp m0 m' (new++ps) :=
 h.BE h' (fun p hp=>by have:=hro p hp; cases p<;>first|rfl|cases this) fun p hp b hb=>.inl (Pc.FA (h'.ok p hp) (hro p hp) (Pc.wT (hro p hp) hb))
def ly(ps:List Pc)(b:Nat):Prop:=∃p∈ps,p.ow b
def Hp.cy(h:Hp m0 m ps):∀b,ly ps b->b<m.next:=fun _ ⟨p,hp,hb⟩=>Pc.fL (h.ok p hp) (Pc.ir hb)
def rY(H:Ux):GPc:={ ow:=H,rd:=fun _=>False,P:=fun m=>∀b,H b->b<m.next,fr:=true,st:=fun _ _ h hn _ b hb=>Sj (h b hb) hn,lt:=fun _ b h hb=>hb.elim (h b) fun h=>h.elim}
def Hp.p9(m:Vo){H:Ux}(hH:∀b,H b->b<m.next):Hp m m [.gen (rY H)]:=⟨.refl m,fun p h=>by rw[Sp.1 h]; exact⟨hH,fun h=>by cases h⟩,List.pairwise_singleton ..⟩
def Hp.FD(h:Hp m0 m ps){new:List Pc}(h':Hp m m' (new++[.gen (rY (ly ps))]))(hbd:∀p∈new,p.bound=true):Hp m0 m' (new++ps) where
 ext:=h.ext.trans h'.ext
 ok:=fun q hq=>by
  rcases Su.1 hq with hq|hq
  exact Pc.Cc (h'.ok q (SQ _ hq)) h.ext.next
  exact Pc.fS (h.ok q hq) h'.ext.next fun b _ hlt=>h'.ext.same b hlt
 apart:=Tz.2 ⟨(Tz.1 h'.apart).1,h.apart,fun p hp q hq=>⟨fun b h1 h2=>by
  have:=Pc.qS (h'.ok p (SQ _ hp)) (hbd p hp) h1;have:=Pc.fL (h.ok q hq) h2;omega,fun b h1 h2=>((Tz.1 h'.apart).2.2 p hp _ (Sp.2 rfl)).2 b (.inr ⟨q,hq,h1⟩) h2⟩⟩
def Hp.Oy(h:Hp m0 m ps){k cap w n:Nat}{a:Uw}{es:Uv}(hp:pk ps k=some (.rd a cap w n es)):∀b,j4 a=some b->¬ly ps b:=fun b hb ⟨q,hq,h1⟩=>by
 obtain⟨i,hi⟩:=jV hq;have hne:i≠k:=fun e=>by
  rw[e,hp] at hi;cases hi;exact h1.elim (fun h=>by cases h.1) fun h=>h.elim
 exact(fx h.apart hi hp hne).1 b h1 (.inl hb)
end
structure TyI(P:UB)(ty:Uz)(ag:Bool)(sz:Nat):Prop where
 known:known P ty=true
 agg:dY P ty=ag
 size:aH P ty=sz
structure SlT(P:UB)(ty elem:Uz)(w:Nat):Prop where
 und:P.underlying ty=some (.slice elem)
 known:known P elem=true
 size:aH P elem=w
 pos:0<w
 zero:(bu P elem).any (fun z=>z.cells.size==w&&z.cells.toList.all aU)=true
 bytes:∃i,P.info? elem=some i/\i.bytes≠0/\i.bytes<=1024
structure ArT(P:UB)(ty elem:Uz)(len w:Nat):Prop where
 und:P.underlying ty=some (.array len elem)
 known:known P elem=true
 size:aH P elem=w
def OO(P:UB)(ty elem:Uz)(w:Nat):Bool :=
 (match P.underlying ty with|some (.slice e)=>Nat.beq e elem|_=>false)&&known P elem&&Nat.beq (aH P elem) w&&Nat.blt 0 w &&(bu P elem).any (fun z=>z.cells.size==w&&z.cells.toList.all aU) &&(match P.info? elem with|some i=>!(Nat.beq i.bytes 0)&&Nat.ble i.bytes 1024|none=>false)
def SlT.of{P:UB}{ty elem:Uz}{w:Nat}(h:OO P ty elem w=true):SlT P ty elem w:=by
 simp only[OO,Sa] at h;obtain⟨⟨⟨⟨⟨h1,h2⟩,h3⟩,h4⟩,h5⟩,h6⟩:=h;refine⟨?_,h2,Td h3,by rwa[Uc] at h4,h5,?_⟩
 split at h1
 rename_i e he; rw[he,Td h1]
 cases h1
 split at h6
 rename_i i hi;simp only[Sa,S8] at h6;exact⟨i,hi,Ug h6.1,Tc h6.2⟩
 cases h6
section
variable{E:Env}{n:Nat}{m0:Vo}{fs:Fs}{ps:List Pc}
def Od(E:Env)(m0:Vo)(fs:Fs)(ps:List Pc)(o:Op)(v:Uy)(ps':List Pc):Prop :=
 ∀t m,Fr t fs->Hp m0 m ps->(∀b,aQ E t o=some b->b<m.next)/\∀K:Uy->Vo->Prop,(∀m',Hp m0 m' ps'->K v m')->bo E t m o K
def Ox(E:Env)(m0:Vo)(fs:Fs)(ps:List Pc)(o:Op){α:Type}(V:α->Uy)(N:α->List Pc):Prop :=
 ∀t m,Fr t fs->Hp m0 m ps->(∀b,aQ E t o=some b->b<m.next)/\∀K:Uy->Vo->Prop,(∀x m',Hp m0 m' (N x)->K (V x) m')->bo E t m o K
def Od.pure{o:Op}{v:Uy}(hr:∀t,aQ E t o=none)(h:∀t m,Fr t fs->∀K,bo E t m o K=K v m):Od E m0 fs ps o v ps :=
 fun t m hf hp=>⟨fun b hb=>(by rw[hr] at hb; cases hb),fun K hK=>by rw[h t m hf]; exact hK m hp⟩
variable{x y z:UA}{a b r v:Uy}{ty ty':Uz}
def aK(h:ev E fs x=some v):Od E m0 fs ps (.move x) v ps:=.pure (fun _=>rfl) fun _ _ hf=>Go.Ab.M7 (hf.ev h)
def bH(h:ev E fs x=some v):Od E m0 fs ps (.assign x) v ps:=.pure (fun _=>rfl) fun _ _ hf=>Go.Ab.H3 (hf.ev h)
def HL{c:UA}(hc:ev E fs c=some (.bool true))(h:ev E fs x=some v):Od E m0 fs ps (.pick c x y) v ps:=.pure (fun _=>rfl) fun _ _ hf=>Go.Ab.Kk (hf.ev hc) (hf.ev h)
def OF{c:UA}(hc:ev E fs c=some (.bool false))(h:ev E fs y=some v):Od E m0 fs ps (.pick c x y) v ps:=.pure (fun _=>rfl) fun _ _ hf=>Go.Ab.Jp (hf.ev hc) (hf.ev h)
def aI{op:BinOp}(h:ev E fs x=some a)(h':ev E fs y=some b)(hr:cb op ty E.P a b=some r):Od E m0 fs ps (.binOp op ty x y ty') r ps:=.pure (fun _=>rfl) fun _ _ hf=>Go.Ab.Pw (hf.ev h) (hf.ev h') hr
def AA{op:UnOp}(h:ev E fs x=some a)(hr:EA op a=some r):Od E m0 fs ps (.unOp op ty x) r ps:=.pure (fun _=>rfl) fun _ _ hf=>Go.Ab.AA (hf.ev h) hr
def jE(h:ev E fs x=some a)(hr:ko E.P ty ty' a=some r):Od E m0 fs ps (.convert ty ty' x) r ps:=.pure (fun _=>rfl) fun _ _ hf=>Go.Ab.NY (hf.ev h) hr
def aM{f:Nat}(h:ev E fs x=some a)(hr:aF E.P ty a f=some r):Od E m0 fs ps (.fieldAddr ty x f) r ps:=.pure (fun _=>rfl) fun _ _ hf=>Go.Ab.Ah (hf.ev h) hr
def Rh{f:Nat}(h:ev E fs x=some a)(hr:iz E.P ty a f=some r):Od E m0 fs ps (.field ty x f) r ps:=.pure (fun _=>rfl) fun _ _ hf=>Go.Ab.JM (hf.ev h) hr
def LW(h:ev E fs x=some a)(h':ev E fs y=some b)(hr:cA E.P ty a b=some r):Od E m0 fs ps (.indexAddr ty x y) r ps:=.pure (fun _=>rfl) fun _ _ hf=>Go.Ab.yr (hf.ev h) (hf.ev h') hr
def Ec{i:Nat}{vs:Array Uy}(h:ev E fs x=some (.tuple vs))(hr:vs[i]? = some r):Od E m0 fs ps (.extract x i) r ps:=.pure (fun _=>rfl) fun _ _ hf=>Go.Ab.Di (hf.ev h) hr
def jO{f:FuncId}{xs ys:Array UA}{vs ws:List Uy}(h:gw E fs xs.toList=some vs)(h':gw E fs ys.toList=some ws):Od E m0 fs ps (.makeFunc (.func f) xs ys) (.func (.func f) vs.toArray ws.toArray) ps :=
 .pure (fun _=>rfl) fun _ _ hf K=>by rw[Go.Ab.zG,hf.gw h,Go.Ab.dP,hf.gw h',Go.Ab.dP]
def fp{bi:Builtin}{ars:Array UA}{ts:Array Uz}{vs:List Uy}(h:gw E fs ars.toList=some vs)(hn:(match bi with|.len|.cap=>false|_=>true)=true)(hr:∀m,bj E.P bi ts vs m=some (r,m)):Od E m0 fs ps (.call ⟨.builtin bi,ars,ts⟩) r ps :=
 .pure (fun _=>by cases bi<;>first|rfl|cases hn) fun _ _ hf K=>Go.Ab.dD (hf.gw h) (hr _) K
def cj{parts:Array (Nat×UA)}{vs:List (Nat×Uy)}{z:Uy}(h:IM E fs parts.toList=some vs)(hz:bu E.P ty=some z)(hpz:bL z=true)(hr:mM E.P ty vs=some r):Od E m0 fs ps (.build ty parts) r ps :=
 .pure (fun _=>rfl) fun t m hf K=>by
  have:fq E t m (.build ty parts)=some (r,m):=by simp only[fq,hf.IM h,hz,hpz,if_true,hr,Sq]
  exact Go.Ab.LN rfl this K
def xN(ag:Bool)(sz:Nat)(cs:List Uy)(o:Nat):Option Uy :=
 match ag with
 | true=>match Nat.beq ((cs.drop o).take sz).length sz with
  | true=>some (.agg ((cs.drop o).take sz).toArray)
  | false=>none
 | false=>cs[o]?
def rA{P:UB}{m:Vo}{ag:Bool}{sz b o:Nat}{cs:List Uy}{tg:Tag}(ht:TyI P ty ag sz)(hg:m.get b=some (.cells cs tg))(h:xN ag sz cs o=some v):ee P ty (ptr b o) m=some v:=by
 cases ag with
 | false=>exact KZ ht.known ht.agg hg h
 | true =>
  simp only[xN] at h
  split at h
  rename_i e;cases h;exact J0 ht.known ht.agg ht.size hg rfl (Td e)
  cases h
def xH(ag:Bool)(sz c w:Nat):Bool:=(match ag with|true=>true|false=>Nat.beq sz 1)&&Nat.ble (c+sz) w
def xJ{ag:Bool}{sz c w:Nat}(h:xH ag sz c w=true):(ag=false->sz=1)/\c+sz<=w:=by
 simp only[xH,Sa] at h;exact⟨fun e=>by subst e; exact Td h.1,Tc h.2⟩
def Od.load{b o:Nat}(hx:ev E fs x=some (ptr b o))(h:∀m,Hp m0 m ps->b<m.next/\ee E.P ty (ptr b o) m=some v):Od E m0 fs ps (.load ty x) v ps :=
 fun t m hf hp=>⟨fun b' hb=>by
  simp only[aQ,hf.ev hx] at hb;cases hb; exact(h m hp).1,fun K hK=>by
  rw[Go.Ab.Gn (hf.ev hx) (h m hp).2]; exact hK m hp⟩
def aD{ag:Bool}{sz b o k:Nat}{cs:List Uy}{tg:Tag}(ht:TyI E.P ty ag sz)(hx:ev E fs x=some (ptr b o))(hp:pk ps k=some (.obj b (.cells cs tg)))(hv:xN ag sz cs o=some v):Od E m0 fs ps (.load ty x) v ps :=
 .load hx fun m h=>⟨(h.get hp).2.1,rA ht (h.get hp).2.2 hv⟩
def Kz{ag:Bool}{sz o w c:Nat}{all e:List Uy}(he:(all.drop o).take w=e)(hsz:ag=false->sz=1)(hc:c+sz<=w)(h:xN ag sz e c=some v):xN ag sz all (o+c)=some v:=by
 subst he;have key:((List.take w (List.drop o all)).drop c).take sz=(all.drop (o+c)).take sz:=by
  rw[List.drop_take,List.take_take,T9,Nat.min_eq_left (by omega)]
 cases ag with
 | true=>simp only[xN,key] at h ⊢; exact h
 | false =>
  simp only[xN,Tf,Tg] at h ⊢
  split at h
  exact h
  cases h
def pP{P:UB}{m:Vo}{ag:Bool}{sz b o w j c:Nat}{es:Uv}{e:List Uy}(ht:TyI P ty ag sz)(hl:qd m b o w es)(he:es[j]? = some e)(hv:xN ag sz e c=some v)(hsz:ag=false->sz=1)(hc:c+sz<=w):ee P ty (ptr b (o+j*w+c)) m=some v:=by
 obtain⟨_,all,tg,hg,_,h⟩:=hl;exact rA ht hg (Kz (h j e he).1 hsz hc hv)
def C0{w:Nat}:∀{es:Uv} {j:Nat} {e:List Uy},(∀e∈es,e.length=w)->es[j]? = some e->(es.flatten.drop (j*w)).take w=e:=by
 intro es
 induction es with
 | nil=>intro j e _ h; simp at h
 | cons x es ih =>
  intro j e hw h;have hx:=hw x (by simp)
  cases j with
  | zero =>
   simp only[Sy,Option.some.injEq] at h;subst h;rw[SY,Un,TC,List.take_left' hx]
  | succ j =>
   rw[SH] at h;rw[SY,TJ,Nat.add_comm,<-T9,List.drop_left' hx];exact ih (fun e he=>hw e (by simp[he])) h
def BM.Pe{lo:Nat}{m:Vo}{b w n:Nat}{es:Uv}{tg:Tag}(h:BM lo m b w n es tg):qd m b 0 w es :=
 ⟨h.2.1,_,tg,h.2.2.1,fun sz e=>(by rcases h.2.2.2.2.2.1 with h1|h1<;>rw[h1] at e<;>cases e; rfl),fun i e he=>⟨by rw[SD]; exact C0 h.2.2.2.2.1 he,h.2.2.2.2.1 e (Sf he)⟩⟩
def eK{ag:Bool}{sz b w n j c k:Nat}{es:Uv}{tg:Tag}{e:List Uy}(ht:TyI E.P ty ag sz)(hx:ev E fs x=some (ptr b (j*w+c)))(hp:pk ps k=some (.arr b w n es tg))(he:es[j]? = some e)(hv:xN ag sz e c=some v)(hs:xH ag sz c w=true):Od E m0 fs ps (.load ty x) v ps:=by
 have hs:=xJ hs;refine .load hx fun m h=>⟨(h.get hp).2.1,?_⟩;have:=pP (P:=E.P) ht (BM.Pe (h.get hp)) he hv hs.1 hs.2;rwa[SD] at this
def fi{ag:Bool}{sz b o w n j c k:Nat}{es:Uv}{e:List Uy}(ht:TyI E.P ty ag sz)(hx:ev E fs x=some (ptr b (o+j*w+c)))(hp:pk ps k=some (.ro b o w n es))(he:es[j]? = some e)(hv:xN ag sz e c=some v)(hs:xH ag sz c w=true):Od E m0 fs ps (.load ty x) v ps:=by
 have hs:=xJ hs;exact .load hx fun m h=>⟨(h.get hp).2.1,pP (P:=E.P) ht (h.get hp).2 he hv hs.1 hs.2⟩
def cQ{elem:Uz}{b o w n cap:Nat}{i:Int}{kd:IntKind}(ht:SlT E.P ty elem w)(hx:ev E fs x=some (.slice (some ⟨b,o,none⟩) n cap))(hy:ev E fs y=some (.int kd i))(hi:0<=i/\i.toNat<n):Od E m0 fs ps (.indexAddr ty x y) (ptr b (o+i.toNat*w+0)) ps:=by
 refine LW hx hy ?_;have hd:decide ((0:Int)<=i/\i<(n:Nat))=true:=by simp; omega
 simp only[cA,ht.und,ht.known,hd,Tu,if_true,ht.size,Tn]
def lJ{elem:Uz}{b w n cap:Nat}{i:Int}{kd:IntKind}(ht:SlT E.P ty elem w)(hx:ev E fs x=some (.slice (some ⟨b,0,none⟩) n cap))(hy:ev E fs y=some (.int kd i))(hi:0<=i/\i.toNat<n):Od E m0 fs ps (.indexAddr ty x y) (ptr b (i.toNat*w+0)) ps:=by
 have:=cQ (m0:=m0) (ps:=ps) ht hx hy hi;rwa[SD] at this
def Hp.write{m:Vo}(h:Hp m0 m ps){k b:Nat}{p p':Pc}{o':Vq}(hp:pk ps k=some p)(ho:p.own=true)(hb:p.rB=some b)(hb':p'.rB=some b)(ho':p'.own=true)(hok:p'.ok m0.next (m.set b o')):Hp m0 (m.set b o') (bS ps k p') :=
 h.put hp ho (hb'.trans hb.symm) ho' (Sc _) (h.ext.set (Pc.FA (h.get hp) ho hb) _) hok fun x hx _=>by
  rw[Vo.bC,R6 (fun e=>hx (by rw[e]; exact hb))]
def I5(cs:List Uy)(o:Nat)(v:Uy)(sz:Nat):Option (List Uy) :=
 match Nat.beq v.cells.toList.length sz&&Nat.blt 0 sz&&bg v.cells.toList&&Nat.ble (o+sz) cs.length with
 | true=>some (aG cs o v.cells.toList)
 | false=>none
def iU:∀(cs:List Uy) (o:Nat) (vs:List Uy),o+vs.length<=cs.length->(aG cs o vs).length=cs.length
 | cs,0,[],_=>by cases cs<;>rfl
 | [],0,v::vs,h=>by simp at h
 | c::cs,0,v::vs,h=>by simp only[aG,SJ]; rw[iU cs 0 vs (by simpa using h)]
 | [],o+1,vs,h=>by simp at h
 | c::cs,o+1,vs,h=>by simp only[aG,SJ]; rw[iU cs o vs (by simp at h; omega)]
def zy{P:UB}{m:Vo}{ag:Bool}{sz b o:Nat}{cs cs':List Uy}{tg:Tag}(ht:TyI P ty ag sz)(hg:m.get b=some (.cells cs tg))(htg:tg≠.ro)(h:I5 cs o v sz=some cs'):gG P ty (ptr b o) v m=some (m.set b (.cells cs' tg)):=by
 simp only[I5] at h
 split at h
 ·rename_i e;cases h;simp only[Sa] at e;obtain⟨⟨⟨h1,h2⟩,h3⟩,h4⟩:=e;have h1:=Td h1;have h2:0<sz:=by rwa[Uc] at h2
  have h4:=Tc h4;have hs:(v.cells.size==aH P ty)=true:=by rw[ht.size,<-h1]; simp
  simp only[gG,ptr,ht.known,hs,h3,Tu,if_true,Vo.cW];cases hc:v.cells.toList with
  | nil=>rw[hc] at h1; simp at h1; omega
  | cons x xs =>
   rw[hc] at h1;simp only[hg];cases tg with
   | ro=>exact Ss rfl htg
   | own=>rw[R7 (by rw[h1]; exact h4)]
   | more s=>rw[R7 (by rw[h1]; exact h4)]
 cases h
def Od.store{bk o:Nat}{p':List Pc}(hx:ev E fs x=some (ptr bk o))(hy:ev E fs y=some v)(h:∀m,Hp m0 m ps->∃m',gG E.P ty (ptr bk o) v m=some m'/\Hp m0 m' p'):Od E m0 fs ps (.store ty x y) undef p' :=
 fun t m hf hp=>⟨fun b hb=>by simp[aQ] at hb,fun K hK=>by
  obtain⟨m',h1,h2⟩:=h m hp;rw[Go.Ab.Kg (hf.ev hx) (hf.ev hy) h1]; exact hK m' h2⟩
def qR:Tag->Bool
 | .ro=>false
 | _=>true
def dK{ag:Bool}{sz b o k:Nat}{cs cs':List Uy}{tg:Tag}(ht:TyI E.P ty ag sz)(hx:ev E fs x=some (ptr b o))(hy:ev E fs y=some v)(hp:pk ps k=some (.obj b (.cells cs tg)))(htg:qR tg=true)(hv:I5 cs o v sz=some cs'):Od E m0 fs ps (.store ty x y) undef (bS ps k (.obj b (.cells cs' tg))) :=
 .store hx hy fun m h=>⟨_,zy ht (h.get hp).2.2 (fun e=>by rw[e] at htg; cases htg) hv,h.write hp rfl rfl rfl rfl ⟨(h.get hp).1,(h.get hp).2.1,by rw[Vo.bC,R7 rfl]⟩⟩
def Au:∀(l r vs:List Uy) (c:Nat),c+vs.length<=l.length->aG (l++r) c vs=aG l c vs++r:=by
 intro l r
 induction l with
 | nil =>
  intro vs c h;have h0:c+vs.length<=0:=h;have h1:c=0:=by omega
  have h2:vs=[]:=SN.1 (by omega)
  subst h1 h2;cases r<;>rfl
 | cons a l ihl =>
  intro vs c h;cases c with
  | zero=>cases vs with
   | nil=>rfl
   | cons v vs=>simp only[Uj,aG]; rw[ihl vs 0 (by simpa using h)]
  | succ c=>simp only[Uj,aG]; rw[ihl vs c (by simp at h; omega)]
def qV:∀(l r vs:List Uy) (o:Nat),aG (l++r) (l.length+o) vs=l++aG r o vs:=by
 intro l r vs
 induction l with
 | nil=>intro o; simp
 | cons a l ihl=>intro o; rw[Uj,SJ,show l.length+1+o=(l.length+o)+1 by omega,aG,ihl o]; rfl
def yZ{w c:Nat}{vs:List Uy}:∀{es:Uv} {j:Nat} {e:List Uy},(∀e∈es,e.length=w)->es[j]? = some e->c+vs.length<=w->aG es.flatten (j*w+c) vs=(es.set j (aG e c vs)).flatten:=by
 intro es
 induction es with
 | nil=>intro j e _ h; simp at h
 | cons x es ih =>
  intro j e hw h hc;have hx:=hw x (by simp)
  cases j with
  | zero =>
   simp only[Sy,Option.some.injEq] at h;subst h;rw[SY,Un,SD,Au _ _ _ _ (by omega)]
   simp[SY]
  | succ j =>
   rw[SH] at h;rw[SY,TJ,show j*w+w+c=x.length+(j*w+c) by omega,qV,ih (fun e he=>hw e (by simp[he])) h hc]
   simp[SY]
def oa{ag:Bool}{sz b w n j c k:Nat}{es:Uv}{e e':List Uy}{tg:Tag}(ht:TyI E.P ty ag sz)(hx:ev E fs x=some (ptr b (j*w+c)))(hy:ev E fs y=some v)(hp:pk ps k=some (.arr b w n es tg))(he:es[j]? = some e)(hv:I5 e c v sz=some e'):Od E m0 fs ps (.store ty x y) undef (bS ps k (.arr b w n (es.set j e') tg)):=by
 refine .store hx hy fun m h=>?_;obtain⟨g1,g2,g3,g4,g5,g6,g7⟩:=h.get hp;have hew:=g5 e (Sf he);simp only[I5] at hv
 split at hv
 ·rename_i e1;cases hv;simp only[Sa] at e1;obtain⟨⟨⟨h1,h2⟩,h3⟩,h4⟩:=e1;have h1:=Td h1;have h2':0<sz:=by rwa[Uc] at h2
  have h4:=Tc h4;have hj:j<es.length:=(Sl.1 he).1;have hfl:∀(l:Uv),(∀e∈l,e.length=w)->l.flatten.length=l.length*w:=by
   intro l
   induction l with
   | nil=>intro _; simp
   | cons x l ih=>intro hl; rw[SY,Sk,ih (fun e he=>hl e (by simp[he])),hl x (by simp),SJ,TJ]; omega
  have hmul:(j+1)*w<=es.length*w:=Tj w hj;rw[TJ] at hmul;have hst:I5 es.flatten (j*w+c) v sz=some (aG es.flatten (j*w+c) v.cells.toList):=by
   have:(Nat.beq v.cells.toList.length sz&&Nat.blt 0 sz&&bg v.cells.toList&&Nat.ble (j*w+c+sz) es.flatten.length)=true:=by
    simp only[Sa];exact⟨⟨⟨by rw[h1]; exact Nat.beq_refl _,h2⟩,h3⟩,Nat.ble_eq_true_of_le (by rw[hfl es g5]; omega)⟩
   simp only[I5,this]
  refine⟨_,zy ht g3 (by rcases g6 with rfl|rfl<;>simp) hst,h.write hp rfl rfl rfl rfl ?_⟩
  refine⟨g1,g2,?_,by simpa using g4,fun e'' he''=>?_,g6,g7⟩
  rw[Vo.bC,R7 rfl,yZ g5 he (by omega)]
  rcases List.mem_or_eq_of_mem_set he'' with h5|h5
  exact g5 _ h5
  rw[h5,iU _ _ _ (by omega)]; exact hew
 cases hv
def Ox.made{o:Op}{ob:Nat->Vq}{p:Nat->Pc}{V:Nat->Uy}(hr:∀t,aQ E t o=none)(h:∀t m,Fr t fs->∀K,bo E t m o K=K (V m.next) (m.alloc (ob m.next)))
  (hb:∀b,(p b).rB=some b) (hp:∀lo m b,lo<=b->b<m.next->m.get b=some (ob b)->(p b).ok lo m) (hpg:∀b x,¬(p b).DR x:=by exact fun _ _ h=>h):Ox E m0 fs ps o V (fun b=>p b::ps) :=
 fun t m hf hm=>⟨fun b hb=>(by rw[hr] at hb; cases hb),fun K hK=>by
  rw[h t m hf];refine hK m.next _ (hm.cons (Nat.le_succ _) (hm.ext.alloc _) (fun b hlt=>by rw[Vo.aZ,UF]) (hp _ _ _ hm.ext.next (T3 _) (by rw[Vo.aZ,R7 rfl])) (fun b' h'=>?_) (hpg _))
  rw[hb] at h'; cases h'; exact Sc _⟩
def jR{z:Uy}(hz:bu E.P ty=some z)(hp:bL z=true):Ox E m0 fs ps (.alloc ty) (fun b=>ptr b 0) (fun b=>.obj b (.cells z.cells.toList .own)::ps) :=
 .made (ob:=fun _=>.cells z.cells.toList .own) (p:=fun b=>.obj b (.cells z.cells.toList .own)) (fun _=>rfl) (fun _ _ _ K=>Go.Ab.Ja hz hp K) (fun _=>rfl) fun _ _ _ h1 h2 h3=>⟨h1,h2,h3⟩
def Ns(h:ev E fs x=some v):Ox E m0 fs ps (.box ty x) (fun b=>ptr b 0) (fun b=>.obj b (.cells v.cells.toList .own)::ps) :=
 .made (ob:=fun _=>.cells v.cells.toList .own) (p:=fun b=>.obj b (.cells v.cells.toList .own)) (fun _=>rfl) (fun _ _ hf K=>Go.Ab.P1 (hf.ev h) K) (fun _=>rfl) fun _ _ _ h1 h2 h3=>⟨h1,h2,h3⟩
def Gt:Ox E m0 fs ps (.makeMap ty none) (fun b=>.map (some b)) (fun b=>.obj b (.map [])::ps) :=
 .made (ob:=fun _=>.map []) (p:=fun b=>.obj b (.map [])) (fun _=>rfl) (fun _ _ _ _=>Go.Ab.AT) (fun _=>rfl) fun _ _ _ h1 h2 h3=>⟨h1,h2,h3⟩
def Qw(P:UB)(elem:Uz)(w len:Nat)(vs:List (Nat×Uy)):Option (List Uy) :=
 match fR P elem len with
 | some zs=>match zs.all aU&&Nat.ble (len*w) 16777216 with
  | true=>jo (fun i=>some (i*w,w)) zs vs
  | false=>none
 | none=>none
def Pu(w:Nat)(es:Uv):Bool:=es.all fun e=>Nat.beq e.length w
def Kf{w:Nat}{es:Uv}(h:Pu w es=true):∀e∈es,e.length=w:=fun e he=>Td (Si.1 h e he)
def cu{elem:Uz}{w len:Nat}{parts:Array (Nat×UA)}{vs:List (Nat×Uy)}{es:Uv}(ht:SlT E.P ty elem w)(h:IM E fs parts.toList=some vs)(hf:Qw E.P elem w len vs=some es.flatten)(hl:Nat.beq es.length len=true)(hw:Pu w es=true) :
  Ox E m0 fs ps (.buildSlice ty len parts) (fun b=>.slice (some ⟨b,0,none⟩) len len) (fun b=>.arr b w len es .own::ps):=by
 refine .made (ob:=fun _=>.cells es.flatten .own) (p:=fun b=>.arr b w len es .own) (fun _=>rfl) (fun t m hfr K=>?_) (fun _=>rfl) fun _ _ _ h1 h2 h3=>⟨h1,h2,h3,Td hl,Kf hw,.inl rfl,ht.pos⟩;simp only[Qw] at hf
 split at hf
 rename_i zs hz
 split at hf
 rename_i hc;simp only[Sa] at hc;have:fq E t m (.buildSlice ty len parts)=some (.slice (some ⟨m.next,0,none⟩) len len,m.alloc (.cells es.flatten .own)):=by
  have h2:¬(len*w>2 ^ 24):=by have:=Tc hc.2; omega
  simp only[fq,ht.und,hfr.IM h,ht.known,ht.size,hz,hc.1,hf,SM,Bool.false_or,Se h2,if_true,Sq]
  rfl
 exact Go.Ab.LN rfl this K
 cases hf
 cases hf
def lim(n:Nat):Bool:=Nat.ble n 1073741824
def qP{z:List Uy}:∀n,bp z n=(List.replicate n z).flatten
 | 0=>rfl
 | n+1=>by rw[bp,qP n,List.replicate_succ,SY]
end
attribute [local irreducible] Tm.at Trie.set Trie.get Vo.get Vo.set Vo.alloc Vo.ww Vo.kill
section
variable{E:Env}{n:Nat}{m0 m m':Vo}{fs:Fs}{ps:List Pc}{x y:UA}{v:Uy}{ty:Uz}
def BM.rd{lo b w n:Nat}{es:Uv}{tg:Tag}(h:BM lo m b w n es tg):Rd m (some ⟨b,0,none⟩) n w n es :=
 ⟨h.2.2.2.1,Sc _,.inr (.inr ⟨b,0,rfl,h.Pe⟩)⟩
inductive IsRd:Pc->Uw->Nat->Nat->Nat->Uv->Prop
 | arr (b w n:Nat) (es:Uv) (tg:Tag):IsRd (.arr b w n es tg) (some ⟨b,0,none⟩) n w n es
 | sl (a:Uw) (w n:Nat) (es:Uv):IsRd (.sl a w n es) a n w n es
 | rd (a:Uw) (cap w n:Nat) (es:Uv):IsRd (.rd a cap w n es) a cap w n es
 | nil {p:Pc} (w:Nat):IsRd p none 0 w 0 []
def Pc.DI{p:Pc}{a:Uw}{lo cap w n:Nat}{es:Uv}(h:p.ok lo m)(hi:IsRd p a cap w n es):Rd m a cap w n es:=by
 cases hi with
 | arr b w n es tg=>exact BM.rd h
 | sl a w n es =>
  rcases h with⟨rfl,rfl,rfl,_⟩|⟨b,tg,rfl,h⟩
  exact⟨rfl,Sc _,.inl ⟨rfl,rfl⟩⟩
  exact h.rd
 | rd a cap w n es=>exact h
 | nil w=>exact⟨rfl,Sc _,.inl ⟨rfl,rfl⟩⟩
def Hp.rd(h:Hp m0 m ps){k:Nat}{p:Pc}{a:Uw}{cap w n:Nat}{es:Uv}(hp:pk ps k=some p)(hi:IsRd p a cap w n es):Rd m a cap w n es:=Pc.DI (h.get hp) hi
def Rd.nil(m:Vo)(w:Nat):Rd m none 0 w 0 []:=⟨rfl,Sc _,.inl ⟨rfl,rfl⟩⟩
def Rd.cells{a:Uw}{cap w n:Nat}{es:Uv}(h:Rd m a cap w n es):cX w (.slice a n cap) n m=some es.flatten:=by
 obtain⟨h1,h2,h4⟩:=h
 by_cases hn:n=0
 ·subst hn;have:es=[]:=SN.1 h1;subst this;cases a with
  | none=>rfl
  | some a=>obtain⟨b,o,sp⟩:=a; cases sp<;>rfl
 ·rcases h4 with h4|⟨b,sp,rfl,h4,_⟩|⟨b,o,rfl,_,all,tg,hg,_,hl⟩
  exact Ss h4.2 hn
  exact Ss h4 hn
  ·simp only[cX,R6 hn,Vo.eu,hg];have key:∀(es:Uv) (k:Nat),(∀i e,es[i]? = some e->(all.drop (o+(k+i)*w)).take w=e/\e.length=w)->(all.drop (o+k*w)).take (es.length*w)=es.flatten/\es.flatten.length=es.length*w:=by
    intro es
    induction es with
    | nil=>intro k _; simp
    | cons e es ih =>
     intro k hk;obtain⟨a1,a2⟩:=hk 0 e rfl;obtain⟨b1,b2⟩:=ih (k+1) fun i e' he'=>by
      have:=hk (i+1) e' (by simpa using he')
      rwa[show k+(i+1)=k+1+i by omega] at this
     rw[Tn] at a1;refine⟨?_,by rw[SY,Sk,a2,b2,SJ,TJ]; omega⟩
     rw[SJ,TJ,Nat.add_comm,List.take_add,a1,T9,SY,<-b1,TJ,Nat.add_assoc]
   have:=key es 0 (fun i e he=>by rw[SD]; exact hl i e he)
   rw[Un,Tn,h1] at this;rw[this.1,R7 this.2]
def Hp.renew(h:Hp m0 m ps){k:Nat}{p p':Pc}(hp:pk ps k=some p)(hn:m.next<=m'.next)(hext:Ext m0 m')(hok:p'.ok m0.next m')(hb:∀b,p'.rB=some b->m.next<=b)(hpo:p.own=true)(hg:∀b,p.rB≠some b->b<m.next->m'.get b=m.get b)(hng:∀b,¬p'.DR b:=by exact fun _ h=>h):Hp m0 m' (bS ps k p') :=
 h.Df hp (fun b a=>.inr ((Pc.ir a).elim (hb b) fun h=>Ss h (hng b))) (fun b a=>.inr (a.elim (hb b) fun h=>Ss h (hng b))) hn hext hok fun b hb' hlt=>hg b (fun e=>hb' (.inl ⟨hpo,e⟩)) hlt
def dH(es:Uv):Prop:=∀e∈es,e.all kM=true
def BA{α:Type}{f:α->List Uy}(h:∀x,(f x).all kM=true)(xs:List α):dH (xs.map f):=fun e he=>by
 obtain⟨x,_,rfl⟩:=Ts.1 he; exact h x
def gY{es:Uv}(h:dH es):bg es.flatten=true:=by
 unfold bg;rw[Si];intro v hv;obtain⟨l,h1,h2⟩:=List.mem_flatten.1 hv;exact Si.1 (h l h1) v h2
def cO{w:Nat}:∀{l:Uv},(∀e∈l,e.length=w)->l.flatten.length=l.length*w:=by
 intro l
 induction l with
 | nil=>intro _; simp
 | cons x l ih=>intro hl; rw[SY,Sk,ih (fun e he=>hl e (by simp[he])),hl x (by simp),SJ,TJ]; omega
def p8 {P:UB} {elem ty2:Uz} {w k n0 c0:Nat} {a a0:Uw} {es es2:Uv} (ht:SlT P ty elem w) (h2:∃e2,P.underlying ty2=some (.slice e2)) (h:Hp m0 m ps) (hp:pk ps k=some (.sl a w n es)) (hr:Rd m a0 c0 w n0 es2) (h1:∀e ∈ es2,e.length=w) (ho:dH es2) (hl:lim (n+n0)=true) :
  ∃a' m',cN P ty (some ty2) (.slice a n n) (.slice a0 n0 c0) m=some (.slice a' (n+n0) (n+n0),m')/\Hp m0 m' (bS ps k (.sl a' w (n+n0) (es++es2))):=by
 obtain⟨e2,h3⟩:=h2;obtain⟨inf,h4,h5,h6⟩:=ht.bytes;have hln:n+n0<=1073741824:=Tc hl;have hc:=hr.cells;have hlen2:es2.flatten.length=n0*w:=by rw[cO h1,hr.1]
 have hnew:eV P elem (some ty2) (.slice a0 n0 c0) m=some (n0,es2.flatten):=by
  simp only[eV,SA,h3,ht.size];have:cX w (.slice a0 n0 c0) n0 m=some es2.flatten:=hc;rw[this]; rfl
 have hfit:(P.info? elem).any (fun i=>dO i.bytes (n+n0)&&i.bytes != 0)=true:=by
  rw[h4];have hmul:(2*(n+n0)+2000)*inf.bytes<=(2*1073741824+2000)*1024:=Uk (by omega) h6
  simp only[Option.any_some,dO,Sa,Sn,bne_iff_ne,ne_eq];exact⟨by omega,h5⟩
 have hzero:(bu P elem).any (fun z=>z.cells.size==w&&z.cells.toList.all aU)=true:=ht.zero;have hpos:=ht.pos;have h7:(w==0)=false:=by simp; omega
 have hguard:(!(known P elem)||aH P elem==0 || !bg es2.flatten || !(P.info? elem).any (fun i=>dO i.bytes (n+n0)&&i.bytes != 0)||es2.flatten.length != n0*aH P elem || !(bu P elem).any (fun z=>z.cells.size==aH P elem&&z.cells.toList.all aU))=false:=by
  rw[ht.size,ht.known,hfit,hzero,gY ho,h7,hlen2]; simp
 have hres:∀a',(∃m',(.slice a' (n+n0) (n+n0),m')=((.slice a' (n+n0) (n+n0),m'):Uy×Vo)):=fun a'=>⟨m,rfl⟩;have hpc:=h.get hp;have hext:=h.ext;rcases hpc with⟨rfl,rfl,rfl,_⟩|⟨b,tg,rfl,hb⟩
 ·
  by_cases h0:n0=0
  ·subst h0;have hes:es2=[]:=SN.1 hr.1;subst hes;refine⟨none,m,?_,?_⟩
   unfold cN;simp only[ht.und,hnew];rw[R6 (by rw[hguard]; exact Tl)]
   rfl
   ·have:bS ps k (.sl none w (0+0) ([]++[]))=ps:=by
     have:∀(l:List Pc) (k:Nat) (p:Pc),pk l k=some p->bS l k p=l:=by
      intro l
      induction l with
      | nil=>intro k p h; simp[pk] at h
      | cons q l ih =>
       intro k p h;cases k with
       | zero=>rw[jF] at h; rw[iO,R9 h]
       | succ k=>rw[eL] at h; rw[dT,ih k p h]
     exact this ps k _ hp
    rw[this]; exact h
  refine⟨some ⟨m.next,0,none⟩,m.alloc (.cells es2.flatten (.more w)),?_,?_⟩
  unfold cN;simp only[ht.und,hnew];rw[R6 (by rw[hguard]; exact Tl)]
  simp only[ht.size];rw[R6 (by simp),R6 h0,SD]
  refine h.renew hp (by simp only[Vo.next_alloc]; omega) (hext.alloc _) (.inr ⟨m.next,.more w,rfl,hext.next,(by rw[Vo.next_alloc]; omega),?_,?_,?_,.inr rfl,hpos⟩) (fun b' hb'=>?_) rfl fun b' _ hlt=>?_
  rw[Vo.aZ,R7 rfl,Tw]
  rw[Tw,hr.1,SD]
  rw[Tw]; exact h1
  cases hb'; exact Sc _
  rw[Vo.aZ,UF]
 ·obtain⟨g4,g5,g0,g1,g2,g3,g6⟩:=hb;have hlen:es.flatten.length=n*w:=by rw[cO g2,g1]
  by_cases h0:n0=0
  ·subst h0;have hes:es2=[]:=SN.1 hr.1;subst hes;refine⟨some ⟨b,0,none⟩,m,?_,?_⟩
   unfold cN;simp only[ht.und,hnew];rw[R6 (by rw[hguard]; exact Tl)]
   simp only[g0];rw[R7 (Uh (Tn n))];simp[Vo.cW]
   ·rw[SP,Tn];have:bS ps k (.sl (some ⟨b,0,none⟩) w n es)=ps:=by
     have:∀(l:List Pc) (k:Nat) (p:Pc),pk l k=some p->bS l k p=l:=by
      intro l
      induction l with
      | nil=>intro k p h; simp[pk] at h
      | cons q l ih =>
       intro k p h;cases k with
       | zero=>rw[jF] at h; rw[iO,R9 h]
       | succ k=>rw[eL] at h; rw[dT,ih k p h]
     exact this ps k _ hp
    rw[this]; exact h
  have hcap:¬(n+n0<=n):=by omega
  have htake:es.flatten.take (n*w)=es.flatten:=TB (by omega)
  have hok:∀(mm:Vo),m.next<=mm.next->Pc.ok m0.next (mm.alloc (.cells (es.flatten++es2.flatten) (.more w))) (.sl (some ⟨mm.next,0,none⟩) w (n+n0) (es++es2)):=fun mm hmm =>
   .inr ⟨mm.next,.more w,rfl,SC hext.next hmm,(by rw[Vo.next_alloc]; omega),by rw[Vo.aZ,R7 rfl,Tv],by rw[Sk,g1,hr.1],fun e he=>by
    rcases Su.1 he with he|he
    exact g2 e he
    exact h1 e he,.inr rfl,hpos⟩
  rcases g3 with rfl|rfl
  refine⟨some ⟨m.next,0,none⟩,m.alloc (.cells (es.flatten++es2.flatten) (.more w)),?_,?_⟩
  unfold cN;simp only[ht.und,hnew];rw[R6 (by rw[hguard]; exact Tl)]
  simp only[ht.size,g0];rw[R6 hcap];have hld:m.eu b 0 (n*w)=some es.flatten:=by
   simp only[Vo.eu,g0,TC,htake];rw[R7 hlen]
  simp only[hld]
  refine h.renew hp (by simp only[Vo.next_alloc]; omega) (hext.alloc _) (hok m (Sc _)) (fun b' hb'=>?_) rfl fun b' _ hlt=>?_
  cases hb'; exact Sc _
  rw[Vo.aZ,UF]
  refine⟨some ⟨(m.kill b).next,0,none⟩,(m.kill b).alloc (.cells (es.flatten++es2.flatten) (.more w)),?_,?_⟩
  unfold cN;simp only[ht.und,hnew];rw[R6 (by rw[hguard]; exact Tl)]
  simp only[ht.size,g0];rw[R6 hcap];simp only[and_self,if_true,htake,hlen,Vo.next_kill]
  have hk:Ext m0 (m.kill b):=⟨by rw[Vo.next_kill]; exact hext.next,fun x hx=>by rw[Vo.dX,UF]; exact hext.same x hx,by
   rw[Vo.wl_kill];have:=hext.wl; omega⟩
  refine h.renew hp (by simp only[Vo.next_alloc,Vo.next_kill]; omega) (hk.alloc _) (hok (m.kill b) (by rw[Vo.next_kill]; exact Sc _)) (fun b' hb'=>?_) rfl fun b' hb' hlt=>?_
  cases hb'; rw[Vo.next_kill]; exact Sc _
  rw[Vo.aZ,R6 (by simp; omega),Vo.dX,R6 (fun e=>hb' (by rw[e]; rfl))]
def JN{elem ty2:Uz}{w k k2 n0 c0:Nat}{a a0:Uw}{es es2:Uv}{ars:Array UA}{p0:Pc}(ht:SlT E.P ty elem w)(h0:∃e2,E.P.underlying ty2=some (.slice e2))(ha:gw E fs ars.toList=some [.slice a n n,.slice a0 n0 c0])(hp:pk ps k=some (.sl a w n es))(h1:pk ps k2=some p0)(hr:IsRd p0 a0 c0 w n0 es2)(h2:∀e∈es2,e.length=w)(ho:dH es2)(hl:lim (n+n0)=true) :
  Ox E m0 fs ps (.call ⟨.builtin .append,ars,#[ty,ty2]⟩) (fun a':Uw=>.slice a' (n+n0) (n+n0)) (fun a'=>bS ps k (.sl a' w (n+n0) (es++es2))) :=
 fun t m hf h=>⟨fun b hb=>(by simp[aQ] at hb),fun K hK=>by
  obtain⟨a',m',h3,h4⟩:=p8 (n:=n) ht h0 h hp (h.rd h1 hr) h2 ho hl;have:bj E.P .append #[ty,ty2] [.slice a n n,.slice a0 n0 c0] m=some (.slice a' (n+n0) (n+n0),m'):=h3;rw[Go.Ab.dD (hf.gw ha) this];exact hK a' m' h4⟩
def il{k cap:Nat}{a:Uw}{ars:Array UA}{p:Pc}{elem:Uz}(hu:E.P.underlying ty=some (.slice elem))(ha:gw E fs ars.toList=some [.slice a n cap])(hp:pk ps k=some p)(hb:j4 a=p.rB\/a=none) :
  Od E m0 fs ps (.call ⟨.builtin .len,ars,#[ty]⟩) (.int .i64 (n:Int)) ps :=
 fun t m hf h=>⟨fun b hb'=>by
  simp only[aQ,hf.gw ha] at hb';have hab:dN (.slice a n cap)=j4 a:=by cases a<;>rfl
  rw[hab] at hb';exact hb.elim (fun hb=>Pc.N0 (h.get hp) (hb▸hb')) (fun hb=>by rw[hb] at hb'; exact nomatch hb'),fun K hK=>by
  have:bj E.P .len #[ty] [.slice a n cap] m=some (.int .i64 (n:Int),m):=by
   have ht:(#[ty]:Array Uz)[0]? = some ty:=rfl;simp only[bj,ht,SA,hu]
  rw[Go.Ab.dD (hf.gw ha) this]; exact hK m h⟩
def mV{n cap lo hi:Nat}(h1:lo<=hi)(h2:hi<=cap){l h:Option Uy}(hl:l=none/\lo=0\/∃k,l=some (.int k (lo:Int)))(hh:h=none/\hi=n\/∃k,h=some (.int k (hi:Int))):bV n cap l h none=some (lo,hi,cap):=by
 have hb:∀(k:IntKind) (x y:Nat),x<=y->je (.int k (x:Int)) y=some x:=fun k x y hxy=>by
  simp only[je]; rw[R7 ⟨by omega,by omega⟩,Sv]
 rcases hl with⟨rfl,rfl⟩|⟨k1,rfl⟩<;>rcases hh with⟨rfl,rfl⟩|⟨k2,rfl⟩<;>(unfold bV; simp only[hb _ _ _ h1,hb _ _ _ h2])
def qd.drop{b o w:Nat}{es:Uv}(h:qd m b o w es)(lo k:Nat):qd m b (o+lo*w) w ((es.drop lo).take k):=by
 obtain⟨h1,all,tg,h2,hs,h3⟩:=h;refine⟨h1,all,tg,h2,hs,fun i e he=>?_⟩;rw[Tf] at he
 split at he
 rw[Tg] at he;have:=h3 (lo+i) e he;rwa[TW,<-Nat.add_assoc] at this
 cases he
def Gr{P:UB}{elem:Uz}{cap w lo hi:Nat}{a:Uw}{es:Uv}{l h:Option Uy}(ht:SlT P ty elem w)(hr:Rd m a cap w n es)(h1:lo<=hi)(h2:hi<=n)(hl:l=none/\lo=0\/∃k,l=some (.int k (lo:Int)))(hh:h=none/\hi=n\/∃k,h=some (.int k (hi:Int))) :
  ∃a' cap',cf P ty (.slice a n cap) l h none m=some (.slice a' (hi-lo) cap')/\Rd m a' cap' w (hi-lo) ((es.drop lo).take (hi-lo))/\(j4 a'=j4 a):=by
 obtain⟨r1,r2,r4⟩:=hr;have hlen:((es.drop lo).take (hi-lo)).length=hi-lo:=by rw[Sm,SR,r1]; omega
 have hb:=mV (n:=n) (cap:=cap) h1 (SC h2 r2) hl hh;rcases r4 with⟨rfl,rfl⟩|⟨b,sp,rfl,rfl,rfl,hlt⟩|⟨b,o,rfl,hli⟩
 refine⟨none,cap-lo,?_,⟨hlen,by omega,.inl ⟨rfl,by omega⟩⟩,rfl⟩
 simp only[cf,ht.und,ht.known,if_true,hb]
 have e1:lo=0:=by omega
 have e2:hi=0:=by omega
 subst e1 e2;refine⟨some ⟨b,0,some sp⟩,0,?_,⟨hlen,Sc _,.inr (.inl ⟨b,sp,rfl,rfl,rfl,hlt⟩)⟩,rfl⟩;simp only[cf,ht.und,ht.known,if_true,hb,TK]
 ·have hli':=hli.drop lo (hi-lo);obtain⟨hlt,all,tg,hg,hs,hall⟩:=hli;have plain:(∀sz,tg≠.more sz)->∃a' cap',cf P ty (.slice (some ⟨b,o,none⟩) n cap) l h none m=some (.slice a' (hi-lo) cap')/\Rd m a' cap' w (hi-lo) ((es.drop lo).take (hi-lo))/\(j4 a'=j4 (some ⟨b,o,none⟩)):=by
   intro hne;have:cf P ty (.slice (some ⟨b,o,none⟩) n cap) l h none m=some (.slice (some (if cap=lo then⟨b,o,none⟩ else⟨b,o+lo*w,none⟩)) (hi-lo) (cap-lo)):=by
    cases tg with
    | more sz=>exact Ss rfl (hne sz)
    | ro=>simp only[cf,ht.und,ht.known,if_true,hg,hb,ht.size]
    | own=>simp only[cf,ht.und,ht.known,if_true,hg,hb,ht.size]
   by_cases hc:cap=lo
   rw[R7 hc] at this;have e0:hi-lo=0:=by omega
   refine⟨_,_,this,⟨hlen,by omega,.inr (.inr ⟨b,o,rfl,hlt,all,tg,hg,hs,fun i e he=>?_⟩)⟩,rfl⟩
   rw[e0,List.take_zero] at he; simp at he
   rw[R6 hc] at this;exact⟨_,_,this,⟨hlen,by omega,.inr (.inr ⟨b,_,rfl,hli'⟩)⟩,rfl⟩
  cases tg with
  | ro=>exact plain fun sz e=>(by cases e)
  | own=>exact plain fun sz e=>(by cases e)
  | more sz =>
   have hsz:=hs sz rfl;subst hsz;have hb':=mV (n:=n) (cap:=cap) h1 (SC h2 r2) hl hh
   by_cases hc:cap=lo
   have e0:hi-lo=0:=by omega
   have e1:((es.drop lo).take (hi-lo))=[]:=by rw[e0]; rfl
   refine⟨some ⟨b,0,some 0⟩,0,?_,⟨hlen,by omega,.inr (.inl ⟨b,0,rfl,e0,rfl,hlt⟩)⟩,rfl⟩
   simp only[cf,ht.und,ht.known,if_true,hg,hb',ht.size,ne_eq,not_true_eq_false,if_false,e0,gj];rw[R7 hc]
   refine⟨some ⟨b,o+lo*sz,none⟩,cap-lo,?_,⟨hlen,by omega,.inr (.inr ⟨b,_,rfl,hli'⟩)⟩,rfl⟩
   simp only[cf,ht.und,ht.known,if_true,hg,hb',ht.size,hc,ne_eq,not_true_eq_false,if_false]
def Qd{elem:Uz}{k cap w lo hi:Nat}{a:Uw}{es:Uv}{x:UA}{lx hx:Option UA}{l h:Option Uy}(ht:SlT E.P ty elem w)(hv:ev E fs x=some (.slice a n cap))(e1:iY E fs lx=some l)(e2:iY E fs hx=some h)(hp:pk ps k=some (.rd a cap w n es))(h1:lo<=hi)(h2:hi<=n)(hl:l=none/\lo=0\/∃k,l=some (.int k (lo:Int)))(hh:h=none/\hi=n\/∃k,h=some (.int k (hi:Int))) :
  Ox E m0 fs ps (.slice ty x lx hx none) (fun r:Uw×Nat=>.slice r.1 (hi-lo) r.2) (fun r=>.rd r.1 r.2 w (hi-lo) ((es.drop lo).take (hi-lo))::ps) :=
 fun t m hf hm=>by
  obtain⟨a',cap',s1,s2,s3⟩:=Gr ht (hm.get hp) h1 h2 hl hh;refine⟨fun b hb=>?_,fun K hK=>?_⟩
  have hab:dN (.slice a n cap)=j4 a:=by cases a<;>rfl
  simp only[aQ,hf.ev hv,SA,hab] at hb;exact Rd.lt (hm.get hp) hb
  rw[Go.Ab.np (hf.ev hv) (hf.iY e1) (hf.iY e2) rfl s1];exact hK (a',cap') m (hm.more hp rfl s2 rfl fun b hb=>by
   have:j4 a'=some b:=hb;rw[s3] at this; exact this)
def xw(ps:List Pc):Bool:=ps.all Pc.own
def lN{α:Type}{V:α->Uy}{N:α->List Pc}{f:UA}{g:FuncId}{first cap:Array Uy}{ars:Array UA}{ts:Array Uz}{args:List Uy}(hf:ev E fs f=some (.func (.func g) first cap))(ha:gw E fs ars.toList=some args)(hc:∀m,Hp m0 m ps->aC E g (first.toList++args++cap.toList) m (fun v m'=>∃x,v=V x/\Hp m0 m' (N x))):Ox E m0 fs ps (.call ⟨.value f,ars,ts⟩) V N :=
 fun t m hfr hm=>⟨fun b hb=>(by simp[aQ] at hb),fun K hK=>by
  have hev:aw E t f=some (.func (.func g) first cap):=by
   cases f with
   | tmp i=>exact hfr.ev hf
   | const c=>exact hfr.ev hf
   | global g=>exact hfr.ev hf
   | func g=>exact hfr.ev hf
  show kq E (aw E t f) (bG E t ars.toList) m _
  rw[hev,hfr.gw ha]
  show aC E g (first.toList++args++cap.toList) m K
  exact(hc m hm).mono fun v m' ⟨x,e,h⟩=>by rw[e]; exact hK x m' h⟩
def QD{α:Type}{V:α->Uy}{N:α->List Pc}{f:UA}{g:FuncId}{ars:Array UA}{ts:Array Uz}{args:List Uy}(hf:ev E fs f=some (.func (.func g) #[] #[]))(ha:gw E fs ars.toList=some args)(hc:∀m,Hp m0 m ps->aC E g args m (fun v m'=>∃x,v=V x/\Hp m m' (N x)))(ho:∀x,xw (N x)=true):Ox E m0 fs ps (.call ⟨.value f,ars,ts⟩) V (fun x=>N x++ps) :=
 lN hf ha fun m hm=>by
  simp only[Tw,SP];exact(hc m hm).mono fun v m' ⟨x,e,h⟩=>⟨x,e,hm.after h fun p hp=>Si.1 (ho x) p hp⟩
end
def Ext.Qf{m0 m:Vo}(h:Ext m0 m){w:Nat}(hw:min m0.wl m0.next<=w):Ext m0 (m.ww w):=⟨by rw[Vo.next_ww]; exact h.next,fun b hb=>by rw[Vo.get_ww]; exact h.same b hb,by rw[Vo.wl_ww]; exact hw⟩
def Hp.ww{m0 m:Vo}{ps:List Pc}(h:Hp m0 m ps){w:Nat}(hw:min m0.wl m0.next<=w):Hp m0 (m.ww w) ps :=
 ⟨Ext.Qf h.ext hw,fun p hp=>Pc.fS (h.ok p hp) (by rw[Vo.next_ww]; exact Sc _) (fun b _ _=>by rw[Vo.get_ww]),h.apart⟩
section
variable{E:Env}{n:Nat}{m0:Vo}{fs:Fs}{ps ps':List Pc}{ops:Array Oper}{os:List Oper}{K:Tm->Vo->Prop}{dr:Bool}
def Wo(dr:Bool)(E:Env)(n:Nat)(ops:Array Oper)(K:Tm->Vo->Prop)(os:List Oper)(m0:Vo)(fs:Fs)(ps:List Pc):Prop :=
 match dr with
 | false=>∀t m,Fr t fs->Hp m0 m ps->oB E n ops K os t m
 | true=>∀t m w,Fr t fs->Hp m0 m ps->min m0.wl m0.next<=w->jj E n ops K os t m w
variable{ty:Uz}{p:String}{af:Array Edge}{d:Nat}{o:Op}{g:Option (Nat×Bool)}{v:Uy}
def uK(ops:Array Oper)(fs:Fs)(g:Option (Nat×Bool))(b:Bool):Prop:=∀t d o ty p af,Fr t fs->cg ops ⟨d,o,ty,p,af,g⟩ t=b
def gn:uK ops fs none true:=fun _ _ _ _ _ _ _=>rfl
def gg{j d:Nat}{b c r:Bool}(hd:(ops[j]?).bind (·.dst)=some d)(h:lk fs d=some (.bool c))(hr:(c==b)=r):uK ops fs (some (j,b)) r:=fun t d' o ty p af hf=>by
 rw[<-hr]; exact Rb hd (hf d _ h)
def Wo.x{α:Type}{V:α->Uy}{N:α->List Pc}(h:Ox E m0 fs ps o V N)(hg:uK ops fs g true)(hd:Nat.blt d n=true)(k:∀x,Wo dr E n ops K os m0 ((d,V x)::fs) (N x)):Wo dr E n ops K (⟨some d,o,ty,p,af,g⟩::os) m0 fs ps:=by
 have hd':d<n:=by rwa[Uc] at hd
 cases dr with
 | false =>
  intro t m hf hm;simp only[oB,hg t _ _ _ _ _ hf,if_true];refine(h t m hf hm).2 _ fun x m' hm'=>?_;rw[dj,R7 hd'];exact k x _ m' hf.set hm'
 | true =>
  intro t m w hf hm hw;simp only[jj,hg t _ _ _ _ _ hf,if_true];have hx:=hm.ext.next
  have hm':Hp m0 (m.ww m.next) ps:=hm.ww (by omega)
  refine⟨fun b hb=>?_,?_⟩
  have:=(h t _ hf hm').1 b hb;rwa[Vo.next_ww] at this
  refine(h t _ hf hm').2 _ fun x m' hm''=>?_;rw[dj,R7 hd'];have:=hm''.ext.wl;exact k x _ m' _ hf.set hm'' (by omega)
def Wo.x0{α:Type}{V:α->Uy}{N:α->List Pc}(h:Ox E m0 fs ps o V N)(hg:uK ops fs g true)(k:∀x,Wo dr E n ops K os m0 fs (N x)):Wo dr E n ops K (⟨none,o,ty,p,af,g⟩::os) m0 fs ps:=by
 cases dr with
 | false =>
  intro t m hf hm;simp only[oB,hg t _ _ _ _ _ hf,if_true];refine(h t m hf hm).2 _ fun x m' hm'=>?_;exact k x _ m' hf hm'
 | true =>
  intro t m w hf hm hw;simp only[jj,hg t _ _ _ _ _ hf,if_true];have hx:=hm.ext.next
  have hm':Hp m0 (m.ww m.next) ps:=hm.ww (by omega)
  refine⟨fun b hb=>?_,?_⟩
  have:=(h t _ hf hm').1 b hb;rwa[Vo.next_ww] at this
  refine(h t _ hf hm').2 _ fun x m' hm''=>?_;have:=hm''.ext.wl;exact k x _ m' _ hf hm'' (by omega)
def Od.x(h:Od E m0 fs ps o v ps'):Ox E m0 fs ps o (fun _:Unit=>v) (fun _=>ps'):=fun t m hf hm=>⟨(h t m hf hm).1,fun K hK=>(h t m hf hm).2 K fun m' hm'=>hK () m' hm'⟩
def Wo.od(h:Od E m0 fs ps o v ps')(hd:Nat.blt d n=true)(k:Wo dr E n ops K os m0 ((d,v)::fs) ps'):Wo dr E n ops K (⟨some d,o,ty,p,af,none⟩::os) m0 fs ps:=Wo.x h.x gn hd fun _=>k
def Wo.o0(h:Od E m0 fs ps o v ps')(k:Wo dr E n ops K os m0 fs ps'):Wo dr E n ops K (⟨none,o,ty,p,af,none⟩::os) m0 fs ps:=Wo.x0 h.x gn fun _=>k
def Wo.og(h:Od E m0 fs ps o v ps')(hg:uK ops fs g true)(hd:Nat.blt d n=true)(k:Wo dr E n ops K os m0 ((d,v)::fs) ps'):Wo dr E n ops K (⟨some d,o,ty,p,af,g⟩::os) m0 fs ps:=Wo.x h.x hg hd fun _=>k
def Wo.s(hg:uK ops fs g false)(hd:Nat.blt d n=true)(k:Wo dr E n ops K os m0 ((d,undef)::fs) ps):Wo dr E n ops K (⟨some d,o,ty,p,af,g⟩::os) m0 fs ps:=by
 have hd':d<n:=by rwa[Uc] at hd
 cases dr with
 | false =>
  intro t m hf hm;simp only[oB,hg t _ _ _ _ _ hf,Sw,if_false];rw[dj,R7 hd'];exact k _ m hf.set hm
 | true =>
  intro t m w hf hm hw;simp only[jj,hg t _ _ _ _ _ hf,Sw,if_false];rw[dj,R7 hd'];exact k _ m w hf.set hm hw
def aa(m0:Vo)(ps:List Pc)(qs:List Pc):Prop:=∀m,Hp m0 m ps->Hp m0 m qs
def Wo.ay(h:aa m0 ps ps')(k:Wo dr E n ops K os m0 fs ps'):Wo dr E n ops K os m0 fs ps:=by
 cases dr with
 | false=>exact fun t m hf hm=>k t m hf (h m hm)
 | true=>exact fun t m w hf hm hw=>k t m w hf (h m hm) hw
def Wo.open{k w l:Nat}{a:Uw}{es:Uv}(hp:pk ps k=some (.sl a w l es))(hl:0<l)(h:∀b tg,a=some ⟨b,0,none⟩->qR tg=true->Wo dr E n ops K os m0 fs (bS ps k (.arr b w l es tg))):Wo dr E n ops K os m0 fs ps:=by
 have key:∀m,Hp m0 m ps->∃b tg,a=some ⟨b,0,none⟩/\qR tg=true/\Hp m0 m (bS ps k (.arr b w l es tg)):=by
  intro m hm;have h0:=hm.get hp;rcases h0 with⟨h1,_⟩|⟨b,tg,rfl,h1⟩
  omega
  refine⟨b,tg,rfl,by rcases h1.2.2.2.2.2.1 with rfl|rfl<;>rfl,hm.put hp rfl rfl rfl (Sc _) hm.ext h1 fun _ _ _=>rfl⟩
 cases dr with
 | false=>intro t m hf hm; obtain⟨b,tg,h1,h2,h3⟩:=key m hm; exact h b tg h1 h2 t m hf h3
 | true=>intro t m w' hf hm hw; obtain⟨b,tg,h1,h2,h3⟩:=key m hm; exact h b tg h1 h2 t m w' hf h3 hw
def Wo.aP{k w l cap:Nat}{a:Uw}{es:Uv}(hp:pk ps k=some (.rd a cap w l es))(hl:0<l)(h:∀b o,a=some ⟨b,o,none⟩->Wo dr E n ops K os m0 fs (.ro b o w l es::ps)):Wo dr E n ops K os m0 fs ps:=by
 have key:∀m,Hp m0 m ps->∃b o,a=some ⟨b,o,none⟩/\Hp m0 m (.ro b o w l es::ps):=by
  intro m hm;obtain⟨h1,h2,h3⟩:=hm.get hp;rcases h3 with⟨_,h3⟩|⟨_,_,_,h3,_⟩|⟨b,o,rfl,h3⟩
  omega
  omega
  exact⟨b,o,rfl,hm.more hp rfl ⟨h1,h3⟩ rfl fun b' hb=>hb⟩
 cases dr with
 | false=>intro t m hf hm; obtain⟨b,o,h1,h3⟩:=key m hm; exact h b o h1 t m hf h3
 | true=>intro t m w' hf hm hw; obtain⟨b,o,h1,h3⟩:=key m hm; exact h b o h1 t m w' hf h3 hw
def aa.trans{ps'':List Pc}(h:aa m0 ps ps')(h':aa m0 ps' ps''):aa m0 ps ps'':=fun m hm=>h' m (h m hm)
def aa.av(ks:List Nat)(hnd:kI ks=true)(e:W.av ps ks=some ps'):aa m0 ps ps':=fun _ h=>h.av ks hnd e
def aa.close{k b w l:Nat}{es:Uv}{tg:Tag}(hp:pk ps k=some (.arr b w l es tg)):aa m0 ps (bS ps k (.sl (some ⟨b,0,none⟩) w l es)):=fun _ h =>
 h.put hp rfl rfl rfl (Sc _) h.ext (.inr ⟨b,tg,rfl,h.get hp⟩) fun _ _ _=>rfl
def aa.nil(w:Nat)(hw:Nat.blt 0 w=true):aa m0 ps (.sl none w 0 []::ps):=fun m h =>
 h.cons (Sc _) h.ext (fun _ _=>rfl) (.inl ⟨rfl,rfl,rfl,by rwa[Uc] at hw⟩) fun b hb=>(by cases hb)
def ug{ps:List Pc}{k:Nat}{p p':Pc}(hk:pk ps k=some p)(ho:p'.own=false)(hb:∀b,p'.rB=some b->p.rB=some b/\p.own=true)(h:ps.Pairwise Pc.apart)(hng:∀b,¬p'.DR b:=by exact fun _ h=>h):(bS ps k p').Pairwise Pc.apart :=
 jg hk (fun r _ ha=>⟨fun b a c=>a.elim (fun a=>by rw[ho] at a; cases a.1) fun a=>hng b (by cases p' with|gen g=>exact .inl a|_=>exact a),fun b a c=>ha.2 b a (c.elim (fun c=>.inl (hb b c).1) fun c=>Ss c (hng b))⟩) h
def aa.freeze{k w l:Nat}{a:Uw}{es:Uv}(hp:pk ps k=some (.sl a w l es)):aa m0 ps (bS ps k (.rd a l w l es)):=fun m h =>
 ⟨h.ext,fun q hq=>by
  rcases zn hp h.apart hq with rfl|⟨h1,_⟩
  exact Pc.DI (h.get hp) (.sl a w l es)
  exact h.ok q h1,ug hp rfl (fun b hb=>⟨hb,rfl⟩) h.apart⟩
variable{fn:FuncId}{ro:Option Nat}{Q:Vp->Tm->Vo->Prop}
def Wk(E:Env)(n:Nat)(fn:FuncId)(ro:Option Nat)(c:Code)(Q:Vp->Tm->Vo->Prop)(m0:Vo)(fs:Fs)(ps:List Pc):Prop:=∀t m,Fr t fs->Hp m0 m ps->cp E n fn ro c Q t m
def At(Q:Vp->Tm->Vo->Prop)(e:Vp)(m0:Vo)(fs:Fs)(ps:List Pc):Prop:=∀t m,Fr t fs->Hp m0 m ps->Q e t m
variable{a b c:Code}{id id':Nat}
def Wk.seq(h:Wk E n fn ro a (nX (cp E n fn ro b Q) Q) m0 fs ps):Wk E n fn ro (.seq a b) Q m0 fs ps:=fun t m hf hm=>.seq (h t m hf hm)
def Wk.skip(h:At Q .normal m0 fs ps):Wk E n fn ro .skip Q m0 fs ps:=fun t m hf hm=>.skip (h t m hf hm)
def Wk.exit(h:At Q (.exit id) m0 fs ps):Wk E n fn ro (.exit id) Q m0 fs ps:=fun t m hf hm=>.exit (h t m hf hm)
def Wk.ret(h:At Q .ret m0 fs ps):Wk E n fn ro .ret Q m0 fs ps:=fun t m hf hm=>.ret (h t m hf hm)
def Wk.cond{x:UA}{r:Bool}(hx:ev E fs x=some (.bool r))(ht:r=true->Wk E n fn ro a Q m0 fs ps)(hf:r=false->Wk E n fn ro b Q m0 fs ps):Wk E n fn ro (.cond x a b) Q m0 fs ps:=fun t m hfr hm=>.cond (hfr.ev hx) (fun h=>ht h t m hfr hm) (fun h=>hf h t m hfr hm)
def Wk.cY{x:UA}{r:Bool}(hx:ev E fs x=some (.bool r))(hr:r=true)(ht:Wk E n fn ro a Q m0 fs ps):Wk E n fn ro (.cond x a b) Q m0 fs ps:=.cond hx (fun _=>ht) (fun h=>by rw[hr] at h; cases h)
def Wk.eY{x:UA}{r:Bool}(hx:ev E fs x=some (.bool r))(hr:r=false)(ht:Wk E n fn ro b Q m0 fs ps):Wk E n fn ro (.cond x a b) Q m0 fs ps:=.cond hx (fun h=>by rw[hr] at h; cases h) (fun _=>ht)
def Wk.block(h:Wk E n fn ro a (ik id Q) m0 fs ps):Wk E n fn ro (.block id a) Q m0 fs ps:=fun t m hf hm=>.block (h t m hf hm)
def Wk.region(h:Wo false E n ops (Q .normal) ops.toList m0 fs ps):Wk E n fn ro (.region id ops false) Q m0 fs ps:=fun t m hf hm=>.JH (h t m hf hm)
def AH{t:Tm}{m:Vo}{o:Op}{K K':Uy->Vo->Prop}(h:bo E t m o K)(hk:∀v m',K v m'->K' v m'):bo E t m o K':=by
 unfold bo at h ⊢;cases hc:oR o with
 | some p =>
  obtain⟨f,ars⟩:=p;rw[hc] at h;simp only at h ⊢;cases hf:aw E t f with
  | none=>rw[hf] at h; exact h.elim
  | some v =>
   cases ha:bG E t ars with
   | none=>rw[hf,ha] at h; unfold kq at h; split at h<;>first |(rename_i h1 h2; cases h2)|exact h.elim
   | some vs =>
    rw[hf,ha] at h;unfold kq at h ⊢
    split at h
    rename_i h1 h2;cases h1; cases h2;exact h.mono hk
    rename_i h1 h2;cases h1; cases h2;obtain⟨v,m',h5,hv⟩:=h;exact⟨v,m',h5,hk v m' hv⟩
    exact h.elim
 | none =>
  rw[hc] at h;simp only at h ⊢;cases he:fq E t m o with
  | none=>rw[he] at h; exact h.elim
  | some r=>rw[he] at h; exact hk r.1 r.2 h
def AG{K K':Tm->Vo->Prop}(hK:∀t m,K t m->K' t m):∀(os:List Oper) (t:Tm) (m:Vo) (w:Nat),jj E n ops K os t m w->jj E n ops K' os t m w:=by
 intro os
 induction os with
 | nil=>intro t m w hk; exact hK _ _ hk
 | cons o os ih =>
  intro t m w hk;simp only[jj] at hk ⊢
  split at hk
  rename_i hw;rw[R7 hw];refine⟨hk.1,AH hk.2 fun v m' hv=>?_⟩;obtain⟨t',e,h4⟩:=hv.A
  show Ib (jQ n t o.dst v) fun t'=>jj E n ops K' os t' m' (min w m'.wl)
  rw[e]; exact ih _ _ _ h4
  rename_i hw;rw[R6 hw];obtain⟨t',e,h4⟩:=hk.A;rw[e]; exact ih _ _ _ h4
def Wk.draw(hp:kA ops=some [])(h:Wo true E n ops (Q .normal) ops.toList m0 fs ps):Wk E n fn ro (.region id ops true) Q m0 fs ps:=fun t m hf hm=>.Qj hp fun K hK=>by
 exact AG hK _ _ _ _ (h t m m.wl hf hm hm.ext.wl)
def Wo.nil(h:At Q .normal m0 fs ps):Wo dr E n ops (Q .normal) [] m0 fs ps:=by
 cases dr with
 | false=>exact fun t m hf hm=>h t m hf hm
 | true=>exact fun t m w hf hm hw=>h t _ hf (hm.ww hw)
def At.tn(h:Wk E n fn ro b Q m0 fs ps):At (nX (cp E n fn ro b Q) Q) .normal m0 fs ps:=h
def At.te{K:Tm->Vo->Prop}(h:At Q (.exit id) m0 fs ps):At (nX K Q) (.exit id) m0 fs ps:=h
def At.tr{K:Tm->Vo->Prop}(h:At Q .ret m0 fs ps):At (nX K Q) .ret m0 fs ps:=h
def At.bn(h:At Q .normal m0 fs ps):At (ik id Q) .normal m0 fs ps:=h
def At.be(h:At Q .normal m0 fs ps):At (ik id Q) (.exit id) m0 fs ps:=fun t m hf hm=>by rw[CL,R7 rfl]; exact h t m hf hm
def At.bx(hne:Nat.beq id' id=false)(h:At Q (.exit id') m0 fs ps):At (ik id Q) (.exit id') m0 fs ps:=fun t m hf hm=>by rw[CL,R6 (Ug hne)]; exact h t m hf hm
def At.br(h:At Q .ret m0 fs ps):At (ik id Q) .ret m0 fs ps:=h
def At.ay{e:Vp}(h:aa m0 ps ps')(k:At Q e m0 fs ps'):At Q e m0 fs ps:=fun t m hf hm=>k t m hf (h m hm)
def Wk.G7{fs':Fs}(hs:sub fs fs')(h:aa m0 ps ps')(k:Wk E n fn ro c Q m0 fs' ps'):Wk E n fn ro c Q m0 fs ps:=fun t m hf hm=>k t m (hf.sub hs) (h m hm)
structure En where
 e:Vp
 fs:Fs
 ps:List Pc
def mj(m0:Vo){γ:Type}(G:γ->En)(e:Vp)(t:Tm)(m:Vo):Prop:=∃g,e=(G g).e/\Fr t (G g).fs/\Hp m0 m (G g).ps
def At.en{γ:Type}{G:γ->En}{e:Vp}(g:γ)(he:e=(G g).e)(hs:sub fs (G g).fs)(ht:aa m0 ps (G g).ps):At (mj m0 G) e m0 fs ps:=fun _ m hf hm=>⟨g,he,hf.sub hs,ht m hm⟩
def Wk.cut{γ:Type}{G:γ->En}(h:Wk E n fn ro c (mj m0 G) m0 fs ps)(k:∀g,At Q (G g).e m0 (G g).fs (G g).ps):Wk E n fn ro c Q m0 fs ps:=fun t m hf hm =>
 (h t m hf hm).mono fun e t' m' ⟨g,h1,h2,h3⟩=>by rw[h1]; exact k g t' m' h2 h3
def bh{σ ρ:Type}(body:σ->Option (σ⊕ρ)):Nat->σ->Option ρ
 | 0,_=>none
 | k+1,s=>match body s with
  | some (.inl s')=>bh body k s'
  | some (.inr r)=>some r
  | none=>none
def Wk.loop{σ ρ γ:Type}{δ:ρ->Type}(body:σ->Option (σ⊕ρ))(I:σ->γ->En)(X:(r:ρ)->δ r->En)
  (hb:∀s g r,body s=some r->Wk E n fn ro c (match r with|.inl s'=>mj m0 (I s')|.inr r=>mj m0 (X r)) m0 (I s g).fs (I s g).ps)
  (hn:∀s g,(I s g).e=.normal) (hx:∀r g,(X r g).e≠.normal) :
  ∀(N:Nat) (s:σ) (r:ρ),bh body N s=some r->∀g,Wk E n fn ro (.loop c) (mj m0 (X r)) m0 (I s g).fs (I s g).ps:=by
 intro N
 induction N with
 | zero=>intro s r h; cases h
 | succ N ih =>
  intro s r h g t m hf hm;refine .loop (.round ?_);simp only[bh] at h
  split at h
  ·rename_i s' hs;refine(hb s g _ hs t m hf hm).mono fun e t' m' ⟨g',h1,h2,h3⟩=>?_;rw[h1,hn];have:=ih s' r h g' t' m' h2 h3;obtain⟨e2,t2,m2,⟨k2,hk2⟩,q2⟩:=this;cases k2 with
   | zero=>cases hk2
   | succ k2=>exact⟨e2,t2,m2,⟨k2,hk2⟩,q2⟩
  ·rename_i r' hs;simp only[Option.some.injEq] at h;subst h;refine(hb s g _ hs t m hf hm).mono fun e t' m' ⟨g',h1,h2,h3⟩=>?_;have hq:mj m0 (X r') e t' m':=⟨g',h1,h2,h3⟩;cases he:e with
   | normal=>rw[h1] at he; exact Ss he (hx _ _)
   | exit id=>rw[he] at hq; exact hq
   | ret=>rw[he] at hq; exact hq
  cases h
def nQ:List Uy->Nat->Fs->Fs
 | [],_,fs=>fs
 | v::vs,i,fs=>nQ vs (i+1) ((i,v)::fs)
def Fr.args:∀(vs:List Uy) (i:Nat) (fs:Fs) (t:Tm),Fr t fs->Fr (Trie.ofList vs i t) (nQ vs i fs)
 | [],_,_,_,h=>h
 | _::vs,i,_,_,h=>Fr.args vs (i+1) _ _ h.set
def aW{f:FuncId}{F:Func}{c:Code}{args:List Uy}{rs:List ResultVar}{N:Nat}{R:Uy->Vo->Prop}(hp:E.cZ f=none)(hf:E.P.funcs[f]? = some F)(hb:F.body=some c)(hrs:F.results.toList=rs)(hN:max args.length F.ntmps=N)
  {m:Vo} (hm:Hp m0 m ps) (h:Wk E N f none c (jh E rs R) m0 (nQ args 0 []) ps):aC E f args m R :=
 aC.Nn hp hf hb hrs hN (h _ m (Fr.args args 0 [] _ (Fr.nil _)) hm)
def Hp.start(m:Vo):Hp m m []:=⟨.refl m,fun p h=>(by cases h),.nil⟩
inductive Res1(E:Env)(fs:Fs)(ps:List Pc):List ResultVar->List Uy->Prop
 | nil:Res1 E fs ps [] []
 | tmp {i:Nat} {v:Uy} {rs:List ResultVar} {vs:List Uy} (h:lk fs i=some v) (k:Res1 E fs ps rs vs):Res1 E fs ps (.tmp i::rs) (v::vs)
 | cell {i k b o sz:Nat} {ty:Uz} {v:Uy} {rs:List ResultVar} {vs:List Uy} {cs:List Uy} {tg:Tag} {ag:Bool} (ht:TyI E.P ty ag sz) (h:lk fs i=some (ptr b o)) (hp:pk ps k=some (.obj b (.cells cs tg))) (hv:xN ag sz cs o=some v) (k:Res1 E fs ps rs vs):Res1 E fs ps (.cell i ty::rs) (v::vs)
def Res1.ok{fs:Fs}{ps:List Pc}{t:Tm}{m:Vo}(hf:Fr t fs)(hm:Hp m0 m ps):∀{rs:List ResultVar} {vs:List Uy},Res1 E fs ps rs vs->cP E t m rs=some vs:=by
 intro rs vs h
 induction h with
 | nil=>rfl
 | tmp h _ ih=>simp only[cP,ih,hf _ _ h,Sq]
 | cell ht h hp hv _ ih=>simp only[cP,hf _ _ h,rA ht (hm.get hp).2.2 hv,ih]
def At.ret{rs:List ResultVar}{vs:List Uy}{R:Uy->Vo->Prop}(h:Res1 E fs ps rs vs)(k:∀m,Hp m0 m ps->R (iA vs) m):At (jh E rs R) .ret m0 fs ps:=fun t m hf hm=>by
 rw[No,h.ok hf hm]; exact k m hm
def At.fin{rs:List ResultVar}{vs:List Uy}{R:Uy->Vo->Prop}(h:Res1 E fs ps rs vs)(k:∀m,Hp m0 m ps->R (iA vs) m):At (jh E rs R) .normal m0 fs ps:=fun t m hf hm=>by
 rw[DK,h.ok hf hm]; exact k m hm
end
end Go.Ab.W
