/- A part of the proof. -/
import Derived.Test.YtmndpgfbkicndaaGreatCk1
import Derived.RangeFuncRecord
import Derived.Scope
import Derived.OpenShut
import Derived.FnData
import Derived.MakeChecks
import Derived.CallsIn
import Derived.Laws.Twins
import Derived.ChangeStays
import Derived.ChangeShapes
section
namespace Go.Ab
open Go
theorem jy:∀{l:List Nat},mG l=true→l.Nodup
 | [],_=>List.nodup_nil
 | x::xs,h=>by
  simp only[mG,Bool.and_eq_true,Bool.not_eq_true',List.contains_eq_mem,decide_eq_false_iff_not] at h;exact List.nodup_cons.2 ⟨h.1,jy h.2⟩
theorem qH:∀{l:List Oper} {x y:Nat} {a b:Oper} {d:Tmp},(l.filterMap (·.dst)).Nodup→l[x]? = some a→l[y]? = some b→a.dst=some d→b.dst=some d→x=y
 | [],x,y,a,b,d,_,h,_,_,_=>by simp at h
 | o::l,0,0,a,b,d,_,_,_,_,_=>rfl
 | o::l,0,y+1,a,b,d,hn,ha,hb,hda,hdb=>by
  simp at ha; subst ha;have hb':l[y]? = some b:=by simpa using hb
  rw[List.filterMap_cons_some hda] at hn;exact absurd (List.mem_filterMap.2 ⟨b,List.mem_of_getElem? hb',hdb⟩) (List.nodup_cons.1 hn).1
 | o::l,x+1,0,a,b,d,hn,ha,hb,hda,hdb=>by
  simp at hb; subst hb;have ha':l[x]? = some a:=by simpa using ha
  rw[List.filterMap_cons_some hdb] at hn;exact absurd (List.mem_filterMap.2 ⟨a,List.mem_of_getElem? ha',hda⟩) (List.nodup_cons.1 hn).1
 | o::l,x+1,y+1,a,b,d,hn,ha,hb,hda,hdb=>by
  have hn':(l.filterMap (·.dst)).Nodup:=by
   cases ho:o.dst with
   | none=>rw[List.filterMap_cons_none ho] at hn; exact hn
   | some d'=>rw[List.filterMap_cons_some ho] at hn; exact(List.nodup_cons.1 hn).2
  exact congrArg (· + 1) (qH hn' (by simpa using ha) (by simpa using hb) hda hdb)
def qF (bs:List Nat) (i j:Nat):Prop:=(bs.getD j 0).testBit i=true
structure OrderOk (ops:Array Oper) (bs:List Nat):Prop where
 uniq:∀(x y:Nat) (a b:Oper) (d:Tmp),ops[x]? = some a→ops[y]? = some b→a.dst=some d→b.dst=some d→x=y
 edge:∀(j:Nat) (o:Oper),ops[j]? = some o→∀e ∈ bV o,e<j
 guard:∀(j:Nat) (o:Oper) (g:Nat) (want:Bool),ops[j]? = some o→o.guard=some (g,want)→g<j∧qF bs g j
 anc:∀(i j:Nat) (o:Oper),i<j→ops[j]? = some o→qF bs i j→∃e ∈ bV o,e=i∨(i<e∧qF bs i e)
 apart:∀(i j:Nat) (a b:Oper),i<j→ops[i]? = some a→ops[j]? = some b→¬qF bs i j→ky ops a b=true
theorem cA {ops:Array Oper} {i:Nat} {o:Oper} (h:ops[i]? = some o):ops.getD i default=o:=by
 rw[Array.getD_eq_getD_getElem?,h]; rfl
theorem pH {ops:Array Oper} {bs:List Nat} (h:mE ops bs=true):OrderOk ops bs:=by
 simp only[mE,Bool.and_eq_true,List.all_eq_true,List.mem_range] at h;obtain⟨h1,h2⟩:=h;have hlt:∀{i:Nat} {o:Oper},ops[i]? = some o→i<ops.size:=fun h=>(Array.getElem?_eq_some_iff.1 h).1;refine⟨?_,?_,?_,?_,?_⟩
 ·intro x y a b d ha hb hda hdb;exact qH (jy h1) (by simpa using ha) (by simpa using hb) hda hdb
 ·intro j o ho e he;have:=(h2 j (hlt ho)).1.1;rw[cA ho] at this
  simpa using this e he
 ·intro j o g want ho hg;have:=(h2 j (hlt ho)).1.2;rw[cA ho,hg] at this;simp only[Bool.and_eq_true,decide_eq_true_eq] at this;exact this
 ·intro i j o hij ho hb;have:=(h2 j (hlt ho)).2 i hij;rw[cA ho] at this;unfold qF at hb;rw[if_pos hb] at this;simp only[List.any_eq_true,Bool.or_eq_true,beq_iff_eq,Bool.and_eq_true,Nat.blt_eq] at this;obtain⟨e,he,h3⟩:=this;exact⟨e,he,h3.imp id fun h=>⟨h.1,h.2⟩⟩
 ·intro i j a b hij ha hb hnb;have:=(h2 j (hlt hb)).2 i hij;rw[cA ha,cA hb] at this;unfold qF at hnb;rw[if_neg hnb] at this;exact this
theorem uk {ops:Array Oper} {bs:List Nat} (hO:OrderOk ops bs) {D:Nat→Prop} (hD:∀j o,ops[j]? = some o→D j→∀e ∈ bV o,D e) :
  ∀(j:Nat) (o:Oper),ops[j]? = some o→(∀e ∈ bV o,D e)→∀i,i<j→qF bs i j→D i:=by
 intro j
 induction j using Nat.strongRecOn with
 | _ j ih =>
  intro o ho he i hij hb;obtain⟨e,hee,rfl|⟨hie,hbe⟩⟩:=hO.anc i j o hij ho hb
  ·exact he _ hee
  ·have hej:=hO.edge j o ho e hee;have hsz:e<ops.size:=Nat.lt_trans hej (Array.getElem?_eq_some_iff.1 ho).1;have hoe:ops[e]? = some ops[e]:=by simp[hsz]
   exact ih e hej _ hoe (hD e _ hoe (he e hee)) i hie hbe
theorem ik {ops:Array Oper} {a b:Oper} (h:ky ops a b=true):(∀d,a.dst=some d→d ∉ looks ops b)∧(∀d,b.dst=some d→d ∉ looks ops a)∧¬(az a.op=true∧az b.op=true):=by
 simp only[ky,Bool.and_eq_true,Bool.not_eq_true',Bool.and_eq_false_imp] at h;obtain⟨⟨h1,h2⟩,h3⟩:=h;refine⟨fun d hd=>?_,fun d hd=>?_,fun hh=>?_⟩
 ·rw[hd] at h2;simp only[Bool.and_eq_true,Bool.not_eq_true',List.contains_eq_mem,decide_eq_false_iff_not] at h2;exact h2.1
 ·rw[hd] at h3
  simpa only[Bool.not_eq_true',List.contains_eq_mem,decide_eq_false_iff_not] using h3
 ·have:=h1 hh.1;rw[hh.2] at this; cases this
theorem lG {E:Env} {t:Tm} {o:Op} {b:Nat} (h:aS E t o=some b):jD o=true:=by
 cases o<;>simp only[aS] at h<;>try (cases h; done)
 all_goals first|rfl|skip
 rename_i c;cases hc:c.callee with
 | builtin bb =>
  rw[hc] at h;cases bb<;>simp only[jD,hc]<;>first|rfl | (cases h; done)
 | _=>rw[hc] at h; cases h
section
variable {E : Env} {k : K} {ops : Array Oper} {n : Nat}
theorem ph {t:Tm} {tmps:Array Value} {j:aL} (o:Oper) (h:∀g want d,o.guard=some (g,want)→(ops[g]?).bind (·.dst)=some d→VR j (t.at d) (tmps.getD d undef)):Region.wanted o (yielded ops tmps)=bK ops o t:=by
 unfold Region.wanted bK;cases hgd:o.guard with
 | none=>rfl
 | some p =>
  obtain⟨g,want⟩:=p;simp only;have key:yielded ops tmps g=dB ops t g:=by
   unfold yielded dB;cases hd:(ops[g]?).bind (·.dst) with
   | none=>rfl
   | some d =>
    simp only[Option.bind_some];have hv:=h g want d hgd hd;unfold Tm.at at hv;cases hg:t.get d with
    | none =>
     rw[hg] at hv;simp only[Option.getD_none] at hv;have:tmps[d]? = none∨tmps[d]? = some undef:=by
      cases ha:tmps[d]? with
      | none=>exact .inl rfl
      | some x =>
       right
       have:tmps.getD d undef=x:=by simp[ha]
       rw[this] at hv;have:x=undef:=eb (by rfl) hv
       rw[this]
     rcases this with e|e<;>rw[e]<;>rfl
    | some x =>
     rw[hg] at hv;simp only[Option.getD_some] at hv;cases ha:tmps[d]? with
     | none =>
      have:tmps.getD d undef=undef:=by simp[ha]
      rw[this] at hv;cases x<;>first|rfl|cases hv
     | some y =>
      have:tmps.getD d undef=y:=by simp[ha]
      rw[this] at hv;cases hv with
      | junk hj=>cases y<;>first|rfl | (simp[pg,aP] at hj)
      | _=>rfl
  rw[key];cases dB ops t g with
  | none=>rfl
  | some b=>simp
structure Can (k:K) (E:Env) (n:Nat) (ops:Array Oper) (j0:aL) (w0:World) (T:Nat→Tm) (M:Nat→AMem) (V:Nat→Value) (ns:List Note):Prop where
 hk:∀tk r,k tk=some r→ca E tk r
 tr:Tr k E n ops 0 ops.size T M V ns
 mr:MR E j0 (M 0) w0
 ghost:∀i,i≤ops.size→∃jc wc tc,Sim E j0 (M 0) w0 jc (M i) wc∧TR n jc (T i) tc
theorem qU (hk:∀tk r,k tk=some r→ca E tk r) {j0:aL} {w0:World} {T:Nat→Tm} {M:Nat→AMem} {V:Nat→Value} {ns:List Note} (tr:Tr k E n ops 0 ops.size T M V ns) (h0:MR E j0 (M 0) w0) {t0:Array Value} (ht0:TR n j0 (T 0) t0) :
  ∀i,i≤ops.size→∃jc wc tc,Sim E j0 (M 0) w0 jc (M i) wc∧TR n jc (T i) tc:=by
 intro i
 induction i with
 | zero=>exact fun _=>⟨j0,w0,t0,.refl h0,ht0⟩
 | succ i ih =>
  intro hi;obtain⟨jc,wc,tc,s,ht⟩:=ih (by omega)
  obtain⟨note,_,o,ho,hp,hst⟩:=tr.step i (by omega)
  rcases hst with⟨_,r,e,hm,_⟩|⟨_,hv,hm,_⟩
  ·have hd:=ij (a:={ tmps:=tc,defers:=[]}) hk (s.mr.mg (x:=(M i).next)) ht e
   obtain⟨v',w',j',s',hv'⟩:=hd.ends;exact⟨j',w',_,s.trans h0 (hm ▸ s'.xZ),TR.put (a:={ tmps:=tc,defers:=[]}) (ht.mono s'.le) hv' hp⟩
  ·rw[hm];exact⟨jc,wc,_,s,TR.put (a:={ tmps:=tc,defers:=[]}) ht (hv ▸ VR.undef jc) hp⟩
variable {j0 : aL} {w0 : World} {T : Nat → Tm} {M : Nat → AMem} {V : Nat → Value} {ns : List Note}
theorem oZ {t:Tm} {m:AMem} {o:Op} (h:az o=false):cZ k E t m o=dx E t m o:=by
 unfold cZ;cases o with
 | call c =>
  simp only;cases hc:c.callee with
  | value f=>simp[az,hc] at h
  | _=>rfl
 | _=>rfl
theorem nu {m m':AMem} {b o:Nat} {vs:List Value} (h:m.dn b o vs=some m') {x:Nat} (hx:x≠b):m'.get x=m.get x:=by
 unfold AMem.dn at h
 split at h
 ·cases h; rfl
 ·split at h
  ·cases h
  ·split at h
   ·cases h; rw[AMem.bB,if_neg hx]
   ·cases h
  ·cases h
theorem pG {t:Tm} {m r:AMem} {o:Op} {v:Value} {b':Nat} (h:cZ k E t m o=some (v,r)) (hw:dq E t o=some b'):∀b,b≠b'→r.get b=m.get b:=by
 cases o<;>simp only[dq] at hw<;>try (cases hw; done)
 rename_i ty a x;simp only[cZ,dx] at h
 split at h
 ·rename_i p v0 hp hv;obtain⟨m1,hm,he⟩:=map_some h;cases he;rw[hp] at hw;unfold eg at hm
  split at hm
  ·rename_i b o;simp only[Option.some.injEq] at hw;subst hw
   split at hm
   ·exact fun b hb=>nu hm hb
   ·cases hm
  ·cases hm
 ·cases h
theorem lN:∀{v u:Value},mD v u=true→v=u:=by
 intro v u h;unfold mD at h
 split at h
 ·simp only[Bool.and_eq_true,decide_eq_true_eq] at h; rw[h.1,h.2]
 ·simp only[beq_iff_eq] at h; rw[h]
 ·simp only[Bool.and_eq_true,decide_eq_true_eq,Nat.beq_eq] at h; rw[h.1,h.2.1,h.2.2]
 ·simp only[decide_eq_true_eq] at h; rw[h]
 ·simp only[decide_eq_true_eq] at h; rw[h]
 ·cases h
theorem jR:∀{v u:List Value},kO v u=true→v=u
 | [],[],_=>rfl
 | v::vs,u::us,h=>by
  simp only[kO,Bool.and_eq_true] at h;rw[lN h.1,jR h.2]
 | [],_::_,h=>by cases h
 | _::_,[],h=>by cases h
theorem lj:∀{v u:Value},oj v u=true→v=u:=by
 intro v u h;unfold oj at h
 split at h
 ·rename_i f a c f' a' c';simp only[Bool.and_eq_true] at h;have h1:=Nat.eq_of_beq_eq_true h.1;have h2:=jR h.2.1;have h3:=jR h.2.2;subst h1;obtain⟨a⟩:=a;obtain⟨a'⟩:=a';obtain⟨c⟩:=c;obtain⟨c'⟩:=c';simp only at h2 h3;rw[h2,h3]
 ·exact lN h
theorem oH:∀{v u:List Value},ql v u=true→v=u
 | [],[],_=>rfl
 | v::vs,u::us,h=>by
  simp only[ql,Bool.and_eq_true] at h;rw[lj h.1,oH h.2]
 | [],_::_,h=>by cases h
 | _::_,[],h=>by cases h
theorem ml:∀{v u:List (Value × Value)},mP v u=true→v=u
 | [],[],_=>rfl
 | (a,b)::vs,(c,d)::us,h=>by
  simp only[mP,Bool.and_eq_true] at h;rw[show a=c from lj h.1.1,show b=d from lj h.1.2,ml h.2]
 | [],_::_,h=>by cases h
 | _::_,[],h=>by cases h
theorem s5 {a b:Option AObj} (h:td a b=true):a=b:=by
 unfold td at h
 split at h
 ·simp only[Bool.and_eq_true,decide_eq_true_eq] at h; rw[h.1,oH h.2]
 ·rw[ml h]
 ·cases h
theorem vu {m m':AMem} {b:Nat} (h:eZ m m' b=true):m.get b=m'.get b:=by
 unfold eZ at h;rcases(Bool.or_eq_true _ _).mp h with h|h
 ·exact s5 h
 ·exact @of_decide_eq_true _ (Classical.propDecidable _) h
inductive Kind (k:K) (E:Env) (ops:Array Oper) (M:Nat→AMem) (o:Oper) (i:Nat) (t:Tm) (v:Value):Prop
 | skip (hw:bK ops o t=false) (hv:v=undef) (hm:M (i+1)=M i)
 | quiet (hw:bK ops o t=true) (he:az o.op=false) (hn:(M (i+1)).next=(M i).next) (hg:∀b,(M (i+1)).get b=(M i).get b)
   (ha:∀m2:AMem,(∀b0,aS E t o.op=some b0→m2.get b0=(M i).get b0)→dx E t m2 o.op=some (v,m2))
 | makes (hw:bK ops o t=true) (he:az o.op=false) (vb:Nat→Value) (ao:AObj) (hv:v=vb (M i).next) (hn:(M (i+1)).next=(M i).next+1)
   (hg:∀b,(M (i+1)).get b=if b=(M i).next then some ao else(M i).get b) (ha:∀m2:AMem,dx E t m2 o.op=some (vb m2.next,m2.alloc ao))
 | effect (hw:bK ops o t=true) (he:az o.op=true) (r:AMem) (hr:cZ k E t { M i with wl:=(M i).next} o.op=some (v,r)) (hm:M (i+1) = { r with wl:=min (M i).wl r.wl})
theorem Can.kind (c:Can k E n ops j0 w0 T M V ns) {i:Nat} (hi:i<ops.size):∃o,ops[i]? = some o∧fM n (T i) o.dst (V i)=some (T (i+1))∧Kind k E ops M o i (T i) (V i):=by
 obtain⟨note,_,o,ho,hp,hst⟩:=c.tr.step i hi;rw[Nat.zero_add] at ho;refine⟨o,ho,hp,?_⟩;rcases hst with⟨hw,r,e,hm,_⟩|⟨hw,hv,hm,_⟩
 ·cases he:az o.op with
  | true=>exact .effect hw he r e hm
  | false =>
   rw[oZ he] at e;obtain⟨jc,wc,tc,s,ht⟩:=c.ghost i (by omega)
   rcases nj (a:={ tmps:=tc,defers:=[]}) (s.mr.mg (x:=(M i).next)) ht e with⟨h1,h2,_⟩|⟨ao,co,vb,v',h1,h2,_,_,_,h3⟩|⟨h1,_⟩
   ·subst h1;exact .quiet hw he (by rw[hm]) (fun b=>by rw[hm]; rfl) (fun m2 hm2=>h2 m2 hm2)
   ·subst h2;refine .makes hw he vb ao h1 (by rw[hm]; rfl) (fun b=>?_) h3
    rw[hm];exact AMem.aY { M i with wl:=(M i).next} ao b
   ·rw[he] at h1; cases h1
 ·exact .skip hw hv hm
theorem Can.ext (c:Can k E n ops j0 w0 T M V ns) {i:Nat} (hi:i<ops.size):AExt (M i) (M (i+1)):=by
 obtain⟨note,_,o,ho,hp,hst⟩:=c.tr.step i hi;rcases hst with⟨hw,r,e,hm,_⟩|⟨hw,hv,hm,_⟩
 ·obtain⟨jc,wc,tc,s,ht⟩:=c.ghost i (by omega)
  obtain⟨v',w',j',s',hv'⟩:=(ij (a:={ tmps:=tc,defers:=[]}) c.hk (s.mr.mg (x:=(M i).next)) ht e).ends
  rw[hm]; exact s'.xZ.ext
 ·rw[hm]; exact .refl _
theorem Can.note (c:Can k E n ops j0 w0 T M V ns) {i:Nat} (hi:i<ops.size):∃note o,ns[i]? = some note∧ops[i]? = some o∧note.next=(M i).next ∧
  (∀b,b<(M i).next→(b<note.wl∨(∃b',note.wrote=some b'∧b≠b')∨note.kept b=true)→(M (i+1)).get b=(M i).get b)∧(bK ops o (T i)=true→note.read=aS E (T i) o.op):=by
 obtain⟨note,hn,o,ho,hp,hst⟩:=c.tr.step i hi;rw[Nat.zero_add] at ho;refine⟨note,o,hn,ho,?_⟩;rcases hst with⟨hw,r,e,hm,hnote⟩|⟨hw,hv,hm,hnote⟩
 ·obtain⟨jc,wc,tc,s,ht⟩:=c.ghost i (by omega)
  obtain⟨v',w',j',s',hv'⟩:=(ij (a:={ tmps:=tc,defers:=[]}) c.hk (s.mr.mg (x:=(M i).next)) ht e).ends
  subst hnote;refine⟨rfl,fun b hb hc=>?_,fun _=>rfl⟩;rw[hm];rcases hc with hc|⟨b',hc,hne⟩|hc
  ·exact s'.ext.same b hb hc
  ·exact pG e hc b hne
  ·exact(vu hc).symm
 ·subst hnote;exact⟨rfl,fun b hb _=>by rw[hm],fun h=>by rw[hw] at h; cases h⟩
theorem Can.keep (c:Can k E n ops j0 w0 T M V ns) {i:Nat} {o:Oper} (ho:ops[i]? = some o) (he:az o.op=false∨bK ops o (T i)=false):∀b,b<(M i).next→(M (i+1)).get b=(M i).get b:=by
 obtain⟨o',ho',_,hk⟩:=c.kind (Array.getElem?_eq_some_iff.1 ho).1;rw[ho] at ho'; cases ho';cases hk with
 | skip _ _ hm=>intro b _; rw[hm]
 | quiet _ _ _ hg _=>exact fun b _=>hg b
 | makes _ _ vb ao _ _ hg _=>intro b hb; rw[hg,if_neg (by omega)]
 | effect hw he' _ _ _ =>
  rcases he with he|he
  ·rw[he] at he'; cases he'
  ·rw[he] at hw; cases hw
theorem Can.bP (c:Can k E n ops j0 w0 T M V ns) {x y:Nat} (hy:y≤ops.size) (h:x≤y):(M x).next≤(M y).next:=by
 induction y with
 | zero =>
  have:x=0:=by omega
  subst this; exact Nat.le_refl _
 | succ y ih =>
  rcases Nat.lt_or_ge y x with hlt|hge
  ·have:x=y+1:=by omega
   subst this; exact Nat.le_refl _
  ·exact Nat.le_trans (ih (by omega) hge) (c.ext (by omega)).next
theorem Can.y8 (c:Can k E n ops j0 w0 T M V ns) {x y:Nat} (hy:y≤ops.size) (h:x≤y):(M y).wl≤(M x).wl:=by
 induction y with
 | zero =>
  have:x=0:=by omega
  subst this; exact Nat.le_refl _
 | succ y ih =>
  rcases Nat.lt_or_ge y x with hlt|hge
  ·have:x=y+1:=by omega
   subst this; exact Nat.le_refl _
  ·exact Nat.le_trans (c.ext (by omega)).wl (ih (by omega) hge)
theorem Can.dH (_:Can k E n ops j0 w0 T M V ns) {x y:Nat} (hy:y≤ops.size) (hxy:x≤y) {b:Nat} (hb:b<(M x).next) (H:∀z,x≤z→z<y→(M (z+1)).get b=(M z).get b):(M y).get b=(M x).get b:=by
 induction y with
 | zero =>
  have:x=0:=by omega
  subst this; rfl
 | succ y ih =>
  rcases Nat.lt_or_ge y x with hlt|hge
  ·have:x=y+1:=by omega
   subst this; rfl
  ·rw[H y hge (by omega)]
   exact ih (by omega) hge fun z h1 h2=>H z h1 (by omega)
def Made (M:Nat→AMem) (i b:Nat):Prop:=(M i).next≤b∧b<(M (i+1)).next
theorem Can.lS (c:Can k E n ops j0 w0 T M V ns) {i i' b:Nat} (hi:i<ops.size) (hi':i'<ops.size) (h:Made M i b) (h':Made M i' b):i=i':=by
 rcases Nat.lt_trichotomy i i' with hlt|heq|hgt
 ·have:=c.bP (x:=i+1) (y:=i') (by omega) (by omega)
  have:=h.2; have:=h'.1; omega
 ·exact heq
 ·have:=c.bP (x:=i'+1) (y:=i) (by omega) (by omega)
  have:=h'.2; have:=h.1; omega
theorem kx:∀{y:Nat} {b x:Nat},x≤y→(M x).next≤b→b<(M y).next→∃i,x≤i∧i<y∧Made M i b
 | 0,b,x,hx,h1,h2=>by
  have:x=0:=by omega
  subst this; omega
 | y+1,b,x,hx,h1,h2=>by
  rcases Nat.lt_or_ge b (M y).next with hlt|hge
  ·rcases Nat.lt_or_ge y x with hyx|hyx
   ·have:x=y+1:=by omega
    subst this; omega
   ·obtain⟨i,a1,a2,a3⟩:=kx hyx h1 hlt;exact⟨i,a1,by omega,a3⟩
  ·rcases Nat.lt_or_ge y x with hyx|hyx
   ·have:x=y+1:=by omega
    subst this; omega
   ·exact⟨y,hyx,by omega,hge,h2⟩
def mC (M:Nat→AMem):Nat→Nat→Option AObj
 | 0,_=>none
 | x+1,b=>if (M x).next≤b∧b<(M (x+1)).next then(M (x+1)).get b else mC M x b
def cont (M:Nat→AMem) (N s b:Nat):Option AObj:=if b<(M s).next then(M s).get b else mC M N b
def iN (M:Nat→AMem) (N s:Nat):AMem:={ next:=(M N).next,wl:=(M N).wl,objs:=.nil,base:=cont M N s}
theorem cm (N s b:Nat):(iN M N s).get b=cont M N s b:=by simp[AMem.get,iN,Heap.get_nil]
theorem Can.born (c:Can k E n ops j0 w0 T M V ns) {i b:Nat} (h:Made M i b):∀{x:Nat},x≤ops.size→i<x→mC M x b=(M (i+1)).get b
 | 0,_,hi=>by omega
 | x+1,hx,hi=>by
  simp only[mC]
  split
  ·rename_i h2;rw[c.lS (i:=i) (i':=x) (by omega) (by omega) h h2]
  ·rename_i h2;rcases Nat.lt_or_ge i x with hlt|hge
   ·exact c.born h (by omega) hlt
   ·have:i=x:=by omega
    subst this; exact(h2 h).elim
theorem Can.cn (_:Can k E n ops j0 w0 T M V ns) {s b:Nat} (h:b<(M s).next):cont M ops.size s b=(M s).get b:=by simp[cont,h]
theorem Can.jM (c:Can k E n ops j0 w0 T M V ns) {s i b:Nat} (hi:i<ops.size) (h:Made M i b) (hs:(M s).next≤b):cont M ops.size s b=(M (i+1)).get b:=by
 unfold cont;rw[if_neg (by omega)]
 exact c.born h (Nat.le_refl _) hi
theorem Can.qc (c:Can k E n ops j0 w0 T M V ns) {s s':Nat} (hs:s≤s') (hs':s'≤ops.size) (H:∀x,s≤x→x<s'→∀b,b<(M x).next→(M (x+1)).get b=(M x).get b):cont M ops.size s=cont M ops.size s':=by
 funext b
 rcases Nat.lt_or_ge b (M s).next with h1|h1
 ·rw[c.cn h1,c.cn (Nat.lt_of_lt_of_le h1 (c.bP hs' hs))];exact(c.dH hs' hs h1 fun z hz hz'=>H z hz hz' b (Nat.lt_of_lt_of_le h1 (c.bP (by omega) hz))).symm
 ·rcases Nat.lt_or_ge b (M s').next with h2|h2
  ·obtain⟨i,a1,a2,a3⟩:=kx hs h1 h2;rw[c.jM (by omega) a3 h1,c.cn h2]
   exact(c.dH (x:=i+1) hs' (by omega) a3.2 fun z hz hz'=>H z (by omega) hz' b (Nat.lt_of_lt_of_le a3.2 (c.bP (by omega) hz))).symm
  ·unfold cont;rw[if_neg (by omega),if_neg (by omega)]
structure TD (n:Nat) (ops:Array Oper) (T:Nat→Tm) (V:Nat→Value) (D:Nat→Prop) (j:aL) (tmps:Array Value):Prop where
 size:tmps.size=n
 done:∀x o d,ops[x]? = some o→D x→o.dst=some d→VR j (V x) (tmps.getD d undef)
 rest:∀d,(∀x o,ops[x]? = some o→D x→o.dst≠some d)→VR j ((T 0).at d) (tmps.getD d undef)
theorem TD.mono {D:Nat→Prop} {j j':aL} {tmps:Array Value} (h:TD n ops T V D j tmps) (hj:j.le j'):TD n ops T V D j' tmps :=
 ⟨h.size,fun x o d a b c=>(h.done x o d a b c).mono hj,fun d hd=>(h.rest d hd).mono hj⟩
theorem Can.vH (c:Can k E n ops j0 w0 T M V ns):∀{i:Nat},i≤ops.size→∀d,(∃x o,x<i∧ops[x]? = some o∧o.dst=some d∧(T i).at d=V x)∨((∀x o,x<i→ops[x]? = some o→o.dst≠some d)∧(T i).at d=(T 0).at d)
 | 0,_,d=>.inr ⟨fun x o h=>by omega,rfl⟩
 | i+1,hi,d=>by
  obtain⟨o,ho,hp,_⟩:=c.kind (i:=i) (by omega)
  unfold fM at hp;cases hd:o.dst with
  | none =>
   rw[hd] at hp;simp only[Option.some.injEq] at hp;rw[←hp];rcases c.vH (i:=i) (by omega) d with⟨x,o',h1,h2,h3,h4⟩|⟨h1,h2⟩
   ·exact .inl ⟨x,o',by omega,h2,h3,h4⟩
   ·refine .inr ⟨fun x o' hx ho'=>?_,h2⟩;rcases Nat.lt_or_ge x i with hlt|hge
    ·exact h1 x o' hlt ho'
    ·have:x=i:=by omega
     subst this;rw[ho] at ho'; cases ho';rw[hd]; simp
  | some d0 =>
   rw[hd] at hp;simp only at hp
   split at hp
   ·simp only[Option.some.injEq] at hp;rw[←hp]
    by_cases hdd:d=d0
    ·subst hdd;exact .inl ⟨i,o,by omega,ho,hd,by simp[Tm.at,Trie.bB]⟩
    ·have hat:Tm.at ((T i).set d0 (V i)) d=Tm.at (T i) d:=by simp[Tm.at,Trie.bB,hdd]
     rw[hat];rcases c.vH (i:=i) (by omega) d with⟨x,o',h1,h2,h3,h4⟩|⟨h1,h2⟩
     ·exact .inl ⟨x,o',by omega,h2,h3,h4⟩
     ·refine .inr ⟨fun x o' hx ho'=>?_,h2⟩;rcases Nat.lt_or_ge x i with hlt|hge
      ·exact h1 x o' hlt ho'
      ·have:x=i:=by omega
       subst this;rw[ho] at ho'; cases ho';rw[hd]; simp only[ne_eq,Option.some.injEq]; exact fun h=>hdd h.symm
   ·cases hp
theorem Can.pt (c:Can k E n ops j0 w0 T M V ns) {i:Nat} {o:Oper} (ho:ops[i]? = some o) {d:Tmp} (hd:o.dst=some d):d<n:=by
 obtain⟨o',ho',hp,_⟩:=c.kind (Array.getElem?_eq_some_iff.1 ho).1;rw[ho] at ho'; cases ho';unfold fM at hp;rw[hd] at hp;simp only at hp
 split at hp
 ·rename_i h; simpa using h
 ·cases hp
theorem TD.put {bs:List Nat} (hO:OrderOk ops bs) {D:Nat→Prop} {j:aL} {a:Act} {i:Nat} {o:Oper} (h:TD n ops T V D j a.tmps) (ho:ops[i]? = some o) (hn:∀d,o.dst=some d→d<n) {v':Value} (hv:VR j (V i) v') :
  TD n ops T V (fun x=>D x∨x=i) j (a.put o.dst v').tmps:=by
 cases hd:o.dst with
 | none =>
  refine⟨h.size,fun x o' d a1 a2 a3=>?_,fun d hd'=>h.rest d fun x o' a1 a2=>hd' x o' a1 (.inl a2)⟩;rcases a2 with a2|rfl
  ·exact h.done x o' d a1 a2 a3
  ·rw[ho] at a1; cases a1; rw[hd] at a3; cases a3
 | some d0 =>
  have hlt:d0<a.tmps.size:=by rw[h.size]; exact hn d0 hd
  have hget:∀d,(a.put (some d0) v').tmps.getD d undef=if d=d0 then v' else a.tmps.getD d undef:=by
   intro d
   show(a.tmps.setIfInBounds d0 v').getD d undef=_
   by_cases hdd:d=d0
   ·subst hdd; simp[hlt]
   ·rw[if_neg hdd];simp[Array.getElem?_setIfInBounds_ne (Ne.symm hdd)]
  refine⟨by rw[←h.size]; simp[Act.put],fun x o' d a1 a2 a3=>?_,fun d hd'=>?_⟩
  ·rw[hget]
   by_cases hdd:d=d0
   ·subst hdd;rw[if_pos rfl];have:x=i:=hO.uniq x i o' o d a1 ho a3 hd;subst this; exact hv
   ·rw[if_neg hdd];rcases a2 with a2|rfl
    ·exact h.done x o' d a1 a2 a3
    ·rw[ho] at a1; cases a1; rw[hd] at a3; cases a3; exact(hdd rfl).elim
  ·rw[hget]
   by_cases hdd:d=d0
   ·subst hdd; exact(hd' i o ho (.inr rfl) hd).elim
   ·rw[if_neg hdd];exact h.rest d fun x o' a1 a2=>hd' x o' a1 (.inl a2)
structure Inv (E:Env) (n:Nat) (ops:Array Oper) (j0:aL) (w0:World) (T:Nat→Tm) (M:Nat→AMem) (V:Nat→Value) (ds:List Deferred) (D:Nat→Prop) (s:Nat) (j:aL) (a:Act) (w:World):Prop where
 le:s≤ops.size
 tmps:TD n ops T V D j a.tmps
 defers:a.defers=ds
 jle:j0.le j
 new:∀b kb,j b=some kb→j0 b=none→∃i,i<ops.size∧D i∧Made M i b
 mr:MR E j (iN M ops.size s) w
 size:w0.heap.size≤w.heap.size
 full:∀i,i<ops.size→D i→∀b,Made M i b→(cont M ops.size s b).isSome=true→∃kb,j b=some kb
 fresh:∀b kb,j b=some kb→j0 b=none→w0.heap.size≤kb.c∨∃b0 k0,j0 b0=some k0∧((M 0).get b0).isSome=true∧k0.c=kb.c∧(M ops.size).wl≤b0
 frame:∀c,c<w0.heap.size→(∀b kb,j0 b=some kb→((M 0).get b).isSome=true→kb.c=c→b<(M ops.size).wl)→w.heap[c]? = w0.heap[c]?
 calm:fb E w0 w
 unt:∀i,i<s→¬D i→∀b,Made M i b→(M s).get b=(M (i+1)).get b
variable {ds : List Deferred} {D : Nat → Prop} {s : Nat} {j : aL} {a : Act} {w : World}
theorem Inv.shift (c:Can k E n ops j0 w0 T M V ns) (h:Inv E n ops j0 w0 T M V ds D s j a w) {s':Nat} (hs:s≤s') (hs':s'≤ops.size) (H:∀x,s≤x→x<s'→∀b,b<(M x).next→(M (x+1)).get b=(M x).get b) :
  Inv E n ops j0 w0 T M V ds D s' j a w:=by
 have hc:=c.qc hs hs' H;have hm:iN M ops.size s'=iN M ops.size s:=by simp only[iN,hc]
 refine { h with le:=hs',mr:=by rw[hm]; exact h.mr,full:=by rw[←hc]; exact h.full,unt:=fun i hi hD b hb=>?_}
 rcases Nat.lt_or_ge i s with hlt|hge
 ·rw[←h.unt i hlt hD b hb];have hb':b<(M s).next:=Nat.lt_of_lt_of_le hb.2 (c.bP (by omega) hlt)
  exact c.dH hs' hs hb' fun z hz hz'=>H z hz hz' b (Nat.lt_of_lt_of_le hb' (c.bP (by omega) hz))
 ·exact c.dH hs' (by omega) hb.2 fun z hz hz'=>H z (by omega) hz' b (Nat.lt_of_lt_of_le hb.2 (c.bP (by omega) hz))
theorem Inv.kK (c:Can k E n ops j0 w0 T M V ns) (h:Inv E n ops j0 w0 T M V ds D s j a w) {i b:Nat} (hi:i<ops.size) (hD:¬D i) (hb:Made M i b):j b=none:=by
 cases hj:j b with
 | none=>rfl
 | some kb =>
  cases hj0:j0 b with
  | some k0 =>
   have:=(c.mr.lt b k0 hj0).1;have:=c.bP (x:=0) (y:=i) (by omega) (Nat.zero_le _)
   have:=hb.1;omega
  | none =>
   obtain⟨i',hi',hD',hb'⟩:=h.new b kb hj hj0;exact absurd (c.lS hi hi' hb hb' ▸ hD') hD
theorem Inv.quiet {bs:List Nat} (hO:OrderOk ops bs) (c:Can k E n ops j0 w0 T M V ns) (h:Inv E n ops j0 w0 T M V ds D s j a w) {i:Nat} {o:Oper} (ho:ops[i]? = some o) (hn:(M (i+1)).next=(M i).next) {v':Value} (hv:VR j (V i) v') :
  Inv E n ops j0 w0 T M V ds (fun x=>D x∨x=i) s j (a.put o.dst v') w where
 le:=h.le
 tmps:=h.tmps.put hO ho (fun d hd=>c.pt ho hd) hv
 defers:=by rw[←h.defers]; cases o.dst<;>rfl
 jle:=h.jle
 new:=fun b kb h1 h2=>let ⟨x,a1,a2,a3⟩:=h.new b kb h1 h2; ⟨x,a1,.inl a2,a3⟩
 mr:=h.mr
 size:=h.size
 full:=fun x hx hD b hb hl=>by
  rcases hD with hD|rfl
  ·exact h.full x hx hD b hb hl
  ·have:=hb.1; have:=hb.2; omega
 fresh:=h.fresh
 frame:=h.frame
 calm:=h.calm
 unt:=fun x hx hD b hb=>h.unt x hx (fun hd=>hD (.inl hd)) b hb
theorem Inv.makes {bs:List Nat} (hO:OrderOk ops bs) (c:Can k E n ops j0 w0 T M V ns) (h:Inv E n ops j0 w0 T M V ds D s j a w) {i:Nat} {o:Oper} (ho:ops[i]? = some o) (hD:¬D i) {ao:AObj} (hn:(M (i+1)).next=(M i).next+1)
  (hg:(M (i+1)).get (M i).next=some ao) {co:Obj} (hor:OR j ⟨w.heap.size,none⟩ ao co) {v':Value} (hv:VR (j.set (M i).next ⟨w.heap.size,none⟩) (V i) v') :
  Inv E n ops j0 w0 T M V ds (fun x=>D x∨x=i) s (j.set (M i).next ⟨w.heap.size,none⟩) (a.put o.dst v') (w.alloc co):=by
 have hi:i<ops.size:=(Array.getElem?_eq_some_iff.1 ho).1;have hmade:Made M i (M i).next:=⟨Nat.le_refl _,by omega⟩
 have hnone:j (M i).next=none:=h.kK c hi hD hmade
 have hle:j.le (j.set (M i).next ⟨w.heap.size,none⟩):=aL.jj _ hnone
 have hcont:cont M ops.size s (M i).next=some ao:=by
  rcases Nat.lt_or_ge i s with hlt|hge
  ·rw[c.cn (Nat.lt_of_lt_of_le hmade.2 (c.bP h.le hlt)),h.unt i hlt hD _ hmade,hg]
  ·rw[c.jM hi hmade (c.bP (by omega) hge),hg]
 have hheap:∀x,x<w.heap.size→(w.alloc co).heap[x]? = w.heap[x]?:=fun x hx=>by
  show(w.heap.push co)[x]? = w.heap[x]?
  rw[Array.getElem?_push,if_neg (by omega)]
 have hnew:(w.alloc co).heap[w.heap.size]? = some co:=World.alloc_heap_new w co;have hcase:∀b kb,(j.set (M i).next ⟨w.heap.size,none⟩) b=some kb→(b=(M i).next∧kb=⟨w.heap.size,none⟩)∨(b≠(M i).next∧j b=some kb):=by
  intro b kb hb
  by_cases hbx:b=(M i).next
  ·subst hbx; rw[aL.bQ] at hb; cases hb; exact .inl ⟨rfl,rfl⟩
  ·rw[aL.bI _ _ hbx] at hb; exact .inr ⟨hbx,hb⟩
 refine⟨h.le,(h.tmps.mono hle).put hO ho (fun d hd=>c.pt ho hd) hv,by rw[←h.defers]; cases o.dst<;>rfl,h.jle.trans hle,?_,⟨?_,?_,?_,?_⟩,?_,?_,?_,?_,h.calm,fun x hx hDx b hb=>h.unt x hx (fun hd=>hDx (.inl hd)) b hb⟩
 ·intro b kb hb hb0;rcases hcase b kb hb with⟨rfl,rfl⟩|⟨_,hj⟩
  ·exact⟨i,hi,.inr rfl,hmade⟩
  ·obtain⟨x,a1,a2,a3⟩:=h.new b kb hj hb0;exact⟨x,a1,.inl a2,a3⟩
 ·intro b kb hb;rcases hcase b kb hb with⟨rfl,rfl⟩|⟨_,hj⟩
  ·exact⟨Nat.lt_of_lt_of_le hmade.2 (c.bP (Nat.le_refl _) hi),by rw[World.size_alloc]; exact Nat.lt_succ_self _⟩
  ·exact⟨(h.mr.lt b kb hj).1,by rw[World.size_alloc]; exact Nat.lt_succ_of_lt (h.mr.lt b kb hj).2⟩
 ·intro b o1 kb hg1 hb;rcases hcase b kb hb with⟨rfl,rfl⟩|⟨_,hj⟩
  ·rw[cm,hcont] at hg1; cases hg1;exact⟨co,hnew,hor.mono hle⟩
  ·obtain⟨o',h1,h2⟩:=h.mr.obj b o1 kb hg1 hj;exact⟨o',by rw[hheap _ (h.mr.lt b kb hj).2]; exact h1,h2.mono hle⟩
 ·intro b b' kb kb' hb hb' hl hl' he;rcases hcase b kb hb with⟨rfl,rfl⟩|⟨_,hj⟩<;>rcases hcase b' kb' hb' with⟨rfl,rfl⟩|⟨_,hj'⟩
  ·rfl
  ·have:=(h.mr.lt b' kb' hj').2;simp only at he; omega
  ·have:=(h.mr.lt b kb hj).2;simp only at he; omega
  ·exact h.mr.inj b b' kb kb' hj hj' hl hl' he
 ·intro g hgl;exact hle g _ (h.mr.glob g hgl)
 ·rw[World.size_alloc]; exact Nat.le_succ_of_le h.size
 ·intro x hx hDx b hb hl;rcases hDx with hDx|rfl
  ·obtain⟨kb,hkb⟩:=h.full x hx hDx b hb hl;exact⟨kb,hle b kb hkb⟩
  ·have hbx:b=(M x).next:=by have:=hb.1; have:=hb.2; omega
   subst hbx;exact⟨_,aL.bQ _ _ _⟩
 ·intro b kb hb hb0;rcases hcase b kb hb with⟨rfl,rfl⟩|⟨_,hj⟩
  ·exact .inl h.size
  ·exact h.fresh b kb hj hb0
 ·intro x hx H;rw[hheap x (Nat.lt_of_lt_of_le hx h.size)];exact h.frame x hx H
theorem Inv.yi (c:Can k E n ops j0 w0 T M V ns) {e:Nat} (he:e≤ops.size) (h:Inv E n ops j0 w0 T M V ds D e j a w) {x:Nat}:MR E (j.below (M e).next) { M e with wl:=x} w:=by
 obtain⟨jc,wc,tc,sg,_⟩:=c.ghost e he;have hcdom:∀b kb,jc b=some kb→b<(M e).next:=fun b kb hb=>(sg.mr.lt b kb hb).1
 refine⟨fun b kb hb=>?_,fun b o kb hg hb=>?_,fun b b' kb kb' hb hb' hl hl' hc=>?_,fun g hg=>?_⟩
 ·obtain⟨h1,h2⟩:=aL.bt.1 hb;exact⟨h1,(h.mr.lt b kb h2).2⟩
 ·obtain⟨h1,h2⟩:=aL.bt.1 hb;have hg':(M e).get b=some o:=hg;obtain⟨o',h3,h4⟩:=h.mr.obj b o kb (by rw[cm,c.cn h1]; exact hg') h2
  refine⟨o',h3,?_⟩;obtain⟨kc,hkc⟩:∃kc,jc b=some kc:=by
   cases hj0:j0 b with
   | some k0=>exact⟨k0,sg.le b k0 hj0⟩
   | none =>
    obtain⟨i,hi,_,hm⟩:=h.new b kb h2 hj0;have:=c.bP (x:=0) (y:=i) (by omega) (Nat.zero_le _)
    exact sg.full b (Nat.le_trans this hm.1) h1 (by rw[hg']; rfl)
  obtain⟨o2,_,h6⟩:=sg.mr.obj b o kc hg' hkc;exact h4.cut hcdom h6
 ·obtain⟨h1,h2⟩:=aL.bt.1 hb;obtain⟨h1',h2'⟩:=aL.bt.1 hb';refine h.mr.inj b b' kb kb' h2 h2' ?_ ?_ hc
  ·rw[cm,c.cn h1]; exact hl
  ·rw[cm,c.cn h1']; exact hl'
 ·refine aL.bt.2 ⟨?_,h.mr.glob g hg⟩;exact Nat.lt_of_lt_of_le (c.mr.lt g _ (c.mr.glob g hg)).1 (c.bP he (Nat.zero_le _))
def aL.over (j' j:aL) (y:Nat):aL:=fun b=>if b<y then j' b else j b
theorem Inv.effect {bs:List Nat} (hO:OrderOk ops bs) (c:Can k E n ops j0 w0 T M V ns) {e:Nat} (h:Inv E n ops j0 w0 T M V ds D e j a w) {o:Oper} (ho:ops[e]? = some o) (hD:¬D e) {r:AMem} (hm:M (e+1) = { r with wl:=min (M e).wl r.wl})
  {j':aL} {w':World} (sm:Sim E (j.below (M e).next) { M e with wl:=(M e).next} w j' r w') {v':Value} (hv:VR j' (V e) v') :
  Inv E n ops j0 w0 T M V ds (fun x=>D x∨x=e) (e+1) (j'.over j (M (e+1)).next) (a.put o.dst v') w':=by
 have hi:e<ops.size:=(Array.getElem?_eq_some_iff.1 ho).1;have hrn:r.next=(M (e+1)).next:=by rw[hm]
 have hrg:∀b,r.get b=(M (e+1)).get b:=fun b=>by rw[hm]; rfl
 have hrw:(M ops.size).wl≤r.wl:=by
  have h1:=c.y8 (x:=e+1) (y:=ops.size) (Nat.le_refl _) hi;have h2:(M (e+1)).wl=min (M e).wl r.wl:=by rw[hm]
  omega
 have hnx:(M e).next≤(M (e+1)).next:=(c.ext hi).next
 have hjlow:∀b kb,j b=some kb→b<(M e).next∨(M (e+1)).next≤b:=by
  intro b kb hb;rcases Nat.lt_or_ge b (M e).next with h1|h1
  ·exact .inl h1
  ·rcases Nat.lt_or_ge b (M (e+1)).next with h2|h2
   ·rw[h.kK c hi hD ⟨h1,h2⟩] at hb; cases hb
   ·exact .inr h2
 have hj'lt:∀b kb,j' b=some kb→b<(M (e+1)).next:=fun b kb hb=>hrn ▸ (sm.mr.lt b kb hb).1
 have hle':j'.le (j'.over j (M (e+1)).next):=fun b kb hb=>by
  unfold aL.over; rw[if_pos (hj'lt b kb hb)]; exact hb
 have hlej:j.le (j'.over j (M (e+1)).next):=fun b kb hb=>by
  rcases hjlow b kb hb with h1|h1
  ·exact hle' b kb (sm.le b kb (aL.bt.2 ⟨h1,hb⟩))
  ·unfold aL.over; rw[if_neg (by omega)]; exact hb
 have hcase:∀b kb,(j'.over j (M (e+1)).next) b=some kb→(b<(M (e+1)).next∧j' b=some kb)∨((M (e+1)).next≤b∧j b=some kb):=by
  intro b kb hb;unfold aL.over at hb
  split at hb
  ·exact .inl ⟨by assumption,hb⟩
  ·exact .inr ⟨by omega,hb⟩
 have hsplit:∀b kb,j' b=some kb→(j.below (M e).next b=some kb)∨(Made M e b∧j.below (M e).next b=none):=by
  intro b kb hb;cases hj:j.below (M e).next b with
  | some k0=>have:=sm.le b k0 hj; rw[hb] at this; cases this; exact .inl rfl
  | none=>exact .inr ⟨⟨sm.new b kb hb hj,hj'lt b kb hb⟩,rfl⟩
 have hcold:∀b,b<(M (e+1)).next→cont M ops.size (e+1) b=r.get b:=fun b hb=>by rw[c.cn hb,hrg]
 have hcnew:∀b,(M (e+1)).next≤b→cont M ops.size (e+1) b=cont M ops.size e b:=fun b hb=>by
  unfold cont; rw[if_neg (by omega),if_neg (by omega)]
 have halive:∀b kb,j.below (M e).next b=some kb→(r.get b).isSome=true→((M e).get b).isSome=true:=by
  intro b kb hb hl;cases hg:(M e).get b with
  | some _=>rfl
  | none =>
   have:=sm.ext.dead b (aL.bt.1 hb).1 hg;rw[this] at hl; cases hl
 have hmemlow:∀b,b<(M e).next→(iN M ops.size e).get b=(M e).get b:=fun b hb=>by rw[cm,c.cn hb]
 have hcross:∀b b' kb kb',b<(M (e+1)).next→j' b=some kb→(M (e+1)).next≤b'→j b'=some kb'→(r.get b).isSome=true→(cont M ops.size e b').isSome=true→kb.c≠kb'.c:=by
  intro b b' kb kb' h1 h2 h3 h4 hl hl' he;have old:∀b0 k0,j.below (M e).next b0=some k0→((M e).get b0).isSome=true→k0.c=kb'.c→False:=by
   intro b0 k0 hb0 hl0 he0;obtain⟨a1,a2⟩:=aL.bt.1 hb0;have:=h.mr.inj b0 b' k0 kb' a2 h4 (by rw[hmemlow b0 a1]; exact hl0) (by rw[cm]; exact hl') he0
   omega
  rcases hsplit b kb h2 with hs|⟨hs,hs0⟩
  ·exact old b kb hs (halive b kb hs hl) he
  ·rcases sm.fresh b kb h2 hs0 with hf|⟨b0,k0,a1,a2,a3,a4⟩
   ·have:=(h.mr.lt b' kb' h4).2;omega
   ·exact old b0 k0 a1 a2 (a3.trans he)
 have hframe:∀b' kb',(M (e+1)).next≤b'→j b'=some kb'→(cont M ops.size e b').isSome=true→w'.heap[kb'.c]? = w.heap[kb'.c]?:=by
  intro b' kb' h3 h4 hl';refine sm.frame kb'.c (h.mr.lt b' kb' h4).2 fun b0 k0 hb0 hl0 he0=>?_;obtain⟨a1,a2⟩:=aL.bt.1 hb0;have:=h.mr.inj b0 b' k0 kb' a2 h4 (by rw[hmemlow b0 a1]; exact hl0) (by rw[cm]; exact hl') he0
  omega
 refine⟨hi,((h.tmps.mono hlej).put hO ho (fun d hd=>c.pt ho hd) (hv.mono hle')),by rw[←h.defers]; cases o.dst<;>rfl,h.jle.trans hlej,?_,⟨?_,?_,?_,fun g hg=>hlej g _ (h.mr.glob g hg)⟩,Nat.le_trans h.size sm.size,?_,?_,?_,fb.trans h.calm sm.calm,?_⟩
 ·intro b kb hb hb0;rcases hcase b kb hb with⟨_,h2⟩|⟨_,h2⟩
  ·rcases hsplit b kb h2 with hs|⟨hs,_⟩
   ·obtain⟨x,a1,a2,a3⟩:=h.new b kb (aL.bt.1 hs).2 hb0;exact⟨x,a1,.inl a2,a3⟩
   ·exact⟨e,hi,.inr rfl,hs⟩
  ·obtain⟨x,a1,a2,a3⟩:=h.new b kb h2 hb0;exact⟨x,a1,.inl a2,a3⟩
 ·intro b kb hb;rcases hcase b kb hb with⟨h1,h2⟩|⟨h1,h2⟩
  ·exact⟨Nat.lt_of_lt_of_le h1 (c.bP (Nat.le_refl _) hi),(sm.mr.lt b kb h2).2⟩
  ·exact⟨(h.mr.lt b kb h2).1,Nat.lt_of_lt_of_le (h.mr.lt b kb h2).2 sm.size⟩
 ·intro b o1 kb hg1 hb;rw[cm] at hg1;rcases hcase b kb hb with⟨h1,h2⟩|⟨h1,h2⟩
  ·rw[hcold b h1] at hg1;obtain⟨o',a1,a2⟩:=sm.mr.obj b o1 kb hg1 h2;exact⟨o',a1,a2.mono hle'⟩
  ·rw[hcnew b h1] at hg1;obtain⟨o',a1,a2⟩:=h.mr.obj b o1 kb (by rw[cm]; exact hg1) h2
   exact⟨o',by rw[hframe b kb h1 h2 (by rw[hg1]; rfl)]; exact a1,a2.mono hlej⟩
 ·intro b b' kb kb' hb hb' hl hl' he;rw[cm] at hl hl';rcases hcase b kb hb with⟨h1,h2⟩|⟨h1,h2⟩<;>rcases hcase b' kb' hb' with⟨h1',h2'⟩|⟨h1',h2'⟩
  ·exact sm.mr.inj b b' kb kb' h2 h2' (by rw[←hcold b h1]; exact hl) (by rw[←hcold b' h1']; exact hl') he
  ·exact(hcross b b' kb kb' h1 h2 h1' h2' (by rw[←hcold b h1]; exact hl) (by rw[←hcnew b' h1']; exact hl') he).elim
  ·exact(hcross b' b kb' kb h1' h2' h1 h2 (by rw[←hcold b' h1']; exact hl') (by rw[←hcnew b h1]; exact hl) he.symm).elim
  ·exact h.mr.inj b b' kb kb' h2 h2' (by rw[cm,←hcnew b h1]; exact hl) (by rw[cm,←hcnew b' h1']; exact hl') he
 ·intro x hx hDx b hb hl;rcases hDx with hDx|rfl
  ·have hold:(cont M ops.size e b).isSome=true:=by
    rcases Nat.lt_or_ge b (M (e+1)).next with h1|h1
    ·rw[hcold b h1] at hl;have hxe:x≠e:=fun hxe=>hD (hxe ▸ hDx);have hxlt:x<e:=by
      rcases Nat.lt_or_ge x e with hlt|hge
      ·exact hlt
      ·have:=c.bP (x:=e+1) (y:=x) (by omega) (by omega)
       have:=hb.1; omega
     have hb2:b<(M e).next:=Nat.lt_of_lt_of_le hb.2 (c.bP (by omega) hxlt)
     rw[c.cn hb2];cases hg:(M e).get b with
     | some _=>rfl
     | none =>
      have:=sm.ext.dead b hb2 hg;rw[this] at hl; cases hl
    ·rw[←hcnew b h1]; exact hl
   obtain⟨kb,hkb⟩:=h.full x hx hDx b hb hold;exact⟨kb,hlej b kb hkb⟩
  ·rw[hcold b hb.2] at hl;obtain⟨kb,hkb⟩:=sm.full b hb.1 (by rw[hrn]; exact hb.2) hl
   exact⟨kb,hle' b kb hkb⟩
 ·
  have freshOf:∀b0 k0,j.below (M e).next b0=some k0→((M e).get b0).isSome=true→(M ops.size).wl≤b0→w0.heap.size≤k0.c∨∃b1 k1,j0 b1=some k1∧((M 0).get b1).isSome=true∧k1.c=k0.c∧(M ops.size).wl≤b1:=by
   intro b0 k0 hb0 hl0 hw;have hb0':=(aL.bt.1 hb0).2;cases hj0:j0 b0 with
   | some k1 =>
    have:=h.jle b0 k1 hj0;rw[hb0'] at this; cases this;refine .inr ⟨b0,k0,hj0,?_,rfl,hw⟩;obtain⟨jc,wc,tc,sg,_⟩:=c.ghost e (by omega)
    cases hg:(M 0).get b0 with
    | some _=>rfl
    | none =>
     have:=sg.ext.dead b0 (c.mr.lt b0 k0 hj0).1 hg;rw[this] at hl0; cases hl0
   | none=>exact h.fresh b0 k0 hb0' hj0
  intro b kb hb hb0;rcases hcase b kb hb with⟨_,h2⟩|⟨_,h2⟩
  ·rcases hsplit b kb h2 with hs|⟨_,hs0⟩
   ·exact h.fresh b kb (aL.bt.1 hs).2 hb0
   ·rcases sm.fresh b kb h2 hs0 with hf|⟨b0,k0,a1,a2,a3,a4⟩
    ·exact .inl (Nat.le_trans h.size hf)
    ·rcases freshOf b0 k0 a1 a2 (Nat.le_trans hrw a4) with hf|⟨b1,k1,c1,c2,c3,c4⟩
     ·exact .inl (a3 ▸ hf)
     ·exact .inr ⟨b1,k1,c1,c2,c3.trans a3,c4⟩
  ·exact h.fresh b kb h2 hb0
 ·intro x hx H;rw[←h.frame x hx H];refine sm.frame x (Nat.lt_of_lt_of_le hx h.size) fun b0 k0 hb0 hl0 he0=>?_;have hb0':=(aL.bt.1 hb0).2;cases hj0:j0 b0 with
  | some k1 =>
   have:=h.jle b0 k1 hj0;rw[hb0'] at this; cases this;refine Nat.lt_of_lt_of_le (H b0 k0 hj0 ?_ he0) hrw;obtain⟨jc,wc,tc,sg,_⟩:=c.ghost e (by omega)
   cases hg:(M 0).get b0 with
   | some _=>rfl
   | none =>
    have hl0':((M e).get b0).isSome=true:=hl0;have:=sg.ext.dead b0 (c.mr.lt b0 k0 hj0).1 hg;rw[this] at hl0'; cases hl0'
  | none =>
   rcases h.fresh b0 k0 hb0' hj0 with hf|⟨b1,k1,c1,c2,c3,c4⟩
   ·omega
   ·have:=H b1 k1 c1 c2 (c3.trans he0);omega
 ·intro x hx hDx b hb;have hDx':¬D x:=fun hd=>hDx (.inl hd);rcases Nat.lt_or_ge x e with hlt|hge
  ·have hb2:b<(M e).next:=Nat.lt_of_lt_of_le hb.2 (c.bP (by omega) hlt)
   rw[←h.unt x hlt hDx' b hb,←hrg];refine sm.away b hb2 ?_;cases hj:j.below (M e).next b with
   | none=>rfl
   | some kb =>
    have:=(aL.bt.1 hj).2;rw[h.kK c (by omega) hDx' hb] at this; cases this
  ·exact absurd (by omega:x=e) (fun hxe=>hDx (.inr hxe))
structure Ready (ops:Array Oper) (bs:List Nat) (D:Nat→Prop) (i:Nat) (o:Oper):Prop where
 op:ops[i]? = some o
 out:¬D i
 edges:∀e ∈ bV o,D e
 closed:∀j o,ops[j]? = some o→D j→∀e ∈ bV o,D e
theorem Ready.before {bs:List Nat} (hO:OrderOk ops bs) {i:Nat} {o:Oper} (hr:Ready ops bs D i o) {x:Nat} (hx:x<i) (hb:qF bs x i):D x:=uk hO hr.closed i o hr.op hr.edges x hx hb
theorem Ready.behind {bs:List Nat} (hO:OrderOk ops bs) {i:Nat} {o:Oper} (hr:Ready ops bs D i o) {x:Nat} {ox:Oper} (hox:ops[x]? = some ox) (hx:i<x) (hD:D x):¬qF bs i x:=fun hb =>
 hr.out (uk hO hr.closed x ox hox (hr.closed x ox hox hD) i hx hb)
theorem Ready.looked {bs:List Nat} (hO:OrderOk ops bs) (c:Can k E n ops j0 w0 T M V ns) {i:Nat} {o:Oper} (hr:Ready ops bs D i o) {tmps:Array Value} (h:TD n ops T V D j tmps):∀d ∈ looks ops o,VR j ((T i).at d) (tmps.getD d undef):=by
 intro d hd;have hi:i<ops.size:=(Array.getElem?_eq_some_iff.1 hr.op).1;have seen:∀x ox,x<i→ops[x]? = some ox→ox.dst=some d→D x:=by
  intro x ox hx hox hdx
  by_cases hb:qF bs x i
  ·exact hr.before hO hx hb
  ·exact((ik (hO.apart x i ox o hx hox hr.op hb)).1 d hdx hd).elim
 rcases c.vH (i:=i) (by omega) d with⟨x,ox,h1,h2,h3,h4⟩|⟨h1,h2⟩
 ·rw[h4];exact h.done x ox d h2 (seen x ox h1 h2 h3) h3
 ·rw[h2];refine h.rest d fun x ox hox hDx hdx=>?_;rcases Nat.lt_trichotomy x i with hlt|heq|hgt
  ·exact h1 x ox hlt hox hdx
  ·subst heq; exact hr.out hDx
  ·have hnb:=hr.behind hO hox hgt hDx;exact(ik (hO.apart i x o ox hgt hr.op hox hnb)).2.1 d hdx hd
theorem ke {bs:List Nat} {i j:Nat} {a b:Oper} (hij:i<j) (ha:ops[i]? = some a) (hb:ops[j]? = some b) (hn:¬qF bs i j) (hc:clash a b=true):(i,j) ∈ iM ops bs:=by
 have hj:j<ops.size:=(Array.getElem?_eq_some_iff.1 hb).1;simp only[iM,List.mem_flatMap,List.mem_range,List.mem_map,List.mem_filter,Bool.and_eq_true,Bool.not_eq_true'];refine⟨j,hj,i,⟨hij,?_,?_⟩,rfl⟩
 ·unfold qF at hn
  simpa using hn
 ·rw[cA ha,cA hb]; exact hc
theorem Inv.reads {bs:List Nat} (hO:OrderOk ops bs) (c:Can k E n ops j0 w0 T M V ns) (hpairs:(iM ops bs).all (cN ns ops)=true) (hnote:ns.all dI=true) (h:Inv E n ops j0 w0 T M V ds D s j a w)
  (heff:∀x o,ops[x]? = some o→az o.op=true→(D x↔x<s)) {i:Nat} {o:Oper} (hr:Ready ops bs D i o) (hw:bK ops o (T i)=true) (_:az o.op=false) {b:Nat} (hb:aS E (T i) o.op=some b) :
  cont M ops.size s b=(M i).get b:=by
 have hi:i<ops.size:=(Array.getElem?_eq_some_iff.1 hr.op).1;obtain⟨ni,o',hn1,ho',hn2,hn3,hn4⟩:=c.note hi;rw[hr.op] at ho'; cases ho';have hread:ni.read=some b:=by rw[hn4 hw,hb]
 have hblt:b<(M i).next:=by
  have:=List.all_eq_true.1 hnote ni (List.mem_of_getElem? hn1);unfold dI at this;rw[hread] at this;rw[←hn2]; simpa using this
 have hrd:jD o.op=true:=lG hb;have okOf:∀x nx,ns[x]? = some nx→Note.ok ni nx=true→b<(M x).next→x<ops.size→(M (x+1)).get b=(M x).get b:=by
  intro x nx hnx hok hbx hx;obtain⟨nx',ox,g1,g2,g3,g4,g5⟩:=c.note hx;rw[hnx] at g1; cases g1;refine g4 b hbx ?_;unfold Note.ok at hok;rw[hread] at hok;simp only[Bool.or_eq_true,decide_eq_true_eq] at hok;rcases hok with((hok|hok) | hok) | hok
  ·exact .inl hok
  ·rw[g3] at hok; omega
  ·split at hok
   ·rename_i b' hb';exact .inr (.inl ⟨b',hb',by simpa using hok⟩)
   ·cases hok
  ·exact .inr (.inr hok)
 have pairAt:∀x y,(x,y) ∈ iM ops bs→∃nx ny,ns[x]? = some nx∧ns[y]? = some ny∧(az (ops.getD y default).op=true→Note.ok nx ny=true)∧(az (ops.getD x default).op=true→Note.ok ny nx=true):=by
  intro x y hxy;have:=List.all_eq_true.1 hpairs _ hxy;unfold cN at this
  split at this
  ·rename_i nx ny g1 g2;simp only[Bool.and_eq_true,Bool.or_eq_true,Bool.not_eq_true'] at this;exact⟨nx,ny,g1,g2,fun he=>this.1.resolve_left (fun hf=>absurd (he.symm.trans hf) (by simp)),fun he=>this.2.resolve_left (fun hf=>absurd (he.symm.trans hf) (by simp))⟩
  ·cases this
 have stepOk:∀x,x<ops.size→b<(M x).next→((x<i∧¬x<s)∨(i≤x∧x<s))→(M (x+1)).get b=(M x).get b:=by
  intro x hx hbx hcase;obtain⟨ox,hox⟩:∃ox,ops[x]? = some ox:=⟨ops[x],by simp[hx]⟩
  cases hex:az ox.op with
  | false=>exact c.keep hox (.inl hex) b hbx
  | true =>
   rcases hcase with⟨h1,h2⟩|⟨h1,h2⟩
   ·have hnD:¬D x:=fun hd=>h2 ((heff x ox hox hex).1 hd);have hnb:¬qF bs x i:=fun hb=>hnD (hr.before hO h1 hb);obtain⟨nx,ny,g1,g2,g3,g4⟩:=pairAt x i (ke h1 hox hr.op hnb (by simp[clash,hex,hrd]))
    rw[hn1] at g2; cases g2;exact okOf x nx g1 (g4 (by rw[cA hox]; exact hex)) hbx hx
   ·have hD:D x:=(heff x ox hox hex).2 h2;have hxi:i≠x:=fun he=>hr.out (he ▸ hD);have hnb:=hr.behind hO hox (by omega) hD
    obtain⟨nx,ny,g1,g2,g3,g4⟩:=pairAt i x (ke (by omega) hr.op hox hnb (by simp[clash,hex,hrd]))
    rw[hn1] at g1; cases g1;exact okOf x ny g2 (g3 (by rw[cA hox]; exact hex)) hbx hx
 rcases Nat.lt_or_ge i s with his|his
 ·have hbs:b<(M s).next:=Nat.lt_of_lt_of_le hblt (c.bP h.le (by omega))
  rw[c.cn hbs];exact c.dH h.le (by omega) hblt fun z h1 h2=>stepOk z (by have:=h.le; omega) (Nat.lt_of_lt_of_le hblt (c.bP (by have:=h.le; omega) h1)) (.inr ⟨h1,h2⟩)
 ·rcases Nat.lt_or_ge b (M s).next with h1|h1
  ·rw[c.cn h1];exact(c.dH (by omega) his h1 fun z h2 h3=>stepOk z (by omega) (Nat.lt_of_lt_of_le h1 (c.bP (by omega) h2)) (.inl ⟨h3,by omega⟩)).symm
  ·obtain⟨x,a1,a2,a3⟩:=kx his h1 hblt;rw[c.jM (by omega) a3 h1]
   exact(c.dH (x:=x+1) (by omega) (by omega) a3.2 fun z h2 h3=>stepOk z (by omega) (Nat.lt_of_lt_of_le a3.2 (c.bP (by omega) h2)) (.inl ⟨h3,by omega⟩)).symm
theorem lf {m:AMem} {t:Tm} {o:Oper} (h:MR E j m w) (ht:∀d ∈ tmpsOf o.op.operands.toList,VR j (t.at d) (a.tmps.getD d undef)) {v:Value} {m':AMem} (e:dx E t m o.op=some (v,m')) (hne:az o.op=false) :
  (m'=m∧∃v',gN E.P (execOp a.eval o) v' w w∧VR j v v') ∨
  (∃(ao:AObj) (co:Obj) (vb:Nat→Value) (v':Value),gN E.P (execOp a.eval o) v' w (w.alloc co)∧OR j ⟨w.heap.size,none⟩ ao co∧(∀(j':aL) (b:Nat),j' b=some ⟨w.heap.size,none⟩→VR j' (vb b) v') ∧
   ∀m2:AMem,dx E t m2 o.op=some (vb m2.next,m2.alloc ao)):=by
 have hT:TR (gI a.tmps (tmpsOf o.op.operands.toList)).size j (j7 t (tmpsOf o.op.operands.toList)) ({ tmps:=gI a.tmps (tmpsOf o.op.operands.toList),defers:=a.defers}:Act).tmps:=by
  refine⟨rfl,fun d=>?_⟩
  show VR j _ ((gI a.tmps _).getD d undef)
  rw[gX,gk]
  split
  ·rename_i hd; exact ht d hd
  ·exact VR.undef j
 have hev:∀x ∈ o.op.operands.toList,av E (j7 t (tmpsOf o.op.operands.toList)) x=av E t x:=by
  intro x hx;cases x with
  | tmp d=>simp only[av,gX,if_pos (ff.2 hx)]
  | _=>rfl
 have hex:execOp ({ tmps:=gI a.tmps (tmpsOf o.op.operands.toList),defers:=a.defers}:Act).eval o=execOp a.eval o:=by
  refine execOp_congr o (fun cs b hs=>?_) fun x hx=>?_
  ·rw[hs] at e; simp[dx] at e
  ·cases x with
   | tmp d =>
    show(gI a.tmps _).getD d undef=a.tmps.getD d undef
    rw[gk,if_pos (ff.2 (by simpa using hx))]
   | _=>rfl
 rcases nj h hT ((jK hev).trans e) with⟨h1,_,v',h2,h3⟩|⟨ao,co,vb,v',_,_,h2,h3,h4,h5⟩|⟨h1,_⟩
 ·rw[hex] at h2;exact .inl ⟨h1,v',h2,h3⟩
 ·rw[hex] at h2;exact .inr ⟨ao,co,vb,v',h2,h3,h4,fun m2=>(jK hev).symm.trans (h5 m2)⟩
 ·rw[hne] at h1; cases h1
theorem oL {listed:Array Bool} {o:Oper} (h:∀e ∈ o.after,Region.binds .any e=true→listed.getD e.on false=true):∀e ∈ bV o,listed.getD e false=true:=by
 intro e he;unfold bV at he;obtain⟨x,hx,hxe⟩:=List.mem_filterMap.1 he
 split at hxe
 ·rename_i hb;cases hxe;exact h x (by simpa using hx) hb
 ·cases hxe
theorem oG {listed:Array Bool} {o:Oper} (h:∀e ∈ bV o,listed.getD e false=true):∀e ∈ o.after,Region.binds .any e=true→listed.getD e.on false=true:=by
 intro e he hb;exact h e.on (List.mem_filterMap.2 ⟨e,by simpa using he,by rw[if_pos hb]⟩)
def outs (listed:Array Bool) (N:Nat):Nat:=((List.range N).filter fun i=>!listed.getD i false).length
theorem filter_lt {l:List Nat} {p q:Nat→Bool} (h:∀x,q x=true→p x=true):(l.filter q).length≤(l.filter p).length:=by
 induction l with
 | nil=>simp
 | cons x l ih =>
  simp only[List.filter_cons];cases hq:q x with
  | true=>simp[h x hq,ih]
  | false=>cases p x<;>simp<;>omega
theorem pP {l:List Nat} {p q:Nat→Bool} (h:∀x,q x=true→p x=true) {y:Nat} (hy:y ∈ l) (hp:p y=true) (hq:q y=false):(l.filter q).length<(l.filter p).length:=by
 induction l with
 | nil=>simp at hy
 | cons x l ih =>
  simp only[List.filter_cons];rcases List.mem_cons.1 hy with rfl|hy
  ·have:=filter_lt (l:=l) h;simp[hp,hq]; omega
  ·have:=ih hy;cases hqx:q x with
   | true=>simp[h x hqx,this]
   | false=>cases p x<;>simp<;>omega
theorem kI {listed:Array Bool} {i:Nat} (hi:i<listed.size) (x:Nat):(listed.setIfInBounds i true).getD x false=true↔(listed.getD x false=true∨x=i):=by
 by_cases hx:i=x
 ·subst hx; simp[hi]
 ·rw[getD_set_ne false hx];constructor
  ·exact .inl
  ·rintro(h|h)
   ·exact h
   ·exact(hx h.symm).elim
theorem rQ {listed:Array Bool} {N i:Nat} (hs:listed.size=N) (hi:i<N) (h:listed.getD i false=false):outs (listed.setIfInBounds i true) N<outs listed N:=by
 refine pP (y:=i) (fun x hx=>?_) (List.mem_range.2 hi) (by simp[h]) ?_
 ·simp only[Bool.not_eq_true'] at hx ⊢;cases hl:listed.getD x false with
  | false=>rfl
  | true=>rw[(kI (by omega) x).2 (.inl hl)] at hx; cases hx
 ·simp only[Bool.not_eq_false'];exact(kI (by omega) i).2 (.inr rfl)
theorem rD {listed:Array Bool} {N:Nat} (h:outs listed N=0):∀i,i<N→listed.getD i false=true:=by
 intro i hi;unfold outs at h;have:=List.length_eq_zero_iff.1 h;have:=(List.filter_eq_nil_iff.1 this) i (List.mem_range.2 hi)
 simpa using this
theorem Inv.congr {D':Nat→Prop} (h:Inv E n ops j0 w0 T M V ds D s j a w) (e:∀x,D x↔D' x):Inv E n ops j0 w0 T M V ds D' s j a w:=by
 have:D=D':=funext fun x=>propext (e x);rw[←this]; exact h
theorem xS {bs:List Nat} (hO:OrderOk ops bs) (c:Can k E n ops j0 w0 T M V ns) (hpairs:(iM ops bs).all (cN ns ops)=true) (hnote:ns.all dI=true) {F:Fence} (hF:gh F) {Q:Exit→Act→World→Prop}
  (hQ:∀j' w' a',Sim E j0 (M 0) w0 j' (M ops.size) w'→TR n j' (T ops.size) a'.tmps→a'.defers=ds→Q .normal a' w') :
  ∀(fuel:Nat) (listed:Array Bool) (s:Nat) (j:aL) (a:Act) (w:World),listed.size=ops.size→outs listed ops.size≤fuel→(∀x o,ops[x]? = some o→listed.getD x false=true→∀e ∈ bV o,listed.getD e false=true) →
   Inv E n ops j0 w0 T M V ds (fun x=>listed.getD x false=true) s j a w→(∀x o,ops[x]? = some o→az o.op=true→(listed.getD x false=true↔x<s)) →
   wpAnyIn F 0 E.P .any ops Q fuel listed a w:=by
 have fin:∀(listed:Array Bool) (s:Nat) (j:aL) (a:Act) (w:World),(∀i,i<ops.size→listed.getD i false=true)→Inv E n ops j0 w0 T M V ds (fun x=>listed.getD x false=true) s j a w →
   (∀x o,ops[x]? = some o→az o.op=true→(listed.getD x false=true↔x<s))→Q .normal a w:=by
  intro listed s j a w hall hinv heff;have hx:=hinv.shift c (s':=ops.size) hinv.le (Nat.le_refl _) fun x h1 h2 b hb=>by
   obtain⟨ox,hox⟩:∃ox,ops[x]? = some ox:=⟨ops[x],by simp[h2]⟩
   refine c.keep hox (.inl ?_) b hb;cases he:az ox.op with
   | false=>rfl
   | true=>have:=(heff x ox hox he).1 (hall x h2); omega
  obtain⟨jc,wc,tc,sg,_⟩:=c.ghost ops.size (Nat.le_refl _);have hmem:∀b,b<(M ops.size).next→(iN M ops.size ops.size).get b=(M ops.size).get b:=fun b hb=>by rw[cm,c.cn hb]
  refine hQ j w a ⟨sg.ext,hx.jle,fun b kb h1 h2=>?_,⟨fun b kb hb=>hx.mr.lt b kb hb,fun b o kb hg hb=>?_,fun b b' kb kb' hb hb' hl hl' he=>?_,hx.mr.glob⟩,hx.size,fun b h1 h2 hl=>?_,sg.away,hx.fresh,hx.frame,hx.calm⟩ ⟨hx.tmps.size,fun d=>?_⟩ hx.defers
  ·obtain⟨i,a1,_,a3⟩:=hx.new b kb h1 h2;exact Nat.le_trans (c.bP (by omega) (Nat.zero_le _)) a3.1
  ·exact hx.mr.obj b o kb (by rw[hmem b (hx.mr.lt b kb hb).1]; exact hg) hb
  ·exact hx.mr.inj b b' kb kb' hb hb' (by rw[hmem b (hx.mr.lt b kb hb).1]; exact hl) (by rw[hmem b' (hx.mr.lt b' kb' hb').1]; exact hl') he
  ·obtain⟨i,a1,a2,a3⟩:=kx (Nat.zero_le ops.size) h1 h2;exact hx.full i a2 (hall i a2) b a3 (by rw[c.cn h2]; exact hl)
  ·rcases c.vH (i:=ops.size) (Nat.le_refl _) d with⟨x,o,h1,h2,h3,h4⟩|⟨h1,h2⟩
   ·rw[h4]; exact hx.tmps.done x o d h2 (hall x h1) h3
   ·rw[h2]; exact hx.tmps.rest d fun x o ho _=>h1 x o (Array.getElem?_eq_some_iff.1 ho).1 ho
 intro fuel
 induction fuel with
 | zero =>
  intro listed s j a w hsz hout hcl hinv heff;have hall:=rD (Nat.le_zero.1 hout);refine⟨?_,fin listed s j a w hall hinv heff⟩;cases hr:Region.ready .any ops listed with
  | nil=>rfl
  | cons i l =>
   have hi:i ∈ Region.ready .any ops listed:=by rw[hr]; simp
   obtain⟨h1,o,ho,_⟩:=mem_ready.1 hi;have hlt:i<ops.size:=(Array.getElem?_eq_some_iff.1 ho).1;have h2:=hall i hlt;have:listed.getD i true=listed.getD i false:=by simp[hsz,hlt]
   rw[this,h2] at h1; cases h1
 | succ fuel ih =>
  intro listed s j a w hsz hout hcl hinv heff;refine⟨fun hnil=>fin listed s j a w (fun i hi=>?_) hinv heff,fun i hi=>?_⟩
  ·
   induction i using Nat.strongRecOn with
   | _ i ihi =>
    cases hl:listed.getD i false with
    | true=>rfl
    | false =>
     obtain⟨o,ho⟩:∃o,ops[i]? = some o:=⟨ops[i],by simp[hi]⟩
     have hmem:i ∈ Region.ready .any ops listed:=by
      refine mem_ready.2 ⟨?_,o,ho,oG fun e he=>ihi e (hO.edge i o ho e he) (Nat.lt_trans (hO.edge i o ho e he) hi)⟩;have:listed.getD i true=listed.getD i false:=by simp[hsz,hi]
      rw[this,hl]
     rw[hnil] at hmem; cases hmem
  ·obtain⟨h1,o,ho,h3⟩:=mem_ready.1 hi;have hlt:i<ops.size:=(Array.getElem?_eq_some_iff.1 ho).1;have hl:listed.getD i false=false:=by
    have:listed.getD i true=listed.getD i false:=by simp[hsz,hlt]
    rw[←this]; exact h1
   have hr:Ready ops bs (fun x=>listed.getD x false=true) i o:=⟨ho,by simp[hl],oL h3,hcl⟩
   have hlook:=hr.looked hO c hinv.tmps;have hwant:Region.wanted o (yielded ops a.tmps)=bK ops o (T i):=ph o fun g want d hg hd=>hlook d (by
    unfold looks;rw[hg];exact List.mem_append_right _ (by simp[hd]))
   have hoper:∀d ∈ tmpsOf o.op.operands.toList,VR j ((T i).at d) (a.tmps.getD d undef):=fun d hd=>hlook d (List.mem_append_left _ hd);have next:∀(s':Nat) (j':aL) (a':Act) (w':World),Inv E n ops j0 w0 T M V ds (fun x=>listed.getD x false=true∨x=i) s' j' a' w'→(∀x o,ops[x]? = some o→az o.op=true→((listed.getD x false=true∨x=i)↔x<s')) →
     wpAnyIn F 0 E.P .any ops Q fuel (listed.setIfInBounds i true) a' w':=by
    intro s' j' a' w' hinv' heff';have hiff:=kI (listed:=listed) (i:=i) (by omega)
    refine ih _ s' j' a' w' (by simp[hsz]) (by have:=rQ hsz hlt hl; omega) (fun x ox hox hx e he=>?_) (hinv'.congr fun x=>(hiff x).symm) fun x ox hox he=>(hiff x).trans (heff' x ox hox he)
    rcases(hiff x).1 hx with hx|rfl
    ·exact(hiff e).2 (.inl (hcl x ox hox hx e he))
    ·rw[ho] at hox; cases hox;exact(hiff e).2 (.inl (hr.edges e he))
   have effs:az o.op=true→s≤i∧(∀x ox,ops[x]? = some ox→az ox.op=true→s≤x→x<i→False)∧(∀x o,ops[x]? = some o→az o.op=true→((listed.getD x false=true∨x=i)↔x<i+1)):=by
    intro he;have hsi:s≤i:=by
     rcases Nat.lt_or_ge i s with h|h
     ·have:=(heff i o ho he).2 h;rw[hl] at this; cases this
     ·exact h
    have hbefore:∀x ox,ops[x]? = some ox→az ox.op=true→x<i→listed.getD x false=true:=by
     intro x ox hox hex hxi
     by_cases hb:qF bs x i
     ·exact hr.before hO hxi hb
     ·exact((ik (hO.apart x i ox o hxi hox ho hb)).2.2 ⟨hex,he⟩).elim
    refine⟨hsi,fun x ox hox hex h1 h2=>?_,fun x ox hox hex=>⟨?_,fun hx=>?_⟩⟩
    ·have:=(heff x ox hox hex).1 (hbefore x ox hox hex h2);omega
    ·rintro(hx|rfl)
     ·have:=(heff x ox hox hex).1 hx; omega
     ·omega
    ·rcases Nat.lt_or_ge x i with h|h
     ·exact .inl (hbefore x ox hox hex h)
     ·exact .inr (by omega)
   have noEff:az o.op=false→∀x ox,ops[x]? = some ox→az ox.op=true→((listed.getD x false=true∨x=i)↔x<s):=by
    intro he x ox hox hex;rw[←heff x ox hox hex];refine⟨fun h=>h.resolve_right fun hxi=>?_,.inl⟩;subst hxi;rw[ho] at hox; cases hox;rw[he] at hex; cases hex
   obtain⟨o',ho',hput,hkind⟩:=c.kind hlt;rw[ho] at ho'; cases ho';unfold wpOpIn;simp only[ho];cases hkind with
   | skip hw hv hm =>
    rw[hwant,hw];simp only[Bool.false_eq_true,if_false];refine⟨fun f _=>hF.fn f,?_⟩;have hvu:VR j (V i) undef:=by rw[hv]; exact VR.undef j
    have hinv':=hinv.quiet hO c ho (by rw[hm]) hvu
    cases he:az o.op with
    | false=>exact next s j _ w hinv' (noEff he)
    | true =>
     obtain⟨e1,e2,e3⟩:=effs he;refine next (i+1) j _ w (hinv'.shift c (by omega) hlt fun x h1 h2 b hb=>?_) e3
     rcases Nat.lt_or_ge x i with hxi|hxi
     ·obtain⟨ox,hox⟩:∃ox,ops[x]? = some ox:=⟨ops[x]'(by omega),Array.getElem?_eq_getElem (by omega)⟩
      refine c.keep hox (.inl ?_) b hb;cases hex:az ox.op with
      | false=>rfl
      | true=>exact(e2 x ox hox hex h1 hxi).elim
     ·have:x=i:=by omega
      subst this;rw[hm]
   | quiet hw he hn hg ha =>
    rw[hwant,hw];simp only[if_true];have hopA:=ha (iN M ops.size s) fun b0 hb0=>by rw[cm]; exact hinv.reads hO c hpairs hnote heff hr hw he hb0
    rcases lf (a:=a) hinv.mr hoper hopA he with⟨_,v',h5,h6⟩|⟨ao,co,vb,v',_,_,_,h8⟩
    ·exact cC hF (iq hopA) h5 (next s j _ w (hinv.quiet hO c ho hn h6) (noEff he))
    ·have:=h8 (iN M ops.size s);rw[hopA] at this;simp only[Option.some.injEq,Prod.mk.injEq] at this;have h9:=congrArg AMem.next this.2
     simp only[AMem.alloc] at h9;omega
   | makes hw he vb ao hv hn hg ha =>
    rw[hwant,hw];simp only[if_true];have hopA:=ha (iN M ops.size s);rcases lf (a:=a) hinv.mr hoper hopA he with⟨h4,_⟩|⟨ao',co,vb',v',h5,h6,h7,h8⟩
    ·have h9:=congrArg AMem.next h4
     simp only[AMem.alloc] at h9;omega
    ·have hao:ao=ao':=by
      have:=(ha (iN M ops.size s)).symm.trans (h8 (iN M ops.size s));simp only[Option.some.injEq,Prod.mk.injEq] at this;have h9:=congrArg (fun m=>AMem.get m (iN M ops.size s).next) this.2
      simp only[AMem.aY,if_true,Option.some.injEq] at h9;exact h9
     subst hao;have hvb:V i=vb' (M i).next:=by
      have:=(ha (M i)).symm.trans (h8 (M i));simp only[Option.some.injEq,Prod.mk.injEq] at this;rw[hv]; exact this.1
     have hget:(M (i+1)).get (M i).next=some ao:=by rw[hg,if_pos rfl]
     refine cC hF (iq hopA) h5 (next s _ _ _ (hinv.makes hO c ho (by simp[hl]) hn hget h6 ?_) (noEff he))
     rw[hvb];exact h7 _ _ (aL.bQ _ _ _)
   | effect hw he r hr' hm =>
    rw[hwant,hw];simp only[if_true];obtain⟨e1,e2,e3⟩:=effs he;have hinv':=hinv.shift c (s':=i) e1 (by omega) fun x h1 h2 b hb=>by
     obtain⟨ox,hox⟩:∃ox,ops[x]? = some ox:=⟨ops[x]'(by omega),Array.getElem?_eq_getElem (by omega)⟩
     refine c.keep hox (.inl ?_) b hb;cases hex:az ox.op with
     | false=>rfl
     | true=>exact(e2 x ox hox hex h1 h2).elim
    have hmr:=hinv'.yi c (by omega) (x:=(M i).next)
    obtain⟨jc,wc,tc,sg,htg⟩:=c.ghost i (by omega)
    have hops:∀d ∈ tmpsOf o.op.operands.toList,VR (j.below (M i).next) ((T i).at d) (a.tmps.getD d undef):=fun d hd =>
     (hoper d hd).cut (fun b kb hb=>(sg.mr.lt b kb hb).1) (htg.2 d)
    refine(oY (a:=a) c.hk hmr hops hr').wpIn hF (iZ hr') ?_;rintro v' w' ⟨j',sm,hv'⟩;exact next (i+1) _ _ _ (hinv'.effect hO c ho (by simp[hl]) hm sm hv') e3
theorem tR (hk:∀tk r,k tk=some r→ca E tk r) (hmix:E.P.follows .mixedOrders=true) {ps:List (Nat × Nat)} {t tf:Tm} {m mf:AMem} (hp:gx ops=some ps)
  (hr:cM k E n ops ops.toList t m=some (tf,mf,ns)) (hok:ps.all (cN ns ops)=true) (hnote:ns.all dI=true) {id:Nat} {F:Fence} {Q:Exit→Act→World→Prop} (h:MR E j m w) (ht:TR n j t a.tmps) (hF:gh F)
  (hQ:∀j' w' a',Sim E j m w j' mf w'→TR n j' tf a'.tmps→a'.defers=a.defers→Q .normal a' w'):(Code.region id ops true).wpIn F 0 E.P Q a w:=by
 unfold gx at hp
 split at hp
 ·rename_i hord;cases hp;have hO:=pH hord;obtain⟨T,M,V,htr,h4,h5,h2,h3⟩:=oc ops.toList 0 t m tf mf ns rfl hr;rw[Array.length_toList] at htr h2 h3;subst h4 h5;have s0:Sim E j (M 0) w j (M 0) { w with drawn:=w.drawn+1}:=Sim.of_heap h rfl;have c:Can k E n ops j { w with drawn:=w.drawn+1} T M V ns:=⟨hk,htr,s0.mr,qU hk htr s0.mr ht⟩;refine wpIn_region_any hmix ?_;refine xS (ds:=a.defers) hO c hok hnote hF (fun j' w' a' s' ht' hd'=>hQ j' w' a' (h3 ▸ s0.trans h s') (h2 ▸ ht') hd') ops.size _ 0 j a _ (by simp) ?_ ?_ ?_ ?_
  ·unfold outs;exact Nat.le_trans (List.length_filter_le _ _) (by simp)
  ·intro x o ho hx;simp[(Array.getElem?_eq_some_iff.1 ho).1] at hx
  ·have hnone:∀x,¬((Array.replicate ops.size false).getD x false=true):=by
    intro x hx
    by_cases hlt:x<ops.size<;>simp[hlt] at hx
   have h6:MR E j (iN M ops.size 0) { w with drawn:=w.drawn+1}:=by
    have hlow:∀b kb,j b=some kb→(iN M ops.size 0).get b=(M 0).get b:=fun b kb hb=>by rw[cm,c.cn (h.lt b kb hb).1]
    refine⟨fun b kb hb=>⟨Nat.lt_of_lt_of_le (h.lt b kb hb).1 (c.bP (Nat.le_refl _) (Nat.zero_le _)),(h.lt b kb hb).2⟩,fun b o kb hg hb=>?_,fun b b' kb kb' hb hb' hl hl' he=>?_,h.glob⟩
    ·rw[hlow b kb hb] at hg;exact h.obj b o kb hg hb
    ·rw[hlow b kb hb] at hl;rw[hlow b' kb' hb'] at hl';exact h.inj b b' kb kb' hb hb' hl hl' he
   exact⟨Nat.zero_le _,⟨ht.1,fun x o d _ hx=>(hnone x hx).elim,fun d _=>ht.2 d⟩,rfl,.refl j,fun b kb h0 h1=>(by rw[h1] at h0; cases h0),h6,Nat.le_refl _,fun i _ hx=>(hnone i hx).elim,fun b kb h0 h1=>(by rw[h1] at h0; cases h0),fun _ _ _=>rfl,.refl _,fun i hi=>absurd hi (Nat.not_lt_zero i)⟩
  ·intro x o ho _;have:¬((Array.replicate ops.size false).getD x false=true):=by
    intro hx
    by_cases hlt:x<ops.size<;>simp[hlt] at hx
   exact⟨fun hx=>(this hx).elim,fun hx=>absurd hx (Nat.not_lt_zero x)⟩
 ·cases hp
end
section
variable {E : Env} {k : K}
section
variable {P : Program} {F : Fence} {n : Nat} {b : Frame} {a : Act} {ks : List Item} {cs : List Frame} {w : World} {Q : Exit → Act → World → Prop} {c : Code}
theorem dP:Go.step P (lone (b.atR a (.code (.scope c)::ks)) cs w) = .next (lone (b.atR a (.code c::.inScope c::ks)) cs w) :=
 step_lone_go (by simp[stepG,stepG.exec,Frame.atR])
theorem ly:Go.step P (lone (b.atR a (.inScope c::ks)) cs w) = .next (lone (b.atR a ks) cs w) :=
 step_lone_go (by simp[stepG,stepG.exec,Frame.atR])
theorem pD (h:c.wpIn F n P (Exit.noGoto Q) a w):(Code.scope c).wpIn F n P Q a w:=by
 intro b k cs hro hb hr;have h0:(lone (b.atR a (.code (.scope c)::k)) cs w).fenced P F:=fenced_calm hb hr rfl;obtain⟨e,a₁,w₁,hq,harr⟩:=h b (.inScope c::k) cs hro hb hr;cases e with
 | normal=>exact⟨.normal,a₁,w₁,hq,.head h0 dP (StepsIn.trans harr (.one (fenced_calm hb hr rfl) ly))⟩
 | exit id =>
  refine⟨.exit id,a₁,w₁,hq,fun k' hk=>.head h0 dP (harr.1 k' (by simpa [exitTo] using hk)),fun hr' hk=>?_⟩
  obtain⟨k₁,h1,h2⟩:=harr.2 hr' (by simpa [exitTo] using hk)
  exact⟨k₁,h1,.head h0 dP h2⟩
 | goto l=>exact hq.elim
 | ret=>exact⟨.ret,a₁,w₁,hq,ArrivesIn.of_steps (k:=k) (e:=.ret) (.one h0 dP) harr⟩
 | panic ch=>exact⟨.panic ch,a₁,w₁,hq,ArrivesIn.of_steps (k:=k) (e:=.panic ch) (.one h0 dP) harr⟩
 | outgrown=>exact⟨.outgrown,a₁,w₁,hq,ArrivesIn.of_steps (k:=k) (e:=.outgrown) (.one h0 dP) harr⟩
theorem ic (h:jh F n P c Q a w):(Code.loop c).wpIn F n P Q a w:=fun b k cs hro hb hr =>
 let ⟨e,a',w',hq,harr⟩:=h b k cs hro hb hr
 ⟨e,a',w',hq,.of_steps (.one (fenced_calm hb hr rfl) stepR_loop) harr⟩
theorem gF (h:c.wpIn F n P (Exit.then (fun a' w'=>jh F n P c Q a' w') Q) a w):jh F n P c Q a w:=by
 intro b k cs hro hb hr;obtain⟨e,a₁,w₁,hq,harr⟩:=h b (.inLoop c::k) cs hro hb hr;cases e with
 | normal =>
  obtain⟨e₂,a₂,w₂,hq₂,harr₂⟩:=hq b k cs hro hb hr;exact⟨e₂,a₂,w₂,hq₂,.of_steps (StepsIn.trans harr (.one (fenced_calm hb hr rfl) stepR_inLoop)) harr₂⟩
 | exit id=>exact⟨_,a₁,w₁,hq,.pass (x:=.inLoop c) rfl (fun _ _=>.inl (by simp)) harr⟩
 | goto l=>exact⟨_,a₁,w₁,hq,.pass (x:=.inLoop c) rfl (fun _ _=>.inl (by simp)) harr⟩
 | ret=>exact⟨_,a₁,w₁,hq,.pass (x:=.inLoop c) rfl (fun _ _=>.inl (by simp)) harr⟩
 | panic ch=>exact⟨_,a₁,w₁,hq,.pass (x:=.inLoop c) rfl (fun _ _=>.inl (by simp)) harr⟩
 | outgrown=>exact⟨_,a₁,w₁,hq,.pass (x:=.inLoop c) rfl (fun _ _=>.inl (by simp)) harr⟩
end
theorem gU.from {j j1:aL} {m m1 m':AMem} {w w1 w':World} {N n:Nat} {e:AExit} {t:Tm} {e':Exit} {a':Act} (h:MR E j m w) (s:Sim E j m w j1 m1 w1) (q:gU E j1 m1 w1 N n e t m' e' a' w'):gU E j m w N n e t m' e' a' w' :=
 let ⟨he,j2,s2,ht,hm⟩:=q
 ⟨he,j2,s.trans h s2,ht,hm⟩
theorem nL {j:aL} {m:AMem} {w:World} (h:MR E j m w) {t:TypeId} {x x' v:Value} (e:cT E.P t x m=some v) (hx:VR j x x') :
  ∃v',(do loadVar t (←asAddr x'):Sem Value).run E.P w = .ok v' w∧VR j v v':=by
 obtain⟨v',h1,h2⟩:=nQ h e hx;refine⟨v',?_,h2⟩;unfold cT at e
 split at e
 ·cases hx with
  | ptr hj =>
   simp only[Instr.loadAt,Instr.sureAddr,Sem.run_bind,Sem.run_pure,Result.andThen_ok] at h1;simp only[asAddr,Sem.run_bind,Sem.run_pure,Result.andThen_ok];exact h1
 ·cases e
theorem fZ {j:aL} {m:AMem} {w:World} (h:MR E j m w) {n:Nat} {t:Tm} {tmps:Array Value} (ht:TR n j t tmps) {f:ResultVar→Sem Value} (h1:∀i,f (.tmp i)=pure (tmps.getD i undef))
  (h2:∀a ty,f (.cell a ty)=(do loadVar ty (←asAddr (tmps.getD a undef)))) :
  ∀{rs:List ResultVar} {vs:List Value},bY E t m rs=some vs→∃vs',(rs.mapM f).run E.P w = .ok vs' w∧LR j vs vs'
 | [],vs,e=>by cases e; exact⟨[],rfl,.nil j⟩
 | .tmp i::rs,vs,e=>by
  simp only[bY] at e;obtain⟨vs0,e0,rfl⟩:=map_some e;obtain⟨vs',r1,r2⟩:=fZ h ht h1 h2 e0;exact⟨tmps.getD i undef::vs',by simp only[List.mapM_cons,h1,Sem.run_bind,Sem.run_pure,Result.andThen_ok,r1],.cons (ht.2 i) r2⟩
 | .cell a ty::rs,vs,e=>by
  simp only[bY] at e
  split at e
  ·rename_i v vs0 hv hvs;cases e;obtain⟨vs',r1,r2⟩:=fZ h ht h1 h2 hvs;obtain⟨v',l1,l2⟩:=nL h hv (ht.2 a);refine⟨v'::vs',?_,.cons l2 r2⟩;rw[List.mapM_cons,Sem.run_bind,h2,l1];simp only[Sem.run_bind,Sem.run_pure,Result.andThen_ok,r1]
  ·cases e
theorem mZ {j:aL} {m:AMem} {w:World} (h:MR E j m w) {n:Nat} {t:Tm} {tmps:Array Value} (ht:TR n j t tmps) {f:ResultVar→Sem Value} (h1:∀i,f (.tmp i)=pure (tmps.getD i undef))
  (h2:∀a ty,f (.cell a ty)=(do loadVar ty (←asAddr (tmps.getD a undef)))) {rs:Array ResultVar} {vs:List Value} (e:bY E t m rs.toList=some vs) :
  ∃v',(do let vs ←rs.mapM f; pure (if h:vs.size=1 then vs[0] else .tuple vs):Sem Value).run E.P w = .ok v' w∧VR j (fm vs) v':=by
 obtain⟨l⟩:=rs;simp only[List.mapM_toArray,Sem.run_bind,Sem.run_map];obtain⟨vs',h1,h2⟩:=fZ h ht h1 h2 e;rw[h1];simp only[Result.andThen_ok,Sem.run_pure];cases h2':vs' with
 | nil =>
  subst h2';have hv:vs = []:=by have:=h2.1; simp at this; exact this
  subst hv;exact⟨_,rfl,.tuple' (by simpa using LR.nil j)⟩
 | cons v' l' =>
  subst h2';cases hv:vs with
  | nil=>subst hv; exact absurd h2.1 (by simp)
  | cons v l =>
   subst hv;cases l' with
   | nil =>
    have hl:l = []:=by have:=h2.1; simp at this; exact this
    subst hl;exact⟨_,rfl,h2.head⟩
   | cons v2' l2' =>
    cases l with
    | nil=>exact absurd h2.1 (by simp)
    | cons v2 l2=>exact⟨_,rfl,.tuple' (by simpa using h2)⟩
theorem jY {j:aL} {m:AMem} {w:World} (h:MR E j m w) {n:Nat} {t:Tm} {tmps:Array Value} (ht:TR n j t tmps) {fn:Func} {vs:List Value} (e:bY E t m fn.results.toList=some vs) :
  ∃v',(results fn tmps).run E.P w = .ok v' w∧VR j (fm vs) v' :=
 mZ h ht (fun _=>rfl) (fun _ _=>rfl) e
theorem Sim.shut {j j':aL} {m m':AMem} {w w':World} (s:Sim E j m w j' m' w') {r:Nat} (hr:w'.heap[r]? = some (.deferred (some []))) (hs:w.heap.size≤r) (o:Obj):Sim E j m w j' m' (w'.putObj r o) where
 ext:=s.ext
 le:=s.le
 new:=s.new
 mr:=⟨fun b k e=>⟨(s.mr.lt b k e).1,by simpa using (s.mr.lt b k e).2⟩,fun b o k hg e=>by
   obtain⟨o',h1,h2⟩:=s.mr.obj b o k hg e;have hne:k.c≠r:=pf s.mr hr b k e (by rw[hg]; rfl)
   exact⟨o',by rw[World.putObj_heap_other hne]; exact h1,h2⟩,s.mr.inj,s.mr.glob⟩
 size:=by simpa using s.size
 full:=s.full
 away:=s.away
 fresh:=s.fresh
 frame:=fun c hc H=>by rw[World.putObj_heap_other (by omega)]; exact s.frame c hc H
 calm:=s.calm
theorem gp {fn:Func} {tmps:Array Value} {R:Ending→World→Prop} {j j':aL} {m m':AMem} {w:World}
  (hR:∀w'',Sim E j m w j' m' w''→∃v,(results fn tmps).run E.P w'' = .ok v w''∧R (.returned v) w'') :
  ∀(rs:List Nat) (w':World),Sim E j m w j' m' w'→rs.Nodup→(∀r ∈ rs,w.heap.size≤r∧w'.heap[r]? = some (.deferred (some [])))→LeavesInM Fence.wide 0 E.P fn tmps R (rs.map kP) .returning w'
 | [],w',s,_,_=>hR w' s
 | r::rs,w',s,hn,hr=>by
  have h0:=hr r (by simp)
  refine⟨by simp,.inl ⟨r,w'.putObj r (.deferred none),rfl,run_takeDeferred h0.2,?_⟩⟩
  refine gp hR rs _ (s.shut h0.2 h0.1 _) (List.nodup_cons.1 hn).2 fun x hx=>?_;have hne:x≠r:=fun e=>(List.nodup_cons.1 hn).1 (e ▸ hx);have h1:=hr x (by simp[hx])
  exact⟨h1.1,by rw[World.putObj_heap_other hne]; exact h1.2⟩
theorem kG:∀(vs:List Value) (i:Nat) (t:Tm) (d:Nat),(Trie.ofList vs i t).get d=if i≤d∧d<i+vs.length then vs[d-i]? else t.get d
 | [],i,t,d=>by
  have:¬(i≤d∧d<i+([]:List Value).length):=by simp only[List.length_nil]; omega
  rw[if_neg this]; rfl
 | v::vs,i,t,d=>by
  simp only[Trie.ofList,kG vs (i+1),Trie.bB]
  by_cases h:d=i
  ·subst h;rw[if_neg (by omega),if_pos rfl,if_pos (by simp)]; simp
  ·by_cases h2:i≤d∧d<i+(v::vs).length
   ·have h3:i+1≤d∧d<i+1+vs.length:=by simp at h2; omega
    rw[if_pos h2,if_pos h3];obtain⟨x,hx⟩:∃x,d-i=x+1:=⟨d-i-1,by omega⟩
    rw[hx,show d-(i+1)=x by omega]; rfl
   ·have h3:¬(i+1≤d∧d<i+1+vs.length):=by simp at h2; omega
    rw[if_neg h2,if_neg h3,if_neg h]
theorem TR.enter {j:aL} {args args':List Value} (h:LR j args args') (nt:Nat):TR (max args.length nt) j (Trie.ofList args 0 .nil) (args'.toArray++Array.replicate (nt-args'.toArray.size) undef):=by
 refine⟨by simp[h.1]; omega,fun i=>?_⟩
 unfold Tm.at
 rw[kG]
 by_cases hi:i<args.length
 ·rw[if_pos (by omega)]
  have hi':i<args'.length:=h.1 ▸ hi;obtain⟨v',h1,h2⟩:=h.2 i args[i] (by simp[hi])
  have e1:(args[i-0]?).getD undef=args[i]:=by simp[hi]
  have e2:(args'.toArray++Array.replicate (nt-args'.toArray.size) undef).getD i undef=v':=by
   rw[Array.getD_eq_getD_getElem?,Array.getElem?_append_left (by simpa using hi')]
   simp[h1]
  rw[e1,e2]; exact h2
 ·rw[if_neg (by omega)]
  have e2:(args'.toArray++Array.replicate (nt-args'.toArray.size) undef).getD i undef=undef:=by
   rw[Array.getD_eq_getD_getElem?,Array.getElem?_append_right (by simp[←h.1]; omega)]
   simp only[Array.getElem?_replicate]
   split<;>rfl
  rw[e2,Trie.get_nil]; exact VR.undef j
theorem mT (hE:EnvOk E) (hk:∀tk r,k tk=some r→ca E tk r) {f:FuncId} {args:List Value} {m:AMem} {r:Res} (h:step E k (.call f args m)=some r):ca E (.call f args m) r:=by
 simp only[step] at h
 split at h
 ·rename_i r0 hp;obtain⟨v,m'⟩:=r0;cases h;unfold mw at hp;cases hpf:E.cu f with
  | none=>rw[hpf] at hp; cases hp
  | some p =>
   rw[hpf] at hp;exact⟨v,m',rfl,fun j w args' hm hl=>hE.cu f p hpf args m v m' hp j w args' hm hl⟩
 ·rename_i hp
  split at h
  ·rename_i fn hfn
   split at h
   ·rename_i c hb
    split at h
    ·cases h
    ·rename_i e t m' hne hkc;obtain⟨vs,hvs,rfl⟩:=map_some h;obtain⟨e0,t0,m0,hr0,H⟩:=hk _ _ hkc;cases hr0;refine⟨fm vs,m',rfl,fun j w args' hm hl=>.inl ⟨hE.call f fn c hfn hb _ w,?_⟩⟩;refine callsIn_of_wp_marks hfn hb trivial ?_;refine wpIn_mono (H j w { tmps:=args'.toArray++Array.replicate (fn.ntmps-args'.toArray.size) undef,defers:=[]} Fence.wide w.heap.size hm (TR.enter hl fn.ntmps) rfl (Marks.nil _ _) (Nat.le_refl _)) ?_;rintro e' a' w' ⟨rfl,j',s,ht,rs,hnd,hds,hrs⟩;have hleave:LeavesInM Fence.wide 0 E.P fn a'.tmps (fun e w'=>∃v,e = .returned v∧fV E j m w (fm vs) m' v w') a'.defers .returning w':=by
      rw[hds];refine gp (fun w'' s'=>?_) rs w' s hnd hrs;obtain⟨v',hv1,hv2⟩:=jY s'.mr ht hvs;exact⟨v',hv1,v',rfl,j',s',hv2⟩
     cases e with
     | normal=>exact hleave
     | ret=>exact hleave
     | exit id=>exact(hne id rfl).elim
    ·cases h
   ·cases h
  ·cases h
theorem TR.set {n:Nat} {j:aL} {t:Tm} {tmps:Array Value} {p:Tmp} {v v':Value} (h:TR n j t tmps) (hv:VR j v v') (hp:p<n):TR n j (t.set p v) (tmps.setIfInBounds p v') :=
 TR.put (a:={ tmps:=tmps,defers:=[]}) (dst:=some p) h hv (by
  have:Nat.blt p n=true:=by simpa using hp
  simp only[fM,this])
theorem iV {n:Nat} {j:aL}:∀{ps:List Tmp} {vs vs':List Value} {t t':Tm} {tmps:Array Value},eX n t ps vs=some t'→LR j vs vs'→TR n j t tmps →
  TR n j t' ((ps.zip vs').foldl (fun tm (x:Tmp × Value)=>tm.setIfInBounds x.1 x.2) tmps)
 | [],vs,vs',t,t',tmps,h,hl,ht=>by cases h; exact ht
 | p::ps,[],vs',t,t',tmps,h,hl,ht=>by
  cases h;cases hl.cJ;exact ht
 | p::ps,v::vs,vs',t,t',tmps,h,hl,ht=>by
  obtain⟨v',l',rfl,h1,h2⟩:=hl.cons_inv;simp only[eX] at h
  split at h
  ·rename_i hlt
   show TR n j t' ((ps.zip l').foldl (fun tm (x:Tmp × Value)=>tm.setIfInBounds x.1 x.2) (tmps.setIfInBounds p v'))
   exact iV h h2 (ht.set h1 (by simpa using hlt))
  ·cases h
theorem kS (ps:Array Tmp) (vs:List Value) (tmps:Array Value) :
  (ps.zip vs.toArray).foldl (fun tm (x:Tmp × Value)=>tm.setIfInBounds x.1 x.2) tmps=(ps.toList.zip vs).foldl (fun tm (x:Tmp × Value)=>tm.setIfInBounds x.1 x.2) tmps:=by
 rw[←Array.foldl_toList,Array.toList_zip]
theorem MR.kD {j:aL} {m:AMem} {w:World} (h:MR E j m w) {b:Nat} {kb:Blk} (hk:j b=some kb) {r:ALoop} (hg:m.get b=some (.loop r)) :
  ∃r',w.heap[kb.c]? = some (.loop r')∧r.state=r'.state∧r.pending=r'.pending∧r.params=r'.params∧r.assign=r'.assign∧r.body=r'.body∧TR r.n j r.tmps r'.tmps:=by
 obtain⟨o,h1,h2⟩:=h.obj b _ kb hg hk;cases o with
 | loop r'=>exact⟨r',h1,h2⟩
 | _=>exact h2.elim
theorem lM (hk:∀tk r,k tk=some r→ca E tk r) {l:Nat} {args:List Value} {m:AMem} {r:Res} (h:step E k (.round l args m)=some r):ca E (.round l args m) r:=by
 simp only[step] at h
 split at h
 ·rename_i rec hl
  split at h
  ·rename_i hst
   split at h
   ·cases h
   ·rename_i hlen
    split at h
    ·cases h
    ·rename_i t0 hsp
     split at h
     ·rename_i t1 m1 hka
      split at h
      ·rename_i r1 h2
       split at h
       ·rename_i h5
        split at h
        ·rename_i e t2 m2 hkb
         split at h
         ·rename_i r2 h3;cases h;obtain⟨e0,t0',m0',h1,HA⟩:=hk _ _ hka;cases h1;obtain⟨e0,t0',m0',h1,HB⟩:=hk _ _ hkb;cases h1;refine⟨_,_,rfl,fun j w kb args' hm hj hargs=>?_⟩;obtain⟨rc,hrc,c4,c5,c0,c1,c2,c3⟩:=hm.kD hj hl;have hsz:args'.toArray.size=rc.params.size:=by
           rw[←c0]; have:=hargs.1; simp; omega
          refine⟨_,_,_,_,run_yield hrc hsz,?_⟩;refine roundIn_of_wpIn trivial ?_;have htm:TR rec.n j t0 ((rc.params.zip args'.toArray).foldl (fun tm (x:Tmp × Value)=>tm.setIfInBounds x.1 x.2) rc.tmps):=by
           rw[kS,←c0];exact iV hsp hargs c3
          have HA':=HA j w { tmps:=(rc.params.zip args'.toArray).foldl (fun tm (x:Tmp × Value)=>tm.setIfInBounds x.1 x.2) rc.tmps,defers:=[]} (Fence.wide.inRound kb.c) w.heap.size hm htm ⟨kb,hj,rfl⟩ (Marks.nil _ _) (Nat.le_refl _);rw[←c1,←c2];refine wpIn_mono HA' ?_;rintro e' a0 w1 ⟨rfl,j1,s1,h6,h7⟩;have h0:=s1.le _ _ hj;obtain⟨r0,h8,d0,d1,d2,d3,d4,d5⟩:=s1.mr.kD h0 h2;refine⟨_,run_beginRound h8 (by rw[←d0]; exact h5),?_⟩
          have s2:Sim E j1 m1 w1 j1 (m1.set l (.loop { r1 with state:=.busy})) (w1.putObj kb.c (.loop { r0 with state:=.busy})) :=
           eS s1.mr h0 (by rw[h2]; rfl) ⟨rfl,d1,d2,d3,d4,d5⟩
          have HB':=HB j1 (w1.putObj kb.c (.loop { r0 with state:=.busy})) a0 (Fence.wide.inRound kb.c) w.heap.size s2.mr h6 ⟨kb,h0,rfl⟩ (h7.tL s1.mr s2) (Nat.le_trans s1.size s2.size);refine wpIn_mono HB' ?_;rintro e' a1 w2 ⟨rfl,j2,s3,h10,h11⟩;have h4:=s3.le _ _ h0;obtain⟨r3,h9,f4,f5,f3,f0,f1,f2⟩:=s3.mr.kD h4 h3;have fin:∀jump:Option Code,∃v w',(Instr.endRound kb.c jump).run E.P w2 = .ok v w'∧∃v',Ending.returned v = .returned v'∧fV E j m w (.bool jump.isNone) (m2.set l (.loop { r2 with state:=if jump.isNone then .ready else .done,pending:=jump})) v' w':=by
           intro jump;refine⟨_,_,run_endRound jump h9,_,rfl,j2,?_,.bool _⟩;have s4:Sim E j2 m2 w2 j2 (m2.set l (.loop { r2 with state:=if jump.isNone then .ready else .done,pending:=jump})) (w2.putObj kb.c (.loop { r3 with state:=if jump.isNone then .ready else .done,pending:=jump})) :=
            eS s3.mr h4 (by rw[h3]; rfl) ⟨rfl,rfl,f3,f0,f1,f2⟩
           exact s1.trans hm (s2.trans s1.mr (s3.trans s2.mr s4))
          cases e with
          | normal=>exact fin none
          | ret=>exact fin (some .ret)
          | exit id=>exact fin (some (.exit id))
         ·cases h
        ·cases h
       ·cases h
      ·cases h
     ·cases h
  ·cases h
 ·cases h
theorem qX {j:aL} {m:AMem} {w:World} (h:MR E j m w) (o:Obj):Sim E j m w j m (w.alloc o):=by
 have hget:∀c,c<w.heap.size→(w.alloc o).heap[c]? = w.heap[c]?:=fun c hc=>by
  show(w.heap.push o)[c]? = w.heap[c]?
  rw[Array.getElem?_push,if_neg (by omega)]
 exact { Sim.refl h with
  mr:=⟨fun b k e=>⟨(h.lt b k e).1,by rw[World.size_alloc]; exact Nat.lt_succ_of_lt (h.lt b k e).2⟩,fun b o k hg e=>by
    obtain⟨o',h1,h2⟩:=h.obj b o k hg e;exact⟨o',by rw[hget _ (h.lt b k e).2]; exact h1,h2⟩,h.inj,h.glob⟩
  size:=by rw[World.size_alloc]; omega
  frame:=fun c hc _=>hget c hc}
theorem iO {P:Program} {w:World} {l:Nat} {r:Loop} (h:w.heap[l]? = some (.loop r)) (fn:FuncId) (tmps:Array Value) (ps:Array Tmp) (assign body:Code) :
  (Instr.enterLoop fn tmps ps assign body (some l)).run P w = .ok (w.heap.size,[]) (w.alloc (.loop { state:=.ready,pending:=none,fn,tmps,params:=ps,assign,body,defers:=r.defers})):=by
 unfold Instr.enterLoop;simp only[Sem.run_bind,run_getLoop h,run_newObj_alloc,Result.andThen,Sem.run_pure]
theorem lE (hk:∀tk r,k tk=some r→ca E tk r) {g:Operand} {ps:Array Tmp} {assign body:Code} {fr:Fr} {m:AMem} {r:Res} (h:step E k (.code (.rangeFunc g ps assign body) fr m)=some r) :
  ca E (.code (.rangeFunc g ps assign body) fr m) r:=by
 simp only[step] at h
 split at h
 ·rename_i gf first captured hg har
  split at h
  ·rename_i v0 m2 hkc
   split at h
   ·rename_i r2 h2;obtain⟨v1,m1',h4,HC⟩:=hk _ _ hkc;cases h4;have common:r2.state≠.busy→∀(j:aL) (w:World) (a:Act) (F:Fence) (N:Nat),MR E j m w→TR fr.n j fr.tmps a.tmps→gw j fr.round F→Marks N w a.defers→N≤w.heap.size→∀Q:Exit→Act→World→Prop,
      (∀(j2:aL) (w2:World) (a0:Act),Sim E j m w j2 (m2.set m.next (.loop { r2 with state:=.exhausted})) w2→TR fr.n j2 fr.tmps a0.tmps→Marks N w2 a0.defers →
       (r2.pending=none→Q .normal a0 w2)∧(∀c,r2.pending=some c→c.wpIn F 0 E.P Q a0 w2))→(Code.rangeFunc g ps assign body).wpIn F 0 E.P Q a w:=by
     intro hbusy j w a F N hm ht hro hmk hN Q hQ;have hF:=hro.wide;refine wpIn_rangeFunc fun fnId _=>?_;have hfv:=aK hm ht hg;generalize hfe:a.eval g=fv at hfv;cases hfv with
     | func h5 h6 h7 h8 =>
     rename_i ys ds;have enter:∃(l:Nat) (mark:List Deferred) (w1:World) (j1:aL) (kb:Blk),(Instr.enterLoop fnId a.tmps ps assign body F.round).run E.P w = .ok (l,mark) w1∧kb.c=l∧j1 m.next=some kb ∧
       Sim E j m w j1 (m.alloc (.loop { state:=.ready,pending:=none,fn:=fr.fn,tmps:=fr.tmps,n:=fr.n,params:=ps,assign,body})) w1∧Marks N w1 (mark++a.defers):=by
      unfold fT at har;simp only[Bool.and_eq_true] at har;have hround:=har.2;cases hfr:fr.round with
      | none =>
       rw[hfr] at hro;have hFw:F=Fence.wide:=hro;subst hFw;have s0:=qX hm (.deferred (some []));have s1:=iF s0.mr (ao:=.loop { state:=.ready,pending:=none,fn:=fr.fn,tmps:=fr.tmps,n:=fr.n,params:=ps,assign,body}) (mo:=none)
        (co:=.loop { state:=.ready,pending:=none,fn:=fnId,tmps:=a.tmps,params:=ps,assign,body,defers:=w.heap.size}) ⟨rfl,rfl,rfl,rfl,rfl,ht⟩
       refine⟨_,_,_,_,_,run_enterLoop_outer fnId a.tmps ps assign body,?_,aL.bQ _ _ _,s0.trans hm s1,?_⟩
       ·show(w.alloc (.deferred (some []))).heap.size=_
        rw[World.size_alloc]
       ·obtain⟨rs,n1,n0,n2⟩:=(hmk.tL hm s0).tL s0.mr s1;obtain⟨rs',p2,p0,p1⟩:=hmk;have hrs:rs=rs':=by
         have e:=n0.symm.trans p0;refine List.map_inj_right (f:=kP) (fun x y hxy=>?_) |>.1 e
         simpa [kP] using hxy
        subst hrs;refine⟨w.heap.size::rs,List.nodup_cons.2 ⟨fun hin=>?_,n1⟩,by simp[kP,n0],fun x hx=>?_⟩
        ·have:=(Array.getElem?_eq_some_iff.1 (p1 _ hin).2).1;omega
        ·rcases List.mem_cons.1 hx with rfl|hx
         ·refine⟨hN,?_⟩;have hlt:w.heap.size<(w.alloc (.deferred (some []))).heap.size:=by rw[World.size_alloc]; omega
          rw[s1.frame _ hlt fun b kb hb hl he=>absurd (hm.lt b kb hb).2 (by omega)]
          exact World.alloc_heap_new _ _
         ·exact n2 x hx
      | some l0 =>
       rw[hfr] at hro hround;obtain⟨k0,h9,rfl⟩:=hro;simp only at hround
       split at hround
       ·rename_i r3 h10;obtain⟨r1,h11,_⟩:=hm.kD h9 h10;have s1:=iF hm (ao:=.loop { state:=.ready,pending:=none,fn:=fr.fn,tmps:=fr.tmps,n:=fr.n,params:=ps,assign,body}) (mo:=none)
         (co:=.loop { state:=.ready,pending:=none,fn:=fnId,tmps:=a.tmps,params:=ps,assign,body,defers:=r1.defers}) ⟨rfl,rfl,rfl,rfl,rfl,ht⟩
        exact⟨_,_,_,_,_,iO h11 fnId a.tmps ps assign body,rfl,aL.bQ _ _ _,s1,by simpa using hmk.tL hm s1⟩
       ·cases hround
     obtain⟨l,mark,w1,j1,kb,e1,e2,e0,s1,h12⟩:=enter;subst e2;have hprim:(E.cu gf).isSome=false:=by
      unfold fT at har;simp only[Bool.and_eq_true,hg] at har;cases hp:E.cu gf with
      | none=>rfl
      | some p=>rw[hp] at har; simp at har
     have hl:LR j1 (first.toList++[Value.func (.yield m.next) #[] #[]]++captured.toList) (ys.toList++[Value.func (.yield kb.c) #[] #[]]++ds.toList) :=
      (((LR.dJ h5 h6).mono s1.le).append (.cons (.yield e0 rfl (fun i a _=>by simp at a)) (.nil _))).append ((LR.dJ h7 h8).mono s1.le)
     have hcs:=HC j1 w1 _ s1.mr hl;have harr:(ys.toList++[Value.func (.yield kb.c) #[] #[]]++ds.toList).toArray=ys++#[Value.func (.yield kb.c) #[] #[]]++ds:=by apply Array.toList_inj.1; simp
     rw[harr] at hcs;rcases hcs with⟨hr,hci⟩|⟨hpr,_⟩
     ·refine⟨kb.c,mark,w1,{ target:=.fn (.func gf) ds,args:=ys++#[Value.func (.yield kb.c) #[] #[]]},w1,gf,ys++#[Value.func (.yield kb.c) #[] #[]]++ds,w1,e1,?_,fun f' _=>hF.fn f',?_,hF.depth,?_⟩
      ·have hmap:Array.map a.eval #[Operand.const (Value.func (Fn.yield kb.c) #[] #[])]=#[Value.func (Fn.yield kb.c) #[] #[]]:=by
        apply Array.toList_inj.1; rw[Array.toList_map]; rfl
       simp only[resolve,hfe,Deferred.ofValue,Sem.run_pure,hmap]
      ·simp only[invoke]; exact hr
      ·refine CallsIn.mono (hF.calls hci) ?_;rintro e' w3 ⟨v',rfl,j3,s3,hv⟩;have h3:=s3.le _ _ e0;obtain⟨r0,h13,f1,f0,f3,f2,f4,f5⟩:=s3.mr.kD h3 h2;have s2:Sim E j3 m2 w3 j3 (m2.set m.next (.loop { r2 with state:=.exhausted})) (w3.putObj kb.c (.loop { r0 with state:=.exhausted})) :=
        eS s3.mr h3 (by rw[h2]; rfl) ⟨rfl,f0,f3,f2,f4,f5⟩
       have sall:=s1.trans hm (s3.trans s1.mr s2);refine⟨r0.pending,_,run_endLoop h13 (by rw[←f1]; exact hbusy),?_⟩
       have hfin:=hQ j3 _ { a with defers:=mark++a.defers} sall (ht.mono sall.le) ((h12.tL s1.mr s3).tL s3.mr s2);rw[f0] at hfin;generalize (w3.putObj kb.c (.loop { r0 with state:=.exhausted}))=w4 at hfin ⊢;cases hp:r0.pending with
       | none=>exact hfin.1 hp
       | some c=>exact hfin.2 c hp
     ·rw[hprim] at hpr; cases hpr
    split at h
    ·cases h
    ·rename_i hbusy
     split at h
     ·rename_i hpend;cases h;refine⟨.normal,fr.tmps,_,rfl,fun j w a F N hm ht hro hmk hN=>?_⟩;refine common hbusy j w a F N hm ht hro hmk hN _ fun j2 w2 a0 s2 h0 h1=>?_;exact⟨fun _=>⟨rfl,j2,s2,h0,h1⟩,fun c hc=>absurd (hpend.symm.trans hc) (by simp)⟩
     ·rename_i c hpend
      split at h
      ·rename_i e t m' hkp;cases h;obtain⟨e3,t0,m0,h14,HP⟩:=hk _ _ hkp;cases h14;refine⟨e,t,m',rfl,fun j w a F N hm ht hro hmk hN=>?_⟩;refine common hbusy j w a F N hm ht hro hmk hN _ fun j2 w2 a0 s2 h0 h1=>?_;refine⟨fun hc=>absurd (hpend.symm.trans hc) (by simp),fun c' hc=>?_⟩
       rw[hpend] at hc; cases hc;exact wpIn_mono (HP j2 w2 a0 F N s2.mr h0 (hro.mono s2.le) h1 (Nat.le_trans hN s2.size)) fun e' a' w' q=>q.from hm s2
      ·cases h
   ·cases h
  ·cases h
 ·cases h
theorem mK (hE:EnvOk E) (hk:∀tk r,k tk=some r→ca E tk r) {c:Code} {fr:Fr} {m:AMem} {r:Res} (h:step E k (.code c fr m)=some r):ca E (.code c fr m) r:=by
 cases c with
 | skip =>
  simp only[step,Option.some.injEq] at h;subst h;exact⟨.normal,fr.tmps,m,rfl,fun j w a F N hm ht hro hd hN=>wpIn_skip ⟨rfl,j,.refl hm,ht,hd⟩⟩
 | label l =>
  simp only[step,Option.some.injEq] at h;subst h;exact⟨.normal,fr.tmps,m,rfl,fun j w a F N hm ht hro hd hN=>wpIn_label ⟨rfl,j,.refl hm,ht,hd⟩⟩
 | exit id =>
  simp only[step,Option.some.injEq] at h;subst h;exact⟨.exit id,fr.tmps,m,rfl,fun j w a F N hm ht hro hd hN=>wpIn_exit ⟨rfl,j,.refl hm,ht,hd⟩⟩
 | ret =>
  simp only[step,Option.some.injEq] at h;subst h;exact⟨.ret,fr.tmps,m,rfl,fun j w a F N hm ht hro hd hN=>wpIn_ret ⟨rfl,j,.refl hm,ht,hd⟩⟩
 | seq x y =>
  simp only[step] at h
  split at h
  ·rename_i t1 m1 h1;obtain⟨e0,t0,m0,hr0,H1⟩:=hk _ _ h1;cases hr0;obtain⟨e2,t2,m2,rfl,H2⟩:=hk _ _ h;refine⟨e2,t2,m2,rfl,fun j w a F N hm ht hro hd hN=>wpIn_seq (wpIn_mono (H1 j w a F N hm ht hro hd hN) ?_)⟩;rintro e' a' w' ⟨rfl,j',s,ht',hd'⟩;exact wpIn_mono (H2 j' w' a' F N s.mr ht' (hro.mono s.le) hd' (Nat.le_trans hN s.size)) fun _ _ _ q=>q.from hm s
  ·rename_i e1 t1 m1 hne h1;cases h;obtain⟨e0,t0,m0,hr0,H1⟩:=hk _ _ h1;cases hr0;refine⟨e1,t1,m1,rfl,fun j w a F N hm ht hro hd hN=>wpIn_seq (wpIn_mono (H1 j w a F N hm ht hro hd hN) ?_)⟩;rintro e' a' w' q;have he:=q.1;subst he;cases e1 with
   | normal=>exact(hne rfl).elim
   | exit id=>exact q
   | ret=>exact q
  ·cases h
 | cond x a b =>
  simp only[step] at h
  split at h
  ·rename_i hx;obtain⟨e2,t2,m2,rfl,H⟩:=hk _ _ h;refine⟨e2,t2,m2,rfl,fun j w a F N hm ht hro hd hN=>?_⟩;have hv:=aK hm ht hx;generalize hxe:a.eval x=xv at hv;cases hv;exact wpIn_cond_true hxe (H j w a F N hm ht hro hd hN)
  ·rename_i hx;obtain⟨e2,t2,m2,rfl,H⟩:=hk _ _ h;refine⟨e2,t2,m2,rfl,fun j w a F N hm ht hro hd hN=>?_⟩;have hv:=aK hm ht hx;generalize hxe:a.eval x=xv at hv;cases hv;exact wpIn_cond_false hxe (H j w a F N hm ht hro hd hN)
  ·cases h
 | block id c =>
  simp only[step] at h
  split at h
  ·rename_i id' t1 m1 h1;obtain⟨e0,t0,m0,hr0,H⟩:=hk _ _ h1;cases hr0
   split at h
   ·rename_i hid;cases h;refine⟨.normal,t1,m1,rfl,fun j w a F N hm ht hro hd hN=>wpIn_block (wpIn_mono (H j w a F N hm ht hro hd hN) ?_)⟩;rintro e' a' w' ⟨rfl,q⟩;simp only[se,Exit.inBlock,hid,if_true];exact⟨rfl,q⟩
   ·rename_i hid;cases h;refine⟨.exit id',t1,m1,rfl,fun j w a F N hm ht hro hd hN=>wpIn_block (wpIn_mono (H j w a F N hm ht hro hd hN) ?_)⟩;rintro e' a' w' ⟨rfl,q⟩;simp only[se,Exit.inBlock,hid,if_false];exact⟨rfl,q⟩
  ·rename_i e1 t1 m1 hne h1;cases h;obtain⟨e0,t0,m0,hr0,H⟩:=hk _ _ h1;cases hr0;refine⟨e1,t1,m1,rfl,fun j w a F N hm ht hro hd hN=>wpIn_block (wpIn_mono (H j w a F N hm ht hro hd hN) ?_)⟩;rintro e' a' w' ⟨rfl,q⟩;cases e1 with
   | normal=>exact⟨rfl,q⟩
   | exit id=>exact(hne _ rfl).elim
   | ret=>exact⟨rfl,q⟩
  ·cases h
 | loop c =>
  simp only[step] at h;obtain⟨e2,t2,m2,rfl,H⟩:=hk _ _ h;exact⟨e2,t2,m2,rfl,fun j w a F N hm ht hro hd hN=>ic (H j w a F N hm ht hro hd hN)⟩
 | scope c =>
  simp only[step] at h
  split at h
  ·rename_i e1 t1 m1 h1;cases h;obtain⟨e0,t0,m0,hr0,H⟩:=hk _ _ h1;cases hr0;refine⟨e1,t1,m1,rfl,fun j w a F N hm ht hro hd hN=>pD (wpIn_mono (H j w a F N hm ht hro hd hN) ?_)⟩;rintro e' a' w' ⟨rfl,q⟩;cases e1<;>exact⟨rfl,q⟩
  ·cases h
 | region id ops draw =>
  simp only[step] at h
  split at h
  ·rename_i hdraw
   split at h
   ·rename_i ps hps
    split at h
    ·rename_i t1 m1 ns hr
     split at h
     ·rename_i hok;cases h;refine⟨.normal,t1,m1,rfl,fun j w a F N hm ht hro hd hN=>?_⟩;rw[hdraw];simp only[Bool.and_eq_true] at hok;exact tR hk hE.mixed hps hr hok.1 hok.2 hm ht hro.wide fun j' w' a' s ht' hds=>⟨rfl,j',s,ht',by rw[hds]; exact hd.tL hm s⟩
     ·cases h
    ·cases h
   ·cases h
  ·rename_i hdraw;have hdraw':draw=false:=by simpa using hdraw
   split at h
   ·rename_i t1 m1 hr;cases h;refine⟨.normal,t1,m1,rfl,fun j w a F N hm ht hro hd hN=>?_⟩;rw[hdraw'];refine wpIn_region ?_;have:=gy (ops:=ops) (n:=fr.n) (tf:=t1) (mf:=m1) hk hro.wide hm a.defers (Q:=gU E j m w N fr.n .normal t1 m1) (fun j' w' a' s ht' hds=>⟨rfl,j',s,ht',by rw[hds]; exact hd.tL hm s⟩) ops.toList 0 fr.tmps m j w a rfl hr (.refl hm) ht rfl
    rw[List.range_eq_range']
    simpa using this
   ·cases h
 | rangeFunc g ps assign body=>exact lE hk h
 | goto l=>simp[step] at h
 | refuse why=>simp[step] at h
theorem nb (hk:∀tk r,k tk=some r→ca E tk r) {c:Code} {fr:Fr} {m:AMem} {r:Res} (h:step E k (.loop c fr m)=some r):ca E (.loop c fr m) r:=by
 simp only[step] at h
 split at h
 ·rename_i t1 m1 h1;obtain⟨e0,t0,m0,hr0,H1⟩:=hk _ _ h1;cases hr0;obtain⟨e2,t2,m2,rfl,H2⟩:=hk _ _ h;refine⟨e2,t2,m2,rfl,fun j w a F N hm ht hro hd hN=>gF (wpIn_mono (H1 j w a F N hm ht hro hd hN) ?_)⟩;rintro e' a' w' ⟨rfl,j',s,ht',hd'⟩;intro b k' cs hro' hb hr;obtain⟨e3,a3,w3,q,harr⟩:=H2 j' w' a' F N s.mr ht' (hro.mono s.le) hd' (Nat.le_trans hN s.size) b k' cs hro' hb hr;exact⟨e3,a3,w3,q.from hm s,harr⟩
 ·rename_i e1 t1 m1 hne h1;cases h;obtain⟨e0,t0,m0,hr0,H1⟩:=hk _ _ h1;cases hr0;refine⟨e1,t1,m1,rfl,fun j w a F N hm ht hro hd hN=>gF (wpIn_mono (H1 j w a F N hm ht hro hd hN) ?_)⟩;rintro e' a' w' q;have he:=q.1;subst he;cases e1 with
  | normal=>exact(hne rfl).elim
  | exit id=>exact q
  | ret=>exact q
 ·cases h
theorem sK (hE:EnvOk E) (hk:∀tk r,k tk=some r→ca E tk r) {tk:Task} {r:Res} (h:step E k tk=some r):ca E tk r:=by
 cases tk with
 | code c fr m=>exact mK hE hk h
 | loop c fr m=>exact nb hk h
 | call f args m=>exact mT hE hk h
 | round l args m=>exact lM hk h
theorem jF (hE:EnvOk E):∀(fuel:Nat) (tk:Task) (r:Res),run E fuel tk=some r→ca E tk r
 | 0,_,_,h=>by cases h
 | n+1,_,_,h=>sK hE (jF hE n) h
end
section
variable {E : Env} {k k' : K}
def yL (k k':K):Prop:=∀tk r,k tk=some r→k' tk=some r
theorem gv (h:yL k k') {t:Tm} {m:AMem} {o:Op} {x:Value × AMem} (e:cZ k E t m o=some x):cZ k' E t m o=some x:=by
 unfold cZ at e ⊢
 split at e
 ·rename_i c
  try simp only
  split at e
  ·rename_i f hc
   try simp only
   split at e
   ·rename_i g first captured args h1 h2
    try simp only[h1,h2]
    split at e
    ·rename_i v m' hk;rw[h _ _ hk]; exact e
    ·cases e
   ·rename_i l first cap args h1 h2
    try simp only[h1,h2]
    split at e
    ·rename_i v m' hk;rw[h _ _ hk]; exact e
    ·cases e
   ·cases e
  ·rename_i hne
   first
    | exact e
    | (split
       ·rename_i f hc; exact(hne f hc).elim
       ·exact e)
 ·rename_i hne
  first
   | exact e
   | (split
      ·rename_i c; exact(hne c rfl).elim
      ·exact e)
theorem fG (h:yL k k') {n:Nat} {ops:Array Oper}:∀{os:List Oper} {t:Tm} {m:AMem} {x:Tm × AMem},fh k E n ops os t m=some x→fh k' E n ops os t m=some x
 | [],t,m,x,e=>e
 | o::os,t,m,x,e=>by
  simp only[fh] at e ⊢
  split at e
  ·rename_i hw;rw[if_pos hw]
   split at e
   ·rename_i v m' ho;rw[gv h ho]
    try simp only
    split at e
    ·rename_i t' hp
     try simp only[hp]
     exact fG h e
    ·cases e
   ·cases e
  ·rename_i hw;rw[if_neg hw]
   split at e
   ·rename_i t' hp
    try simp only[hp]
    exact fG h e
   ·cases e
theorem ej (h:yL k k') {n:Nat} {ops:Array Oper}:∀{os:List Oper} {t:Tm} {m:AMem} {x:Tm × AMem × List Note},cM k E n ops os t m=some x→cM k' E n ops os t m=some x
 | [],t,m,x,e=>e
 | o::os,t,m,x,e=>by
  simp only[cM] at e ⊢
  split at e
  ·rename_i hw;rw[if_pos hw]
   split at e
   ·rename_i v m' ho;rw[gv h ho]
    try simp only
    split at e
    ·rename_i t' hp
     try simp only[hp]
     split at e
     ·rename_i a b c hr;rw[ej h hr]; exact e
     ·cases e
    ·cases e
   ·cases e
  ·rename_i hw;rw[if_neg hw]
   split at e
   ·rename_i t' hp
    try simp only[hp]
    split at e
    ·rename_i a b c hr;rw[ej h hr]; exact e
    ·cases e
   ·cases e
theorem ru (h:yL k k') {tk:Task} {r:Res} (e:step E k tk=some r):step E k' tk=some r:=by
 cases tk with
 | code c fr m =>
  cases c with
  | seq a b =>
   simp only[step] at e ⊢
   split at e
   ·rename_i t1 m1 h1;rw[h _ _ h1]; exact h _ _ e
   ·rename_i e1 t1 m1 hne h1;rw[h _ _ h1];cases e1 with
    | normal=>exact(hne rfl).elim
    | exit id=>exact e
    | ret=>exact e
   ·cases e
  | cond x a b =>
   simp only[step] at e ⊢
   split at e
   ·rename_i hx; try simp only[hx]
    exact h _ _ e
   ·rename_i hx; try simp only[hx]
    exact h _ _ e
   ·cases e
  | block id a =>
   simp only[step] at e ⊢
   split at e
   ·rename_i id' t1 m1 h1;rw[h _ _ h1]; exact e
   ·rename_i e1 t1 m1 hne h1;rw[h _ _ h1];cases e1 with
    | exit id'=>exact(hne _ rfl).elim
    | normal=>exact e
    | ret=>exact e
   ·cases e
  | loop a=>simp only[step] at e ⊢; exact h _ _ e
  | scope a =>
   simp only[step] at e ⊢
   split at e
   ·rename_i e1 t1 m1 h1;rw[h _ _ h1]; exact e
   ·cases e
  | region id ops draw =>
   simp only[step] at e ⊢
   split at e
   ·rename_i hd;rw[if_pos hd]
    split at e
    ·rename_i ps hps
     try simp only[hps]
     split at e
     ·rename_i t1 m1 ns hr;rw[ej h hr]; exact e
     ·cases e
    ·cases e
   ·rename_i hd;rw[if_neg hd]
    split at e
    ·rename_i t1 m1 hr;rw[fG h hr]; exact e
    ·cases e
  | rangeFunc f ps ars bd =>
   simp only[step] at e ⊢
   split at e
   ·rename_i g first captured hg har
    try simp only[hg,har]
    split at e
    ·rename_i v m2 hk;rw[h _ _ hk]
     try simp only
     split at e
     ·rename_i r2 hl
      try simp only[hl]
      split at e
      ·cases e
      ·rename_i hb;revert e;cases hs:r2.state
       case busy=>exact(hb hs).elim
       all_goals
        cases hp:r2.pending with
        | none=>intro e; exact e
        | some c =>
         intro e;simp only at e ⊢
         split at e
         ·rename_i e1 t1 m1 hk2;rw[h _ _ hk2]; exact e
         ·cases e
     ·cases e
    ·cases e
   ·cases e
  | _=>exact e
 | loop c fr m =>
  simp only[step] at e ⊢
  split at e
  ·rename_i t1 m1 h1;rw[h _ _ h1]; exact h _ _ e
  ·rename_i e1 t1 m1 hne h1;rw[h _ _ h1];cases e1 with
   | normal=>exact(hne rfl).elim
   | exit id=>exact e
   | ret=>exact e
  ·cases e
 | call f args m =>
  simp only[step] at e ⊢
  split at e
  ·rename_i p hp
   try simp only[hp]
   exact e
  ·rename_i hp
   try simp only[hp]
   split at e
   ·rename_i fn hf
    try simp only[hf]
    split at e
    ·rename_i c hb
     try simp only[hb]
     split at e
     ·cases e
     ·rename_i e1 t1 m1 hne h1;rw[h _ _ h1];cases e1 with
      | exit id=>exact(hne _ rfl).elim
      | normal=>exact e
      | ret=>exact e
     ·cases e
    ·cases e
   ·cases e
 | round l args m =>
  simp only[step] at e ⊢
  split at e
  ·rename_i r1 hl
   try simp only[hl]
   split at e
   ·rename_i hs
    try simp only[hs]
    split at e
    ·cases e
    ·rename_i hlen;rw[if_neg hlen]
     split at e
     ·cases e
     ·rename_i t0 hsp
      try simp only[hsp]
      split at e
      ·rename_i t1 m1 h1;rw[h _ _ h1]
       try simp only
       split at e
       ·rename_i r2 hl2
        try simp only[hl2]
        split at e
        ·rename_i hs2
         try simp only[hs2]
         split at e
         ·rename_i e2 t2 m2 h2;rw[h _ _ h2]; exact e
         ·cases e
        ·cases e
       ·cases e
      ·cases e
   ·cases e
  ·cases e
theorem sy {n:Nat} {tk:Task} {r:Res}:run E n tk=some r→run E (n+1) tk=some r:=by
 induction n generalizing tk r with
 | zero=>intro h; cases h
 | succ n ih=>intro h; exact ru (fun _ _=>ih) h
theorem gi {n n':Nat} (hn:n≤n') {tk:Task} {r:Res} (h:run E n tk=some r):run E n' tk=some r:=by
 induction hn with
 | refl=>exact h
 | step _ ih=>exact sy ih
def sO (E:Env) (tk:Task) (r:Res):Prop:=∃n,run E n tk=some r
end
section
variable {E : Env} {n : Nat} {fn : FuncId} {ro : Option Nat}
def aW (E:Env) (f:FuncId) (args:List Value) (m:AMem) (Q:Value→AMem→Prop):Prop:=∃v m',sO E (.call f args m) (.val v m')∧Q v m'
def pA (E:Env) (l:Nat) (args:List Value) (m:AMem) (Q:Value→AMem→Prop):Prop:=∃v m',sO E (.round l args m) (.val v m')∧Q v m'
def bL (E:Env) (n:Nat) (fn:FuncId) (ro:Option Nat) (c:Code) (Q:AExit→Tm→AMem→Prop) (t:Tm) (m:AMem):Prop:=∃e t' m',sO E (.code c ⟨t,n,fn,ro⟩ m) (.code e t' m')∧Q e t' m'
def qh (E:Env) (n:Nat) (fn:FuncId) (ro:Option Nat) (c:Code) (Q:AExit→Tm→AMem→Prop) (t:Tm) (m:AMem):Prop:=∃e t' m',sO E (.loop c ⟨t,n,fn,ro⟩ m) (.code e t' m')∧Q e t' m'
theorem aW.mono {f:FuncId} {args:List Value} {m:AMem} {Q Q':Value→AMem→Prop} (h:aW E f args m Q) (hq:∀v m',Q v m'→Q' v m'):aW E f args m Q' :=
 let ⟨v,m',r,q⟩:=h; ⟨v,m',r,hq v m' q⟩
theorem bL.mono {c:Code} {Q Q':AExit→Tm→AMem→Prop} {t:Tm} {m:AMem} (h:bL E n fn ro c Q t m) (hq:∀e t m,Q e t m→Q' e t m):bL E n fn ro c Q' t m :=
 let ⟨e,t',m',r,q⟩:=h; ⟨e,t',m',r,hq _ _ _ q⟩
def iY (K:Tm→AMem→Prop) (Q:AExit→Tm→AMem→Prop):AExit→Tm→AMem→Prop
 | .normal,t,m=>K t m
 | .exit id,t,m=>Q (.exit id) t m
 | .ret,t,m=>Q .ret t m
def er (id:Nat) (Q:AExit→Tm→AMem→Prop):AExit→Tm→AMem→Prop
 | .normal,t,m=>Q .normal t m
 | .exit id',t,m=>if id'=id then Q .normal t m else Q (.exit id') t m
 | .ret,t,m=>Q .ret t m
variable {Q : AExit → Tm → AMem → Prop} {t : Tm} {m : AMem}
theorem bA {k:Nat} {tk:Task} {r:Res} (h:step E (run E k) tk=some r):sO E tk r:=⟨k+1,h⟩
theorem bL.skip (h:Q .normal t m):bL E n fn ro .skip Q t m:=⟨_,_,_,bA (k:=0) rfl,h⟩
theorem bL.exit {id:Nat} (h:Q (.exit id) t m):bL E n fn ro (.exit id) Q t m:=⟨_,_,_,bA (k:=0) rfl,h⟩
theorem bL.ret (h:Q .ret t m):bL E n fn ro .ret Q t m:=⟨_,_,_,bA (k:=0) rfl,h⟩
theorem bL.seq {a b:Code} (h:bL E n fn ro a (iY (bL E n fn ro b Q) Q) t m):bL E n fn ro (.seq a b) Q t m:=by
 obtain⟨e,t1,m1,⟨k1,h1⟩,q⟩:=h;cases e with
 | normal =>
  obtain⟨e2,t2,m2,⟨k2,h2⟩,q2⟩:=q;refine⟨e2,t2,m2,bA (k:=max k1 k2) ?_,q2⟩;simp only[step,gi (Nat.le_max_left k1 k2) h1];exact gi (Nat.le_max_right k1 k2) h2
 | exit id=>exact⟨_,_,_,bA (k:=k1) (by simp only[step,h1]),q⟩
 | ret=>exact⟨_,_,_,bA (k:=k1) (by simp only[step,h1]),q⟩
theorem bL.cond {x:Operand} {a b:Code} {c:Bool} (hx:av E t x=some (.bool c)) (ht:c=true→bL E n fn ro a Q t m) (hf:c=false→bL E n fn ro b Q t m):bL E n fn ro (.cond x a b) Q t m:=by
 cases c with
 | true =>
  obtain⟨e,t1,m1,⟨k1,h1⟩,q⟩:=ht rfl;exact⟨e,t1,m1,bA (k:=k1) (by simp only[step,hx]; exact h1),q⟩
 | false =>
  obtain⟨e,t1,m1,⟨k1,h1⟩,q⟩:=hf rfl;exact⟨e,t1,m1,bA (k:=k1) (by simp only[step,hx]; exact h1),q⟩
theorem bL.block {id:Nat} {a:Code} (h:bL E n fn ro a (er id Q) t m):bL E n fn ro (.block id a) Q t m:=by
 obtain⟨e,t1,m1,⟨k1,h1⟩,q⟩:=h;cases e with
 | normal=>exact⟨_,_,_,bA (k:=k1) (by simp only[step,h1]),q⟩
 | exit id' =>
  simp only[er] at q
  by_cases hid:id'=id
  ·rw[if_pos hid] at q;exact⟨_,_,_,bA (k:=k1) (by simp only[step,h1,if_pos hid]),q⟩
  ·rw[if_neg hid] at q;exact⟨_,_,_,bA (k:=k1) (by simp only[step,h1,if_neg hid]),q⟩
 | ret=>exact⟨_,_,_,bA (k:=k1) (by simp only[step,h1]),q⟩
theorem bL.loop {a:Code} (h:qh E n fn ro a Q t m):bL E n fn ro (.loop a) Q t m:=by
 obtain⟨e,t1,m1,⟨k1,h1⟩,q⟩:=h;exact⟨_,_,_,bA (k:=k1) (by simp only[step]; exact h1),q⟩
theorem qh.round {a:Code} (h:bL E n fn ro a (iY (qh E n fn ro a Q) Q) t m):qh E n fn ro a Q t m:=by
 obtain⟨e,t1,m1,⟨k1,h1⟩,q⟩:=h;cases e with
 | normal =>
  obtain⟨e2,t2,m2,⟨k2,h2⟩,q2⟩:=q;refine⟨e2,t2,m2,bA (k:=max k1 k2) ?_,q2⟩;simp only[step,gi (Nat.le_max_left k1 k2) h1];exact gi (Nat.le_max_right k1 k2) h2
 | exit id=>exact⟨_,_,_,bA (k:=k1) (by simp only[step,h1]),q⟩
 | ret=>exact⟨_,_,_,bA (k:=k1) (by simp only[step,h1]),q⟩
def gL (E:Env) (t:Tm) (m:AMem) (o:Op) (K:Value→AMem→Prop):Prop:=∃v m',(∃k,cZ (run E k) E t m o=some (v,m'))∧K v m'
theorem ko {k k':Nat} (h:k≤k'):yL (run E k) (run E k'):=fun _ _=>gi h
theorem gL.plain {o:Op} {v:Value} {m':AMem} {K:Value→AMem→Prop} (he:dx E t m o=some (v,m')) (h:K v m'):gL E t m o K:=by
 refine⟨v,m',⟨0,?_⟩,h⟩;unfold cZ
 split
 ·rename_i c
  split
  ·rename_i f hc;simp[dx,hc] at he
  ·exact he
 ·exact he
theorem gL.call {c:Call} {f:Operand} {g:FuncId} {first captured:Array Value} {args:List Value} {K:Value→AMem→Prop} (hc:c.callee = .value f) (hf:av E t f=some (.func (.func g) first captured)) (ha:bz E t c.args.toList=some args)
  (h:aW E g (first.toList++args++captured.toList) m K):gL E t m (.call c) K:=by
 obtain⟨v,m',⟨k,hk⟩,q⟩:=h;exact⟨v,m',⟨k,by simp only[cZ,hc,hf,ha,hk]⟩,q⟩
theorem gL.round {c:Call} {f:Operand} {l:Nat} {first cap:Array Value} {args:List Value} {K:Value→AMem→Prop} (hc:c.callee = .value f) (hf:av E t f=some (.func (.yield l) first cap)) (ha:bz E t c.args.toList=some args)
  (h:pA E l (first.toList++args) m K):gL E t m (.call c) K:=by
 obtain⟨v,m',⟨k,hk⟩,q⟩:=h;exact⟨v,m',⟨k,by simp only[cZ,hc,hf,ha,hk]⟩,q⟩
def vp (n:Nat) (t:Tm) (dst:Option Tmp) (v:Value) (K:Tm→Prop):Prop:=∃t',fM n t dst v=some t'∧K t'
def pB (E:Env) (n:Nat) (ops:Array Oper) (K:Tm→AMem→Prop):List Oper→Tm→AMem→Prop
 | [],t,m=>K t m
 | o::os,t,m=>if bK ops o t then gL E t m o.op fun v m'=>vp n t o.dst v fun t'=>pB E n ops K os t' m' else vp n t o.dst undef fun t'=>pB E n ops K os t' m
theorem iK {ops:Array Oper} {K:Tm→AMem→Prop}:∀{os:List Oper} {t:Tm} {m:AMem},pB E n ops K os t m→∃k t' m',fh (run E k) E n ops os t m=some (t',m')∧K t' m'
 | [],t,m,h=>⟨0,t,m,rfl,h⟩
 | o::os,t,m,h=>by
  simp only[pB] at h
  split at h
  ·rename_i hw;obtain⟨v,m1,⟨k1,h1⟩,t1,hp,h2⟩:=h;obtain⟨k2,t2,m2,h3,h4⟩:=iK h2;refine⟨max k1 k2,t2,m2,?_,h4⟩;simp only[fh,if_pos hw,gv (ko (Nat.le_max_left k1 k2)) h1,hp];exact fG (ko (Nat.le_max_right k1 k2)) h3
  ·rename_i hw;obtain⟨t1,hp,h2⟩:=h;obtain⟨k2,t2,m2,h3,h4⟩:=iK h2;refine⟨k2,t2,m2,?_,h4⟩;simp only[fh,if_neg hw,hp];exact h3
theorem bL.region {id:Nat} {ops:Array Oper} (h:pB E n ops (Q .normal) ops.toList t m):bL E n fn ro (.region id ops false) Q t m:=by
 obtain⟨k,t',m',h1,h2⟩:=iK h;exact⟨_,_,_,bA (k:=k) (by simp only[step,Bool.false_eq_true,if_false,h1]),h2⟩
def eD (E:Env) (n:Nat) (ops:Array Oper) (K:Tm→AMem→List Note→Prop):List Oper→Tm→AMem→List Note→Prop
 | [],t,m,ns=>K t m ns.reverse
 | o::os,t,m,ns =>
  if bK ops o t then gL E t { m with wl:=m.next} o.op fun v m'=>vp n t o.dst v fun t' =>
   eD E n ops K os t' { m' with wl:=min m.wl m'.wl} ({ read:=aS E t o.op,wl:=m'.wl,next:=m.next,wrote:=dq E t o.op,kept:=eZ m m'}::ns)
  else vp n t o.dst undef fun t'=>eD E n ops K os t' m ({ read:=none,wl:=m.next,next:=m.next,wrote:=none,kept:=fun _=>false}::ns)
theorem gR {ops:Array Oper} {K:Tm→AMem→List Note→Prop}:∀{os:List Oper} {t:Tm} {m:AMem} {ns:List Note},eD E n ops K os t m ns→∃k t' m' ns',cM (run E k) E n ops os t m=some (t',m',ns')∧K t' m' (ns.reverse++ns')
 | [],t,m,ns,h=>⟨0,t,m,[],rfl,by rw[List.append_nil]; exact h⟩
 | o::os,t,m,ns,h=>by
  simp only[eD] at h
  split at h
  ·rename_i hw;obtain⟨v,m1,⟨k1,h1⟩,t1,hp,h2⟩:=h;obtain⟨k2,t2,m2,ns2,h3,h4⟩:=gR h2;refine⟨max k1 k2,t2,m2,_::ns2,?_,by simpa using h4⟩
   simp only[cM,if_pos hw,gv (ko (Nat.le_max_left k1 k2)) h1,hp,ej (ko (Nat.le_max_right k1 k2)) h3]
  ·rename_i hw;obtain⟨t1,hp,h2⟩:=h;obtain⟨k2,t2,m2,ns2,h3,h4⟩:=gR h2;refine⟨k2,t2,m2,_::ns2,?_,by simpa using h4⟩
   simp only[cM,if_neg hw,hp,h3]
theorem bL.draw {id:Nat} {ops:Array Oper} {ps:List (Nat × Nat)} (hp:gx ops=some ps) (h:eD E n ops (fun t m ns=>(ps.all (cN ns ops) && ns.all dI)=true∧Q .normal t m) ops.toList t m []):bL E n fn ro (.region id ops true) Q t m:=by
 obtain⟨k,t',m',ns,h1,h2,h3⟩:=gR h;simp only[List.reverse_nil,List.nil_append] at h2;exact⟨_,_,_,bA (k:=k) (by simp only[step,if_true,hp,h1,h2]),h3⟩
theorem aW.enter {f:FuncId} {F:Func} {c:Code} {args:List Value} {R:Value→AMem→Prop} (hp:E.cu f=none) (hf:E.P.funcs[f]? = some F) (hb:F.body=some c)
  (h:bL E (max args.length F.ntmps) f none c (fun e t' m'=>(∀id,e≠.exit id)∧∃vs,bY E t' m' F.results.toList=some vs∧R (fm vs) m') (Trie.ofList args 0 .nil) m):aW E f args m R:=by
 obtain⟨e,t',m',⟨k,h1⟩,hne,vs,h2,h3⟩:=h;refine⟨_,m',bA (k:=k) ?_,h3⟩;have hpa:mw E f args m=none:=by unfold mw; rw[hp]; rfl
 simp only[step,hpa,hf,hb,h1];cases e with
 | exit id=>exact(hne id rfl).elim
 | normal=>simp only[h2,Option.map_some]
 | ret=>simp only[h2,Option.map_some]
end
section
variable {E : Env} {n : Nat} {fn : FuncId} {ro : Option Nat} {Q : AExit → Tm → AMem → Prop} {t : Tm} {m : AMem}
def dN (r:Option (Value × AMem)) (K:Value→AMem→Prop):Prop :=
 match r with
 | some (v,m)=>K v m
 | none=>False
def ue (r:Option Tm) (K:Tm→Prop):Prop :=
 match r with
 | some t=>K t
 | none=>False
def gJ (E:Env) (f:Option Value) (args:Option (List Value)) (m:AMem) (K:Value→AMem→Prop):Prop :=
 match f,args with
 | some (.func (.func g) first captured),some ars=>aW E g (first.toList++ars++captured.toList) m K
 | some (.func (.yield l) first _),some ars=>pA E l (first.toList++ars) m K
 | _,_=>False
theorem kV (g:FuncId) (ars:List Value) (K:Value→AMem→Prop):gJ E (some (.func (.func g) #[] #[])) (some ars) m K=aW E g ars m K:=by
 simp[gJ]
def jm (o:Op):Option (Operand × List Operand) :=
 match o with
 | .call c=>match c.callee with
  | .value f=>some (f,c.args.toList)
  | _=>none
 | _=>none
def bw (E:Env) (t:Tm) (m:AMem) (o:Op) (K:Value→AMem→Prop):Prop :=
 match jm o with
 | some (f,ars)=>gJ E (av E t f) (bz E t ars) m K
 | none=>dN (dx E t m o) K
theorem bw.A {o:Op} {K:Value→AMem→Prop} (h:bw E t m o K):gL E t m o K:=by
 unfold bw at h
 split at h
 ·rename_i f ars hc;unfold jm at hc
  split at hc
  ·rename_i c
   split at hc
   ·rename_i f' hcal;cases hc;unfold gJ at h
    split at h
    ·rename_i g first captured args h1 h2
     exact .call hcal h1 h2 h
    ·rename_i l first cap args h1 h2
     exact .round hcal h1 h2 h
    ·exact h.elim
   ·cases hc
  ·cases hc
 ·unfold dN at h
  split at h
  ·rename_i v m' he;exact .plain he h
  ·exact h.elim
def jJ (E:Env) (n:Nat) (ops:Array Oper) (K:Tm→AMem→Prop):List Oper→Tm→AMem→Prop
 | [],t,m=>K t m
 | o::os,t,m=>if bK ops o t then bw E t m o.op fun v m'=>ue (fM n t o.dst v) fun t'=>jJ E n ops K os t' m' else ue (fM n t o.dst undef) fun t'=>jJ E n ops K os t' m
theorem gL.mono {o:Op} {K K':Value→AMem→Prop} (h:gL E t m o K) (hk:∀v m',K v m'→K' v m'):gL E t m o K' :=
 let ⟨v,m',r,q⟩:=h; ⟨v,m',r,hk v m' q⟩
theorem ue.A {r:Option Tm} {K:Tm→Prop} (h:ue r K):∃t',r=some t'∧K t':=by
 cases r with
 | none=>exact h.elim
 | some t=>exact⟨t,rfl,h⟩
theorem iD {ops:Array Oper} {K:Tm→AMem→Prop}:∀{os:List Oper} {t:Tm} {m:AMem},jJ E n ops K os t m→pB E n ops K os t m
 | [],t,m,h=>h
 | o::os,t,m,h=>by
  simp only[jJ] at h;simp only[pB]
  split at h
  ·rename_i hw;rw[if_pos hw];refine h.A.mono fun v m' hv=>?_;obtain⟨t',hp,h2⟩:=hv.A;exact⟨t',hp,iD h2⟩
  ·rename_i hw;rw[if_neg hw];obtain⟨t',hp,h2⟩:=h.A;exact⟨t',hp,iD h2⟩
theorem bL.ve {id:Nat} {ops:Array Oper} (h:jJ E n ops (Q .normal) ops.toList t m):bL E n fn ro (.region id ops false) Q t m:=.region (iD h)
def mW (E:Env) (n:Nat) (ops:Array Oper) (K:Tm→AMem→List Note→Prop):List Oper→Tm→AMem→List Note→Prop
 | [],t,m,ns=>K t m ns.reverse
 | o::os,t,m,ns =>
  if bK ops o t then bw E t { m with wl:=m.next} o.op fun v m'=>ue (fM n t o.dst v) fun t' =>
   mW E n ops K os t' { m' with wl:=min m.wl m'.wl} ({ read:=aS E t o.op,wl:=m'.wl,next:=m.next,wrote:=dq E t o.op,kept:=eZ m m'}::ns)
  else ue (fM n t o.dst undef) fun t'=>mW E n ops K os t' m ({ read:=none,wl:=m.next,next:=m.next,wrote:=none,kept:=fun _=>false}::ns)
end
section
variable {E : Env} {n : Nat} {fn : FuncId} {ro : Option Nat} {t : Tm} {m : AMem}
section
variable {Q : AExit → Tm → AMem → Prop}
theorem qw {id id':Nat}:er id Q (.exit id') t m=if id'=id then Q .normal t m else Q (.exit id') t m:=rfl
end
def oR (r:Option (List Value)) (R:Value→Prop):Prop :=
 match r with
 | some vs=>R (fm vs)
 | none=>False
def fN (E:Env) (rs:List ResultVar) (R:Value→AMem→Prop):AExit→Tm→AMem→Prop
 | .exit _,_,_=>False
 | .normal,t,m=>oR (bY E t m rs) fun v=>R v m
 | .ret,t,m=>oR (bY E t m rs) fun v=>R v m
theorem ra {rs:List ResultVar} {R:Value→AMem→Prop}:fN E rs R .normal t m=oR (bY E t m rs) fun v=>R v m:=rfl
theorem xq {rs:List ResultVar} {R:Value→AMem→Prop}:fN E rs R .ret t m=oR (bY E t m rs) fun v=>R v m:=rfl
theorem aW.xG {f:FuncId} {F:Func} {c:Code} {args:List Value} {rs:List ResultVar} {N:Nat} {R:Value→AMem→Prop} (hp:E.cu f=none) (hf:E.P.funcs[f]? = some F) (hb:F.body=some c) (hrs:F.results.toList=rs) (hN:max args.length F.ntmps=N)
  (h:bL E N f none c (fN E rs R) (Trie.ofList args 0 .nil) m):aW E f args m R:=by
 subst hrs hN;refine .enter hp hf hb (h.mono fun e t' m' hq=>?_);cases e with
 | exit id=>exact hq.elim
 | normal =>
  refine⟨fun id h=>(by cases h),?_⟩
  simp only[fN] at hq;unfold oR at hq
  split at hq
  ·rename_i vs hv; exact⟨vs,hv,hq⟩
  ·exact hq.elim
 | ret =>
  refine⟨fun id h=>(by cases h),?_⟩
  simp only[fN] at hq;unfold oR at hq
  split at hq
  ·rename_i vs hv; exact⟨vs,hv,hq⟩
  ·exact hq.elim
end
theorem at_set (t:Tm) (i j:Nat) (v:Value):Tm.at (Trie.set t i v) j=if j=i then v else Tm.at t j:=by
 unfold Tm.at; rw[Trie.bB]; split<;>rfl
theorem ck (n:Nat) (t:Tm) (d:Nat) (v:Value):fM n t (some d) v=if d<n then some (Trie.set t d v) else none:=by
 unfold fM
 by_cases h:d<n
 ·have:Nat.blt d n=true:=by simpa using h
  simp only[this,if_pos h]
 ·have:Nat.blt d n=false:=by
   cases hb:Nat.blt d n with
   | false=>rfl
   | true=>exact(h (by simpa using hb)).elim
  simp only[this,if_neg h]
section
variable {E : Env} {t : Tm} {ty : TypeId} {P : Program}
theorem aA (k:IntKind) (a b:Int):cB .add ty P (.int k a) (.int k b)=some (.int k (k.wrap (a+b))):=by simp only[cB,if_true]
theorem bT (k:IntKind) (a b:Int):cB .sub ty P (.int k a) (.int k b)=some (.int k (k.wrap (a-b))):=by simp only[cB,if_true]
theorem dv (k:IntKind) (a b:Int):cB .mul ty P (.int k a) (.int k b)=some (.int k (k.wrap (a*b))):=by simp only[cB,if_true]
theorem vz (k:IntKind) (a b:Int) (h:b≠0):cB .rem ty P (.int k a) (.int k b)=some (.int k (a.tmod b)):=by simp only[cB,if_true,if_neg h]
theorem aD (k:IntKind) (a b:Int):cB .lss ty P (.int k a) (.int k b)=some (.bool (decide (a<b))):=by simp only[cB,if_true]
theorem fI (k:IntKind) (a b:Int):cB .leq ty P (.int k a) (.int k b)=some (.bool (decide (a≤b))):=by simp only[cB,if_true]
theorem cx (k:IntKind) (a b:Int):cB .gtr ty P (.int k a) (.int k b)=some (.bool (decide (b<a))):=by simp only[cB,if_true,gt_iff_lt]
theorem dE (k:IntKind) (a b:Int):cB .geq ty P (.int k a) (.int k b)=some (.bool (decide (b≤a))):=by simp only[cB,if_true,ge_iff_le]
theorem ba (k:IntKind) (a b:Int):cB .eql ty P (.int k a) (.int k b)=some (.bool (decide (a=b))):=by simp only[cB,if_true]; rfl
theorem vl (k:IntKind) (a b:Int):cB .neq ty P (.int k a) (.int k b)=some (.bool (decide (a≠b))):=by
 simp only[cB,if_true]
 by_cases h:a=b<;>simp[h]
end
structure Ext (m m':AMem):Prop where
 next:m.next≤m'.next
 same:∀b,b<m.next→m'.get b=m.get b
 wl:min m.wl m.next≤m'.wl
theorem Ext.refl (m:AMem):Ext m m:=⟨Nat.le_refl _,fun _ _=>rfl,Nat.min_le_left _ _⟩
theorem Ext.trans {a b c:AMem} (h:Ext a b) (h':Ext b c):Ext a c :=
 ⟨Nat.le_trans h.next h'.next,fun x hx=>(h'.same x (Nat.lt_of_lt_of_le hx h.next)).trans (h.same x hx),by
  have h1:=h.wl; have h2:=h'.wl; have h3:=h.next; omega⟩
theorem Ext.alloc {m m':AMem} (h:Ext m m') (o:AObj):Ext m (m'.alloc o) :=
 ⟨Nat.le_succ_of_le h.next,fun b hb=>by
  rw[AMem.aY,if_neg (by have:=h.next; omega)]; exact h.same b hb,h.wl⟩
theorem Ext.set {m m':AMem} (h:Ext m m') {b:Nat} (hb:m.next≤b) (o:AObj):Ext m (m'.set b o) :=
 ⟨h.next,fun x hx=>by rw[AMem.bB,if_neg (by omega)]; exact h.same x hx,by
  show min m.wl m.next≤min m'.wl b
  have:=h.wl; omega⟩
inductive SlA (m:AMem) (w:Nat):Value→List (List Value)→Prop
 | nil:SlA m w (.slice none 0 0) []
 | at {b o cap:Nat} {cs:List Value} {tag:Tag} {xs:List (List Value)} (hb:b<m.next) (hg:m.get b=some (.cells cs tag)) (hc:xs.length≤cap) (hx:∀i x,xs[i]? = some x→(cs.drop (o+i*w)).take w=x∧x.length=w) :
   SlA m w (.slice (some ⟨b,o,none⟩) xs.length cap) xs
def pX (P : Program) : Bool := P.funcs.toList.all (fun fn => !(fn.name == "runtime.NumGoroutine")) && P.follows .mixedOrders
theorem nJ {E:Env} (h:pX E.P=true) (hp:∀f p,E.cu f=some p→∀args m v m',p.run args m=some (v,m')→∀(j:aL) (w:World) (args':List Value),MR E j m w→LR j args args'→eK E.P (E.cu f).isSome f args'.toArray w (fV E j m w v m')):EnvOk E:=by
 simp only[pX,Bool.and_eq_true] at h;refine⟨fun f fn c hf hb args w=>?_,h.2,hp⟩;have hnm:=List.all_eq_true.1 h.1 fn (List.mem_of_getElem? (by simpa using hf))
 have hname : (fn.name == "runtime.NumGoroutine") = false := by simpa using hnm
 have h1 : fn.name ≠ "runtime.NumGoroutine" := by simpa using hname
 simp[callFunc,hf,h1,hb]
theorem jx {E:Env} (hE:EnvOk E) {fuel:Nat} {f:FuncId} {args:List Value} {m m':AMem} {v:Value} (e:run E fuel (.call f args m)=some (.val v m')) (hp:E.cu f=none) {j:aL} {W:World} {args':List Value} (h:MR E j m W) (hl:LR j args args') :
  CallsIn Fence.wide 0 E.P f args'.toArray W fun e W'=>∃v',e = .returned v'∧∃j',Sim E j m W j' m' W'∧VR j' v v':=by
 obtain⟨v1,m1,hr,hs⟩:=jF hE fuel _ _ e;cases hr;rcases hs j W args' h hl with⟨_,h1⟩|⟨h1,_⟩
 ·exact h1
 ·rw[hp] at h1; cases h1
theorem Sim.grown {E:Env} {j j':aL} {m m':AMem} {w w':World} (s:Sim E j m w j' m' w') (h:MR E j m w) (hwl:m.next≤m'.wl):∀c,c<w.heap.size→w'.heap[c]? = w.heap[c]? :=
 fun c hc=>s.frame c hc fun b k hb _ _=>Nat.lt_of_lt_of_le (h.lt b k hb).1 hwl
theorem ki {E:Env} {w w':World} (h1:fb E w w') (h2:∀c,c<w.heap.size→w'.heap[c]? = w.heap[c]?) (may:MemPlace→Prop):w.keptBut w' may:=by
 refine World.keptBut_mono (fun _ f=>f.elim) (?_:w.keptBut w' fun _=>False);refine⟨h1.1,h1.2.1,fun i hi=>?_⟩;rw[h2 i hi];exact(World.keptBut_refl w (fun _=>False)).2.2 i hi
def rK (n:Nat) (gs:Nat→Option (List Value)):AMem:={ next:=n,wl:=n,objs:=.nil,base:=fun b=>(gs b).map fun cs=>.cells cs .ro}
def rE (n:Nat):aL:=fun b=>if b<n then some ⟨b,none⟩ else none
theorem vF {E:Env} {n:Nat} {gs:Nat→Option (List Value)} {W:World} (hn:E.glob≤n) (hW:n≤W.heap.size)
  (hg:∀b cs,gs b=some cs→b<n→∃c t fz,W.heap[b]? = some (.cells c t fz)∧LR (rE n) cs c.toList):MR E (rE n) (rK n gs) W:=by
 have hj:∀b k,rE n b=some k→b<n∧k=⟨b,none⟩:=by
  intro b k h;unfold rE at h
  split at h
  ·cases h; exact⟨by assumption,rfl⟩
  ·cases h
 refine⟨fun b k h=>?_,fun b o k hget h=>?_,fun b b' k k' h h' _ _ he=>?_,fun g hgl=>?_⟩
 ·obtain⟨h1,rfl⟩:=hj b k h;exact⟨h1,Nat.lt_of_lt_of_le h1 hW⟩
 ·obtain⟨h1,rfl⟩:=hj b k h;have hget':(gs b).map (fun cs=>AObj.cells cs .ro)=some o:=by simpa [AMem.get,rK,Heap.get_nil] using hget
  obtain⟨cs,e1,rfl⟩:=map_some hget';obtain⟨c,t,fz,h2,h3⟩:=hg b cs e1 h1;refine⟨_,h2,⟨⟨rfl,by have:=h3.1; simpa using this.symm⟩,fun i v hi=>?_⟩⟩
  obtain⟨v',h4,h5⟩:=h3.get hi;exact⟨v',by simpa using h4,h5⟩
 ·obtain⟨_,rfl⟩:=hj b k h;obtain⟨_,rfl⟩:=hj b' k' h';exact he
 ·unfold rE;rw[if_pos (by omega)]
structure Grown (m m1:AMem):Prop where
 next:m.next≤m1.next
 same:∀b,b<m.next→m1.get b=m.get b
 wl:m.next≤m1.wl
section
variable {E : Env} {j j1 : aL} {m m1 : AMem} {w w1 : World}
theorem MR.env {E E':Env} (hg:E'.glob=E.glob) (h:MR E j m w):MR E' j m w:=⟨h.lt,h.obj,h.inj,fun g hl=>h.glob g (hg ▸ hl)⟩
theorem Sim.env {E E':Env} {m':AMem} {w':World} {j':aL} (hg:E'.glob=E.glob) (hm:E'.mono→E.mono) (s:Sim E j m w j' m' w'):Sim E' j m w j' m' w' :=
 ⟨s.ext,s.le,s.new,s.mr.env hg,s.size,s.full,s.away,s.fresh,s.frame,s.calm.1,s.calm.2.1,s.calm.2.2.1,fun e=>s.calm.2.2.2 (hm e)⟩
theorem Sim.old (h:MR E j m w) (s:Sim E j { m with wl:=m.next} w j1 m1 w1) (g:Grown m m1):∀c,c<w.heap.size→w1.heap[c]? = w.heap[c]? :=
 fun c hc=>s.frame c hc fun b k hb _ _=>Nat.lt_of_lt_of_le (h.lt b k hb).1 g.wl
theorem MR.after (h:MR E j m w) (s:Sim E j { m with wl:=m.next} w j1 m1 w1) (g:Grown m m1):MR E j m w1 where
 lt:=fun b k hb=>⟨(h.lt b k hb).1,Nat.lt_of_lt_of_le (h.lt b k hb).2 s.size⟩
 obj:=fun b o k ho hb=>by
  obtain⟨o',h1,h2⟩:=h.obj b o k ho hb;exact⟨o',(s.old h g k.c (h.lt b k hb).2).trans h1,h2⟩
 inj:=h.inj
 glob:=h.glob
theorem Sim.forget (h:MR E j m w) (s:Sim E j { m with wl:=m.next} w j1 m1 w1) (g:Grown m m1):Sim E j m w j m w1 where
 ext:=.refl m
 le:=.refl j
 new:=fun b k h h'=>by simp[h'] at h
 mr:=h.after s g
 size:=s.size
 full:=fun b h h' _=>absurd h (by omega)
 away:=fun _ _ _=>rfl
 fresh:=fun b k h h'=>by simp[h'] at h
 frame:=fun c hc _=>s.old h g c hc
 calm:=s.calm
theorem VR.rA {j j':aL} {v v':Value} (hp:Ab.bC v=true) (h:VR j' v v'):VR j v v':=by
 unfold Ab.bC at hp
 split at hp
 ·cases h with
  | agg hs ha =>
   refine .agg hs fun i a b=>?_;have hpi:=List.all_eq_true.1 hp _ (List.getElem_mem (l:=Array.toList _) (by simpa using a))
   simp only[Array.getElem_toList] at hpi;have:=ec hpi (ha i a b);rw[this]; exact .aP hpi
 ·cases h with
  | tuple hs ha =>
   refine .tuple hs fun i a b=>?_;have hpi:=List.all_eq_true.1 hp _ (List.getElem_mem (l:=Array.toList _) (by simpa using a))
   simp only[Array.getElem_toList] at hpi;have:=ec hpi (ha i a b);rw[this]; exact .aP hpi
 ·have:=ec hp h;rw[this]; exact .aP hp
theorem gY {P:Program} {pr pr':Bool} {f:FuncId} {args:Array Value} {w:World} {R R':Value→World→Prop} (hp:pr=true→pr'=true) (h:eK P pr f args w R) (hR:∀v w',R v w'→R' v w'):eK P pr' f args w R':=by
 rcases h with⟨h1,h2⟩|⟨h1,v,w',h2,h3⟩
 ·exact .inl ⟨h1,h2.mono fun e w' ⟨v,he,hv⟩=>⟨v,he,hR v w' hv⟩⟩
 ·exact .inr ⟨hp h1,v,w',h2,hR v w' h3⟩
end
def AMem.ww (m:AMem) (x:Nat):AMem:={ m with wl:=x}
section
variable {E : Env} {n : Nat} {fn : FuncId} {ro : Option Nat} {Q : AExit → Tm → AMem → Prop} {t : Tm} {m : AMem} {P : Program}
@[simp] theorem AMem.get_ww (m:AMem) (x b:Nat):(m.ww x).get b=m.get b:=rfl
@[simp] theorem AMem.next_ww (m:AMem) (x:Nat):(m.ww x).next=m.next:=rfl
@[simp] theorem AMem.wl_ww (m:AMem) (x:Nat):(m.ww x).wl=x:=rfl
def gM (b:Bool) (A B:Prop):Prop:=if b then A else B
def vM {α:Type} (r:Option α) (K:α→Prop):Prop :=
 match r with
 | some v=>K v
 | none=>False
theorem de {α:Type} (v:α) (K:α→Prop):vM (some v) K=K v:=rfl
def lT (c a b:Option Value) (K:Value→Prop):Prop :=
 match c with
 | some (.bool true)=>vM a K
 | some (.bool false)=>vM b K
 | _=>False
theorem pM (a b:Option Value) (K:Value→Prop):lT (some (.bool true)) a b K=vM a K:=rfl
theorem oV (a b:Option Value) (K:Value→Prop):lT (some (.bool false)) a b K=vM b K:=rfl
@[congr] theorem gM_congr {b b':Bool} {A B:Prop} (h:b=b'):gM b A B=gM b' A B:=by rw[h]
@[congr] theorem vM_congr {α:Type} {r r':Option α} {K:α→Prop} (h:r=r'):vM r K=vM r' K:=by rw[h]
@[congr] theorem pickM_congr {c c' a b:Option Value} {K:Value→Prop} (h:c=c'):lT c a b K=lT c' a b K:=by rw[h]
@[congr] theorem valM_congr {r r':Option (Value × AMem)} {K:Value→AMem→Prop} (h:r=r'):dN r K=dN r' K:=by rw[h]
@[congr] theorem tmM_congr {r:Option Tm} {K:Tm→Prop}:ue r K=ue r K:=rfl
@[congr] theorem callM_congr {f f':Option Value} {ars ars':Option (List Value)} {K:Value→AMem→Prop} (h:f=f') (h':ars=ars'):gJ E f ars m K=gJ E f' ars' m K:=by rw[h,h']
@[congr] theorem callA_congr {f:FuncId} {ars ars':List Value} {K:Value→AMem→Prop} (h:ars=ars'):aW E f ars m K=aW E f ars' m K:=by rw[h]
@[congr] theorem operM_congr {o:Op} {K:Value→AMem→Prop}:bw E t m o K=bw E t m o K:=rfl
@[congr] theorem wantedA_congr {ops:Array Oper} {o:Oper}:bK ops o t=bK ops o t:=rfl
@[congr] theorem opsM_congr {ops:Array Oper} {K:Tm→AMem→Prop} {os:List Oper}:jJ E n ops K os t m=jJ E n ops K os t m:=rfl
@[congr] theorem notedM_congr {ops:Array Oper} {K:Tm→AMem→List Note→Prop} {os:List Oper} {ns:List Note}:mW E n ops K os t m ns=mW E n ops K os t m ns:=rfl
@[congr] theorem codeA_congr {c:Code}:bL E n fn ro c Q t m=bL E n fn ro c Q t m:=rfl
theorem tV {ops:Array Oper} {d:Option Tmp} {o:Op} {ty:TypeId} {p:String} {a:Array Edge} {j:Nat} {b:Bool}:bK ops ⟨d,o,ty,p,a,some (j,b)⟩ t=(match dB ops t j with|some c=>c == b|none=>false):=rfl
section
variable {K : Value → AMem → Prop}
theorem uB {x:Operand}:bw E t m (.move x) K=vM (av E t x) fun v=>K v m:=by show dN ((av E t x).map _) K=_; cases av E t x<;>rfl
theorem rG {x:Operand}:bw E t m (.assign x) K=vM (av E t x) fun v=>K v m:=by show dN ((av E t x).map _) K=_; cases av E t x<;>rfl
theorem qp {c a b:Operand}:bw E t m (.pick c a b) K=lT (av E t c) (av E t a) (av E t b) fun v=>K v m:=by
 show dN (match av E t c with|some (.bool true)=>(av E t a).map fun v=>(v,m) | some (.bool false)=>(av E t b).map fun v=>(v,m) | _=>none) K=_
 unfold lT
 split
 ·cases av E t a<;>rfl
 ·cases av E t b<;>rfl
 ·rfl
theorem xE {e:TypeId} {x:Operand}:bw E t m (.box e x) K=vM (av E t x) fun v=>K (ptr m.next 0) (m.alloc (.cells v.cells.toList .own)):=by show dN ((av E t x).map _) K=_; cases av E t x<;>rfl
theorem uy {e:TypeId} {x:Operand}:bw E t m (.load e x) K=vM (av E t x) fun p=>vM (cT E.P e p m) fun v=>K v m:=by
 show dN (match av E t x with|some p=>(cT E.P e p m).map fun v=>(v,m) | none=>none) K=_
 cases av E t x with
 | none=>rfl
 | some p=>show dN ((cT E.P e p m).map _) K=vM (cT E.P e p m) _; cases cT E.P e p m<;>rfl
theorem uj {e:TypeId} {x y:Operand}:bw E t m (.store e x y) K=vM (av E t x) fun p=>vM (av E t y) fun v=>vM (eg E.P e p v m) fun m'=>K undef m':=by
 show dN (match av E t x,av E t y with|some p,some v=>(eg E.P e p v m).map fun m'=>(undef,m') | _,_=>none) K=_
 cases av E t x with
 | none=>rfl
 | some p=>cases av E t y with
  | none=>rfl
  | some v=>show dN ((eg E.P e p v m).map _) K=vM (eg E.P e p v m) _; cases eg E.P e p v m<;>rfl
theorem rT {b:BinOp} {e e':TypeId} {x y:Operand}:bw E t m (.binOp b e x y e') K=vM (av E t x) fun p=>vM (av E t y) fun v=>vM (cB b e E.P p v) fun r=>K r m:=by
 show dN (match av E t x,av E t y with|some p,some v=>(cB b e E.P p v).map fun v=>(v,m) | _,_=>none) K=_
 cases av E t x with
 | none=>rfl
 | some p=>cases av E t y with
  | none=>rfl
  | some v=>show dN ((cB b e E.P p v).map _) K=vM (cB b e E.P p v) _; cases cB b e E.P p v<;>rfl
theorem uA {b:UnOp} {e:TypeId} {x:Operand}:bw E t m (.unOp b e x) K=vM (av E t x) fun p=>vM (rO b p) fun r=>K r m:=by
 show dN (match av E t x with|some p=>(rO b p).map fun v=>(v,m) | none=>none) K=_
 cases av E t x with
 | none=>rfl
 | some p=>show dN ((rO b p).map _) K=vM (rO b p) _; cases rO b p<;>rfl
theorem nv {e:TypeId} {x:Operand} {f:Nat}:bw E t m (.fieldAddr e x f) K=vM (av E t x) fun p=>vM (aM E.P e p f) fun r=>K r m:=by
 show dN (match av E t x with|some p=>(aM E.P e p f).map fun v=>(v,m) | none=>none) K=_
 cases av E t x with
 | none=>rfl
 | some p=>show dN ((aM E.P e p f).map _) K=vM (aM E.P e p f) _; cases aM E.P e p f<;>rfl
theorem nh {e:TypeId} {x y:Operand}:bw E t m (.indexAddr e x y) K=vM (av E t x) fun p=>vM (av E t y) fun v=>vM (bN E.P e p v) fun r=>K r m:=by
 show dN (match av E t x,av E t y with|some p,some v=>(bN E.P e p v).map fun v=>(v,m) | _,_=>none) K=_
 cases av E t x with
 | none=>rfl
 | some p=>cases av E t y with
  | none=>rfl
  | some v=>show dN ((bN E.P e p v).map _) K=vM (bN E.P e p v) _; cases bN E.P e p v<;>rfl
theorem su {e:TypeId} {x y:Operand}:bw E t m (.index e x y) K=vM (av E t x) fun p=>vM (av E t y) fun v=>vM (ed E.P e p v) fun r=>K r m:=by
 show dN (match av E t x,av E t y with|some p,some v=>(ed E.P e p v).map fun v=>(v,m) | _,_=>none) K=_
 cases av E t x with
 | none=>rfl
 | some p=>cases av E t y with
  | none=>rfl
  | some v=>show dN ((ed E.P e p v).map _) K=vM (ed E.P e p v) _; cases ed E.P e p v<;>rfl
theorem pY {x:Operand} {i:Nat} {vs:Array Value} (h:av E t x=some (.tuple vs)):bw E t m (.extract x i) K=vM vs[i]? fun r=>K r m:=by
 show dN (match av E t x with|some (.tuple vs)=>(vs[i]?).map fun v=>(v,m) | _=>none) K=_
 rw[h]
 show dN ((vs[i]?).map _) K=_
 cases vs[i]?<;>rfl
theorem tZ {e:TypeId} {x:Operand} {a b c:Option Operand} {v:Value} {l h k:Option Value} (h1:av E t x=some v) (h2:cX E t a=some l) (h3:cX E t b=some h) (h4:cX E t c=some k):bw E t m (.slice e x a b c) K=vM (du E.P e v l h k m) fun r=>K r m:=by
 show dN (match av E t x,cX E t a,cX E t b,cX E t c with|some v,some l,some h,some k=>(du E.P e v l h k m).map fun v=>(v,m) | _,_,_,_=>none) K=_
 rw[h1,h2,h3,h4]
 show dN ((du E.P e v l h k m).map _) K=_
 cases du E.P e v l h k m<;>rfl
theorem tD {e:TypeId}:bw E t m (.alloc e) K=dN (dx E t m (.alloc e)) K:=rfl
theorem nV {f:FuncId} {a b:Array Operand}:bw E t m (.makeFunc (.func f) a b) K=vM (bz E t a.toList) fun fs=>vM (bz E t b.toList) fun cs=>K (.func (.func f) fs.toArray cs.toArray) m:=by
 show dN (match bz E t a.toList,bz E t b.toList with|some fs,some cs=>some (.func (.func f) fs.toArray cs.toArray,m) | _,_=>none) K=_
 cases bz E t a.toList with
 | none=>rfl
 | some fs=>cases bz E t b.toList<;>rfl
theorem pL {e:TypeId}:bw E t m (.makeMap e none) K=K (.map (some m.next)) (m.alloc (.map [])):=rfl
theorem py {b:Builtin} {a:Array Operand} {ts:Array TypeId}:bw E t m (.call ⟨.builtin b,a,ts⟩) K=vM (bz E t a.toList) fun vs=>dN (bj E.P b ts vs m) K:=by
 show dN (match bz E t a.toList with|some vs=>bj E.P b ts vs m|none=>none) K=_
 cases bz E t a.toList<;>rfl
end
theorem w5 {ty len elem w b o i:Nat} {kd:IntKind} (hu:P.underlying ty=some (.array len elem)) (hk:known P elem=true) (hs:aE P elem=w) (hi:i<len):bN P ty (ptr b o) (.int kd (i:Int))=some (ptr b (o+i*w)):=by
 have hd:decide ((0:Int)≤(i:Int)∧(i:Int)<(len:Nat))=true:=by simp; omega
 simp only[bN,ptr,hu,hk,hd,Bool.and_self,if_true,hs,Int.toNat_natCast]
theorem u6 {ty b o:Nat} {cs:List Value} {tag:Tag} {v:Value} (hk:known P ty=true) (ha:cL P ty=false) (hg:m.get b=some (.cells cs tag)) (hv:cs[o]? = some v):cT P ty (ptr b o) m=some v:=by
 simp only[cT,ptr,hk,ha,hg,Bool.not_true,Bool.false_eq_true,if_false,hv]
theorem uZ {ty b o w:Nat} {cs l:List Value} {tag:Tag} (hk:known P ty=true) (ha:cL P ty=true) (hs:aE P ty=w) (hg:m.get b=some (.cells cs tag)) (hl:(cs.drop o).take w=l) (hw:l.length=w):cT P ty (ptr b o) m=some (.agg l.toArray):=by
 simp only[cT,ptr,hk,ha,hs,Bool.not_true,Bool.false_eq_true,if_false,if_true,AMem.dg,hg,hl,hw,Option.map_some]
end
structure Pick (α:Type) where
 run:F8 α→α
structure Upd (α:Type) where
 run:F8 α→(α→(α→Bool)→Bool)→(F8 α→Bool)→Bool
structure Get where
 run:Tm→(Value→Bool)→Bool
structure zT where
 run:Tm→Value→(Tm→Bool)→Bool
structure OpSem where
 run:Tm→AMem→(Value→AMem→Bool)→Bool
section
variable {E : Env} {t : Tm} {m : AMem}
structure Gets where
 run:Tm→(List Value→Bool)→Bool
structure Parts where
 run:Tm→(List (Nat × Value)→Bool)→Bool
structure OptGet where
 run:Tm→(Option Value→Bool)→Bool
structure BinSem where
 run:Value→Value→(Value→Bool)→Bool
structure UnSem where
 run:Value→(Value→Bool)→Bool
structure LoadSem where
 run:Value→AMem→(Value→Bool)→Bool
structure StoreSem where
 run:Value→Value→AMem→(AMem→Bool)→Bool
structure AddrSem where
 run:Value→(Value→Bool)→Bool
structure IdxSem where
 run:Value→Value→(Value→Bool)→Bool
structure AppSem where
 run:Value→Value→AMem→(Value→AMem→Bool)→Bool
end
structure Look where
 run:Value→Value→AMem→(Value→Bool)→Bool
structure MapUp where
 run:Value→Value→Value→AMem→(AMem→Bool)→Bool
structure Hand where
 call:FuncId→List Value→AMem→(Value→AMem→Bool)→Bool
 round:Nat→List Value→AMem→(Value→AMem→Bool)→Bool
structure OperSem where
 run:Hand→Tm→AMem→(Value→AMem→Bool)→Bool
theorem vv {t:Tm} {d:Nat} {b:Bool} (h:t.at d = .bool b):t.get d=some (.bool b):=by
 unfold Tm.at at h;cases hg:Trie.get t d with
 | none=>rw[hg] at h; cases h
 | some v=>rw[hg] at h; exact congrArg some h
structure Guard where
 run:Tm→Bool→Bool→Bool
structure RegSem where
 run:Hand→Tm→AMem→(Tm→AMem→Bool)→Bool
structure NoteSem where
 run:Hand→Tm→AMem→List Note→(Tm→AMem→List Note→Bool)→Bool
structure Sem where
 run:Hand→Option Nat→Tm→AMem→(AExit→Tm→AMem→Bool)→Bool
section
variable {E : Env} {n : Nat} {fn : FuncId} {ro : Option Nat} {Q : AExit → Tm → AMem → Prop} {t : Tm} {m : AMem}
end
structure ResSem where
 run:Tm→AMem→(List Value→Bool)→Bool
structure FunSem where
 run:Hand→List Value→AMem→(Value→AMem→Bool)→Bool
structure PSem where
 run:List Value→AMem→(Value→AMem→Bool)→Bool
theorem aW.cu {E:Env} {f:FuncId} {p:Prim} {args:List Value} {m m':AMem} {v:Value} {R:Value→AMem→Prop} (hp:E.cu f=some p) (h:p.run args m=some (v,m')) (hR:R v m'):aW E f args m R:=by
 have hpa:mw E f args m=some (v,m'):=by
  unfold mw;rw[hp];exact h
 exact⟨v,m',bA (k:=0) (by simp only[step,hpa]),hR⟩
section
variable {E : Env} {n : Nat} {t : Tm} {m : AMem} {K : Tm → AMem → Prop} {ops : Array Oper} {os : List Oper} {ty : TypeId} {p : String} {af : Array Edge} {d : Nat}
variable {L : Tm → AMem → List Note → Prop} {ns : List Note}
variable {a b r v : Value} {x y : Operand} {e e' : TypeId}
theorem xM (h:av E t x=some v) (K':Value→AMem→Prop):bw E t m (.move x) K'=K' v m:=by rw[uB,h]; rfl
theorem so (h:av E t x=some v) (K':Value→AMem→Prop):bw E t m (.assign x) K'=K' v m:=by rw[rG,h]; rfl
theorem uI {c:Operand} (hc:av E t c=some (.bool true)) (h:av E t x=some v) (K':Value→AMem→Prop):bw E t m (.pick c x y) K'=K' v m:=by rw[qp,hc,pM,h]; rfl
theorem vf {c:Operand} (hc:av E t c=some (.bool false)) (h:av E t y=some v) (K':Value→AMem→Prop):bw E t m (.pick c x y) K'=K' v m:=by rw[qp,hc,oV,h]; rfl
theorem yI (h:av E t x=some v) (K':Value→AMem→Prop):bw E t m (.box e x) K'=K' (ptr m.next 0) (m.alloc (.cells v.cells.toList .own)):=by rw[xE,h]; rfl
theorem yJ {op:BinOp} (h:av E t x=some a) (h':av E t y=some b) (hr:cB op e E.P a b=some r) (K':Value→AMem→Prop):bw E t m (.binOp op e x y e') K'=K' r m:=by rw[rT,h,de,h',de,hr]; rfl
theorem ez {op:UnOp} (h:av E t x=some a) (hr:rO op a=some r) (K':Value→AMem→Prop):bw E t m (.unOp op e x) K'=K' r m:=by rw[uA,h,de,hr]; rfl
theorem uu (h:av E t x=some a) (hr:cT E.P e a m=some r) (K':Value→AMem→Prop):bw E t m (.load e x) K'=K' r m:=by rw[uy,h,de,hr]; rfl
theorem uE {m':AMem} (h:av E t x=some a) (h':av E t y=some b) (hr:eg E.P e a b m=some m') (K':Value→AMem→Prop):bw E t m (.store e x y) K'=K' undef m':=by rw[uj,h,de,h',de,hr]; rfl
theorem nX {f:Nat} (h:av E t x=some a) (hr:aM E.P e a f=some r) (K':Value→AMem→Prop):bw E t m (.fieldAddr e x f) K'=K' r m:=by rw[nv,h,de,hr]; rfl
theorem oS (h:av E t x=some a) (h':av E t y=some b) (hr:bN E.P e a b=some r) (K':Value→AMem→Prop):bw E t m (.indexAddr e x y) K'=K' r m:=by rw[nh,h,de,h',de,hr]; rfl
theorem uQ (h:av E t x=some a) (h':av E t y=some b) (hr:ed E.P e a b=some r) (K':Value→AMem→Prop):bw E t m (.index e x y) K'=K' r m:=by rw[su,h,de,h',de,hr]; rfl
theorem q4 {i:Nat} {vs:Array Value} (h:av E t x=some (.tuple vs)) (hr:vs[i]? = some r) (K':Value→AMem→Prop):bw E t m (.extract x i) K'=K' r m:=by rw[pY h,hr]; rfl
theorem qk {l h k:Option Operand} {l' h' k':Option Value} (h1:av E t x=some a) (h2:cX E t l=some l') (h3:cX E t h=some h') (h4:cX E t k=some k') (hr:du E.P e a l' h' k' m=some r) (K':Value→AMem→Prop):bw E t m (.slice e x l h k) K'=K' r m:=by rw[tZ h1 h2 h3 h4,hr]; rfl
theorem uz {z:Value} (hz:bq E.P e=some z) (hp:bC z=true) (K':Value→AMem→Prop):bw E t m (.alloc e) K'=K' (ptr m.next 0) (m.alloc (.cells z.cells.toList .own)):=by
 rw[tD]; simp only[dx,hz,hp,if_true]; rfl
theorem dO {bi:Builtin} {ars:Array Operand} {ts:Array TypeId} {vs:List Value} {m':AMem} (h:bz E t ars.toList=some vs) (hr:bj E.P bi ts vs m=some (r,m')) (K':Value→AMem→Prop):bw E t m (.call ⟨.builtin bi,ars,ts⟩) K'=K' r m':=by rw[py,h,de,hr]; rfl
theorem rR {op:Op} {m':AMem} (hc:jm op=none) (hr:dx E t m op=some (r,m')) (K':Value→AMem→Prop):bw E t m op K'=K' r m':=by
 unfold bw; rw[hc]; simp only[hr]; rfl
theorem zL {ops:Array Oper} {t:Tm} {dst:Option Tmp} {o:Op} {ty:TypeId} {p:String} {a:Array Edge} {j d:Nat} {b c:Bool} (hd:(ops[j]?).bind (·.dst)=some d) (h:t.at d = .bool c):bK ops ⟨dst,o,ty,p,a,some (j,b)⟩ t=(c == b):=by
 rw[tV]; unfold dB; rw[hd]; simp only[vv h]
end
section
variable {E : Env} {n : Nat} {fn : FuncId} {ro : Option Nat} {Q : AExit → Tm → AMem → Prop} {t : Tm} {m : AMem} {w : Nat}
def fX (E:Env) (n:Nat) (ops:Array Oper) (K:Tm→AMem→Prop):List Oper→Tm→AMem→Nat→Prop
 | [],t,m,w=>K t (m.ww w)
 | o::os,t,m,w =>
  if bK ops o t then(∀b,aS E t o.op=some b→b<m.next)∧bw E t (m.ww m.next) o.op fun v m'=>ue (fM n t o.dst v) fun t'=>fX E n ops K os t' m' (min w m'.wl)
  else ue (fM n t o.dst undef) fun t'=>fX E n ops K os t' m w
theorem lY {r:Option Nat} {x y:Nat} {z:Option Nat} {u:Nat→Bool} (h:∀b,r=some b→b<y):dI { read:=r,wl:=x,next:=y,wrote:=z,kept:=u}=true:=by
 cases r with
 | none=>rfl
 | some b =>
  have:=h b rfl
  show Nat.blt b y=true
  rw[Nat.blt_eq]; exact this
theorem je {ops:Array Oper} {K:Tm→AMem→Prop}:∀{os:List Oper} {t:Tm} {m:AMem} {w:Nat} {ns:List Note},fX E n ops K os t m w→ns.all dI=true→eD E n ops (fun t m ns=>ns.all dI=true∧K t m) os t (m.ww w) ns
 | [],t,m,w,ns,h,hn=>⟨by simpa using hn,h⟩
 | o::os,t,m,w,ns,h,hn=>by
  simp only[fX] at h;simp only[eD]
  split at h
  ·rename_i hw;rw[if_pos hw];obtain⟨h1,h2⟩:=h;refine h2.A.mono fun v m' hv=>?_;obtain⟨t',hp,h3⟩:=hv.A;refine⟨t',hp,?_⟩;have:=je (ns:={ read:=aS E t o.op,wl:=m'.wl,next:=m.next,wrote:=dq E t o.op,kept:=eZ m m'}::ns) h3 (by rw[List.all_cons,hn,Bool.and_true]; exact lY h1)
   exact this
  ·rename_i hw;rw[if_neg hw];obtain⟨t',hp,h2⟩:=h.A;exact⟨t',hp,je h2 (by rw[List.all_cons,hn]; rfl)⟩
theorem bL.yW {id:Nat} {ops:Array Oper} (hp:gx ops=some []) (h:∀K:Tm→AMem→Prop,(∀t m,Q .normal t m→K t m)→fX E n ops K ops.toList t m m.wl):bL E n fn ro (.region id ops true) Q t m:=by
 refine .draw hp ?_;have h1:=je (ns:=[]) (h (fun t m=>Q .normal t m) fun _ _ h=>h) rfl;have mono:∀{os:List Oper} {t:Tm} {m:AMem} {ns:List Note},eD E n ops (fun t m ns=>ns.all dI=true∧Q .normal t m) os t m ns→eD E n ops (fun t m ns=>(([]:List (Nat × Nat)).all (cN ns ops) && ns.all dI)=true∧Q .normal t m) os t m ns:=by
  intro os t m ns h
  simpa using h
 exact mono h1
variable {K : Tm → AMem → Prop} {ops : Array Oper} {os : List Oper} {ty : TypeId} {p : String} {af : Array Edge} {d : Nat} {g : Option (Nat × Bool)} {v a b r : Value} {x y : Operand} {e : TypeId}
theorem uR {xs:List Operand} {vs:List Value} (h:av E t x=some v) (hs:bz E t xs=some vs):bz E t (x::xs)=some (v::vs):=by simp only[bz,h,hs]
end
end Go.Ab
end

section
namespace Go.Ab.W
open Go Go.Ab
abbrev Fs:=List (Nat × Value)
def lk:Fs→Nat→Option Value
 | [],_=>none
 | p::l,i=>match Nat.beq p.1 i with
  | true=>some p.2
  | false=>lk l i
def Fr (t:Tm) (fs:Fs):Prop:=∀i v,lk fs i=some v→t.at i=v
theorem Fr.nil (t:Tm):Fr t []:=fun i v h=>by cases h
theorem Fr.set {t:Tm} {fs:Fs} {d:Nat} {v:Value} (h:Fr t fs):Fr (Trie.set t d v) ((d,v)::fs):=by
 intro i x hx;unfold lk at hx;rw[at_set]
 split at hx
 ·rename_i e;have:d=i:=Nat.eq_of_beq_eq_true e;rw[if_pos this.symm]; exact Option.some.inj hx
 ·rename_i e;have:d≠i:=Nat.ne_of_beq_eq_false e;rw[if_neg (Ne.symm this)]; exact h i x hx
def sub (fs:Fs):Fs→Prop
 | []=>True
 | p::l=>lk fs p.1=some p.2∧sub fs l
theorem Fr.sub {t:Tm} {fs:Fs}:∀{fs':Fs},Fr t fs→sub fs fs'→Fr t fs'
 | [],_,_=>Fr.nil t
 | p::l,h,hs=>by
  intro i v hv;unfold lk at hv
  split at hv
  ·rename_i e;have:p.1=i:=Nat.eq_of_beq_eq_true e;subst this;cases hv;exact h _ _ hs.1
  ·exact Fr.sub h hs.2 i v hv
def ev (E:Env) (fs:Fs):Operand→Option Value
 | .tmp i=>lk fs i
 | .const v=>match bC v with
  | true=>some v
  | false=>none
 | .global g=>match Nat.blt g E.glob with
  | true=>some (ptr g 0)
  | false=>none
 | .func f=>some (.func (.func f) #[] #[])
def fQ (E:Env) (fs:Fs):List Operand→Option (List Value)
 | []=>some []
 | x::xs=>match ev E fs x with
  | some v=>match fQ E fs xs with
   | some vs=>some (v::vs)
   | none=>none
  | none=>none
def rM (E:Env) (fs:Fs):Option Operand→Option (Option Value)
 | none=>some none
 | some x=>match ev E fs x with
  | some v=>some (some v)
  | none=>none
def ux (E:Env) (fs:Fs):List (Nat × Operand)→Option (List (Nat × Value))
 | []=>some []
 | x::xs=>match ev E fs x.2 with
  | some v=>match ux E fs xs with
   | some vs=>some ((x.1,v)::vs)
   | none=>none
  | none=>none
section
variable {E : Env} {t : Tm} {fs : Fs}
theorem Fr.ev (h:Fr t fs):∀{x:Operand} {v:Value},ev E fs x=some v→av E t x=some v
 | .tmp i,v,e=>by show some (t.at i)=some v; rw[h i v e]
 | .const c,v,e=>by
  simp only[Go.Ab.W.ev] at e
  split at e
  ·rename_i hp; cases e; simp only[av]; rw[if_pos hp]
  ·cases e
 | .global g,v,e=>by
  simp only[Go.Ab.W.ev] at e
  split at e
  ·rename_i hp; cases e; simp only[av]; rw[if_pos (by rwa[Nat.blt_eq] at hp)]
  ·cases e
 | .func f,v,e=>by simp only[Go.Ab.W.ev] at e; exact e
theorem Fr.fQ (h:Fr t fs):∀{xs:List Operand} {vs:List Value},fQ E fs xs=some vs→bz E t xs=some vs
 | [],vs,e=>by simp only[Go.Ab.W.fQ] at e; exact e
 | x::xs,vs,e=>by
  simp only[Go.Ab.W.fQ] at e
  split at e
  ·rename_i v hv
   split at e
   ·rename_i ws hw;cases e;exact uR (h.ev hv) (Fr.fQ h hw)
   ·cases e
  ·cases e
theorem Fr.rM (h:Fr t fs):∀{x:Option Operand} {v:Option Value},rM E fs x=some v→cX E t x=some v
 | none,v,e=>by simp only[Go.Ab.W.rM] at e; exact e
 | some x,v,e=>by
  simp only[Go.Ab.W.rM] at e
  split at e
  ·rename_i w hw; cases e; simp only[cX]; rw[h.ev hw]; rfl
  ·cases e
theorem Fr.ux (h:Fr t fs):∀{xs:List (Nat × Operand)} {vs:List (Nat × Value)},ux E fs xs=some vs→da E t xs=some vs
 | [],vs,e=>by simp only[Go.Ab.W.ux] at e; exact e
 | x::xs,vs,e=>by
  simp only[Go.Ab.W.ux] at e
  split at e
  ·rename_i v hv
   split at e
   ·rename_i ws hw;cases e;obtain⟨i,y⟩:=x;unfold da;rw[h.ev hv,Fr.ux h hw]
   ·cases e
  ·cases e
end
def mY (m:AMem) (b o w:Nat) (es:List (List Value)):Prop :=
 b<m.next∧∃all tg,m.get b=some (.cells all tg)∧(∀sz,tg = .more sz→sz=w)∧∀i e,es[i]? = some e→(all.drop (o+i*w)).take w=e∧e.length=w
def lA:Option Addr→Option Nat
 | some a=>some a.block
 | none=>none
def Rd (m:AMem) (a:Option Addr) (cap w n:Nat) (es:List (List Value)):Prop :=
 es.length=n∧n≤cap∧((a=none∧n=0)∨(∃b sp,a=some ⟨b,0,some sp⟩∧n=0∧cap=0∧b<m.next)∨∃b o,a=some ⟨b,o,none⟩∧mY m b o w es)
theorem Rd.lt {m:AMem} {a:Option Addr} {cap w n:Nat} {es:List (List Value)} (h:Rd m a cap w n es) {b:Nat} (hb:lA a=some b):b<m.next:=by
 rcases h.2.2 with⟨rfl,_⟩|⟨b',sp,rfl,_,_,h4⟩|⟨b',o,rfl,h4⟩
 ·cases hb
 ·cases hb; exact h4
 ·cases hb; exact h4.1
def qy (lo:Nat) (m:AMem) (b w n:Nat) (es:List (List Value)) (tg:Tag):Prop :=
 lo≤b∧b<m.next∧m.get b=some (.cells es.flatten tg)∧es.length=n∧(∀e ∈ es,e.length=w)∧(tg = .own∨tg = .more w)∧0<w
structure GPc where
 ow:Nat→Prop
 rd:Nat→Prop
 P:AMem→Prop
 st:∀m m':AMem,P m→m.next≤m'.next→(∀b,ow b∨rd b→b<m.next→m'.get b=m.get b)→P m'
 lt:∀(m:AMem) b,P m→ow b∨rd b→b<m.next
 fr:Bool:=false
inductive Pc
 | obj (b:Nat) (o:AObj)
 | arr (b w n:Nat) (es:List (List Value)) (tg:Tag)
 | sl (a:Option Addr) (w n:Nat) (es:List (List Value))
 | rd (a:Option Addr) (cap w n:Nat) (es:List (List Value))
 | ro (b o w n:Nat) (es:List (List Value))
 | gen (g:GPc)
def Pc.lu:Pc→Option Nat
 | .obj b _=>some b
 | .arr b _ _ _ _=>some b
 | .sl a _ _ _=>lA a
 | .rd a _ _ _ _=>lA a
 | .ro b _ _ _ _=>some b
 | .gen _=>none
def Pc.own:Pc→Bool
 | .obj _ _ | .arr _ _ _ _ _ | .sl _ _ _ _=>true
 | _=>false
def Pc.zQ:Pc→Nat→Prop
 | .gen g=>g.ow
 | _=>fun _=>False
def Pc.rI:Pc→Nat→Prop
 | .gen g=>fun b=>g.ow b∨g.rd b
 | _=>fun _=>False
def Pc.ow (p:Pc) (b:Nat):Prop:=(p.own=true∧p.lu=some b)∨p.zQ b
def Pc.any (p:Pc) (b:Nat):Prop:=p.lu=some b∨p.rI b
theorem Pc.ir {p:Pc} {b:Nat} (h:p.ow b):p.any b:=by
 rcases h with h|h
 ·exact .inl h.2
 ·cases p with
  | gen g=>exact .inr (.inl h)
  | _=>exact h.elim
theorem Pc.ym {p:Pc} {b:Nat} (ho:p.own=true) (hb:p.lu=some b):p.ow b:=.inl ⟨ho,hb⟩
theorem Pc.nq {p:Pc} {b:Nat} (ho:p.own=true) (h:p.any b):p.lu=some b:=by
 rcases h with h|h
 ·exact h
 ·cases p with
  | gen g=>cases ho
  | _=>exact h.elim
def Pc.ok (lo:Nat) (m:AMem):Pc→Prop
 | .obj b o=>lo≤b∧b<m.next∧m.get b=some o
 | .arr b w n es tg=>qy lo m b w n es tg
 | .sl a w n es=>(n=0∧es = []∧a=none∧0<w)∨∃b tg,a=some ⟨b,0,none⟩∧qy lo m b w n es tg
 | .rd a cap w n es=>Rd m a cap w n es
 | .ro b o w n es=>es.length=n∧mY m b o w es
 | .gen g=>g.P m∧(g.fr=false→∀b,g.ow b→lo≤b)
def Pc.bound:Pc→Bool
 | .gen g=>!g.fr
 | _=>true
def Pc.apart (p q:Pc):Prop:=(∀b,p.ow b→q.any b→False)∧∀b,q.ow b→p.any b→False
structure Hp (m0 m:AMem) (ps:List Pc):Prop where
 ext:Ext m0 m
 ok:∀p ∈ ps,p.ok m0.next m
 apart:ps.Pairwise Pc.apart
def pk:List Pc→Nat→Option Pc
 | [],_=>none
 | p::_,0=>some p
 | _::l,k+1=>pk l k
def bM:List Pc→Nat→Pc→List Pc
 | [],_,_=>[]
 | _::l,0,p=>p::l
 | q::l,k+1,p=>q::bM l k p
theorem fC (p:Pc) (l:List Pc):pk (p::l) 0=some p:=rfl
theorem dh (p:Pc) (l:List Pc) (k:Nat):pk (p::l) (k+1)=pk l k:=rfl
theorem fc:∀{ps:List Pc} {k:Nat} {p:Pc},pk ps k=some p→p ∈ ps:=by
 intro ps
 induction ps with
 | nil=>intro k p h; simp[pk] at h
 | cons q l ih =>
  intro k p h;cases k with
  | zero=>rw[fC] at h; have:=Option.some.inj h; simp[this]
  | succ k=>rw[dh] at h; have:=ih h; simp[this]
theorem eY (q:Pc) (l:List Pc) (p:Pc):bM (q::l) 0 p=p::l:=rfl
theorem cQ (q:Pc) (l:List Pc) (k:Nat) (p:Pc):bM (q::l) (k+1) p=q::bM l k p:=rfl
theorem mq:∀{l:List Pc} {k:Nat} {p r:Pc},r ∈ bM l k p→r ∈ l∨r=p:=by
 intro l
 induction l with
 | nil=>intro k p r h; simp[bM] at h
 | cons a l ih =>
  intro k p r h;cases k with
  | zero =>
   rw[eY,List.mem_cons] at h;rcases h with h|h
   ·exact .inr h
   ·exact .inl (by simp[h])
  | succ k =>
   rw[cQ,List.mem_cons] at h;rcases h with h|h
   ·exact .inl (by simp[h])
   ·rcases ih h with h1|h1
    ·exact .inl (by simp[h1])
    ·exact .inr h1
theorem mY.gr {m m':AMem} {b o w:Nat} {es:List (List Value)} (h:mY m b o w es) (hn:m.next≤m'.next) (hg:m'.get b=m.get b):mY m' b o w es:=by
 obtain⟨h1,all,tg,h2,h3⟩:=h;exact⟨by omega,all,tg,by rw[hg]; exact h2,h3⟩
theorem qy.gr {lo:Nat} {m m':AMem} {b w n:Nat} {es:List (List Value)} {tg:Tag} (h:qy lo m b w n es tg) (hn:m.next≤m'.next) (hg:m'.get b=m.get b):qy lo m' b w n es tg:=by
 obtain⟨h1,h2,h3,h4⟩:=h;exact⟨h1,by omega,by rw[hg]; exact h3,h4⟩
theorem Rd.gr {m m':AMem} {a:Option Addr} {cap w n:Nat} {es:List (List Value)} (h:Rd m a cap w n es) (hn:m.next≤m'.next) (hg:∀b,lA a=some b→b<m.next→m'.get b=m.get b):Rd m' a cap w n es:=by
 obtain⟨h1,h2,h4⟩:=h;refine⟨h1,h2,?_⟩;rcases h4 with h4|⟨b,sp,rfl,a1,a2,a3⟩|⟨b,o,rfl,h⟩
 ·exact .inl h4
 ·exact .inr (.inl ⟨b,sp,rfl,a1,a2,Nat.lt_of_lt_of_le a3 hn⟩)
 ·exact .inr (.inr ⟨b,o,rfl,h.gr hn (hg b rfl h.1)⟩)
theorem Pc.dZ {lo:Nat} {m m':AMem} {p:Pc} (h:p.ok lo m) (hn:m.next≤m'.next) (hg:∀b,p.any b→b<m.next→m'.get b=m.get b):p.ok lo m':=by
 cases p with
 | obj b o=>exact⟨h.1,by have:=h.2.1; omega,by rw[hg b (.inl rfl) h.2.1]; exact h.2.2⟩
 | arr b w n es tg=>exact qy.gr h hn (hg b (.inl rfl) h.2.1)
 | sl a w n es =>
  rcases h with h|⟨b,tg,rfl,h⟩
  ·exact .inl h
  ·exact .inr ⟨b,tg,rfl,h.gr hn (hg b (.inl rfl) h.2.1)⟩
 | rd a cap w n es=>exact Rd.gr h hn fun b hb=>hg b (.inl hb)
 | ro b o w n es=>exact⟨h.1,h.2.gr hn (hg b (.inl rfl) h.2.1)⟩
 | gen g=>exact⟨g.st m m' h.1 hn fun b hb=>hg b (.inr hb),h.2⟩
theorem Pc.ea {lo:Nat} {m:AMem} {p:Pc} (h:p.ok lo m) {b:Nat} (hb:p.any b):b<m.next:=by
 cases p with
 | obj b' o=>rcases hb with hb|hb; cases hb; exact h.2.1; exact hb.elim
 | arr b' w n es tg=>rcases hb with hb|hb; cases hb; exact h.2.1; exact hb.elim
 | sl a w n es =>
  rcases hb with hb|hb
  ·rcases h with⟨_,_,rfl,_⟩|⟨b',tg,rfl,h⟩
   ·cases hb
   ·cases hb; exact h.2.1
  ·exact hb.elim
 | rd a cap w n es=>rcases hb with hb|hb; exact Rd.lt h hb; exact hb.elim
 | ro b' o w n es=>rcases hb with hb|hb; cases hb; exact h.2.1; exact hb.elim
 | gen g=>rcases hb with hb|hb; cases hb; exact g.lt m b h.1 hb
theorem Pc.xr {lo:Nat} {m:AMem} {p:Pc} (h:p.ok lo m) {b:Nat} (hb:p.lu=some b):b<m.next:=Pc.ea h (.inl hb)
theorem Pc.oi {lo:Nat} {m:AMem} {p:Pc} (h:p.ok lo m) (hf:p.bound=true) {b:Nat} (hb:p.ow b):lo≤b:=by
 rcases hb with⟨ho,hb⟩|hb
 ·cases p with
  | obj b' o=>cases hb; exact h.1
  | arr b' w n es tg=>cases hb; exact h.1
  | sl a w n es =>
   rcases h with⟨_,_,rfl,_⟩|⟨b',tg,rfl,h⟩
   ·cases hb
   ·cases hb; exact h.1
  | rd a cap w n es=>cases ho
  | ro b' o w n es=>cases ho
  | gen g=>cases ho
 ·cases p with
  | gen g=>exact h.2 (by simpa [Pc.bound] using hf) b hb
  | _=>exact hb.elim
theorem Pc.sd {lo:Nat} {m:AMem} {p:Pc} (h:p.ok lo m) (ho:p.own=true) {b:Nat} (hb:p.lu=some b):lo≤b:=Pc.oi h (by cases p<;>first|rfl|cases ho) (.inl ⟨ho,hb⟩)
section
variable {m0 m m' : AMem} {ps : List Pc}
theorem Hp.get (h:Hp m0 m ps) {k:Nat} {p:Pc} (hp:pk ps k=some p):p.ok m0.next m:=h.ok p (fc hp)
theorem Pc.gE {p r:Pc} (h:Pc.apart p r):Pc.apart r p:=⟨h.2,h.1⟩
theorem fq:∀{ps:List Pc} {k:Nat} {p p':Pc},pk ps k=some p→(∀r ∈ ps,Pc.apart p r→Pc.apart p' r)→ps.Pairwise Pc.apart→(bM ps k p').Pairwise Pc.apart:=by
 intro ps
 induction ps with
 | nil=>intro k p p' hk; simp[pk] at hk
 | cons q l ih =>
  intro k p p' hk hr h;rw[List.pairwise_cons] at h;cases k with
  | zero =>
   rw[fC] at hk;have hk:=Option.some.inj hk;subst hk;rw[eY];exact List.pairwise_cons.2 ⟨fun r hm=>hr r (by simp[hm]) (h.1 r hm),h.2⟩
  | succ k =>
   rw[dh] at hk;rw[cQ];refine List.pairwise_cons.2 ⟨fun r hm=>?_,ih hk (fun r hm=>hr r (by simp[hm])) h.2⟩
   rcases mq hm with hm|hm
   ·exact h.1 r hm
   ·rw[hm]; exact Pc.gE (hr q (by simp) (Pc.gE (h.1 p (fc hk))))
theorem oU:∀{ps:List Pc} {k:Nat} {p p' r:Pc},pk ps k=some p→ps.Pairwise Pc.apart→r ∈ bM ps k p'→r=p'∨(r ∈ ps∧Pc.apart r p):=by
 intro ps
 induction ps with
 | nil=>intro k p p' r hk; simp[pk] at hk
 | cons q l ih =>
  intro k p p' r hk h hr;rw[List.pairwise_cons] at h;cases k with
  | zero =>
   rw[fC] at hk;have hk:=Option.some.inj hk;subst hk;rw[eY,List.mem_cons] at hr;rcases hr with hr|hr
   ·exact .inl hr
   ·exact .inr ⟨by simp[hr],Pc.gE (h.1 r hr)⟩
  | succ k =>
   rw[dh] at hk;rw[cQ,List.mem_cons] at hr;rcases hr with hr|hr
   ·rw[hr]; exact .inr ⟨by simp,h.1 p (fc hk)⟩
   ·rcases ih hk h.2 hr with h1|⟨h1,h2⟩
    ·exact .inl h1
    ·exact .inr ⟨by simp[h1],h2⟩
theorem Hp.sW (h:Hp m0 m ps) {k:Nat} {p p':Pc} (hp:pk ps k=some p) (how:∀b,p'.ow b→p.ow b∨m.next≤b) (hany:∀b,p'.any b→p.any b∨m.next≤b) (hn:m.next≤m'.next) (hext:Ext m0 m')
  (hok:p'.ok m0.next m') (hg:∀b,¬p.ow b→b<m.next→m'.get b=m.get b):Hp m0 m' (bM ps k p') where
 ext:=hext
 apart:=fq hp (fun r hr ha=>⟨fun b a c=>(how b a).elim (fun a=>ha.1 b a c) fun a=>by have:=Pc.ea (h.ok r hr) c; omega,fun b a c=>(hany b c).elim (fun c=>ha.2 b a c) fun c=>by have:=Pc.ea (h.ok r hr) (Pc.ir a); omega⟩) h.apart
 ok:=fun r hr=>by
  rcases oU hp h.apart hr with rfl|⟨h1,h2⟩
  ·exact hok
  ·exact Pc.dZ (h.ok r h1) hn fun b hb' hlt=>hg b (fun e=>h2.2 b e hb') hlt
theorem Hp.put (h:Hp m0 m ps) {k:Nat} {p p':Pc} (hp:pk ps k=some p) (ho:p.own=true) (hb:p'.lu=p.lu) (ho':p'.own=true) (hn:m.next≤m'.next) (hext:Ext m0 m')
  (hok:p'.ok m0.next m') (hg:∀b,p.lu≠some b→b<m.next→m'.get b=m.get b):Hp m0 m' (bM ps k p') :=
 h.sW hp (fun b a=>.inl (.inl ⟨ho,by rw[←hb]; exact Pc.nq ho' (Pc.ir a)⟩)) (fun b a=>.inl (.inl (by rw[←hb]; exact Pc.nq ho' a))) hn hext hok fun b hb' hlt=>hg b (fun e=>hb' (.inl ⟨ho,e⟩)) hlt
theorem Hp.za (h:Hp m0 m ps) {p:Pc} (hn:m.next≤m'.next) (hext:Ext m0 m') (hsame:∀b,b<m.next→m'.get b=m.get b) (hp:p.ok m0.next m') (hb:∀b,p.any b→m.next≤b):Hp m0 m' (p::ps) where
 ext:=hext
 ok:=fun q hq=>by
  rcases List.mem_cons.1 hq with rfl|hq
  ·exact hp
  ·exact Pc.dZ (h.ok q hq) hn fun b hb' hlt=>hsame b hlt
 apart:=List.pairwise_cons.2 ⟨fun q hq=>⟨fun b h1 h2=>by
  have:=Pc.ea (h.ok q hq) h2;have:=hb b (Pc.ir h1);omega,fun b h1 h2=>by
  have:=Pc.ea (h.ok q hq) (Pc.ir h1);have:=hb b h2;omega⟩,h.apart⟩
theorem Hp.cons (h:Hp m0 m ps) {p:Pc} (hn:m.next≤m'.next) (hext:Ext m0 m') (hsame:∀b,b<m.next→m'.get b=m.get b) (hp:p.ok m0.next m') (hb:∀b,p.lu=some b→m.next≤b) (hng:∀b,¬p.rI b:=by exact fun _ h=>h):Hp m0 m' (p::ps) :=
 h.za hn hext hsame hp fun b hb'=>hb'.elim (hb b) fun h=>absurd h (hng b)
def U (ps:List Pc):List Nat→Option (List Pc)
 | []=>some []
 | k::ks=>match pk ps k with
  | some p=>match U ps ks with
   | some qs=>some (p::qs)
   | none=>none
  | none=>none
def ji:List Nat→Bool
 | []=>true
 | k::ks=>!(ks.any (Nat.beq k)) && ji ks
theorem jU:∀{ks:List Nat} {qs:List Pc},U ps ks=some qs→∀q ∈ qs,∃k ∈ ks,pk ps k=some q:=by
 intro ks
 induction ks with
 | nil=>intro qs h q hq; simp only[U,Option.some.injEq] at h; subst h; cases hq
 | cons k ks ih =>
  intro qs h q hq;simp only[U] at h
  split at h
  ·rename_i p hp
   split at h
   ·rename_i qs' hqs;simp only[Option.some.injEq] at h;subst h;rcases List.mem_cons.1 hq with rfl|hq
    ·exact⟨k,by simp,hp⟩
    ·obtain⟨k',h1,h2⟩:=ih hqs q hq;exact⟨k',by simp[h1],h2⟩
   ·cases h
  ·cases h
theorem dU:∀{ps:List Pc} {i j:Nat} {p q:Pc},ps.Pairwise Pc.apart→pk ps i=some p→pk ps j=some q→i≠j→Pc.apart p q:=by
 intro ps
 induction ps with
 | nil=>intro i j p q _ h; simp[pk] at h
 | cons r l ih =>
  intro i j p q h hi hj hne;rw[List.pairwise_cons] at h;cases i with
  | zero =>
   cases j with
   | zero=>exact absurd rfl hne
   | succ j =>
    rw[fC] at hi;rw[dh] at hj;rw[←Option.some.inj hi];exact h.1 q (fc hj)
  | succ i =>
   cases j with
   | zero =>
    rw[fC] at hj;rw[dh] at hi;rw[←Option.some.inj hj];exact Pc.gE (h.1 p (fc hi))
   | succ j=>rw[dh] at hi hj; exact ih h.2 hi hj (fun e=>hne (by rw[e]))
theorem fO:∀{ps:List Pc} {r:Pc},r ∈ ps→∃k,pk ps k=some r:=by
 intro ps
 induction ps with
 | nil=>intro r h; cases h
 | cons p l ih =>
  intro r h;rcases List.mem_cons.1 h with rfl|h
  ·exact⟨0,rfl⟩
  ·obtain⟨k,hk⟩:=ih h; exact⟨k+1,hk⟩
theorem Hp.rW (h:Hp m0 m ps) {k:Nat} {p q:Pc} (hp:pk ps k=some p) (hpo:∀b,¬p.ow b) (hq:q.ok m0.next m) (hqo:∀b,¬q.ow b) (hb:∀b,q.any b→p.any b):Hp m0 m (q::ps) where
 ext:=h.ext
 ok:=fun r hr=>by
  rcases List.mem_cons.1 hr with rfl|hr
  ·exact hq
  ·exact h.ok r hr
 apart:=List.pairwise_cons.2 ⟨fun r hr=>⟨fun b h1 _=>hqo b h1,fun b h1 h2=>by
  obtain⟨k',hk'⟩:=fO hr;have hne:k≠k':=fun e=>by
   rw[←e,hp] at hk';exact hpo b (by rw[Option.some.inj hk']; exact h1)
  exact(dU h.apart hp hk' hne).2 b h1 (hb b h2)⟩,h.apart⟩
theorem Hp.more (h:Hp m0 m ps) {k:Nat} {p q:Pc} (hp:pk ps k=some p) (hpo:p.own=false) (hq:q.ok m0.next m) (hqo:q.own=false) (hb:∀b,q.lu=some b→p.lu=some b) (hpg:∀b,¬p.zQ b:=by exact fun _ h=>h) (hqg:∀b,¬q.rI b:=by exact fun _ h=>h):Hp m0 m (q::ps) :=
 h.rW hp (fun b h=>h.elim (fun h=>by rw[hpo] at h; cases h.1) (hpg b)) hq (fun b h=>h.elim (fun h=>by rw[hqo] at h; cases h.1) fun h=>hqg b (by cases q with|gen g=>exact .inl h|_=>exact h)) fun b h=>h.elim (fun h=>.inl (hb b h)) fun h=>absurd h (hqg b)
theorem oA (h:ps.Pairwise Pc.apart):∀{ks:List Nat} {qs:List Pc},ji ks=true→U ps ks=some qs→qs.Pairwise Pc.apart:=by
 intro ks
 induction ks with
 | nil=>intro qs _ e; simp only[U,Option.some.injEq] at e; subst e; exact .nil
 | cons k ks ih =>
  intro qs hnd e;simp only[ji,Bool.and_eq_true,Bool.not_eq_true',List.any_eq_false] at hnd;simp only[U] at e
  split at e
  ·rename_i p hp
   split at e
   ·rename_i qs' hqs;simp only[Option.some.injEq] at e;subst e;refine List.pairwise_cons.2 ⟨fun q hq=>?_,ih hnd.2 hqs⟩;obtain⟨k',h1,h2⟩:=jU hqs q hq;exact dU h hp h2 fun e=>hnd.1 k' h1 (by rw[e]; exact Nat.beq_refl _)
   ·cases e
  ·cases e
theorem Hp.U (h:Hp m0 m ps) (ks:List Nat) {qs:List Pc} (hnd:ji ks=true) (e:W.U ps ks=some qs):Hp m0 m qs where
 ext:=h.ext
 ok:=fun q hq=>by
  obtain⟨k,_,hk⟩:=jU e q hq;exact h.ok q (fc hk)
 apart:=oA h.apart hnd e
theorem Pc.ud {lo lo':Nat} {m:AMem} {p:Pc} (h:p.ok lo m) (hle:lo'≤lo):p.ok lo' m:=by
 have up:∀{b w n es tg},qy lo m b w n es tg→qy lo' m b w n es tg:=fun ho=>⟨Nat.le_trans hle ho.1,ho.2⟩;cases p with
 | obj b o=>exact⟨Nat.le_trans hle h.1,h.2⟩
 | arr b w n es tg=>exact up h
 | sl a w n es =>
  rcases h with h1|⟨b,tg,e,h1⟩
  ·exact .inl h1
  ·exact .inr ⟨b,tg,e,up h1⟩
 | rd a cap w n es=>exact h
 | ro b o w n es=>exact h
 | gen g=>exact⟨h.1,fun hf b hb=>Nat.le_trans hle (h.2 hf b hb)⟩
theorem Hp.xm (h:Hp m0 m ps) {new:List Pc} (h':Hp m m' new) (hbd:∀p ∈ new,p.bound=true) (hro:∀p ∈ new,∀b,p.any b→m.next≤b∨(¬p.ow b∧∃q ∈ ps,(∀b,¬q.ow b)∧q.any b)):Hp m0 m' (new++ps) where
 ext:=h.ext.trans h'.ext
 ok:=fun q hq=>by
  rcases List.mem_append.1 hq with hq|hq
  ·exact Pc.ud (h'.ok q hq) h.ext.next
  ·exact Pc.dZ (h.ok q hq) h'.ext.next fun b _ hlt=>h'.ext.same b hlt
 apart:=List.pairwise_append.2 ⟨h'.apart,h.apart,fun p hp q hq=>⟨fun b h1 h2=>by
  have:=Pc.oi (h'.ok p hp) (hbd p hp) h1;have:=Pc.ea (h.ok q hq) h2;omega,fun b h1 h2=>by
  rcases hro p hp b h2 with h3|⟨_,r,hr,hr1,hr2⟩
  ·have:=Pc.ea (h.ok q hq) (Pc.ir h1);omega
  ·obtain⟨i,hi⟩:=fO hq;obtain⟨j,hj⟩:=fO hr;have hne:i≠j:=fun e=>by
    rw[e,hj] at hi;exact hr1 b (by rw[Option.some.inj hi]; exact h1)
   exact(dU h.apart hi hj hne).1 b h1 hr2⟩⟩
theorem Hp.after (h:Hp m0 m ps) {new:List Pc} (h':Hp m m' new) (hro:∀p ∈ new,p.own=true):Hp m0 m' (new++ps) :=
 h.xm h' (fun p hp=>by have:=hro p hp; cases p<;>first|rfl|cases this) fun p hp b hb=>.inl (Pc.sd (h'.ok p hp) (hro p hp) (Pc.nq (hro p hp) hb))
def rz (ps:List Pc) (b:Nat):Prop:=∃p ∈ ps,p.ow b
theorem Hp.dF (h:Hp m0 m ps):∀b,rz ps b→b<m.next:=fun _ ⟨p,hp,hb⟩=>Pc.ea (h.ok p hp) (Pc.ir hb)
def eV (H:Nat→Prop):GPc:={ ow:=H,rd:=fun _=>False,P:=fun m=>∀b,H b→b<m.next,fr:=true,st:=fun _ _ h hn _ b hb=>Nat.lt_of_lt_of_le (h b hb) hn,lt:=fun _ b h hb=>hb.elim (h b) fun h=>h.elim}
theorem Hp.tN (m:AMem) {H:Nat→Prop} (hH:∀b,H b→b<m.next):Hp m m [.gen (eV H)]:=⟨.refl m,fun p h=>by rw[List.mem_singleton.1 h]; exact⟨hH,fun h=>by cases h⟩,List.pairwise_singleton ..⟩
theorem Hp.tB (h:Hp m0 m ps) {new:List Pc} (h':Hp m m' (new++[.gen (eV (rz ps))])) (hbd:∀p ∈ new,p.bound=true):Hp m0 m' (new++ps) where
 ext:=h.ext.trans h'.ext
 ok:=fun q hq=>by
  rcases List.mem_append.1 hq with hq|hq
  ·exact Pc.ud (h'.ok q (List.mem_append_left _ hq)) h.ext.next
  ·exact Pc.dZ (h.ok q hq) h'.ext.next fun b _ hlt=>h'.ext.same b hlt
 apart:=List.pairwise_append.2 ⟨(List.pairwise_append.1 h'.apart).1,h.apart,fun p hp q hq=>⟨fun b h1 h2=>by
  have:=Pc.oi (h'.ok p (List.mem_append_left _ hp)) (hbd p hp) h1;have:=Pc.ea (h.ok q hq) h2;omega,fun b h1 h2=>((List.pairwise_append.1 h'.apart).2.2 p hp _ (List.mem_singleton.2 rfl)).2 b (.inr ⟨q,hq,h1⟩) h2⟩⟩
theorem Hp.di (h:Hp m0 m ps) {k cap w n:Nat} {a:Option Addr} {es:List (List Value)} (hp:pk ps k=some (.rd a cap w n es)):∀b,lA a=some b→¬rz ps b:=fun b hb ⟨q,hq,h1⟩=>by
 obtain⟨i,hi⟩:=fO hq;have hne:i≠k:=fun e=>by
  rw[e,hp] at hi;cases hi;exact h1.elim (fun h=>by cases h.1) fun h=>h.elim
 exact(dU h.apart hi hp hne).1 b h1 (.inl hb)
end
structure TyI (P:Program) (ty:TypeId) (ag:Bool) (sz:Nat):Prop where
 known:known P ty=true
 agg:cL P ty=ag
 size:aE P ty=sz
structure SlT (P:Program) (ty elem:TypeId) (w:Nat):Prop where
 und:P.underlying ty=some (.slice elem)
 known:known P elem=true
 size:aE P elem=w
 pos:0<w
 zero:(bq P elem).any (fun z=>z.cells.size == w && z.cells.toList.all aP)=true
 bytes:∃i,P.info? elem=some i∧i.bytes≠0∧i.bytes≤1024
structure ArT (P:Program) (ty elem:TypeId) (len w:Nat):Prop where
 und:P.underlying ty=some (.array len elem)
 known:known P elem=true
 size:aE P elem=w
def yv (P:Program) (ty elem:TypeId) (w:Nat):Bool :=
 (match P.underlying ty with|some (.slice e)=>Nat.beq e elem|_=>false) && known P elem && Nat.beq (aE P elem) w && Nat.blt 0 w && (bq P elem).any (fun z=>z.cells.size == w && z.cells.toList.all aP) && (match P.info? elem with|some i=>!(Nat.beq i.bytes 0) && Nat.ble i.bytes 1024|none=>false)
theorem SlT.of {P:Program} {ty elem:TypeId} {w:Nat} (h:yv P ty elem w=true):SlT P ty elem w:=by
 simp only[yv,Bool.and_eq_true] at h;obtain⟨⟨⟨⟨⟨h1,h2⟩,h3⟩,h4⟩,h5⟩,h6⟩:=h;refine⟨?_,h2,Nat.eq_of_beq_eq_true h3,by rwa[Nat.blt_eq] at h4,h5,?_⟩
 ·split at h1
  ·rename_i e he; rw[he,Nat.eq_of_beq_eq_true h1]
  ·cases h1
 ·split at h6
  ·rename_i i hi;simp only[Bool.and_eq_true,Bool.not_eq_true'] at h6;exact⟨i,hi,Nat.ne_of_beq_eq_false h6.1,Nat.le_of_ble_eq_true h6.2⟩
  ·cases h6
section
variable {E : Env} {n : Nat} {m0 : AMem} {fs : Fs} {ps : List Pc}
def Od (E:Env) (m0:AMem) (fs:Fs) (ps:List Pc) (o:Op) (v:Value) (ps':List Pc):Prop :=
 ∀t m,Fr t fs→Hp m0 m ps→(∀b,aS E t o=some b→b<m.next)∧∀K:Value→AMem→Prop,(∀m',Hp m0 m' ps'→K v m')→bw E t m o K
def Ox (E:Env) (m0:AMem) (fs:Fs) (ps:List Pc) (o:Op) {α:Type} (V:α→Value) (N:α→List Pc):Prop :=
 ∀t m,Fr t fs→Hp m0 m ps→(∀b,aS E t o=some b→b<m.next)∧∀K:Value→AMem→Prop,(∀x m',Hp m0 m' (N x)→K (V x) m')→bw E t m o K
theorem Od.pure {o:Op} {v:Value} (hr:∀t,aS E t o=none) (h:∀t m,Fr t fs→∀K,bw E t m o K=K v m):Od E m0 fs ps o v ps :=
 fun t m hf hp=>⟨fun b hb=>(by rw[hr] at hb; cases hb),fun K hK=>by rw[h t m hf]; exact hK m hp⟩
variable {x y z : Operand} {a b r v : Value} {ty ty' : TypeId}
theorem ab (h:ev E fs x=some v):Od E m0 fs ps (.move x) v ps:=.pure (fun _=>rfl) fun _ _ hf=>Go.Ab.xM (hf.ev h)
theorem ai (h:ev E fs x=some v):Od E m0 fs ps (.assign x) v ps:=.pure (fun _=>rfl) fun _ _ hf=>Go.Ab.so (hf.ev h)
theorem fK {c:Operand} (hc:ev E fs c=some (.bool true)) (h:ev E fs x=some v):Od E m0 fs ps (.pick c x y) v ps:=.pure (fun _=>rfl) fun _ _ hf=>Go.Ab.uI (hf.ev hc) (hf.ev h)
theorem aC {c:Operand} (hc:ev E fs c=some (.bool false)) (h:ev E fs y=some v):Od E m0 fs ps (.pick c x y) v ps:=.pure (fun _=>rfl) fun _ _ hf=>Go.Ab.vf (hf.ev hc) (hf.ev h)
theorem aq {op:BinOp} (h:ev E fs x=some a) (h':ev E fs y=some b) (hr:cB op ty E.P a b=some r):Od E m0 fs ps (.binOp op ty x y ty') r ps:=.pure (fun _=>rfl) fun _ _ hf=>Go.Ab.yJ (hf.ev h) (hf.ev h') hr
theorem ez {op:UnOp} (h:ev E fs x=some a) (hr:rO op a=some r):Od E m0 fs ps (.unOp op ty x) r ps:=.pure (fun _=>rfl) fun _ _ hf=>Go.Ab.ez (hf.ev h) hr
theorem au {f:Nat} (h:ev E fs x=some a) (hr:aM E.P ty a f=some r):Od E m0 fs ps (.fieldAddr ty x f) r ps:=.pure (fun _=>rfl) fun _ _ hf=>Go.Ab.nX (hf.ev h) hr
theorem uV (h:ev E fs x=some a) (h':ev E fs y=some b) (hr:bN E.P ty a b=some r):Od E m0 fs ps (.indexAddr ty x y) r ps:=.pure (fun _=>rfl) fun _ _ hf=>Go.Ab.oS (hf.ev h) (hf.ev h') hr
theorem cj {i:Nat} {vs:Array Value} (h:ev E fs x=some (.tuple vs)) (hr:vs[i]? = some r):Od E m0 fs ps (.extract x i) r ps:=.pure (fun _=>rfl) fun _ _ hf=>Go.Ab.q4 (hf.ev h) hr
theorem eU {f:FuncId} {xs ys:Array Operand} {vs ws:List Value} (h:fQ E fs xs.toList=some vs) (h':fQ E fs ys.toList=some ws):Od E m0 fs ps (.makeFunc (.func f) xs ys) (.func (.func f) vs.toArray ws.toArray) ps :=
 .pure (fun _=>rfl) fun _ _ hf K=>by rw[Go.Ab.nV,hf.fQ h,Go.Ab.de,hf.fQ h',Go.Ab.de]
theorem kj {bi:Builtin} {ars:Array Operand} {ts:Array TypeId} {vs:List Value} (h:fQ E fs ars.toList=some vs) (hn:(match bi with | .len | .cap=>false|_=>true)=true) (hr:∀m,bj E.P bi ts vs m=some (r,m)):Od E m0 fs ps (.call ⟨.builtin bi,ars,ts⟩) r ps :=
 .pure (fun _=>by cases bi<;>first|rfl|cases hn) fun _ _ hf K=>Go.Ab.dO (hf.fQ h) (hr _) K
theorem bo {parts:Array (Nat × Operand)} {vs:List (Nat × Value)} {z:Value} (h:ux E fs parts.toList=some vs) (hz:bq E.P ty=some z) (hpz:bC z=true) (hr:iw E.P ty vs=some r):Od E m0 fs ps (.build ty parts) r ps :=
 .pure (fun _=>rfl) fun t m hf K=>by
  have:dx E t m (.build ty parts)=some (r,m):=by simp only[dx,hf.ux h,hz,hpz,if_true,hr,Option.map_some]
  exact Go.Ab.rR rfl this K
def rj (ag:Bool) (sz:Nat) (cs:List Value) (o:Nat):Option Value :=
 match ag with
 | true=>match Nat.beq ((cs.drop o).take sz).length sz with
  | true=>some (.agg ((cs.drop o).take sz).toArray)
  | false=>none
 | false=>cs[o]?
theorem kn {P:Program} {m:AMem} {ag:Bool} {sz b o:Nat} {cs:List Value} {tg:Tag} (ht:TyI P ty ag sz) (hg:m.get b=some (.cells cs tg)) (h:rj ag sz cs o=some v):cT P ty (ptr b o) m=some v:=by
 cases ag with
 | false=>exact u6 ht.known ht.agg hg h
 | true =>
  simp only[rj] at h
  split at h
  ·rename_i e;cases h;exact uZ ht.known ht.agg ht.size hg rfl (Nat.eq_of_beq_eq_true e)
  ·cases h
def sY (ag:Bool) (sz c w:Nat):Bool:=(match ag with|true=>true|false=>Nat.beq sz 1) && Nat.ble (c+sz) w
theorem nz {ag:Bool} {sz c w:Nat} (h:sY ag sz c w=true):(ag=false→sz=1)∧c+sz≤w:=by
 simp only[sY,Bool.and_eq_true] at h;exact⟨fun e=>by subst e; exact Nat.eq_of_beq_eq_true h.1,Nat.le_of_ble_eq_true h.2⟩
theorem Od.load {b o:Nat} (hx:ev E fs x=some (ptr b o)) (h:∀m,Hp m0 m ps→b<m.next∧cT E.P ty (ptr b o) m=some v):Od E m0 fs ps (.load ty x) v ps :=
 fun t m hf hp=>⟨fun b' hb=>by
  simp only[aS,hf.ev hx] at hb;cases hb; exact(h m hp).1,fun K hK=>by
  rw[Go.Ab.uu (hf.ev hx) (h m hp).2]; exact hK m hp⟩
theorem aj {ag:Bool} {sz b o k:Nat} {cs:List Value} {tg:Tag} (ht:TyI E.P ty ag sz) (hx:ev E fs x=some (ptr b o)) (hp:pk ps k=some (.obj b (.cells cs tg))) (hv:rj ag sz cs o=some v):Od E m0 fs ps (.load ty x) v ps :=
 .load hx fun _ h=>⟨(h.get hp).2.1,kn ht (h.get hp).2.2 hv⟩
theorem u0 {ag:Bool} {sz o w c:Nat} {all e:List Value} (he:(all.drop o).take w=e) (hsz:ag=false→sz=1) (hc:c+sz≤w) (h:rj ag sz e c=some v):rj ag sz all (o+c)=some v:=by
 subst he;have key:((List.take w (List.drop o all)).drop c).take sz=(all.drop (o+c)).take sz:=by
  rw[List.drop_take,List.take_take,List.drop_drop,Nat.min_eq_left (by omega)]
 cases ag with
 | true=>simp only[rj,key] at h ⊢; exact h
 | false =>
  simp only[rj,List.getElem?_take,List.getElem?_drop] at h ⊢
  split at h
  ·exact h
  ·cases h
theorem jP {P:Program} {m:AMem} {ag:Bool} {sz b o w j c:Nat} {es:List (List Value)} {e:List Value} (ht:TyI P ty ag sz) (hl:mY m b o w es) (he:es[j]? = some e) (hv:rj ag sz e c=some v) (hsz:ag=false→sz=1) (hc:c+sz≤w):cT P ty (ptr b (o+j*w+c)) m=some v:=by
 obtain⟨_,all,tg,hg,_,h⟩:=hl;exact kn ht hg (u0 (h j e he).1 hsz hc hv)
theorem qJ {w:Nat}:∀{es:List (List Value)} {j:Nat} {e:List Value},(∀e ∈ es,e.length=w)→es[j]? = some e→(es.flatten.drop (j*w)).take w=e:=by
 intro es
 induction es with
 | nil=>intro j e _ h; simp at h
 | cons x es ih =>
  intro j e hw h;have hx:=hw x (by simp)
  cases j with
  | zero =>
   simp only[List.getElem?_cons_zero,Option.some.injEq] at h;subst h;rw[List.flatten_cons,Nat.zero_mul,List.drop_zero,List.take_left' hx]
  | succ j =>
   rw[List.getElem?_cons_succ] at h;rw[List.flatten_cons,Nat.succ_mul,Nat.add_comm,←List.drop_drop,List.drop_left' hx];exact ih (fun e he=>hw e (by simp[he])) h
theorem qy.y9 {lo:Nat} {m:AMem} {b w n:Nat} {es:List (List Value)} {tg:Tag} (h:qy lo m b w n es tg):mY m b 0 w es :=
 ⟨h.2.1,_,tg,h.2.2.1,fun sz e=>(by rcases h.2.2.2.2.2.1 with h1|h1<;>rw[h1] at e<;>cases e; rfl),fun i e he=>⟨by rw[Nat.zero_add]; exact qJ h.2.2.2.2.1 he,h.2.2.2.2.1 e (List.mem_of_getElem? he)⟩⟩
theorem ua {ag:Bool} {sz b w n j c k:Nat} {es:List (List Value)} {tg:Tag} {e:List Value} (ht:TyI E.P ty ag sz) (hx:ev E fs x=some (ptr b (j*w+c))) (hp:pk ps k=some (.arr b w n es tg)) (he:es[j]? = some e) (hv:rj ag sz e c=some v) (hs:sY ag sz c w=true):Od E m0 fs ps (.load ty x) v ps:=by
 have hs:=nz hs;refine .load hx fun m h=>⟨(h.get hp).2.1,?_⟩;have:=jP (P:=E.P) ht (qy.y9 (h.get hp)) he hv hs.1 hs.2;rwa[Nat.zero_add] at this
theorem bH {ag:Bool} {sz b o w n j c k:Nat} {es:List (List Value)} {e:List Value} (ht:TyI E.P ty ag sz) (hx:ev E fs x=some (ptr b (o+j*w+c))) (hp:pk ps k=some (.ro b o w n es)) (he:es[j]? = some e) (hv:rj ag sz e c=some v) (hs:sY ag sz c w=true):Od E m0 fs ps (.load ty x) v ps:=by
 have hs:=nz hs;exact .load hx fun m h=>⟨(h.get hp).2.1,jP (P:=E.P) ht (h.get hp).2 he hv hs.1 hs.2⟩
theorem aV {elem:TypeId} {b o w n cap:Nat} {i:Int} {kd:IntKind} (ht:SlT E.P ty elem w) (hx:ev E fs x=some (.slice (some ⟨b,o,none⟩) n cap)) (hy:ev E fs y=some (.int kd i)) (hi:0≤i∧i.toNat<n):Od E m0 fs ps (.indexAddr ty x y) (ptr b (o+i.toNat*w+0)) ps:=by
 refine uV hx hy ?_;have hd:decide ((0:Int)≤i∧i<(n:Nat))=true:=by simp; omega
 simp only[bN,ht.und,ht.known,hd,Bool.and_self,if_true,ht.size,Nat.add_zero]
theorem dY {elem:TypeId} {b w n cap:Nat} {i:Int} {kd:IntKind} (ht:SlT E.P ty elem w) (hx:ev E fs x=some (.slice (some ⟨b,0,none⟩) n cap)) (hy:ev E fs y=some (.int kd i)) (hi:0≤i∧i.toNat<n):Od E m0 fs ps (.indexAddr ty x y) (ptr b (i.toNat*w+0)) ps:=by
 have:=aV (m0:=m0) (ps:=ps) ht hx hy hi;rwa[Nat.zero_add] at this
theorem Hp.write {m:AMem} (h:Hp m0 m ps) {k b:Nat} {p p':Pc} {o':AObj} (hp:pk ps k=some p) (ho:p.own=true) (hb:p.lu=some b) (hb':p'.lu=some b) (ho':p'.own=true) (hok:p'.ok m0.next (m.set b o')):Hp m0 (m.set b o') (bM ps k p') :=
 h.put hp ho (hb'.trans hb.symm) ho' (Nat.le_refl _) (h.ext.set (Pc.sd (h.get hp) ho hb) _) hok fun x hx _=>by
  rw[AMem.bB,if_neg (fun e=>hx (by rw[e]; exact hb))]
def wF (cs:List Value) (o:Nat) (v:Value) (sz:Nat):Option (List Value) :=
 match Nat.beq v.cells.toList.length sz && Nat.blt 0 sz && bh v.cells.toList && Nat.ble (o+sz) cs.length with
 | true=>some (aT cs o v.cells.toList)
 | false=>none
theorem fj:∀(cs:List Value) (o:Nat) (vs:List Value),o+vs.length≤cs.length→(aT cs o vs).length=cs.length
 | cs,0,[],_=>by cases cs<;>rfl
 | [],0,v::vs,h=>by simp at h
 | c::cs,0,v::vs,h=>by simp only[aT,List.length_cons]; rw[fj cs 0 vs (by simpa using h)]
 | [],o+1,vs,h=>by simp at h
 | c::cs,o+1,vs,h=>by simp only[aT,List.length_cons]; rw[fj cs o vs (by simp at h; omega)]
theorem nM {P:Program} {m:AMem} {ag:Bool} {sz b o:Nat} {cs cs':List Value} {tg:Tag} (ht:TyI P ty ag sz) (hg:m.get b=some (.cells cs tg)) (htg:tg≠.ro) (h:wF cs o v sz=some cs'):eg P ty (ptr b o) v m=some (m.set b (.cells cs' tg)):=by
 simp only[wF] at h
 split at h
 ·rename_i e;cases h;simp only[Bool.and_eq_true] at e;obtain⟨⟨⟨h1,h2⟩,h3⟩,h4⟩:=e;have h1:=Nat.eq_of_beq_eq_true h1;have h2:0<sz:=by rwa[Nat.blt_eq] at h2
  have h4:=Nat.le_of_ble_eq_true h4;have hs:(v.cells.size == aE P ty)=true:=by rw[ht.size,←h1]; simp
  simp only[eg,ptr,ht.known,hs,h3,Bool.and_self,if_true,AMem.dn];cases hc:v.cells.toList with
  | nil=>rw[hc] at h1; simp at h1; omega
  | cons x xs =>
   rw[hc] at h1;simp only[hg];cases tg with
   | ro=>exact absurd rfl htg
   | own=>rw[if_pos (by rw[h1]; exact h4)]
   | more s=>rw[if_pos (by rw[h1]; exact h4)]
 ·cases h
theorem Od.store {bk o:Nat} {p':List Pc} (hx:ev E fs x=some (ptr bk o)) (hy:ev E fs y=some v) (h:∀m,Hp m0 m ps→∃m',eg E.P ty (ptr bk o) v m=some m'∧Hp m0 m' p'):Od E m0 fs ps (.store ty x y) undef p' :=
 fun t m hf hp=>⟨fun b hb=>by simp[aS] at hb,fun K hK=>by
  obtain⟨m',h1,h2⟩:=h m hp;rw[Go.Ab.uE (hf.ev hx) (hf.ev hy) h1]; exact hK m' h2⟩
def tq:Tag→Bool
 | .ro=>false
 | _=>true
theorem aF {ag:Bool} {sz b o k:Nat} {cs cs':List Value} {tg:Tag} (ht:TyI E.P ty ag sz) (hx:ev E fs x=some (ptr b o)) (hy:ev E fs y=some v) (hp:pk ps k=some (.obj b (.cells cs tg))) (htg:tq tg=true) (hv:wF cs o v sz=some cs'):Od E m0 fs ps (.store ty x y) undef (bM ps k (.obj b (.cells cs' tg))) :=
 .store hx hy fun m h=>⟨_,nM ht (h.get hp).2.2 (fun e=>by rw[e] at htg; cases htg) hv,h.write hp rfl rfl rfl rfl ⟨(h.get hp).1,(h.get hp).2.1,by rw[AMem.bB,if_pos rfl]⟩⟩
theorem p9:∀(l r vs:List Value) (c:Nat),c+vs.length≤l.length→aT (l++r) c vs=aT l c vs++r:=by
 intro l r
 induction l with
 | nil =>
  intro vs c h;have h0:c+vs.length≤0:=h;have h1:c=0:=by omega
  have h2:vs = []:=List.length_eq_zero_iff.1 (by omega)
  subst h1 h2;cases r<;>rfl
 | cons a l ihl =>
  intro vs c h;cases c with
  | zero=>cases vs with
   | nil=>rfl
   | cons v vs=>simp only[List.cons_append,aT]; rw[ihl vs 0 (by simpa using h)]
  | succ c=>simp only[List.cons_append,aT]; rw[ihl vs c (by simp at h; omega)]
theorem j5:∀(l r vs:List Value) (o:Nat),aT (l++r) (l.length+o) vs=l++aT r o vs:=by
 intro l r vs
 induction l with
 | nil=>intro o; simp
 | cons a l ihl=>intro o; rw[List.cons_append,List.length_cons,show l.length+1+o=(l.length+o)+1 by omega,aT,ihl o]; rfl
theorem oJ {w c:Nat} {vs:List Value}:∀{es:List (List Value)} {j:Nat} {e:List Value},(∀e ∈ es,e.length=w)→es[j]? = some e→c+vs.length≤w→aT es.flatten (j*w+c) vs=(es.set j (aT e c vs)).flatten:=by
 intro es
 induction es with
 | nil=>intro j e _ h; simp at h
 | cons x es ih =>
  intro j e hw h hc;have hx:=hw x (by simp)
  cases j with
  | zero =>
   simp only[List.getElem?_cons_zero,Option.some.injEq] at h;subst h;rw[List.flatten_cons,Nat.zero_mul,Nat.zero_add,p9 _ _ _ _ (by omega)]
   simp[List.flatten_cons]
  | succ j =>
   rw[List.getElem?_cons_succ] at h;rw[List.flatten_cons,Nat.succ_mul,show j*w+w+c=x.length+(j*w+c) by omega,j5,ih (fun e he=>hw e (by simp[he])) h hc]
   simp[List.flatten_cons]
theorem fE {ag:Bool} {sz b w n j c k:Nat} {es:List (List Value)} {e e':List Value} {tg:Tag} (ht:TyI E.P ty ag sz) (hx:ev E fs x=some (ptr b (j*w+c))) (hy:ev E fs y=some v) (hp:pk ps k=some (.arr b w n es tg)) (he:es[j]? = some e) (hv:wF e c v sz=some e'):Od E m0 fs ps (.store ty x y) undef (bM ps k (.arr b w n (es.set j e') tg)):=by
 refine .store hx hy fun m h=>?_;obtain⟨g1,g2,g3,g4,g5,g6,g7⟩:=h.get hp;have hew:=g5 e (List.mem_of_getElem? he);simp only[wF] at hv
 split at hv
 ·rename_i e1;cases hv;simp only[Bool.and_eq_true] at e1;obtain⟨⟨⟨h1,h2⟩,h3⟩,h4⟩:=e1;have h1:=Nat.eq_of_beq_eq_true h1;have h2':0<sz:=by rwa[Nat.blt_eq] at h2
  have h4:=Nat.le_of_ble_eq_true h4;have hj:j<es.length:=(List.getElem?_eq_some_iff.1 he).1;have hfl:∀(l:List (List Value)),(∀e ∈ l,e.length=w)→l.flatten.length=l.length*w:=by
   intro l
   induction l with
   | nil=>intro _; simp
   | cons x l ih=>intro hl; rw[List.flatten_cons,List.length_append,ih (fun e he=>hl e (by simp[he])),hl x (by simp),List.length_cons,Nat.succ_mul]; omega
  have hmul:(j+1)*w≤es.length*w:=Nat.mul_le_mul_right w hj;rw[Nat.succ_mul] at hmul;have hst:wF es.flatten (j*w+c) v sz=some (aT es.flatten (j*w+c) v.cells.toList):=by
   have:(Nat.beq v.cells.toList.length sz && Nat.blt 0 sz && bh v.cells.toList && Nat.ble (j*w+c+sz) es.flatten.length)=true:=by
    simp only[Bool.and_eq_true];exact⟨⟨⟨by rw[h1]; exact Nat.beq_refl _,h2⟩,h3⟩,Nat.ble_eq_true_of_le (by rw[hfl es g5]; omega)⟩
   simp only[wF,this]
  refine⟨_,nM ht g3 (by rcases g6 with rfl|rfl<;>simp) hst,h.write hp rfl rfl rfl rfl ?_⟩
  refine⟨g1,g2,?_,by simpa using g4,fun e'' he''=>?_,g6,g7⟩
  ·rw[AMem.bB,if_pos rfl,oJ g5 he (by omega)]
  ·rcases List.mem_or_eq_of_mem_set he'' with h5|h5
   ·exact g5 _ h5
   ·rw[h5,fj _ _ _ (by omega)]; exact hew
 ·cases hv
theorem Ox.made {o:Op} {ob:Nat→AObj} {p:Nat→Pc} {V:Nat→Value} (hr:∀t,aS E t o=none) (h:∀t m,Fr t fs→∀K,bw E t m o K=K (V m.next) (m.alloc (ob m.next)))
  (hb:∀b,(p b).lu=some b) (hp:∀lo m b,lo≤b→b<m.next→m.get b=some (ob b)→(p b).ok lo m) (hpg:∀b x,¬(p b).rI x:=by exact fun _ _ h=>h):Ox E m0 fs ps o V (fun b=>p b::ps) :=
 fun t m hf hm=>⟨fun b hb=>(by rw[hr] at hb; cases hb),fun K hK=>by
  rw[h t m hf];refine hK m.next _ (hm.cons (Nat.le_succ _) (hm.ext.alloc _) (fun b hlt=>by rw[AMem.aY,if_neg (by omega)]) (hp _ _ _ hm.ext.next (Nat.lt_succ_self _) (by rw[AMem.aY,if_pos rfl])) (fun b' h'=>?_) (hpg _))
  rw[hb] at h'; cases h'; exact Nat.le_refl _⟩
theorem aQ {z:Value} (hz:bq E.P ty=some z) (hp:bC z=true):Ox E m0 fs ps (.alloc ty) (fun b=>ptr b 0) (fun b=>.obj b (.cells z.cells.toList .own)::ps) :=
 .made (ob:=fun _=>.cells z.cells.toList .own) (p:=fun b=>.obj b (.cells z.cells.toList .own)) (fun _=>rfl) (fun _ _ _ K=>Go.Ab.uz hz hp K) (fun _=>rfl) fun _ _ _ h1 h2 h3=>⟨h1,h2,h3⟩
theorem bR (h:ev E fs x=some v):Ox E m0 fs ps (.box ty x) (fun b=>ptr b 0) (fun b=>.obj b (.cells v.cells.toList .own)::ps) :=
 .made (ob:=fun _=>.cells v.cells.toList .own) (p:=fun b=>.obj b (.cells v.cells.toList .own)) (fun _=>rfl) (fun _ _ hf K=>Go.Ab.yI (hf.ev h) K) (fun _=>rfl) fun _ _ _ h1 h2 h3=>⟨h1,h2,h3⟩
theorem uq:Ox E m0 fs ps (.makeMap ty none) (fun b=>.map (some b)) (fun b=>.obj b (.map [])::ps) :=
 .made (ob:=fun _=>.map []) (p:=fun b=>.obj b (.map [])) (fun _=>rfl) (fun _ _ _ _=>Go.Ab.pL) (fun _=>rfl) fun _ _ _ h1 h2 h3=>⟨h1,h2,h3⟩
def zn (P:Program) (elem:TypeId) (w len:Nat) (vs:List (Nat × Value)):Option (List Value) :=
 match dW P elem len with
 | some zs=>match zs.all aP && Nat.ble (len*w) 16777216 with
  | true=>fw (fun i=>some (i*w,w)) zs vs
  | false=>none
 | none=>none
def zb (w:Nat) (es:List (List Value)):Bool:=es.all fun e=>Nat.beq e.length w
theorem u7 {w:Nat} {es:List (List Value)} (h:zb w es=true):∀e ∈ es,e.length=w:=fun e he=>Nat.eq_of_beq_eq_true (List.all_eq_true.1 h e he)
theorem aN {elem:TypeId} {w len:Nat} {parts:Array (Nat × Operand)} {vs:List (Nat × Value)} {es:List (List Value)} (ht:SlT E.P ty elem w) (h:ux E fs parts.toList=some vs) (hf:zn E.P elem w len vs=some es.flatten) (hl:Nat.beq es.length len=true) (hw:zb w es=true) :
  Ox E m0 fs ps (.buildSlice ty len parts) (fun b=>.slice (some ⟨b,0,none⟩) len len) (fun b=>.arr b w len es .own::ps):=by
 refine .made (ob:=fun _=>.cells es.flatten .own) (p:=fun b=>.arr b w len es .own) (fun _=>rfl) (fun t m hfr K=>?_) (fun _=>rfl) fun _ _ _ h1 h2 h3=>⟨h1,h2,h3,Nat.eq_of_beq_eq_true hl,u7 hw,.inl rfl,ht.pos⟩;simp only[zn] at hf
 split at hf
 ·rename_i zs hz
  split at hf
  ·rename_i hc;simp only[Bool.and_eq_true] at hc;have:dx E t m (.buildSlice ty len parts)=some (.slice (some ⟨m.next,0,none⟩) len len,m.alloc (.cells es.flatten .own)):=by
    have h2:¬(len*w>2 ^ 24):=by have:=Nat.le_of_ble_eq_true hc.2; omega
    simp only[dx,ht.und,hfr.ux h,ht.known,ht.size,hz,hc.1,hf,Bool.not_true,Bool.false_or,decide_eq_false h2,if_true,Option.map_some]
    rfl
   exact Go.Ab.rR rfl this K
  ·cases hf
 ·cases hf
def lim (n:Nat):Bool:=Nat.ble n 1073741824
theorem gT {z:List Value}:∀n,bS z n=(List.replicate n z).flatten
 | 0=>rfl
 | n+1=>by rw[bS,gT n,List.replicate_succ,List.flatten_cons]
theorem yD {elem:TypeId} {w n:Nat} {i:Int} {z:Value} (ht:SlT E.P ty elem w) (hx:ev E fs x=some (.int .i64 i)) (hi:i=(n:Int)) (hl:lim n=true) (hz:bq E.P elem=some z) (hp:z.cells.toList.all aP=true) :
  Ox E m0 fs ps (.makeSlice ty x x) (fun b=>.slice (some ⟨b,0,none⟩) n n) (fun b=>.arr b w n (List.replicate n z.cells.toList) .own::ps):=by
 subst hi;have hzs:z.cells.size=w:=by have:=ht.zero; rw[hz] at this; simp only[Option.any_some,Bool.and_eq_true,beq_iff_eq] at this; exact this.1
 refine .made (ob:=fun _=>.cells (List.replicate n z.cells.toList).flatten .own) (p:=fun b=>.arr b w n (List.replicate n z.cells.toList) .own) (fun _=>rfl) (fun t m hfr K=>?_) (fun _=>rfl) fun _ _ _ h1 h2 h3=>⟨h1,h2,h3,by simp,fun e he=>by rw[List.eq_of_mem_replicate he]; simpa using hzs,.inl rfl,ht.pos⟩
 have hln:n≤1073741824:=Nat.le_of_ble_eq_true hl;obtain⟨inf,hi1,hi2,hi3⟩:=ht.bytes;have hzz:dW E.P elem n=some (List.replicate n z.cells.toList).flatten:=by
  simp only[dW,hz,ht.size];rw[if_pos hzs,gT]
 have ha:(List.replicate n z.cells.toList).flatten.all aP=true:=by
  rw[List.all_eq_true];intro v hv;obtain⟨l,h1,h2⟩:=List.mem_flatten.1 hv;rw[List.eq_of_mem_replicate h1] at h2;exact List.all_eq_true.1 hp v h2
 have hmul:inf.bytes*n≤1024*1073741824:=Nat.mul_le_mul hi3 hln;have:dx E t m (.makeSlice ty x x)=some (.slice (some ⟨m.next,0,none⟩) n n,m.alloc (.cells (List.replicate n z.cells.toList).flatten .own)):=by
  have hc:(0:Int)≤(n:Int)∧(n:Int)≤(n:Int)∧(E.P.info? elem).any (fun i=>i.bytes*(n:Int)≤2 ^ 40 && i.bytes != 0)=true∧known E.P elem=true:=by
   refine⟨by omega,by omega,?_,ht.known⟩
   rw[hi1];have h5:((inf.bytes*n:Nat):Int)≤(1024*1073741824:Nat):=Int.ofNat_le.2 hmul;have h6:((inf.bytes*n:Nat):Int)=(inf.bytes:Int)*(n:Int):=Int.natCast_mul _ _;simp only[Option.any_some,Bool.and_eq_true,decide_eq_true_eq,bne_iff_ne,ne_eq];exact⟨by rw[←h6]; omega,hi2⟩
  simp only[dx,ht.und,hfr.ev hx,Int.toNat_natCast,hzz];rw[if_pos hc,if_pos ha]
 exact Go.Ab.rR rfl this K
end
end Go.Ab.W
end

section
namespace Go.Ab.W
open Go Go.Ab
attribute [local irreducible] Tm.at Trie.set Trie.get AMem.get AMem.set AMem.alloc AMem.ww AMem.kill
section
variable {E : Env} {n : Nat} {m0 m m' : AMem} {fs : Fs} {ps : List Pc} {x y : Operand} {v : Value} {ty : TypeId}
theorem qy.rd {lo b w n:Nat} {es:List (List Value)} {tg:Tag} (h:qy lo m b w n es tg):Rd m (some ⟨b,0,none⟩) n w n es :=
 ⟨h.2.2.2.1,Nat.le_refl _,.inr (.inr ⟨b,0,rfl,h.y9⟩)⟩
inductive IsRd:Pc→Option Addr→Nat→Nat→Nat→List (List Value)→Prop
 | arr (b w n:Nat) (es:List (List Value)) (tg:Tag):IsRd (.arr b w n es tg) (some ⟨b,0,none⟩) n w n es
 | sl (a:Option Addr) (w n:Nat) (es:List (List Value)):IsRd (.sl a w n es) a n w n es
 | rd (a:Option Addr) (cap w n:Nat) (es:List (List Value)):IsRd (.rd a cap w n es) a cap w n es
 | nil {p:Pc} (w:Nat):IsRd p none 0 w 0 []
theorem Pc.yR {p:Pc} {a:Option Addr} {lo cap w n:Nat} {es:List (List Value)} (h:p.ok lo m) (hi:IsRd p a cap w n es):Rd m a cap w n es:=by
 cases hi with
 | arr b w n es tg=>exact qy.rd h
 | sl a w n es =>
  rcases h with⟨rfl,rfl,rfl,_⟩|⟨b,tg,rfl,h⟩
  ·exact⟨rfl,Nat.le_refl _,.inl ⟨rfl,rfl⟩⟩
  ·exact h.rd
 | rd a cap w n es=>exact h
 | nil w=>exact⟨rfl,Nat.le_refl _,.inl ⟨rfl,rfl⟩⟩
theorem Hp.rd (h:Hp m0 m ps) {k:Nat} {p:Pc} {a:Option Addr} {cap w n:Nat} {es:List (List Value)} (hp:pk ps k=some p) (hi:IsRd p a cap w n es):Rd m a cap w n es:=Pc.yR (h.get hp) hi
theorem Rd.nil (m:AMem) (w:Nat):Rd m none 0 w 0 []:=⟨rfl,Nat.le_refl _,.inl ⟨rfl,rfl⟩⟩
theorem Rd.cells {a:Option Addr} {cap w n:Nat} {es:List (List Value)} (h:Rd m a cap w n es):dA w (.slice a n cap) n m=some es.flatten:=by
 obtain⟨h1,h2,h4⟩:=h
 by_cases hn:n=0
 ·subst hn;have:es = []:=List.length_eq_zero_iff.1 h1;subst this;cases a with
  | none=>rfl
  | some a=>obtain⟨b,o,sp⟩:=a; cases sp<;>rfl
 ·rcases h4 with h4|⟨b,sp,rfl,h4,_⟩|⟨b,o,rfl,_,all,tg,hg,_,hl⟩
  ·exact absurd h4.2 hn
  ·exact absurd h4 hn
  ·simp only[dA,if_neg hn,AMem.dg,hg];have key:∀(es:List (List Value)) (k:Nat),(∀i e,es[i]? = some e→(all.drop (o+(k+i)*w)).take w=e∧e.length=w)→(all.drop (o+k*w)).take (es.length*w)=es.flatten∧es.flatten.length=es.length*w:=by
    intro es
    induction es with
    | nil=>intro k _; simp
    | cons e es ih =>
     intro k hk;obtain⟨a1,a2⟩:=hk 0 e rfl;obtain⟨b1,b2⟩:=ih (k+1) fun i e' he'=>by
      have:=hk (i+1) e' (by simpa using he')
      rwa[show k+(i+1)=k+1+i by omega] at this
     rw[Nat.add_zero] at a1;refine⟨?_,by rw[List.flatten_cons,List.length_append,a2,b2,List.length_cons,Nat.succ_mul]; omega⟩
     rw[List.length_cons,Nat.succ_mul,Nat.add_comm,List.take_add,a1,List.drop_drop,List.flatten_cons,←b1,Nat.succ_mul,Nat.add_assoc]
   have:=key es 0 (fun i e he=>by rw[Nat.zero_add]; exact hl i e he)
   rw[Nat.zero_mul,Nat.add_zero,h1] at this;rw[this.1,if_pos this.2]
theorem Hp.renew (h:Hp m0 m ps) {k:Nat} {p p':Pc} (hp:pk ps k=some p) (hn:m.next≤m'.next) (hext:Ext m0 m') (hok:p'.ok m0.next m') (hb:∀b,p'.lu=some b→m.next≤b) (hpo:p.own=true) (hg:∀b,p.lu≠some b→b<m.next→m'.get b=m.get b) (hng:∀b,¬p'.rI b:=by exact fun _ h=>h):Hp m0 m' (bM ps k p') :=
 h.sW hp (fun b a=>.inr ((Pc.ir a).elim (hb b) fun h=>absurd h (hng b))) (fun b a=>.inr (a.elim (hb b) fun h=>absurd h (hng b))) hn hext hok fun b hb' hlt=>hg b (fun e=>hb' (.inl ⟨hpo,e⟩)) hlt
def dG (es:List (List Value)):Prop:=∀e ∈ es,e.all gQ=true
theorem pK {α:Type} {f:α→List Value} (h:∀x,(f x).all gQ=true) (xs:List α):dG (xs.map f):=fun e he=>by
 obtain⟨x,_,rfl⟩:=List.mem_map.1 he; exact h x
theorem ig {es:List (List Value)} (h:dG es):bh es.flatten=true:=by
 unfold bh;rw[List.all_eq_true];intro v hv;obtain⟨l,h1,h2⟩:=List.mem_flatten.1 hv;exact List.all_eq_true.1 (h l h1) v h2
theorem cd {w:Nat}:∀{l:List (List Value)},(∀e ∈ l,e.length=w)→l.flatten.length=l.length*w:=by
 intro l
 induction l with
 | nil=>intro _; simp
 | cons x l ih=>intro hl; rw[List.flatten_cons,List.length_append,ih (fun e he=>hl e (by simp[he])),hl x (by simp),List.length_cons,Nat.succ_mul]; omega
theorem lP {P:Program} {elem ty2:TypeId} {w k n0 c0:Nat} {a a0:Option Addr} {es es2:List (List Value)} (ht:SlT P ty elem w) (h2:∃e0,P.underlying ty2=some (.slice e0)) (h:Hp m0 m ps) (hp:pk ps k=some (.sl a w n es)) (hr:Rd m a0 c0 w n0 es2) (h1:∀e ∈ es2,e.length=w) (ho:dG es2) (hl:lim (n+n0)=true) :
  ∃a' m',cq P ty (some ty2) (.slice a n n) (.slice a0 n0 c0) m=some (.slice a' (n+n0) (n+n0),m')∧Hp m0 m' (bM ps k (.sl a' w (n+n0) (es++es2))):=by
 obtain⟨e0,h3⟩:=h2;obtain⟨inf,h4,h5,h6⟩:=ht.bytes;have hln:n+n0≤1073741824:=Nat.le_of_ble_eq_true hl;have hc:=hr.cells;have hlen2:es2.flatten.length=n0*w:=by rw[cd h1,hr.1]
 have hnew:dX P elem (some ty2) (.slice a0 n0 c0) m=some (n0,es2.flatten):=by
  simp only[dX,Option.bind_some,h3,ht.size];have:dA w (.slice a0 n0 c0) n0 m=some es2.flatten:=hc;rw[this]; rfl
 have hfit:(P.info? elem).any (fun i=>dw i.bytes (n+n0) && i.bytes != 0)=true:=by
  rw[h4];have hmul:(2*(n+n0)+2000)*inf.bytes≤(2*1073741824+2000)*1024:=Nat.mul_le_mul (by omega) h6
  simp only[Option.any_some,dw,Bool.and_eq_true,decide_eq_true_eq,bne_iff_ne,ne_eq];exact⟨by omega,h5⟩
 have hzero:(bq P elem).any (fun z=>z.cells.size == w && z.cells.toList.all aP)=true:=ht.zero;have hpos:=ht.pos;have h7:(w == 0)=false:=by simp; omega
 have hguard:(!(known P elem) || aE P elem == 0 || !bh es2.flatten || !(P.info? elem).any (fun i=>dw i.bytes (n+n0) && i.bytes != 0) || es2.flatten.length != n0*aE P elem || !(bq P elem).any (fun z=>z.cells.size == aE P elem && z.cells.toList.all aP))=false:=by
  rw[ht.size,ht.known,hfit,hzero,ig ho,h7,hlen2]; simp
 have hres:∀a',(∃m',(.slice a' (n+n0) (n+n0),m')=((.slice a' (n+n0) (n+n0),m'):Value × AMem)):=fun a'=>⟨m,rfl⟩;have hpc:=h.get hp;have hext:=h.ext;rcases hpc with⟨rfl,rfl,rfl,_⟩|⟨b,tg,rfl,hb⟩
 ·
  by_cases h0:n0=0
  ·subst h0;have hes:es2 = []:=List.length_eq_zero_iff.1 hr.1;subst hes;refine⟨none,m,?_,?_⟩
   ·unfold cq;simp only[ht.und,hnew];rw[if_neg (by rw[hguard]; exact Bool.false_ne_true)]
    rfl
   ·have:bM ps k (.sl none w (0+0) ([]++[]))=ps:=by
     have:∀(l:List Pc) (k:Nat) (p:Pc),pk l k=some p→bM l k p=l:=by
      intro l
      induction l with
      | nil=>intro k p h; simp[pk] at h
      | cons q l ih =>
       intro k p h;cases k with
       | zero=>rw[fC] at h; rw[eY,Option.some.inj h]
       | succ k=>rw[dh] at h; rw[cQ,ih k p h]
     exact this ps k _ hp
    rw[this]; exact h
  ·refine⟨some ⟨m.next,0,none⟩,m.alloc (.cells es2.flatten (.more w)),?_,?_⟩
   ·unfold cq;simp only[ht.und,hnew];rw[if_neg (by rw[hguard]; exact Bool.false_ne_true)]
    simp only[ht.size];rw[if_neg (by simp),if_neg h0,Nat.zero_add]
   ·refine h.renew hp (by simp only[AMem.next_alloc]; omega) (hext.alloc _) (.inr ⟨m.next,.more w,rfl,hext.next,(by rw[AMem.next_alloc]; omega),?_,?_,?_,.inr rfl,hpos⟩) (fun b' hb'=>?_) rfl fun b' _ hlt=>?_
    ·rw[AMem.aY,if_pos rfl,List.nil_append]
    ·rw[List.nil_append,hr.1,Nat.zero_add]
    ·rw[List.nil_append]; exact h1
    ·cases hb'; exact Nat.le_refl _
    ·rw[AMem.aY,if_neg (by omega)]
 ·obtain⟨g4,g5,g0,g1,g2,g3,g6⟩:=hb;have hlen:es.flatten.length=n*w:=by rw[cd g2,g1]
  by_cases h0:n0=0
  ·subst h0;have hes:es2 = []:=List.length_eq_zero_iff.1 hr.1;subst hes;refine⟨some ⟨b,0,none⟩,m,?_,?_⟩
   ·unfold cq;simp only[ht.und,hnew];rw[if_neg (by rw[hguard]; exact Bool.false_ne_true)]
    simp only[g0];rw[if_pos (Nat.le_of_eq (Nat.add_zero n))];simp[AMem.dn]
   ·rw[List.append_nil,Nat.add_zero];have:bM ps k (.sl (some ⟨b,0,none⟩) w n es)=ps:=by
     have:∀(l:List Pc) (k:Nat) (p:Pc),pk l k=some p→bM l k p=l:=by
      intro l
      induction l with
      | nil=>intro k p h; simp[pk] at h
      | cons q l ih =>
       intro k p h;cases k with
       | zero=>rw[fC] at h; rw[eY,Option.some.inj h]
       | succ k=>rw[dh] at h; rw[cQ,ih k p h]
     exact this ps k _ hp
    rw[this]; exact h
  ·have hcap:¬(n+n0≤n):=by omega
   have htake:es.flatten.take (n*w)=es.flatten:=List.take_of_length_le (by omega)
   have hok:∀(mm:AMem),m.next≤mm.next→Pc.ok m0.next (mm.alloc (.cells (es.flatten++es2.flatten) (.more w))) (.sl (some ⟨mm.next,0,none⟩) w (n+n0) (es++es2)):=fun mm hmm =>
    .inr ⟨mm.next,.more w,rfl,Nat.le_trans hext.next hmm,(by rw[AMem.next_alloc]; omega),by rw[AMem.aY,if_pos rfl,List.flatten_append],by rw[List.length_append,g1,hr.1],fun e he=>by
     rcases List.mem_append.1 he with he|he
     ·exact g2 e he
     ·exact h1 e he,.inr rfl,hpos⟩
   rcases g3 with rfl|rfl
   ·refine⟨some ⟨m.next,0,none⟩,m.alloc (.cells (es.flatten++es2.flatten) (.more w)),?_,?_⟩
    ·unfold cq;simp only[ht.und,hnew];rw[if_neg (by rw[hguard]; exact Bool.false_ne_true)]
     simp only[ht.size,g0];rw[if_neg hcap];have hld:m.dg b 0 (n*w)=some es.flatten:=by
      simp only[AMem.dg,g0,List.drop_zero,htake];rw[if_pos hlen]
     simp only[hld]
    ·refine h.renew hp (by simp only[AMem.next_alloc]; omega) (hext.alloc _) (hok m (Nat.le_refl _)) (fun b' hb'=>?_) rfl fun b' _ hlt=>?_
     ·cases hb'; exact Nat.le_refl _
     ·rw[AMem.aY,if_neg (by omega)]
   ·refine⟨some ⟨(m.kill b).next,0,none⟩,(m.kill b).alloc (.cells (es.flatten++es2.flatten) (.more w)),?_,?_⟩
    ·unfold cq;simp only[ht.und,hnew];rw[if_neg (by rw[hguard]; exact Bool.false_ne_true)]
     simp only[ht.size,g0];rw[if_neg hcap];simp only[and_self,if_true,htake,hlen,AMem.next_kill]
    ·have hk:Ext m0 (m.kill b):=⟨by rw[AMem.next_kill]; exact hext.next,fun x hx=>by rw[AMem.dt,if_neg (by omega)]; exact hext.same x hx,by
      rw[AMem.wl_kill];have:=hext.wl; omega⟩
     refine h.renew hp (by simp only[AMem.next_alloc,AMem.next_kill]; omega) (hk.alloc _) (hok (m.kill b) (by rw[AMem.next_kill]; exact Nat.le_refl _)) (fun b' hb'=>?_) rfl fun b' hb' hlt=>?_
     ·cases hb'; rw[AMem.next_kill]; exact Nat.le_refl _
     ·rw[AMem.aY,if_neg (by simp; omega),AMem.dt,if_neg (fun e=>hb' (by rw[e]; rfl))]
theorem y6 {elem ty2:TypeId} {w k k2 n0 c0:Nat} {a a0:Option Addr} {es es2:List (List Value)} {ars:Array Operand} {p0:Pc} (ht:SlT E.P ty elem w) (h0:∃e0,E.P.underlying ty2=some (.slice e0)) (ha:fQ E fs ars.toList=some [.slice a n n,.slice a0 n0 c0]) (hp:pk ps k=some (.sl a w n es)) (h1:pk ps k2=some p0) (hr:IsRd p0 a0 c0 w n0 es2) (h2:∀e ∈ es2,e.length=w) (ho:dG es2) (hl:lim (n+n0)=true) :
  Ox E m0 fs ps (.call ⟨.builtin .append,ars,#[ty,ty2]⟩) (fun a':Option Addr=>.slice a' (n+n0) (n+n0)) (fun a'=>bM ps k (.sl a' w (n+n0) (es++es2))) :=
 fun t m hf h=>⟨fun b hb=>(by simp[aS] at hb),fun K hK=>by
  obtain⟨a',m',h3,h4⟩:=lP (n:=n) ht h0 h hp (h.rd h1 hr) h2 ho hl;have:bj E.P .append #[ty,ty2] [.slice a n n,.slice a0 n0 c0] m=some (.slice a' (n+n0) (n+n0),m'):=h3;rw[Go.Ab.dO (hf.fQ ha) this];exact hK a' m' h4⟩
theorem bG {k cap:Nat} {a:Option Addr} {ars:Array Operand} {p:Pc} {elem:TypeId} (hu:E.P.underlying ty=some (.slice elem)) (ha:fQ E fs ars.toList=some [.slice a n cap]) (hp:pk ps k=some p) (hb:lA a=p.lu∨a=none) :
  Od E m0 fs ps (.call ⟨.builtin .len,ars,#[ty]⟩) (.int .i64 (n:Int)) ps :=
 fun t m hf h=>⟨fun b hb'=>by
  simp only[aS,hf.fQ ha] at hb';have hab:dD (.slice a n cap)=lA a:=by cases a<;>rfl
  rw[hab] at hb';exact hb.elim (fun hb=>Pc.xr (h.get hp) (hb ▸ hb')) (fun hb=>by rw[hb] at hb'; exact nomatch hb'),fun K hK=>by
  have:bj E.P .len #[ty] [.slice a n cap] m=some (.int .i64 (n:Int),m):=by
   have ht:(#[ty]:Array TypeId)[0]? = some ty:=rfl;simp only[bj,ht,Option.bind_some,hu]
  rw[Go.Ab.dO (hf.fQ ha) this]; exact hK m h⟩
theorem lZ {n cap lo hi:Nat} (h1:lo≤hi) (h2:hi≤cap) {l h:Option Value} (hl:l=none∧lo=0∨∃k,l=some (.int k (lo:Int))) (hh:h=none∧hi=n∨∃k,h=some (.int k (hi:Int))):dc n cap l h none=some (lo,hi,cap):=by
 have hb:∀(k:IntKind) (x y:Nat),x≤y→gb (.int k (x:Int)) y=some x:=fun k x y hxy=>by
  simp only[gb]; rw[if_pos ⟨by omega,by omega⟩,Int.toNat_natCast]
 rcases hl with⟨rfl,rfl⟩|⟨k1,rfl⟩<;>rcases hh with⟨rfl,rfl⟩|⟨k2,rfl⟩<;>(unfold dc; simp only[hb _ _ _ h1,hb _ _ _ h2])
def mM (ps:List Pc):Bool:=ps.all Pc.own
theorem bg {α:Type} {V:α→Value} {N:α→List Pc} {f:Operand} {g:FuncId} {first cap:Array Value} {ars:Array Operand} {ts:Array TypeId} {args:List Value} (hf:ev E fs f=some (.func (.func g) first cap)) (ha:fQ E fs ars.toList=some args) (hc:∀m,Hp m0 m ps→aW E g (first.toList++args++cap.toList) m (fun v m'=>∃x,v=V x∧Hp m0 m' (N x))):Ox E m0 fs ps (.call ⟨.value f,ars,ts⟩) V N :=
 fun t m hfr hm=>⟨fun b hb=>(by simp[aS] at hb),fun K hK=>by
  have hev:av E t f=some (.func (.func g) first cap):=by
   cases f with
   | tmp i=>exact hfr.ev hf
   | const c=>exact hfr.ev hf
   | global g=>exact hfr.ev hf
   | func g=>exact hfr.ev hf
  show gJ E (av E t f) (bz E t ars.toList) m _
  rw[hev,hfr.fQ ha]
  show aW E g (first.toList++args++cap.toList) m K
  exact(hc m hm).mono fun v m' ⟨x,e,h⟩=>by rw[e]; exact hK x m' h⟩
theorem aR {α:Type} {V:α→Value} {N:α→List Pc} {f:Operand} {g:FuncId} {ars:Array Operand} {ts:Array TypeId} {args:List Value} (hf:ev E fs f=some (.func (.func g) #[] #[])) (ha:fQ E fs ars.toList=some args) (hc:∀m,Hp m0 m ps→aW E g args m (fun v m'=>∃x,v=V x∧Hp m m' (N x))) (ho:∀x,mM (N x)=true):Ox E m0 fs ps (.call ⟨.value f,ars,ts⟩) V (fun x=>N x++ps) :=
 bg hf ha fun m hm=>by
  simp only[List.nil_append,List.append_nil];exact(hc m hm).mono fun v m' ⟨x,e,h⟩=>⟨x,e,hm.after h fun p hp=>List.all_eq_true.1 (ho x) p hp⟩
end
theorem Ext.ze {m0 m:AMem} (h:Ext m0 m) {w:Nat} (hw:min m0.wl m0.next≤w):Ext m0 (m.ww w):=⟨by rw[AMem.next_ww]; exact h.next,fun b hb=>by rw[AMem.get_ww]; exact h.same b hb,by rw[AMem.wl_ww]; exact hw⟩
theorem Hp.ww {m0 m:AMem} {ps:List Pc} (h:Hp m0 m ps) {w:Nat} (hw:min m0.wl m0.next≤w):Hp m0 (m.ww w) ps :=
 ⟨Ext.ze h.ext hw,fun p hp=>Pc.dZ (h.ok p hp) (by rw[AMem.next_ww]; exact Nat.le_refl _) (fun b _ _=>by rw[AMem.get_ww]),h.apart⟩
section
variable {E : Env} {n : Nat} {m0 : AMem} {fs : Fs} {ps ps' : List Pc} {ops : Array Oper} {os : List Oper} {K : Tm → AMem → Prop} {dr : Bool}
def Wo (dr:Bool) (E:Env) (n:Nat) (ops:Array Oper) (K:Tm→AMem→Prop) (os:List Oper) (m0:AMem) (fs:Fs) (ps:List Pc):Prop :=
 match dr with
 | false=>∀t m,Fr t fs→Hp m0 m ps→jJ E n ops K os t m
 | true=>∀t m w,Fr t fs→Hp m0 m ps→min m0.wl m0.next≤w→fX E n ops K os t m w
variable {ty : TypeId} {p : String} {af : Array Edge} {d : Nat} {o : Op} {g : Option (Nat × Bool)} {v : Value}
def nG (ops:Array Oper) (fs:Fs) (g:Option (Nat × Bool)) (b:Bool):Prop:=∀t d o ty p af,Fr t fs→bK ops ⟨d,o,ty,p,af,g⟩ t=b
theorem gn:nG ops fs none true:=fun _ _ _ _ _ _ _=>rfl
theorem gg {j d:Nat} {b c r:Bool} (hd:(ops[j]?).bind (·.dst)=some d) (h:lk fs d=some (.bool c)) (hr:(c == b)=r):nG ops fs (some (j,b)) r:=fun t d' o ty p af hf=>by
 rw[←hr]; exact zL hd (hf d _ h)
theorem Wo.x {α:Type} {V:α→Value} {N:α→List Pc} (h:Ox E m0 fs ps o V N) (hg:nG ops fs g true) (hd:Nat.blt d n=true) (k:∀x,Wo dr E n ops K os m0 ((d,V x)::fs) (N x)):Wo dr E n ops K (⟨some d,o,ty,p,af,g⟩::os) m0 fs ps:=by
 have hd':d<n:=by rwa[Nat.blt_eq] at hd
 cases dr with
 | false =>
  intro t m hf hm;simp only[jJ,hg t _ _ _ _ _ hf,if_true];refine(h t m hf hm).2 _ fun x m' hm'=>?_;rw[ck,if_pos hd'];exact k x _ m' hf.set hm'
 | true =>
  intro t m w hf hm hw;simp only[fX,hg t _ _ _ _ _ hf,if_true];have hx:=hm.ext.next
  have hm':Hp m0 (m.ww m.next) ps:=hm.ww (by omega)
  refine⟨fun b hb=>?_,?_⟩
  ·have:=(h t _ hf hm').1 b hb;rwa[AMem.next_ww] at this
  ·refine(h t _ hf hm').2 _ fun x m' hm''=>?_;rw[ck,if_pos hd'];have:=hm''.ext.wl;exact k x _ m' _ hf.set hm'' (by omega)
theorem Wo.x0 {α:Type} {V:α→Value} {N:α→List Pc} (h:Ox E m0 fs ps o V N) (hg:nG ops fs g true) (k:∀x,Wo dr E n ops K os m0 fs (N x)):Wo dr E n ops K (⟨none,o,ty,p,af,g⟩::os) m0 fs ps:=by
 cases dr with
 | false =>
  intro t m hf hm;simp only[jJ,hg t _ _ _ _ _ hf,if_true];refine(h t m hf hm).2 _ fun x m' hm'=>?_;exact k x _ m' hf hm'
 | true =>
  intro t m w hf hm hw;simp only[fX,hg t _ _ _ _ _ hf,if_true];have hx:=hm.ext.next
  have hm':Hp m0 (m.ww m.next) ps:=hm.ww (by omega)
  refine⟨fun b hb=>?_,?_⟩
  ·have:=(h t _ hf hm').1 b hb;rwa[AMem.next_ww] at this
  ·refine(h t _ hf hm').2 _ fun x m' hm''=>?_;have:=hm''.ext.wl;exact k x _ m' _ hf hm'' (by omega)
theorem Od.x (h:Od E m0 fs ps o v ps'):Ox E m0 fs ps o (fun _:Unit=>v) (fun _=>ps'):=fun t m hf hm=>⟨(h t m hf hm).1,fun K hK=>(h t m hf hm).2 K fun m' hm'=>hK () m' hm'⟩
theorem Wo.od (h:Od E m0 fs ps o v ps') (hd:Nat.blt d n=true) (k:Wo dr E n ops K os m0 ((d,v)::fs) ps'):Wo dr E n ops K (⟨some d,o,ty,p,af,none⟩::os) m0 fs ps:=Wo.x h.x gn hd fun _=>k
theorem Wo.o0 (h:Od E m0 fs ps o v ps') (k:Wo dr E n ops K os m0 fs ps'):Wo dr E n ops K (⟨none,o,ty,p,af,none⟩::os) m0 fs ps:=Wo.x0 h.x gn fun _=>k
theorem Wo.og (h:Od E m0 fs ps o v ps') (hg:nG ops fs g true) (hd:Nat.blt d n=true) (k:Wo dr E n ops K os m0 ((d,v)::fs) ps'):Wo dr E n ops K (⟨some d,o,ty,p,af,g⟩::os) m0 fs ps:=Wo.x h.x hg hd fun _=>k
theorem Wo.s (hg:nG ops fs g false) (hd:Nat.blt d n=true) (k:Wo dr E n ops K os m0 ((d,undef)::fs) ps):Wo dr E n ops K (⟨some d,o,ty,p,af,g⟩::os) m0 fs ps:=by
 have hd':d<n:=by rwa[Nat.blt_eq] at hd
 cases dr with
 | false =>
  intro t m hf hm;simp only[jJ,hg t _ _ _ _ _ hf,Bool.false_eq_true,if_false];rw[ck,if_pos hd'];exact k _ m hf.set hm
 | true =>
  intro t m w hf hm hw;simp only[fX,hg t _ _ _ _ _ hf,Bool.false_eq_true,if_false];rw[ck,if_pos hd'];exact k _ m w hf.set hm hw
def aa (m0:AMem) (ps:List Pc) (qs:List Pc):Prop:=∀m,Hp m0 m ps→Hp m0 m qs
theorem Wo.aG (h:aa m0 ps ps') (k:Wo dr E n ops K os m0 fs ps'):Wo dr E n ops K os m0 fs ps:=by
 cases dr with
 | false=>exact fun t m hf hm=>k t m hf (h m hm)
 | true=>exact fun t m w hf hm hw=>k t m w hf (h m hm) hw
theorem Wo.open {k w l:Nat} {a:Option Addr} {es:List (List Value)} (hp:pk ps k=some (.sl a w l es)) (hl:0<l) (h:∀b tg,a=some ⟨b,0,none⟩→tq tg=true→Wo dr E n ops K os m0 fs (bM ps k (.arr b w l es tg))):Wo dr E n ops K os m0 fs ps:=by
 have key:∀m,Hp m0 m ps→∃b tg,a=some ⟨b,0,none⟩∧tq tg=true∧Hp m0 m (bM ps k (.arr b w l es tg)):=by
  intro m hm;have h0:=hm.get hp;rcases h0 with⟨h1,_⟩|⟨b,tg,rfl,h1⟩
  ·omega
  ·refine⟨b,tg,rfl,by rcases h1.2.2.2.2.2.1 with rfl|rfl<;>rfl,hm.put hp rfl rfl rfl (Nat.le_refl _) hm.ext h1 fun _ _ _=>rfl⟩
 cases dr with
 | false=>intro t m hf hm; obtain⟨b,tg,h1,h2,h3⟩:=key m hm; exact h b tg h1 h2 t m hf h3
 | true=>intro t m w' hf hm hw; obtain⟨b,tg,h1,h2,h3⟩:=key m hm; exact h b tg h1 h2 t m w' hf h3 hw
theorem Wo.bE {k w l cap:Nat} {a:Option Addr} {es:List (List Value)} (hp:pk ps k=some (.rd a cap w l es)) (hl:0<l) (h:∀b o,a=some ⟨b,o,none⟩→Wo dr E n ops K os m0 fs (.ro b o w l es::ps)):Wo dr E n ops K os m0 fs ps:=by
 have key:∀m,Hp m0 m ps→∃b o,a=some ⟨b,o,none⟩∧Hp m0 m (.ro b o w l es::ps):=by
  intro m hm;obtain⟨h1,h2,h3⟩:=hm.get hp;rcases h3 with⟨_,h3⟩|⟨_,_,_,h3,_⟩|⟨b,o,rfl,h3⟩
  ·omega
  ·omega
  ·exact⟨b,o,rfl,hm.more hp rfl ⟨h1,h3⟩ rfl fun b' hb=>hb⟩
 cases dr with
 | false=>intro t m hf hm; obtain⟨b,o,h1,h3⟩:=key m hm; exact h b o h1 t m hf h3
 | true=>intro t m w' hf hm hw; obtain⟨b,o,h1,h3⟩:=key m hm; exact h b o h1 t m w' hf h3 hw
theorem aa.trans {ps'':List Pc} (h:aa m0 ps ps') (h':aa m0 ps' ps''):aa m0 ps ps'':=fun m hm=>h' m (h m hm)
theorem aa.U (ks:List Nat) (hnd:ji ks=true) (e:W.U ps ks=some ps'):aa m0 ps ps':=fun _ h=>h.U ks hnd e
theorem aa.close {k b w l:Nat} {es:List (List Value)} {tg:Tag} (hp:pk ps k=some (.arr b w l es tg)):aa m0 ps (bM ps k (.sl (some ⟨b,0,none⟩) w l es)):=fun _ h =>
 h.put hp rfl rfl rfl (Nat.le_refl _) h.ext (.inr ⟨b,tg,rfl,h.get hp⟩) fun _ _ _=>rfl
theorem aa.nil (w:Nat) (hw:Nat.blt 0 w=true):aa m0 ps (.sl none w 0 []::ps):=fun m h =>
 h.cons (Nat.le_refl _) h.ext (fun _ _=>rfl) (.inl ⟨rfl,rfl,rfl,by rwa[Nat.blt_eq] at hw⟩) fun b hb=>(by cases hb)
theorem lx {ps:List Pc} {k:Nat} {p p':Pc} (hk:pk ps k=some p) (ho:p'.own=false) (hb:∀b,p'.lu=some b→p.lu=some b∧p.own=true) (h:ps.Pairwise Pc.apart) (hng:∀b,¬p'.rI b:=by exact fun _ h=>h):(bM ps k p').Pairwise Pc.apart :=
 fq hk (fun r _ ha=>⟨fun b a c=>a.elim (fun a=>by rw[ho] at a; cases a.1) fun a=>hng b (by cases p' with|gen g=>exact .inl a|_=>exact a),fun b a c=>ha.2 b a (c.elim (fun c=>.inl (hb b c).1) fun c=>absurd c (hng b))⟩) h
theorem aa.freeze {k w l:Nat} {a:Option Addr} {es:List (List Value)} (hp:pk ps k=some (.sl a w l es)):aa m0 ps (bM ps k (.rd a l w l es)):=fun m h =>
 ⟨h.ext,fun q hq=>by
  rcases oU hp h.apart hq with rfl|⟨h1,_⟩
  ·exact Pc.yR (h.get hp) (.sl a w l es)
  ·exact h.ok q h1,lx hp rfl (fun b hb=>⟨hb,rfl⟩) h.apart⟩
variable {fn : FuncId} {ro : Option Nat} {Q : AExit → Tm → AMem → Prop}
def Wk (E:Env) (n:Nat) (fn:FuncId) (ro:Option Nat) (c:Code) (Q:AExit→Tm→AMem→Prop) (m0:AMem) (fs:Fs) (ps:List Pc):Prop:=∀t m,Fr t fs→Hp m0 m ps→bL E n fn ro c Q t m
def At (Q:AExit→Tm→AMem→Prop) (e:AExit) (m0:AMem) (fs:Fs) (ps:List Pc):Prop:=∀t m,Fr t fs→Hp m0 m ps→Q e t m
variable {a b c : Code} {id id' : Nat}
theorem Wk.seq (h:Wk E n fn ro a (iY (bL E n fn ro b Q) Q) m0 fs ps):Wk E n fn ro (.seq a b) Q m0 fs ps:=fun t m hf hm=>.seq (h t m hf hm)
theorem Wk.skip (h:At Q .normal m0 fs ps):Wk E n fn ro .skip Q m0 fs ps:=fun t m hf hm=>.skip (h t m hf hm)
theorem Wk.exit (h:At Q (.exit id) m0 fs ps):Wk E n fn ro (.exit id) Q m0 fs ps:=fun t m hf hm=>.exit (h t m hf hm)
theorem Wk.ret (h:At Q .ret m0 fs ps):Wk E n fn ro .ret Q m0 fs ps:=fun t m hf hm=>.ret (h t m hf hm)
theorem Wk.cond {x:Operand} {r:Bool} (hx:ev E fs x=some (.bool r)) (ht:r=true→Wk E n fn ro a Q m0 fs ps) (hf:r=false→Wk E n fn ro b Q m0 fs ps):Wk E n fn ro (.cond x a b) Q m0 fs ps:=fun t m hfr hm=>.cond (hfr.ev hx) (fun h=>ht h t m hfr hm) (fun h=>hf h t m hfr hm)
theorem Wk.ay {x:Operand} {r:Bool} (hx:ev E fs x=some (.bool r)) (hr:r=true) (ht:Wk E n fn ro a Q m0 fs ps):Wk E n fn ro (.cond x a b) Q m0 fs ps:=.cond hx (fun _=>ht) (fun h=>by rw[hr] at h; cases h)
theorem Wk.ax {x:Operand} {r:Bool} (hx:ev E fs x=some (.bool r)) (hr:r=false) (ht:Wk E n fn ro b Q m0 fs ps):Wk E n fn ro (.cond x a b) Q m0 fs ps:=.cond hx (fun h=>by rw[hr] at h; cases h) (fun _=>ht)
theorem Wk.block (h:Wk E n fn ro a (er id Q) m0 fs ps):Wk E n fn ro (.block id a) Q m0 fs ps:=fun t m hf hm=>.block (h t m hf hm)
theorem Wk.region (h:Wo false E n ops (Q .normal) ops.toList m0 fs ps):Wk E n fn ro (.region id ops false) Q m0 fs ps:=fun t m hf hm=>.ve (h t m hf hm)
theorem p7 {t:Tm} {m:AMem} {o:Op} {K K':Value→AMem→Prop} (h:bw E t m o K) (hk:∀v m',K v m'→K' v m'):bw E t m o K':=by
 unfold bw at h ⊢;cases hc:jm o with
 | some p =>
  obtain⟨f,ars⟩:=p;rw[hc] at h;simp only at h ⊢;cases hf:av E t f with
  | none=>rw[hf] at h; exact h.elim
  | some v =>
   cases ha:bz E t ars with
   | none=>rw[hf,ha] at h; unfold gJ at h; split at h<;>first | (rename_i h1 h2; cases h2) | exact h.elim
   | some vs =>
    rw[hf,ha] at h;unfold gJ at h ⊢
    split at h
    ·rename_i h1 h2;cases h1; cases h2;exact h.mono hk
    ·rename_i h1 h2;cases h1; cases h2;obtain⟨v,m',h5,hv⟩:=h;exact⟨v,m',h5,hk v m' hv⟩
    ·exact h.elim
 | none =>
  rw[hc] at h;simp only at h ⊢;cases he:dx E t m o with
  | none=>rw[he] at h; exact h.elim
  | some r=>rw[he] at h; exact hk r.1 r.2 h
theorem p6 {K K':Tm→AMem→Prop} (hK:∀t m,K t m→K' t m):∀(os:List Oper) (t:Tm) (m:AMem) (w:Nat),fX E n ops K os t m w→fX E n ops K' os t m w:=by
 intro os
 induction os with
 | nil=>intro t m w hk; exact hK _ _ hk
 | cons o os ih =>
  intro t m w hk;simp only[fX] at hk ⊢
  split at hk
  ·rename_i hw;rw[if_pos hw];refine⟨hk.1,p7 hk.2 fun v m' hv=>?_⟩;obtain⟨t',e,h4⟩:=hv.A
   show ue (fM n t o.dst v) fun t'=>fX E n ops K' os t' m' (min w m'.wl)
   rw[e]; exact ih _ _ _ h4
  ·rename_i hw;rw[if_neg hw];obtain⟨t',e,h4⟩:=hk.A;rw[e]; exact ih _ _ _ h4
theorem Wk.draw (hp:gx ops=some []) (h:Wo true E n ops (Q .normal) ops.toList m0 fs ps):Wk E n fn ro (.region id ops true) Q m0 fs ps:=fun t m hf hm=>.yW hp fun K hK=>by
 exact p6 hK _ _ _ _ (h t m m.wl hf hm hm.ext.wl)
theorem Wo.nil (h:At Q .normal m0 fs ps):Wo dr E n ops (Q .normal) [] m0 fs ps:=by
 cases dr with
 | false=>exact fun t m hf hm=>h t m hf hm
 | true=>exact fun t m w hf hm hw=>h t _ hf (hm.ww hw)
theorem At.tn (h:Wk E n fn ro b Q m0 fs ps):At (iY (bL E n fn ro b Q) Q) .normal m0 fs ps:=h
theorem At.te {K:Tm→AMem→Prop} (h:At Q (.exit id) m0 fs ps):At (iY K Q) (.exit id) m0 fs ps:=h
theorem At.tr {K:Tm→AMem→Prop} (h:At Q .ret m0 fs ps):At (iY K Q) .ret m0 fs ps:=h
theorem At.bn (h:At Q .normal m0 fs ps):At (er id Q) .normal m0 fs ps:=h
theorem At.be (h:At Q .normal m0 fs ps):At (er id Q) (.exit id) m0 fs ps:=fun t m hf hm=>by rw[qw,if_pos rfl]; exact h t m hf hm
theorem At.bx (hne:Nat.beq id' id=false) (h:At Q (.exit id') m0 fs ps):At (er id Q) (.exit id') m0 fs ps:=fun t m hf hm=>by rw[qw,if_neg (Nat.ne_of_beq_eq_false hne)]; exact h t m hf hm
theorem At.br (h:At Q .ret m0 fs ps):At (er id Q) .ret m0 fs ps:=h
theorem Wk.bZ {fs':Fs} (hs:sub fs fs') (h:aa m0 ps ps') (k:Wk E n fn ro c Q m0 fs' ps'):Wk E n fn ro c Q m0 fs ps:=fun t m hf hm=>k t m (hf.sub hs) (h m hm)
structure En where
 e:AExit
 fs:Fs
 ps:List Pc
def ll (m0:AMem) {γ:Type} (G:γ→En) (e:AExit) (t:Tm) (m:AMem):Prop:=∃g,e=(G g).e∧Fr t (G g).fs∧Hp m0 m (G g).ps
theorem At.en {γ:Type} {G:γ→En} {e:AExit} (g:γ) (he:e=(G g).e) (hs:sub fs (G g).fs) (ht:aa m0 ps (G g).ps):At (ll m0 G) e m0 fs ps:=fun _ m hf hm=>⟨g,he,hf.sub hs,ht m hm⟩
theorem Wk.cut {γ:Type} {G:γ→En} (h:Wk E n fn ro c (ll m0 G) m0 fs ps) (k:∀g,At Q (G g).e m0 (G g).fs (G g).ps):Wk E n fn ro c Q m0 fs ps:=fun t m hf hm =>
 (h t m hf hm).mono fun e t' m' ⟨g,h1,h2,h3⟩=>by rw[h1]; exact k g t' m' h2 h3
def eC {σ ρ:Type} (body:σ→Option (σ ⊕ ρ)):Nat→σ→Option ρ
 | 0,_=>none
 | k+1,s=>match body s with
  | some (.inl s')=>eC body k s'
  | some (.inr r)=>some r
  | none=>none
theorem Wk.loop {σ ρ γ:Type} {δ:ρ→Type} (body:σ→Option (σ ⊕ ρ)) (I:σ→γ→En) (X:(r:ρ)→δ r→En)
  (hb:∀s g r,body s=some r→Wk E n fn ro c (match r with | .inl s'=>ll m0 (I s') | .inr r=>ll m0 (X r)) m0 (I s g).fs (I s g).ps)
  (hn:∀s g,(I s g).e = .normal) (hx:∀r g,(X r g).e≠.normal) :
  ∀(N:Nat) (s:σ) (r:ρ),eC body N s=some r→∀g,Wk E n fn ro (.loop c) (ll m0 (X r)) m0 (I s g).fs (I s g).ps:=by
 intro N
 induction N with
 | zero=>intro s r h; cases h
 | succ N ih =>
  intro s r h g t m hf hm;refine .loop (.round ?_);simp only[eC] at h
  split at h
  ·rename_i s' hs;refine(hb s g _ hs t m hf hm).mono fun e t' m' ⟨g',h1,h2,h3⟩=>?_;rw[h1,hn];have:=ih s' r h g' t' m' h2 h3;obtain⟨e2,t2,m2,⟨k2,hk2⟩,q2⟩:=this;cases k2 with
   | zero=>cases hk2
   | succ k2=>exact⟨e2,t2,m2,⟨k2,hk2⟩,q2⟩
  ·rename_i r' hs;simp only[Option.some.injEq] at h;subst h;refine(hb s g _ hs t m hf hm).mono fun e t' m' ⟨g',h1,h2,h3⟩=>?_;have hq:ll m0 (X r') e t' m':=⟨g',h1,h2,h3⟩;cases he:e with
   | normal=>rw[h1] at he; exact absurd he (hx _ _)
   | exit id=>rw[he] at hq; exact hq
   | ret=>rw[he] at hq; exact hq
  ·cases h
def jz:List Value→Nat→Fs→Fs
 | [],_,fs=>fs
 | v::vs,i,fs=>jz vs (i+1) ((i,v)::fs)
theorem Fr.args:∀(vs:List Value) (i:Nat) (fs:Fs) (t:Tm),Fr t fs→Fr (Trie.ofList vs i t) (jz vs i fs)
 | [],_,_,_,h=>h
 | _::vs,i,_,_,h=>Fr.args vs (i+1) _ _ h.set
theorem ak {f:FuncId} {F:Func} {c:Code} {args:List Value} {rs:List ResultVar} {N:Nat} {R:Value→AMem→Prop} (hp:E.cu f=none) (hf:E.P.funcs[f]? = some F) (hb:F.body=some c) (hrs:F.results.toList=rs) (hN:max args.length F.ntmps=N)
  {m:AMem} (hm:Hp m0 m ps) (h:Wk E N f none c (fN E rs R) m0 (jz args 0 []) ps):aW E f args m R :=
 aW.xG hp hf hb hrs hN (h _ m (Fr.args args 0 [] _ (Fr.nil _)) hm)
theorem Hp.start (m:AMem):Hp m m []:=⟨.refl m,fun p h=>(by cases h),.nil⟩
inductive Res1 (E:Env) (fs:Fs) (ps:List Pc):List ResultVar→List Value→Prop
 | nil:Res1 E fs ps [] []
 | tmp {i:Nat} {v:Value} {rs:List ResultVar} {vs:List Value} (h:lk fs i=some v) (k:Res1 E fs ps rs vs):Res1 E fs ps (.tmp i::rs) (v::vs)
 | cell {i k b o sz:Nat} {ty:TypeId} {v:Value} {rs:List ResultVar} {vs:List Value} {cs:List Value} {tg:Tag} {ag:Bool} (ht:TyI E.P ty ag sz) (h:lk fs i=some (ptr b o)) (hp:pk ps k=some (.obj b (.cells cs tg))) (hv:rj ag sz cs o=some v) (k:Res1 E fs ps rs vs):Res1 E fs ps (.cell i ty::rs) (v::vs)
theorem Res1.ok {fs:Fs} {ps:List Pc} {t:Tm} {m:AMem} (hf:Fr t fs) (hm:Hp m0 m ps):∀{rs:List ResultVar} {vs:List Value},Res1 E fs ps rs vs→bY E t m rs=some vs:=by
 intro rs vs h
 induction h with
 | nil=>rfl
 | tmp h _ ih=>simp only[bY,ih,hf _ _ h,Option.map_some]
 | cell ht h hp hv _ ih=>simp only[bY,hf _ _ h,kn ht (hm.get hp).2.2 hv,ih]
theorem At.ret {rs:List ResultVar} {vs:List Value} {R:Value→AMem→Prop} (h:Res1 E fs ps rs vs) (k:∀m,Hp m0 m ps→R (fm vs) m):At (fN E rs R) .ret m0 fs ps:=fun t m hf hm=>by
 rw[xq,h.ok hf hm]; exact k m hm
theorem At.fin {rs:List ResultVar} {vs:List Value} {R:Value→AMem→Prop} (h:Res1 E fs ps rs vs) (k:∀m,Hp m0 m ps→R (fm vs) m):At (fN E rs R) .normal m0 fs ps:=fun t m hf hm=>by
 rw[ra,h.ok hf hm]; exact k m hm
end
end Go.Ab.W
end

section
namespace Go.Ab.W
open Go Go.Ab
def ob {α β:Type} (o:Option α) (f:α→Option β):Option β :=
 match o with
 | some x=>f x
 | none=>none
def gd {β:Type} (b:Bool) (k:Option β):Option β :=
 match b with
 | true=>k
 | false=>none
def br {β:Type} (b:Bool) (k l:Option β):Option β :=
 match b with
 | true=>k
 | false=>l
section
variable {α β : Type}
theorem J {o:Option α} {f:α→Option β} {r:β} (h:ob o f=some r):∃x,o=some x∧f x=some r:=by
 cases o with
 | none=>cases h
 | some x=>exact⟨x,rfl,h⟩
theorem al {b:Bool} {k:Option β} {r:β} (h:gd b k=some r):b=true∧k=some r:=by
 cases b with
 | false=>cases h
 | true=>exact⟨rfl,h⟩
theorem ae {b:Bool} {k l:Option β} {r:β} (h:br b k l=some r):(b=true∧k=some r)∨(b=false∧l=some r):=by
 cases b with
 | false=>exact .inr ⟨rfl,h⟩
 | true=>exact .inl ⟨rfl,h⟩
def cg (i:Int) (n:Nat):Bool:=decide (0≤i∧i.toNat<n)
theorem ar {i:Int} {n:Nat} (h:cg i n=true):0≤i∧i.toNat<n:=of_decide_eq_true h
theorem aZ {f:α→β} {xs:List α} {i:Nat} {x:α} (h:xs[i]? = some x):(xs.map f)[i]? = some (f x):=by
 rw[List.getElem?_map,h]; rfl
theorem aH {i:Int} {n:Nat} (h:0≤i∧i.toNat<n):0<n:=by omega
def okB (lo hi:Int) (n:Nat):Bool:=decide (0≤lo∧lo≤hi∧hi≤(n:Int))
theorem sr {lo hi:Int} {n:Nat} (h:okB lo hi n=true):0≤lo∧lo≤hi∧hi≤(n:Int):=of_decide_eq_true h
end
def eI (k:IntKind) (x:Int):List Value:=[.int k x]
def eN (k:IntKind) (x:Nat):List Value:=[.int k (x:Int)]
def eP {α β:Type} (f:α→List Value) (g:β→List Value) (p:α × β):List Value:=f p.1++g p.2
structure Enc {α:Type} (f:α→List Value) (w:Nat):Prop where
 len:∀x,(f x).length=w
 one:∀x,(f x).all gQ=true
theorem qv (k:IntKind):Enc (eI k) 1:=⟨fun _=>rfl,fun _=>rfl⟩
theorem uP {α β:Type} {f:α→List Value} {g:β→List Value} {w v:Nat} (h:Enc f w) (h':Enc g v):Enc (eP f g) (w+v) :=
 ⟨fun x=>by simp[eP,h.len,h'.len],fun x=>by simp only[eP,List.all_append,h.one,h'.one,Bool.and_self]⟩
theorem Enc.vL {α:Type} {f:α→List Value} {w:Nat} (h:Enc f w) (xs:List α):∀e ∈ xs.map f,e.length=w:=fun e he=>by
 obtain⟨x,_,rfl⟩:=List.mem_map.1 he; exact h.len x
theorem Enc.dG {α:Type} {f:α→List Value} {w:Nat} (h:Enc f w) (xs:List α):W.dG (xs.map f):=pK h.one xs
theorem vy {α:Type} {f:α→List Value} {xs:List α} {i:Nat} {x:α}:(xs.map f).set i (f x)=(xs.set i x).map f:=(List.map_set).symm
theorem qx {α:Type} {f:α→List Value} {n:Nat} {x:α}:List.replicate n (f x)=(List.replicate n x).map f:=by simp
def mi {α:Type} [LT α] [DecidableRel (α:=α) (· < ·)] (a b:α):α:=if b<a then b else a
def ma {α:Type} [LT α] [DecidableRel (α:=α) (· < ·)] (a b:α):α:=if a<b then b else a
section
variable {k kd : IntKind} {ty : TypeId} {P : Program}
theorem cW (a b:Int):cB .neq ty P (.int k a) (.int k b)=some (.bool (!decide (a=b))):=by
 rw[vl]; congr 2; by_cases h:a=b<;>simp[h]
theorem eG (a b:Int) (h:decide (b≠0)=true):cB .rem ty P (.int k a) (.int k b)=some (.int k (a.tmod b)):=vz k a b (of_decide_eq_true h)
theorem vT (a:Int):rO .neg (.int k a)=some (.int k (k.wrap (0-a))):=rfl
theorem lQ (a b:Int) {ts:Array TypeId} (m:AMem):bj P .min ts [.int k a,.int k b] m=some (.int k (mi a b),m):=rfl
theorem oT (a b:Int) {ts:Array TypeId} (m:AMem):bj P .max ts [.int k a,.int k b] m=some (.int k (ma a b),m):=rfl
theorem vN {a b:Bool} (hu:P.underlying ty=some .bool):cB .eql ty P (.bool a) (.bool b)=some (.bool (a == b)):=by
 simp only[cB,Op.maxDepth,fU,hu,Option.map_some]
end
theorem aI {c:Bool} (h:c=true):(c == true)=true:=by rw[h]; rfl
theorem cD {c:Bool} (h:c=false):(c == false)=true:=by rw[h]; rfl
theorem cH {c:Bool} (h:c=true):(c == false)=false:=by rw[h]; rfl
theorem aJ {c:Bool} (h:c=false):(c == true)=false:=by rw[h]; rfl
section
variable {E : Env} {n : Nat} {m0 : AMem} {fs : Fs} {ps : List Pc} {x y : Operand} {v : Value} {ty : TypeId}
theorem bf {c:Operand} {b:Bool} (hc:ev E fs c=some (.bool b)) (hb:b=true) (h:ev E fs x=some v):Od E m0 fs ps (.pick c x y) v ps:=fK (by rw[hc,hb]) h
theorem bc {c:Operand} {b:Bool} (hc:ev E fs c=some (.bool b)) (hb:b=false) (h:ev E fs y=some v):Od E m0 fs ps (.pick c x y) v ps:=aC (by rw[hc,hb]) h
theorem oQ {α:Type} {f:α→List Value} {elem ty2:TypeId} {w k k2 c0 l l1:Nat} {a a0:Option Addr} {xs ys:List α} {ars:Array Operand} {p0:Pc} (he:Enc f w) (ht:SlT E.P ty elem w) (h3:∃e0,E.P.underlying ty2=some (.slice e0)) (ha:fQ E fs ars.toList=some [.slice a l l,.slice a0 l1 c0]) (hp:pk ps k=some (.sl a w l (xs.map f))) (h1:pk ps k2=some p0) (hr:IsRd p0 a0 c0 w l1 (ys.map f)) (hl:lim (xs++ys).length=true) :
  Ox E m0 fs ps (.call ⟨.builtin .append,ars,#[ty,ty2]⟩) (fun a':Option Addr=>.slice a' (xs++ys).length (xs++ys).length) (fun a'=>bM ps k (.sl a' w (xs++ys).length ((xs++ys).map f))):=by
 intro t m hf hm;have h0:l=xs.length:=by
  have:=hm.get hp;rcases this with⟨h4,h0,_⟩|⟨b,tg,_,h0⟩
  ·rw[h4,List.map_eq_nil_iff.1 h0]; rfl
  ·have:=h0.2.2.2.1; rw[List.length_map] at this; exact this.symm
 have h2:l1=ys.length:=by
  have:=(hm.rd h1 hr).1; rw[List.length_map] at this; exact this.symm
 have:=y6 (m0:=m0) ht h3 ha hp h1 hr (he.vL ys) (he.dG ys) (by rw[h0,h2,←List.length_append]; exact hl) t m hf hm
 have e1:xs.map f++ys.map f=(xs++ys).map f:=List.map_append.symm;have e0:l+l1=(xs++ys).length:=by rw[h0,h2,List.length_append]
 rw[e1,e0] at this;exact this
theorem yQ {α:Type} {f:α→List Value} {z0:α} {elem:TypeId} {w:Nat} {i:Int} {z:Value} (ht:SlT E.P ty elem w) (hx:ev E fs x=some (.int .i64 i)) (hi:decide (0≤i)=true) (hl:lim i.toNat=true) (hz:bq E.P elem=some z) (hp:z.cells.toList.all aP=true) (hzf:z.cells.toList=f z0) :
  Ox E m0 fs ps (.makeSlice ty x x) (fun b=>.slice (some ⟨b,0,none⟩) i.toNat i.toNat) (fun b=>.arr b w i.toNat ((List.replicate i.toNat z0).map f) .own::ps):=by
 have:=yD (m0:=m0) (ps:=ps) ht hx (Int.toNat_of_nonneg (of_decide_eq_true hi)).symm hl hz hp;rw[hzf,qx] at this;exact this
theorem wk {α:Type} {f:α→List Value} {ag:Bool} {sz b w l j c k:Nat} {xs:List α} {x1 x2:α} {tg:Tag} (ht:TyI E.P ty ag sz) (hx:ev E fs x=some (ptr b (j*w+c))) (hy:ev E fs y=some v) (hp:pk ps k=some (.arr b w l (xs.map f) tg)) (he:xs[j]? = some x1) (hv:wF (f x1) c v sz=some (f x2)):Od E m0 fs ps (.store ty x y) undef (bM ps k (.arr b w l ((xs.set j x2).map f) tg)):=by
 have:=fE (m0:=m0) ht hx hy hp (aZ he) hv;rwa[vy] at this
end
theorem sn {fs:Fs}:sub fs []:=trivial
theorem sc {fs l:Fs} {i:Nat} {v:Value} (h:lk fs i=some v) (k:sub fs l):sub fs ((i,v)::l):=⟨h,k⟩
theorem cI {k:IntKind} {e y:Int} (h:some e=some y):some (Value.int k e)=some (.int k y):=by rw[Option.some.inj h]
theorem zW {k:IntKind} {e y:Int} {m:AMem} (h:some e=some y):some (Value.int k e,m)=some (.int k y,m):=by rw[Option.some.inj h]
section
variable {P : Program} {ty el : TypeId} {w len : Nat}
theorem xf (h:ArT P ty el len w) {b o i:Nat} {kd:IntKind} (hi:i<len):bN P ty (ptr b o) (.int kd (i:Int))=some (ptr b (o+i*w)):=w5 h.und h.known h.size hi
theorem mR {cs:Array Value} {off sz:Nat} {v:Value} (h:TyI P ty true sz) (hv:(Value.agg (cs.extract off (off+sz)))=v):cw P ty cs off=some v:=by
 simp only[cw,h.known,h.agg,h.size,Bool.not_true,Bool.false_eq_true,if_false,if_true,hv]
theorem s8 {cs:Array Value} {off sz:Nat} {v:Value} (h:TyI P ty false sz) (hv:cs[off]? = some v):cw P ty cs off=some v:=by
 simp only[cw,h.known,h.agg,Bool.not_true,Bool.false_eq_true,if_false,hv]
theorem q6 (h:ArT P ty el len w) {cs:Array Value} {i:Nat} {kd:IntKind} {v:Value} (hi:i<len) (hp:cw P el cs (i*w)=some v):ed P ty (.agg cs) (.int kd (i:Int))=some v:=by
 simp only[ed,h.und,h.size,Int.toNat_natCast];rw[if_pos ⟨by omega,by omega⟩]; exact hp
structure BdT (P:Program) (ty:TypeId) (z:Value) (offs:List (Nat × Nat)):Prop where
 bd:∀parts,(parts.all fun p=>Nat.blt p.1 offs.length)=true→iw P ty parts=(fw (fun i=>offs[i]?) z.cells.toList parts).map fun cs=>.agg cs.toArray
def zU (P:Program) (ty:TypeId) (z:Value) (offs:List (Nat × Nat)):Prop :=
 bq P ty=some z∧match P.underlying ty with
  | some (.struct fields)=>fields.toList.all (fun f=>known P f.type)=true∧fields.toList.map (fun f=>(f.offset,aE P f.type))=offs
  | some (.array n elem)=>known P elem=true∧(List.range n).map (fun i=>(i*aE P elem,aE P elem))=offs
  | _=>False
theorem gV {p q:Nat→Option (Nat × Nat)} {n:Nat} (h:∀i,i<n→p i=q i):∀(parts:List (Nat × Value)) (cs:List Value),(parts.all fun p=>Nat.blt p.1 n)=true→fw p cs parts=fw q cs parts
 | [],_,_=>rfl
 | (i,v)::rest,cs,hp=>by
  rw[List.all_cons,Bool.and_eq_true] at hp;have hi:i<n:=by have:=hp.1; rwa[Nat.blt_eq] at this
  simp only[fw,h i hi];cases q i with
  | none=>rfl
  | some r=>simp only[]; split; rfl; exact gV h rest _ hp.2
theorem BdT.of {z:Value} {offs:List (Nat × Nat)} (h:zU P ty z offs):BdT P ty z offs:=⟨fun parts hp=>by
 obtain⟨hz,h⟩:=h;unfold iw;rw[hz];cases hu:P.underlying ty with
 | none=>rw[hu] at h; exact h.elim
 | some u =>
  rw[hu] at h;cases u with
  | struct fields =>
   simp only at h ⊢;rw[if_pos h.1]
   congr 1
   refine gV (n:=offs.length) (fun i hi=>?_) parts _ hp;rw[←h.2,List.getElem?_map]; simp
  | array n elem =>
   simp only at h ⊢;rw[if_pos h.1]
   congr 1
   refine gV (n:=offs.length) (fun i hi=>?_) parts _ hp;have hl:offs.length=n:=by rw[←h.2]; simp
   rw[←h.2,List.getElem?_map,List.getElem?_range (by omega)]; rfl
  | _=>exact h.elim⟩
def zP (P:Program) (ty:TypeId) (offs:List (Nat × Nat)):Bool :=
 match P.underlying ty with
 | some (.struct fields)=>fields.toList.all (fun f=>known P f.type) && decide (fields.toList.map (fun f=>(f.offset,aE P f.type))=offs)
 | some (.array n elem)=>known P elem && decide ((List.range n).map (fun i=>(i*aE P elem,aE P elem))=offs)
 | _=>false
theorem BdT.mk' {z:Value} {offs:List (Nat × Nat)} (hz:bq P ty=some z) (h:zP P ty offs=true):BdT P ty z offs:=by
 refine .of ⟨hz,?_⟩;unfold zP at h;cases hu:P.underlying ty with
 | none=>rw[hu] at h; cases h
 | some u =>
  rw[hu] at h;cases u with
  | struct fields=>simp only[Bool.and_eq_true,decide_eq_true_eq] at h ⊢; exact h
  | array n elem=>simp only[Bool.and_eq_true,decide_eq_true_eq] at h ⊢; exact h
  | _=>cases h
theorem bl {z r:Value} {offs:List (Nat × Nat)} {parts:List (Nat × Value)} {cs:List Value} (h:BdT P ty z offs) (hp:(parts.all fun p=>Nat.blt p.1 offs.length)=true) (hr:fw (fun i=>offs[i]?) z.cells.toList parts=some cs) (e:Value.agg cs.toArray=r):iw P ty parts=some r:=by
 rw[h.bd parts hp,hr]; exact congrArg some e
theorem aO {n:Nat} {vs:List (Nat × Value)} {z:Value} {cs:List Value} (ht:SlT P ty el w) (hz:bq P el=some z) (h1:((bS z.cells.toList n).all aP && Nat.ble (n*w) 16777216)=true) (hr:fw (fun i=>some (i*w,w)) (bS z.cells.toList n) vs=some cs):zn P el w n vs=some cs:=by
 have hzs:z.cells.size=w:=by have:=ht.zero; rw[hz] at this; simp only[Option.any_some,Bool.and_eq_true,beq_iff_eq] at this; exact this.1
 have:dW P el n=some (bS z.cells.toList n):=by simp only[dW,hz,ht.size]; rw[if_pos hzs]
 simp only[zn,this,h1]; exact hr
theorem s7 {xs ys:Array Value} {b:Bool} (h:P.eqGuardType P.depth ty=false) (hb:fU P Op.maxDepth ty (.agg xs) (.agg ys)=some b):cB .eql ty P (.agg xs) (.agg ys)=some (.bool b):=by
 simp only[cB,h,Bool.false_eq_true,if_false,hb,Option.map_some]
theorem vY {xs ys:Array Value} {b:Bool} (h:P.eqGuardType P.depth ty=false) (hb:fU P Op.maxDepth ty (.agg xs) (.agg ys)=some b):cB .neq ty P (.agg xs) (.agg ys)=some (.bool (!b)):=by
 simp only[cB,h,Bool.false_eq_true,if_false,hb,Option.map_some]
theorem yd {k:IntKind} (hu:P.underlying ty=some (.array 2 el)) (hk:known P el=true) (hs:aE P el=1) (ha:cL P el=false) (he:P.underlying el=some (.int k)) (a b c d:Int):fU P Op.maxDepth ty (.agg #[.int k a,.int k b]) (.agg #[.int k c,.int k d])=some (decide (a=c) && decide (b=d)):=by
 have e1:∀x y:Int,fU P 9999 el (.int k x) (.int k y)=some (decide (x=y)):=fun x y=>by
  simp only[fU,he,if_true]; rfl
 have p0:∀x y:Int,cw P el #[.int k x,.int k y] 0=some (.int k x):=fun x y=>by simp only[cw,hk,ha]; rfl
 have p1:∀x y:Int,cw P el #[.int k x,.int k y] 1=some (.int k y):=fun x y=>by simp only[cw,hk,ha]; rfl
 show fU P (9999+1) ty _ _=_
 unfold fU;simp only[hu,hk,if_true,hs]
 show ek (fU P 9999) P _ _ [(el,0*1),(el,1*1)]=_
 simp only[ek,Nat.zero_mul,Nat.one_mul,p0,p1,e1]
 by_cases h:a=c
 ·simp only[h,decide_true,Bool.true_and]
  by_cases h2:b=d<;>simp[h2]
 ·simp[h]
end
section
variable {E : Env} {n : Nat} {m0 : AMem} {fs : Fs} {ps : List Pc} {x y : Operand} {v : Value} {ty : TypeId}
variable {ops : Array Oper} {os : List Oper} {K : Tm → AMem → Prop} {dr : Bool}
theorem Wo.len {α:Type} {f:α→List Value} {k w l:Nat} {a:Option Addr} {xs:List α} (hp:pk ps k=some (.sl a w l (xs.map f))) (h:l=xs.length→Wo dr E n ops K os m0 fs ps):Wo dr E n ops K os m0 fs ps:=by
 have key:∀m,Hp m0 m ps→l=xs.length:=fun m hm=>by
  rcases hm.get hp with⟨h0,h1,_⟩|⟨b,tg,_,h1⟩
  ·rw[h0,List.map_eq_nil_iff.1 h1]; rfl
  ·have:=h1.2.2.2.1; rw[List.length_map] at this; exact this.symm
 cases dr with
 | false=>exact fun t m hf hm=>h (key m hm) t m hf hm
 | true=>exact fun t m w hf hm hw=>h (key m hm) t m w hf hm hw
end
theorem gu {ops:Array Oper} {fs:Fs} {j d:Nat} {b:Bool} (hd:(ops[j]?).bind (·.dst)=some d) (h:lk fs d=some undef):nG ops fs (some (j,b)) false:=fun t d' o ty p af hf=>by
 rw[tV];have hat:=hf d _ h;unfold dB;rw[hd];unfold Tm.at at hat;cases hg:Trie.get t d with
 | none=>simp only[hg]
 | some v=>rw[hg] at hat; have hv:v=undef:=hat; subst hv; simp only[hg]; rfl
section
variable {P : Program} {ty : TypeId} {k : IntKind}
end
section
variable {E : Env} {n : Nat} {m0 : AMem} {fs : Fs} {ps : List Pc} {x y : Operand} {v : Value} {ty : TypeId}
theorem vQ {α:Type} {V:α→Value} {N:α→List Pc} {a b:Value} (hx:ev E fs x=some a) (hy:ev E fs y=some b) (h:∀m,Hp m0 m ps→∃z,ed E.P ty a b=some (V z)∧Hp m0 m (N z)):Ox E m0 fs ps (.index ty x y) V N :=
 fun t m hf hm=>⟨fun b hb=>(by simp[aS] at hb),fun K hK=>by
  obtain⟨z,h1,h2⟩:=h m hm;rw[Go.Ab.uQ (hf.ev hx) (hf.ev hy) h1]; exact hK z m h2⟩
end
end Go.Ab.W
end

section
namespace Go.Ab
open Go Go.Ab.W
theorem zk (j:aL) (u:Value):∃v,VR j v u:=by
 match h:u with
 | .agg cs =>
  have:∀i (hi:i<cs.size),∃v,VR j v cs[i]:=fun i hi=>zk j cs[i];refine⟨.agg (Array.ofFn fun i:Fin cs.size=>Classical.choose (this i.1 i.2)),.agg (by simp) fun i a b=>?_⟩
  have hi:i<cs.size:=b;have:=Classical.choose_spec (this i hi)
  simpa using this
 | .tuple cs =>
  have:∀i (hi:i<cs.size),∃v,VR j v cs[i]:=fun i hi=>zk j cs[i];refine⟨.tuple (Array.ofFn fun i:Fin cs.size=>Classical.choose (this i.1 i.2)),.tuple (by simp) fun i a b=>?_⟩
  have hi:i<cs.size:=b;have:=Classical.choose_spec (this i hi)
  simpa using this
 | .bool b=>exact⟨_,.bool b⟩
 | .int k n=>exact⟨_,.int k n⟩
 | .float k b=>exact⟨_,.junk rfl⟩
 | .complex k a b=>exact⟨_,.junk rfl⟩
 | .string s=>exact⟨_,.string s⟩
 | .pointer none=>exact⟨_,.pnil⟩
 | .pointer (some a)=>exact⟨_,.junk rfl⟩
 | .slice none l c=>exact⟨_,.snil l c⟩
 | .slice (some a) l c=>exact⟨_,.junk rfl⟩
 | .map none=>exact⟨_,.mnil⟩
 | .map (some r)=>exact⟨_,.junk rfl⟩
 | .chan r=>exact⟨_,.junk rfl⟩
 | .func f a b=>exact⟨_,.junk rfl⟩
 | .nilFunc=>exact⟨_,.nilFunc⟩
 | .iface t v=>exact⟨_,.junk rfl⟩
 | .nilIface=>exact⟨_,.nilIface⟩
termination_by SizeOf.sizeOf u
decreasing_by
 all_goals
  subst h;have:=Array.sizeOf_getElem cs i hi;simp only[Value.agg.sizeOf_spec,Value.tuple.sizeOf_spec];omega
noncomputable def seen (j:aL) (v':Value):Value:=if aP v' then v' else Classical.choose (zk j v')
theorem uX (j:aL) (v':Value):VR j (seen j v') v':=by
 unfold seen
 split
 ·rename_i h; exact .aP h
 ·exact Classical.choose_spec (zk j v')
def iu (W:World):aL:=fun b=>if b<W.heap.size then some ⟨b,none⟩ else none
noncomputable def fx (W:World):AMem:={ next:=W.heap.size,wl:=W.heap.size,objs:=.nil,base:=fun b=>match W.heap[b]? with
 | some (.cells c _ _)=>some (.cells (c.toList.map (seen (iu W))) .ro)
 | _=>none}
theorem po (W:World) (b:Nat):(fx W).get b=match W.heap[b]? with
 | some (.cells c _ _)=>some (.cells (c.toList.map (seen (iu W))) .ro)
 | _=>none:=by
 simp[AMem.get,fx,Heap.get_nil]
theorem xO {E:Env} {W:World} (hg:E.glob≤W.heap.size):MR E (iu W) (fx W) W:=by
 have hj:∀b k,iu W b=some k→b<W.heap.size∧k=⟨b,none⟩:=by
  intro b k h;unfold iu at h
  split at h
  ·rename_i hb; cases h; exact⟨hb,rfl⟩
  ·cases h
 refine⟨fun b k h=>?_,fun b o k ho h=>?_,fun b b' k k' h h' _ _ hc=>?_,fun g hgl=>?_⟩
 ·obtain⟨h1,rfl⟩:=hj b k h;exact⟨h1,h1⟩
 ·obtain⟨h1,rfl⟩:=hj b k h;rw[po] at ho
  split at ho
  ·rename_i c t fz hc;cases ho;refine⟨_,hc,⟨rfl,by simp⟩,fun i v hi=>?_⟩
   rw[List.getElem?_map] at hi;obtain⟨x,hx,rfl⟩:=Option.map_eq_some_iff.1 hi;exact⟨x,by simpa using hx,uX _ _⟩
  ·cases ho
 ·obtain⟨_,rfl⟩:=hj b k h;obtain⟨_,rfl⟩:=hj b' k' h';exact hc
 ·unfold iu;rw[if_pos (by omega)]
inductive Lf where
 | int (k:IntKind)
 | bool
 | sl (e:TypeId)
 deriving DecidableEq
inductive All2 {α β:Type} (R:α→β→Prop):List α→List β→Prop
 | nil:All2 R [] []
 | cons {a:α} {b:β} {l:List α} {r:List β} (h:R a b) (t:All2 R l r):All2 R (a::l) (b::r)
section
variable {H : Type} {enc : TypeId × Value → H} {P : Program} {W : World} {base : Nat} {sp : Nat → Bool} {held : Bool}
end
end Go.Ab
end
