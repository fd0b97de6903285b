/- A part of the proof. -/
import Derived.Test.YthmekkhpddehjaaGreatRl3
import Derived.Shelf.GgSortFunc.RowK
import Derived.Shelf.SlSortCmp.WholeK
import Derived.Shelf.SlGeneric
import Derived.Ground.SlsfProg
import Derived.Test.YthmekkhpddehjaaGreatProg
import Derived.Shelf.SlSortCmp.NoneTotal
import Derived.Lib.Overlaps
import Derived.HandedShaped
set_option linter.all false
section
namespace Go.Ab.W
open Go Go.Ab
attribute [local irreducible] Tm.at Trie.set Trie.get Sr.get Sr.set Sr.alloc Sr.ww Sr.kill
section
variable{E:Env}{n:Nat}{m0 m:Sr}{fs:Fs}{ps:SB Pc}
def Hp.D2{m0 m:Sr}{l0:SB Pc}{H:Rw}{a:Rv}{cap w l:Nat}{es:Ru}(h:Hp m0 m (l0++[.gen (bu H)]))(ho:(l0.all Pc.Kh)=true)(hr:Rd m a cap w l es)(ha:∀b,eL a=some b->¬H b):Hp m0 m (.rd a cap w l es::(l0++[.gen (bu H)])) :=
 ⟨h.ext,fun p hp=>by
  rcases Pp.1 hp with rfl|hp
  exact hr
  exact h.ok p hp,PC.2 ⟨fun q hq=>⟨fun b a=>a.elim (fun a=>by cases a.1) fun a=>a.elim,fun b h1 h2=>by
  rcases PX.1 hq with hq|hq
  exact Pz h1 (Pc.Bg (Pr.1 ho q hq) b)
  rw[PM.1 hq] at h1;rcases h1 with h1|h1
  cases h1.1
  exact ha b (h2.elim id fun h=>h.elim) h1⟩,h.apart⟩⟩
def wZ(l:SB Pc):Bool:=l.all Pc.bound
def fc{α:Type}{V:α->Rx}{N:α->SB Pc}{f:Rz}{g:SJ}{ars:SD Rz}{ts:SD Ry}{args:SB Rx}(hf:ev E fs f=some (.func (.func g) #[] #[]))(ha:gK E fs ars.toList=some args)(hc:∀m,Hp m0 m ps->aK E g args m (fun v m'=>∃x,v=V x/\Hp m m' (N x++[.gen (bu (owns ps))])))(ho:∀x,wZ (N x)=true):Ox E m0 fs ps (.call ⟨.value f,ars,ts⟩) V (fun x=>N x++ps) :=
 pB hf ha fun m hm=>by
  simp only[P7,PU];exact(hc m hm).mono fun v m' ⟨x,e,h⟩=>⟨x,e,hm.E2 h fun p hp=>Pr.1 (ho x) p hp⟩
def fm{α:Type}{V:α->Rx}{N:α->SB Pc}{f:Rz}{g:SJ}{ars:SD Rz}{ts:SD Ry}{args:SB Rx}(hf:ev E fs f=some (.func (.func g) #[] #[]))(ha:gK E fs ars.toList=some args)(hc:∀m,Hp m0 m ps->aK E g args m (fun v m'=>∃x,v=V x/\Hp m m' (N x++[.gen (bu (owns ps))])))(ho:∀x,wZ (N x)=true):Oc E m0 fs ps (.call ⟨.value f,ars,ts⟩) V (fun x=>N x++ps) :=
 fun t m hfr hm hwl=>⟨fun b hb=>(by simp[aQ] at hb),fun K hK=>by
  show jW E (aB E t f) (bA E t ars.toList) m _
  rw[hfr.ev hf,hfr.gK ha,rR];refine(hc m hm).mono fun v m' ⟨x,e,h⟩=>?_;rw[e];refine hK x m' (hm.E2 h fun p hp=>Pr.1 (ho x) p hp) ?_;have:=h.ext.wl;omega⟩
end
section
variable{E:Env}{n:Nat}{m0:Sr}{fs:Fs}{ps:SB Pc}{ops:SD Oper}{os:SB Oper}{dr:Bool}
def Wo.de{K:Tm->Sr->Prop}{α:Type}{f:α->SB Rx}{k w l cap:Nat}{a:Rv}{xs:SB α}(hp:pk ps k=some (.rd a cap w l (xs.map f)))(h:l=xs.length->Wo dr E n ops K os m0 fs ps):Wo dr E n ops K os m0 fs ps:=by
 have key:∀m,Hp m0 m ps->l=xs.length:=fun m hm=>DC hm hp;cases dr with
 | false=>exact fun t m hf hm=>h (key m hm) t m hf hm
 | true=>exact fun t m w hf hm hw=>h (key m hm) t m w hf hm hw
def Wn.de{prs:SB (Nat×Nat)}{K:Tm->Sr->Prop}{ss:SB Nk}{α:Type}{f:α->SB Rx}{k w l cap:Nat}{a:Rv}{xs:SB α}(hp:pk ps k=some (.rd a cap w l (xs.map f)))(h:l=xs.length->Wn E n ops prs K os ss m0 fs ps):Wn E n ops prs K os ss m0 fs ps :=
 fun t m ns hf hm hn=>h (DC hm hp) t m ns hf hm hn
end
section
variable{E:Env}{m0:Sr}{fs:Fs}{ps:SB Pc}{ty:Ry}
def MC{α:Type}{f:α->SB Rx}{elem ty2:Ry}{w k c0 l l2:Nat}{a a0:Rv}{xs ys:SB α}{ars:SD Rz}(he:Enc f w)(ht:SlT E.P ty elem w)(h2:∃e0,E.P.underlying ty2=some (.slice e0))(ha:gK E fs ars.toList=some [.slice a l l,.slice a0 l2 c0])(hp:pk ps k=some (.sl a w l (xs.map f)))(hr:∀m,Hp m0 m ps->Rd m a0 c0 w l2 (ys.map f))(hl:lim (xs++ys).length=true) :
  Ox E m0 fs ps (.call ⟨.builtin .append,ars,#[ty,ty2]⟩) (fun a':Rv=>.slice a' (xs++ys).length (xs++ys).length) (fun a'=>cf ps k (.sl a' w (xs++ys).length ((xs++ys).map f))):=fun t m hf hm=>⟨fun b hb=>(by simp[aQ] at hb),fun K hK=>by
 have h0:l=xs.length:=by
  have:=hm.get hp;rcases this with⟨h3,h0,_⟩|⟨b,tg,_,h0⟩
  rw[h3,List.map_eq_nil_iff.1 h0]; rfl
  have:=h0.2.2.2.1; rw[Pk] at this; exact this.symm
 have h4:l2=ys.length:=by
  have:=(hr m hm).1; rw[Pk] at this; exact this.symm
 have e0:l+l2=(xs++ys).length:=by rw[h0,h4,Pm]
 obtain⟨a',m',h5,h1⟩:=oT (n:=l) ht h2 hm hp (hr m hm) (he.pV ys) (he.fw ys) (by rw[e0]; exact hl)
 have:bf E.P .append #[ty,ty2] [.slice a l l,.slice a0 l2 c0] m=some (.slice a' (l+l2) (l+l2),m'):=h5;rw[Go.Ab.dL (hf.gK ha) this];have e1:xs.map f++ys.map f=(xs++ys).map f:=Rl.symm;rw[e1,e0] at h1;rw[e0];exact hK a' m' h1⟩
end
section
def mW(c:Rx)(cs:SB Rx)(o:Nat)(vs:SB Rx):aT (c::cs) (o+1) vs=c::aT cs o vs:=by cases vs<;>rfl
def fe:∀(cs:SB Rx) (o:Nat),aT cs o []=cs
 | [],0=>rfl
 | _::_,0=>rfl
 | [],_+1=>rfl
 | c::cs,o+1=>by rw[mW,fe cs o]
def pf{f:Nat->SB Rx}{v:Nat->Rx}(hf:∀x,f x=[v x]):∀{ys xs zs:SB Nat},ys++xs.drop ys.length=zs->ys.length<=xs.length->aT (xs.map f).flatten 0 (ys.map f).flatten=(zs.map f).flatten
 | [],xs,zs,h,_=>by
  rw[P7,QU,List.drop_zero] at h;rw[h];exact fe _ 0
 | y::ys,[],zs,_,hl=>by simp at hl
 | y::ys,x::xs,zs,h,hl=>by
  have ih:=pf hf (ys:=ys) (xs:=xs) (zs:=ys++xs.drop ys.length) rfl (by simpa using hl)
  subst h;simp only[PS,P1,hf,Qb,P7,PD,List.drop_succ_cons] at ih ⊢
  show v y::aT _ 0 _=_
  rw[ih]
def Nf{f:Nat->SB Rx}{v:Nat->Rx}(hf:∀x,f x=[v x]){c:Rx}{ys xs zs:SB Nat}(h:ys++xs.drop ys.length=zs)(hl:ys.length<=xs.length):aT (c::(xs.map f).flatten) 1 (ys.map f).flatten=c::(zs.map f).flatten:=by
 rw[show(1:Nat)=0+1 from rfl,mW,pf hf h hl]
variable{E:Env}{m0:Sr}{fs:Fs}{ps:SB Pc}{ty:Ry}
def Mf{f:Nat->SB Rx}{elem ty2:Ry}{k b o q c0 l2:Nat}{a0:Rv}{cs cs':SB Rx}{ys:SB Nat}{ars:SD Rz}(he:Enc f 1)(ht:SlT E.P ty elem 1)(ha:gK E fs ars.toList=some [.slice (some ⟨b,o,none⟩) q q,.slice a0 l2 c0])(hp:pk ps k=some (.obj b (.cells cs .own)))(hr:∀m,Hp m0 m ps->Rd m a0 c0 1 l2 (ys.map f))(hq:decide (ys.length<=q)=true)(ho:Nat.ble (o+q) cs.length=true)(hs:aT cs o (ys.map f).flatten=cs') :
  Od E m0 fs ps (.call ⟨.builtin .copy,ars,#[ty,ty2]⟩) (.int .i64 (ys.length:Int)) (cf ps k (.obj b (.cells cs' .own))):=fun t m hf hm=>⟨fun b hb=>(by simp[aQ] at hb),fun K hK=>by
 have h0:l2=ys.length:=by
  have:=(hr m hm).1; rw[Pk] at this; exact this.symm
 have hq':=of_decide_eq_true hq;have ho':=Pt ho;have hc:=(hr m hm).cells;have hmin:min l2 q=l2:=by omega
 have hone:bg (ys.map f).flatten=true:=by
  unfold bg;rw[Pr];intro x hx;obtain⟨e,h3,h4⟩:=List.mem_flatten.1 hx;exact Pr.1 (he.fw ys e h3) x h4
 have hlen:(ys.map f).flatten.length=ys.length:=by
  clear hs hr hq hK h0 hq' hc hone
  induction ys with
  | nil=>rfl
  | cons x l ih=>rw[PS,P1,Pm,ih,he.1 x,PD]; omega
 have hg:=(hm.get hp).2.2;have hsrc:cO (aE E.P elem) (.slice a0 l2 c0) (min l2 q) m=some (ys.map f).flatten:=by rw[ht.size,hmin]; exact hc
 cases hy:ys with
 | nil =>
  subst hy;have e0:cs'=cs:=by rw[<-hs]; exact fe cs o
  have h1:min l2 q=0:=by rw[hmin,h0]; rfl
  have:bf E.P .copy #[ty,ty2] [.slice (some ⟨b,o,none⟩) q q,.slice a0 l2 c0] m=some (.int .i64 0,m):=by
   show rC E.P ty _ _ m=_
   unfold rC;rw[h1] at hsrc;simp only[ht.und,ht.known,PE,Pu,if_false,h1,hsrc,hone]
  rw[Go.Ab.dL (hf.gK ha) this];exact hK m (by rw[e0]; exact hm.put hp rfl rfl rfl (Pd _) hm.ext (hm.get hp) fun _ _ _=>rfl)
 | cons y y0 =>
  have h2:min l2 q=y0.length+1:=by rw[hmin,h0,hy]; rfl
  have hst:m.cE b o (ys.map f).flatten=some (m.set b (.cells cs' .own)):=by
   have hne:(ys.map f).flatten≠[]:=fun e=>by rw[e,hy] at hlen; cases hlen
   unfold Sr.cE
   split
   rename_i e; exact Pz e hne
   rw[hg];simp only[hlen];rw[RF,hs]
  have:bf E.P .copy #[ty,ty2] [.slice (some ⟨b,o,none⟩) q q,.slice a0 l2 c0] m=some (.int .i64 (ys.length:Int),m.set b (.cells cs' .own)):=by
   show rC E.P ty _ _ m=_
   unfold rC;rw[h2] at hsrc;simp only[ht.und,ht.known,PE,Pu,if_false,h2,hsrc,hone,hst,Pj];rw[hy]; rfl
  rw[Go.Ab.dL (hf.gK ha) this];have hw:Hp m0 (m.set b (.cells cs' .own)) (cf ps k (.obj b (.cells cs' .own))):=hm.write (o':=.cells cs' .own) (p':=.obj b (.cells cs' .own)) hp rfl rfl rfl rfl ⟨(hm.get hp).1,by rw[Sr.next_set]; exact(hm.get hp).2.1,by rw[Sr.bL,Ph rfl]⟩
  exact hK _ hw⟩
end
end Go.Ab.W
section
open Go Go.Ab Go.Ab.W
abbrev Se:=@Wo.de
abbrev Sh:=@Wn.de
end
end
namespace Go.Ab.W
section
open Go Go.Ab
section
variable{α:Type}
end
section
variable{α:Type}{E:Env}{m0 m:Sr}{fs:Fs}{ps:SB Pc}{f:α->SB Rx}{w:Nat}
variable{x:Rz}{ty:Ry}
variable{N:Nat}{ops:SD Oper}{os:SB Oper}{dr:Bool}
end
attribute [local irreducible] Tm.at Trie.set Trie.get Sr.get Sr.set Sr.alloc Sr.ww Sr.kill
def CH:∀(l:SB Pc) (k:Nat) (p q:Pc),cf (cf l k p) k q=cf l k q:=by
 intro l
 induction l with
 | nil=>intro k p q; rfl
 | cons a l ih =>
  intro k p q;cases k with
  | zero=>rfl
  | succ k=>rw[dV,dV,dV,ih]
def Hd:∀{l:SB Pc} {k:Nat} {p:Pc} (q:Pc),pk l k=some p->pk (cf l k q) k=some q:=by
 intro l
 induction l with
 | nil=>intro k p q h; simp[pk] at h
 | cons a l ih =>
  intro k p q h;cases k with
  | zero=>rfl
  | succ k=>rw[dV,ey]; rw[ey] at h; exact ih q h
section
variable{α:Type}{E:Env}{m0 m:Sr}{fs:Fs}{ps:SB Pc}{f:α->SB Rx}{w:Nat}{ty:Ry}
def mM{β:Type}{V:β->Rx}{N:β->SB Pc}{x:Rz}{b off:Nat}(hx:ev E fs x=some (ptr b off))(hb:∀m,Hp m0 m ps->b<m.next)(h:∀m,Hp m0 m ps->∃z,dB E.P ty (ptr b off) m=some (V z)/\Hp m0 m (N z)):Ox E m0 fs ps (.load ty x) V N :=
 fun t m hf hm=>⟨fun b' hb'=>by
  have hx':aB E t x=some (ptr b off):=hf.ev hx;simp only[aQ,hx',PI] at hb';cases hb'; exact hb m hm,fun K hK=>by
  obtain⟨z,h1,h2⟩:=h m hm;rw[Go.Ab.Gb (hf.ev hx) h1]; exact hK z m h2⟩
def MV{elem:Ry}{len:Nat}{parts:SD (Nat×Rz)}{vs:SB (Nat×Rx)}{es:Ru}(ht:SlT E.P ty elem w)(h:D5 E fs parts.toList=some vs)(hf:Nj E.P elem w len vs=some es.flatten)(hl:Nat.beq es.length len=true)(hw:HD w es=true) :
  Ox E m0 fs ps (.buildSlice ty len parts) (fun b=>.slice (some ⟨b,0,none⟩) len len) (fun b=>.obj b (.cells es.flatten .own)::ps):=fun t m hfr hm=>⟨(fS ht h hf hl hw t m hfr hm).1,fun K hK=>(fS ht h hf hl hw t m hfr hm).2 K fun b m' hm'=>hK b m' ⟨hm'.ext,fun p hp=>by
  have h0:=hm'.ok _ (P5 ..);rcases Pp.1 hp with rfl|hp
  exact⟨h0.1,h0.2.1,h0.2.2.1⟩
  exact hm'.ok p (P0 _ hp),PC.2 ⟨fun r hr=>(PC.1 hm'.apart).1 r hr,(PC.1 hm'.apart).2⟩⟩⟩
def ae.OY{k b n:Nat}{cs:SB Rx}{es:Ru}(hp:pk ps k=some (.obj b (.cells cs .own)))(hcs:es.flatten=cs)(hn:Nat.beq es.length n=true)(hw:HD w es=true)(h0:Nat.blt 0 w=true):ae m0 ps (cf ps k (.sl (some ⟨b,0,none⟩) w n es)):=fun m h=>by
 have hk:=h.get hp;exact h.put hp rfl rfl rfl (Pd _) h.ext (.inr ⟨b,.own,rfl,hk.1,hk.2.1,by rw[hcs]; exact hk.2.2,Py hn,Az hw,.inl rfl,by rwa[QB] at h0⟩) fun _ _ _=>rfl
end
section
variable{α:Type}{E:Env}{n:Nat}{m0 m:Sr}{fs:Fs}{ps:SB Pc}{f:α->SB Rx}{w:Nat}{ops:SD Oper}{os:SB Oper}{prs:SB (Nat×Nat)}{K:Tm->Sr->Prop}{ss:SB Nk}
end
def M0(m:Sr)(RW:Rw)(rb:Nat)(row:SB (Bool×SB Nat)):Prop :=
 rb<m.next/\∃vs,m.get rb=some (.cells vs .own)/\vs.length=row.length*2/\∀(j:Nat) (x:Bool×SB Nat),row[j]? = some x->vs[j*2]? = some (.bool x.1)/\∃a c,vs[j*2+1]? = some (.slice a x.2.length c)/\Rd m a c 1 x.2.length (x.2.map (eN .u64))/\∀b,eL a=some b->RW b
def Og(ρ:Nat->Nat)(L:SB (SB (Bool×SB Nat)))(x:Nat):Prop:=∃i row,L[i]? = some row/\row≠[]/\x=ρ i
structure MatAt(m:Sr)(b n:Nat)(ρ:Nat->Nat)(RW:Rw)(L:SB (SB (Bool×SB Nat))):Prop where
 lt:b<m.next
 len:n=L.length
 cells:∃cs,m.get b=some (.cells cs .own)/\cs.length=n/\∀(i:Nat) (row:SB (Bool×SB Nat)),L[i]? = some row->(row=[]/\cs[i]? = some (.slice none 0 0))\/(row≠[]/\cs[i]? = some (.slice (some ⟨ρ i,0,none⟩) row.length row.length))
 rows:∀(i:Nat) (row:SB (Bool×SB Nat)),L[i]? = some row->row≠[]->M0 m RW (ρ i) row
 rw:∀x,RW x->x<m.next/\x≠b/\¬Og ρ L x
 out:∀(i:Nat) (row:SB (Bool×SB Nat)),L[i]? = some row->row≠[]->ρ i≠b
 inj:∀(i j:Nat) (row row':SB (Bool×SB Nat)),L[i]? = some row->L[j]? = some row'->row≠[]->row'≠[]->ρ i=ρ j->i=j
section
variable{E:Env}{m0 m:Sr}{fs:Fs}{ps:SB Pc}{x y:Rz}{ty:Ry}{b n:Nat}{ρ:Nat->Nat}{RW:Nat->Prop}{L:SB (SB (Bool×SB Nat))}
end
section
variable{E:Env}{m0 m:Sr}{fs:Fs}{ps:SB Pc}{x y z:Rz}{ty:Ry}{H:Nat->Prop}{M:SB (SA Nat×SB (Int×Bool))}
end
end
section
open Go Go.Ab
section
variable{P:RA}{ty el:Ry}
def gp{eq:Ry->Rx->Rx->SA Bool}{xs ys:SD Rx}{t off:Nat}{rest:SB (Ry×Nat)}{x y:Rx}{b r:Bool}(h1:eQ P t xs off=some x)(h2:eQ P t ys off=some y)(h3:eq t x y=some b)(h4:gV eq P xs ys rest=some r):gV eq P xs ys ((t,off)::rest)=some (b&&r):=by
 unfold gV;rw[h1,h2]
 dsimp only
 rw[h3];cases b with
 | true=>exact h4
 | false=>rfl
def pj{k:IntKind}(he:P.underlying el=some (.int k))(d:Nat)(x y:Nat):iY P (d+1) el (.int k ((x:Nat):Int)) (.int k ((y:Nat):Int))=some (decide (x=y)):=by
 simp only[iY,he,if_true]
 congr 1
 rw[Bool.eq_iff_iff];simp only[beq_iff_eq,Pv];omega
def J6{k:IntKind}(hu:P.underlying ty=some (.array 8 el))(hk:known P el=true)(hs:aE P el=1)(ha:dK P el=false)(he:P.underlying el=some (.int k))(d:Nat)(x0 y0 x1 y1 x2 y2 x3 y3 x4 y4 x5 y5 x6 y6 x7 y7:Nat) :
  iY P (d+2) ty (.agg #[.int k ((x0:Nat):Int),.int k ((x1:Nat):Int),.int k ((x2:Nat):Int),.int k ((x3:Nat):Int),.int k ((x4:Nat):Int),.int k ((x5:Nat):Int),.int k ((x6:Nat):Int),.int k ((x7:Nat):Int)])
   (.agg #[.int k ((y0:Nat):Int),.int k ((y1:Nat):Int),.int k ((y2:Nat):Int),.int k ((y3:Nat):Int),.int k ((y4:Nat):Int),.int k ((y5:Nat):Int),.int k ((y6:Nat):Int),.int k ((y7:Nat):Int)]) =
   some (decide (x0=y0)&&decide (x1=y1)&&decide (x2=y2)&&decide (x3=y3)&&decide (x4=y4)&&decide (x5=y5)&&decide (x6=y6)&&decide (x7=y7)):=by
 have hp:∀(cs:SD Rx) (i:Nat) (v:Rx),cs[i]? = some v->eQ P el cs i=some v:=fun cs i v h=>by
  unfold eQ;rw[hk,ha,h]; rfl
 show iY P ((d+1)+1) ty _ _=_
 unfold iY;simp only[hu,hk,if_true,hs]
 show gV _ P _ _ [(el,0),(el,1),(el,2),(el,3),(el,4),(el,5),(el,6),(el,7)]=_
 simp only[Bool.and_assoc];rw[gp (hp _ 0 _ rfl) (hp _ 0 _ rfl) (pj he d x0 y0) (gp (hp _ 1 _ rfl) (hp _ 1 _ rfl) (pj he d x1 y1) (gp (hp _ 2 _ rfl) (hp _ 2 _ rfl) (pj he d x2 y2) (gp (hp _ 3 _ rfl) (hp _ 3 _ rfl) (pj he d x3 y3) (gp (hp _ 4 _ rfl) (hp _ 4 _ rfl) (pj he d x4 y4) (gp (hp _ 5 _ rfl) (hp _ 5 _ rfl) (pj he d x5 y5) (gp (hp _ 6 _ rfl) (hp _ 6 _ rfl) (pj he d x6 y6) (gp (hp _ 7 _ rfl) (hp _ 7 _ rfl) (pj he d x7 y7) rfl)))))))];simp only[Bool.and_true]
def L9{k:IntKind}(hu:P.underlying ty=some (.array 8 el))(hk:known P el=true)(hs:aE P el=1)(ha:dK P el=false)(he:P.underlying el=some (.int k))(x0 y0 x1 y1 x2 y2 x3 y3 x4 y4 x5 y5 x6 y6 x7 y7:Nat) :
  iY P Op.maxDepth ty (.agg #[.int k ((x0:Nat):Int),.int k ((x1:Nat):Int),.int k ((x2:Nat):Int),.int k ((x3:Nat):Int),.int k ((x4:Nat):Int),.int k ((x5:Nat):Int),.int k ((x6:Nat):Int),.int k ((x7:Nat):Int)])
   (.agg #[.int k ((y0:Nat):Int),.int k ((y1:Nat):Int),.int k ((y2:Nat):Int),.int k ((y3:Nat):Int),.int k ((y4:Nat):Int),.int k ((y5:Nat):Int),.int k ((y6:Nat):Int),.int k ((y7:Nat):Int)]) =
   some (decide (x0=y0)&&decide (x1=y1)&&decide (x2=y2)&&decide (x3=y3)&&decide (x4=y4)&&decide (x5=y5)&&decide (x6=y6)&&decide (x7=y7)) :=
 J6 hu hk hs ha he 9998 x0 y0 x1 y1 x2 y2 x3 y3 x4 y4 x5 y5 x6 y6 x7 y7
end
def Pa{α:Type}:SB α->SA (α×α×α)
 | [a,b,c]=>some (a,b,c)
 | _=>none
section
variable{P:RA}{ty:Ry}
def CC(P:RA)(ty u v:Ry)(k l:IntKind):Bool:=match P.underlying ty with
 | some (.struct fs) => !(P.stoodInHeld ty || fs.any (·.name == "_")) && (fs.toList.map (fun f => (f.type, f.offset)) == [(u, 0), (v, 1)]) && known P u && known P v && (match P.underlying u, P.underlying v with | some (.int k'), some (.int l') => k' == k && l' == l | _, _ => false)
 | _=>false
def tT {u v : Ry} {k l : IntKind} (h : CC P ty u v k l = true) : ∃ fs, P.underlying ty = some (.struct fs) /\ (P.stoodInHeld ty || fs.any (·.name == "_")) = false /\ fs.toList.map (fun f => (f.type, f.offset)) = [(u, 0), (v, 1)] /\
  known P u=true/\known P v=true/\P.underlying u=some (.int k)/\P.underlying v=some (.int l):=by
 unfold CC at h
 split at h
 rename_i fs hf;simp only[Pe,Qe,beq_iff_eq] at h;obtain⟨⟨⟨⟨h1,h2⟩,h3⟩,h4⟩,h5⟩:=h
 split at h5
 rename_i k' l' e1 e2;simp only[Pe,beq_iff_eq] at h5;obtain⟨rfl,rfl⟩:=h5;exact⟨fs,hf,h1,h2,h3,h4,e1,e2⟩
 cases h5
 cases h
def Jj{el:Ry}{k:IntKind}(he:P.underlying el=some (.int k))(d:Nat)(x y:Int):iY P (d+1) el (.int k x) (.int k y)=some (decide (x=y)):=by
 simp only[iY,he,if_true]
 rfl
def Dd{u v:Ry}{k l:IntKind}(h:CC P ty u v k l=true)(a c b d:Int) :
  iY P Op.maxDepth ty (.agg #[.int k a,.int l b]) (.agg #[.int k c,.int l d])=some (decide (a=c)&&decide (b=d)):=by
 obtain⟨fs,hf,h1,h2,h3,h4,h5,h6⟩:=tT h;have a1:dK P u=false:=by simp only[dK,h5]
 have a2:dK P v=false:=by simp only[dK,h6]
 have p0:∀x y:Rx,eQ P u #[x,y] 0=some x:=fun x y=>by simp only[eQ,h3,a1]; rfl
 have p1:∀x y:Rx,eQ P v #[x,y] 1=some y:=fun x y=>by simp only[eQ,h4,a2]; rfl
 show iY P (9999+1) ty _ _=_
 unfold iY;simp only[hf,h1,Pu,if_false,h2];rw[gp (p0 _ _) (p0 _ _) (Jj h5 9998 a c) (gp (p1 _ _) (p1 _ _) (Jj h6 9998 b d) rfl)];simp only[Bool.and_true]
def MS{u v:Ry}{k l:IntKind}(h:CC P ty u v k l=true):KeyE P ty (fun p:Int×Int=>.agg #[.int k p.1,.int l p.2]) where
 eq:=fun a b=>by
  rw[Dd h]
  congr 1
  by_cases h:a=b
  subst h; simp
  have:¬(a.1=b.1/\a.2=b.2):=fun⟨h1,h2⟩=>h (QY h1 h2);rw[PL h,<-Qp,PL this]
 ok:=fun a=>by
  obtain⟨fs,hf,h1,h2,h3,h4,h5,h6⟩:=tT h;have k1:dC P u=true:=by simp only[dC,h5]
  have k2:dC P v=true:=by simp only[dC,h6]
  have e:fs.toList.all (fun f=>dC P f.type&&known P f.type&&decide (f.offset<(#[Value.int k a.1,.int l a.2]:SD Rx).size)) =
    (fs.toList.map fun f=>(f.type,f.offset)).all fun x=>dC P x.1&&known P x.1&&decide (x.2<(#[Value.int k a.1,.int l a.2]:SD Rx).size):=by rw[List.all_map]; rfl
  simp only[gP,hf];rw[e,h2];simp only[Qq,List.all_nil,k1,k2,h3,h4]
  rfl
 plain:=fun a=>rfl
 same:=fun a=>by simp[Instr.sameBits]
def K7{k:IntKind}(a b c d:Int){ts:SD Ry}(m:Sr):bf P .max ts [.int k a,.int k b,.int k c,.int k d] m=some (.int k (ma (ma (ma a b) c) d),m):=rfl
end
section
variable{E:Env}{n:Nat}{m0:Sr}{fs:Fs}{ps:SB Pc}{x:Rz}{v:Rx}{ty:Ry}
end
class TyC (P:RA) (ty:Ry) (ag:outParam Bool) (sz:outParam Nat):Prop where
 t:TyI P ty ag sz
class FaC (P:RA) (ty:Ry) (f:Nat) (off:outParam Nat):Prop where
 t:∀b o:Nat,aM P ty (ptr b o) f=some (ptr b (o+off))
class SlC (P:RA) (ty:Ry) (el:outParam Ry) (w:outParam Nat):Prop where
 t:SlT P ty el w
class ArC (P:RA) (ty:Ry) (el:outParam Ry) (len w:outParam Nat):Prop where
 t:ArT P ty el len w
class UsC (P:RA) (ty:Ry) (el:outParam Ry):Prop where
 t:P.underlying ty=some (.slice el)
section
variable{E:Env}{n:Nat}{m0:Sr}{fs:Fs}{ps ps':SB Pc}{ops:SD Oper}{os:SB Oper}{K:Tm->Sr->Prop}{dr:Bool}
variable{ty:Ry}{p:String}{af:SD Edge}{d:SA Nat}{o:Op}{g:SA (Nat×Bool)}{v:Rx}
end
section
variable{k:IntKind}{P:RA}{ty:Ry}
end
section
variable{E:Env}{n:Nat}{m0:Sr}{fs:Fs}{ps ps':SB Pc}{ops:SD Oper}{os:SB Oper}{K:Tm->Sr->Prop}{dr:Bool}
variable{ty ty' oty:Ry}{p:String}{af:SD Edge}{d:Nat}{dd:SA Nat}{o:Op}{a b r v:Rx}{x y c:Rz}
def OA(ps:SB Pc)(q q':Pc)(ps':SB Pc):Prop:=∃k,pk ps k=some q/\cf ps k q'=ps'
end
structure Bx(Q:Prop):Prop where
 v:Q
section
variable{E:Env}{n:Nat}{m0:Sr}{fs:Fs}{ps:SB Pc}{fn:SJ}{ro:SA Nat}{c:Code}{Q:Ss->Tm->Sr->Prop}
def Wl(E:Env)(n:Nat)(fn:SJ)(ro:SA Nat)(c:Code)(Q:Ss->Tm->Sr->Prop)(m0:Sr)(fs:Fs)(ps:SB Pc):Prop:=∀t m,Fr t fs->Hp m0 m ps->pz E n fn ro c Q t m
def Wk.Jf(h:Wl E n fn ro c Q m0 fs ps):Wk E n fn ro (.loop c) Q m0 fs ps:=fun t m hf hm=>.loop (h t m hf hm)
def Wl.round(h:Wk E n fn ro c (o9 (pz E n fn ro c Q) Q) m0 fs ps):Wl E n fn ro c Q m0 fs ps:=fun t m hf hm=>.round (h t m hf hm)
def At.tl(h:Wl E n fn ro c Q m0 fs ps):At (o9 (pz E n fn ro c Q) Q) .normal m0 fs ps:=h
end
section
variable{E:Env}{n:Nat}{m0:Sr}{fs fs':Fs}{ps ps':SB Pc}{ops:SD Oper}{os:SB Oper}{K:Tm->Sr->Prop}{dr:Bool}{fn:SJ}{ro:SA Nat}{c:Code}{Q:Ss->Tm->Sr->Prop}
variable{ty oty:Ry}{p:String}{af:SD Edge}{d:Nat}{g:SA (Nat×Bool)}{x:Rz}{v:Rx}
def ap{ρ:Type}{δ:ρ->Type}(X:(r:ρ)->δ r->En)(r:ρ):δ r->En:=X r
def lo{σ ρ γ:Type}{δ:ρ->Type}{body:σ->SA (σ⊕ρ)}{X:(r:ρ)->δ r->En}{N:Nat}{s:σ}{r:ρ}(h:bR body N s=some r)(g:γ)(ks:SB Nat)(I:σ->γ->En)
  (hb:∀s g r,body s=some r->Wk E n fn ro c (match r with|.inl s'=>qH m0 (I s')|.inr r=>qH m0 (X r)) m0 (I s g).fs (I s g).ps)
  (hs:sub fs (I s g).fs:=by repeat first|exact sn|refine sc rfl ?_) (hd:nS ks=true:=by rfl) (hp:ab ps ks=some (I s g).ps:=by rfl)
  (hn:∀s g,(I s g).e=.normal:=by exact fun _ _=>rfl) (hx:∀r g,(X r g).e≠.normal:=by intro r d; first |(intro e; cases e; done) |(rcases r with r|r<;>first |(intro e; cases e; done) |(rcases r with r|r<;>first |(intro e; cases e; done) |(rcases r with r|r<;>intro e<;>cases e)))):Wk E n fn ro (.loop c) (qH m0 (ap X r)) m0 fs ps:=.cz hs (ae.ab ks hd hp) (R2 body I X hb hn hx N s r h g)
variable{m:Sr}{a:Rv}{cap w l:Nat}{es:Ru}
variable{α:Type}{V:α->Rx}{N:α->SB Pc}{R:α->Pc}{f:Rz}{q:SJ}{ars:SD Rz}{ts:SD Ry}{args:SB Rx}{prs:SB (Nat×Nat)}{ss:SB Nk}
def wc(hg:uc ops fs g true)(hc:∀m,Hp m0 m ps->aK E q args m (fun v m'=>∃x,v=V x/\Hp m m' (N x)))(k:∀x,Wo dr E n ops K os m0 ((d,V x)::fs) (N x++ps))(hf:ev E fs f=some (.func (.func q) #[] #[]):=by rfl)(ha:gK E fs ars.toList=some args:=by rfl)(ho:∀x,ux (N x)=true:=by exact fun _=>rfl)(hd:Nat.blt d n=true:=by rfl):Wo dr E n ops K (⟨some d,.call ⟨.value f,ars,ts⟩,ty,p,af,g⟩::os) m0 fs ps:=RS (bM hf ha hc ho) hg hd k
def nc(hg:uc ops fs g true)(hc:∀m,Hp m0 m ps->aK E q args m (fun v m'=>∃x,v=V x/\Hp m m' (N x)))(k:∀x,Wn E n ops prs K os (.call::ss) m0 ((d,V x)::fs) (N x++ps))(hf:ev E fs f=some (.func (.func q) #[] #[]):=by rfl)(ha:gK E fs ars.toList=some args:=by rfl)(ho:∀x,ux (N x)=true:=by exact fun _=>rfl)(hd:Nat.blt d n=true:=by rfl):Wn E n ops prs K (⟨some d,.call ⟨.value f,ars,ts⟩,ty,p,af,g⟩::os) ss m0 fs ps:=Sc (eC hf ha hc ho) hg hd k
def yw{P:RA}{b n j k w:Nat}{es:Ru}{tg:Tag}{e:SB Rx}{v:Rx}(hm:Hp m0 m ps)(ht:TyI P ty false 1)(hp:pk ps k=some (.arr b w n es tg))(he:es[j]? = some e)(hv:B1 false 1 e 0=some v)(hs:Cq false 1 0 w=true):dB P ty (ptr b (j*w+0)) m=some v:=by
 have hs:=pT hs;have:=kT (P:=P) ht (Own.Ky (hm.get hp)) he hv hs.1 hs.2;rwa[PV] at this
end
end
end Go.Ab.W
namespace Go.Proofs.YthmekkhpddehjaaGreat
section
open Go Go.Ab Go.Ab.W
def Ou(_:Nat):SA Bool:=some true
def J3(n:Nat)(r:Bool)(hF:Ou n=some r)(m:Sr):aK aG 18 [] m (fun v m'=>∃x:SC,v=.bool r/\Hp m m' []):=by
 cases hF;exact aK.cM (p:=⟨mE⟩) rfl (v:=.bool true) (m':=m) rfl ⟨(),rfl,RZ m⟩
def CT(_:Nat)(x y c:Nat):SA (Nat×Nat):=gd (decide (c<=1)) (some ((x+y+c)%18446744073709551616,(x+y+c)/18446744073709551616))
def GW(_:Nat)(x y c:Nat):SA (Nat×Nat):=gd (decide (c<=1)) (some ((x+18446744073709551616-y-c)%18446744073709551616,if x<y+c then 1 else 0))
def ta{V:Nat->Nat->Nat->Rx}{x y c:Nat}(hc:c<=1)(m:Sr):er V [.int .u64 ((x:Nat):Int),.int .u64 ((y:Nat):Int),.int .u64 ((c:Nat):Int)] m=some (V x y c,m):=by
 show(if Nat.ble c 1 then some (V x y c,m) else none)=_
 rw[PG hc]; rfl
def vC(n:Nat)(x y c:Nat)(r:Nat×Nat)(hF:CT n x y c=some r)(m:Sr) :
  aK aG 144 [.int .u64 ((x:Nat):Int),.int .u64 ((y:Nat):Int),.int .u64 ((c:Nat):Int)] m (fun v m'=>∃_:SC,v=.tuple #[.int .u64 ((r.1:Nat):Int),.int .u64 ((r.2:Nat):Int)]/\Hp m m' []):=by
 obtain⟨hc,hF⟩:=al hF;have hr:=Pf hF;subst hr;exact aK.cM (p:=⟨er xZ⟩) rfl (ta (of_decide_eq_true hc) m) ⟨(),rfl,.start m⟩
def Be(n:Nat)(x y c:Nat)(r:Nat×Nat)(hF:GW n x y c=some r)(m:Sr) :
  aK aG 145 [.int .u64 ((x:Nat):Int),.int .u64 ((y:Nat):Int),.int .u64 ((c:Nat):Int)] m (fun v m'=>∃_:SC,v=.tuple #[.int .u64 ((r.1:Nat):Int),.int .u64 ((r.2:Nat):Int)]/\Hp m m' []):=by
 obtain⟨hc,hF⟩:=al hF;have hr:=Pf hF;subst hr;exact aK.cM (p:=⟨er uv⟩) rfl (ta (of_decide_eq_true hc) m) ⟨(),by
  show uv x y c=_
  unfold uv
  split<;>rfl,.start m⟩
set_option maxRecDepth 10000
def LI(n:Nat)(x1:Int)(x2:Int):SA Bool :=
ob (some (ma (ma (ma x1 (RC (0-x1))) x2) (RC (0-x2)))) fun y4 =>
br (decide (1000000<y4)) (
some true) (
some (decide (mi x1 x2 < -1000000)))
def yY(n:Nat)(x1:Int):SA Bool :=
some (!decide (x1=x1))
def I0(n:Nat)(x1:Int)(x2:Int):SA Int :=
ob (yY n x1) fun r4 =>
ob (yY n x2) fun r6 =>
br (r4) (
br (r6) (
some 0) (
some (-1))) (
br (r6) (
some 1) (
br (decide (x1<x2)) (
some (-1)) (
br (decide (x2<x1)) (
some 1) (
some 0))))
def C5(n:Nat)(x1:Int)(x2:Int)(x3:Int)(x4:Int)(x5:Int)(x6:Int):SA Int :=
ob (some (RC ((RC (x3-x1))*(RC (x6-x2))))) fun y10 =>
ob (some (RC ((RC (x4-x2))*(RC (x5-x1))))) fun y12 =>
ob (I0 n y10 y12) fun r15 =>
some r15
def mU(n:Nat)(l1:SB (Int)):Int->SA (Int⊕Int⊕SC):=fun v6 =>
br (decide (v6<(l1.length:Int))) (
gd (bO v6 l1.length) (
ob (l1[v6.toNat]?) fun x20 =>
br (!decide (x20=0)) (
some (.inr (.inl x20))) (
some (.inl (RC (v6+1)))))) (
some (.inr (.inr ())))
def Kc(n:Nat)(l1:SB (Int)):SA Int :=
ob (α:=(Int)⊕SC) (
bR (mU n l1) n 0) fun r24=>match r24 with
| .inl v15 =>
some v15
| .inr _ =>
some 0
def C3(n:Nat)(x1:Int)(x2:Int)(x3:Int)(x4:Int):SA Int :=
ob (I0 n x1 x3) fun r8 =>
ob (I0 n x2 x4) fun r10 =>
ob (Kc n ([r8,r10])) fun r13 =>
some r13
def AL(n:Nat)(x1:Int)(x2:Int)(x3:Int)(x4:Int)(x5:Int)(x6:Int)(x7:Int):SA Bool :=
ob (C5 n x2 x3 x4 x5 x6 x7) fun r11 =>
br (!decide (r11=0)) (
some false) (
ob (
ob (C3 n x2 x3 x4 x5) fun r23 =>
br (decide (0<r23)) (
some (x4,x5,x2,x3)) (
some (x2,x3,x4,x5))) fun(v18,v19,v20,v21) =>
ob (C3 n v18 v19 x6 x7) fun r28 =>
br (decide (r28<=0)) (
ob (C3 n x6 x7 v20 v21) fun r31 =>
some (decide (r31<=0))) (
some false))
def pd(n:Nat)(x2:Int)(x10:Int)(x11:Int)(x5:Int)(x7:Int)(x8:Int)(x9:Int)(x12:Int)(x1:Int)(x6:Int):(SB ((Int×Int)×Bool)×Int)->SA ((SB ((Int×Int)×Bool)×Int) ⊕(SB ((Int×Int)×Bool))):=fun(l2,v1) =>
br (decide (v1<4)) (
ob (
gd (bO v1 4) (
ob ([(x2,x10),(x11,x5),(x7,x8),(x9,x12)][v1.toNat]?) fun(x3,x4) =>
ob (
ob (AL n x1 x2 x10 x11 x5 x3 x4) fun r0 =>
br (r0) (
ob (AL n x6 x7 x8 x9 x12 x3 x4) fun r1 =>
some r1) (
some false)) fun v2 =>
br (v2) (
some (iy l2 (x3,x4) true)) (
some l2))) fun l3 =>
some (.inl (l3,RC (v1+1)))) (
some (.inr l2))
def Mr(n:Nat)(x1:Int)(x2:Int)(x3:Int)(x4:Int)(x5:Int)(x6:Int)(x7:Int)(x8:Int)(x9:Int)(x10:Int):SA Int :=
ob (C5 n x2 x3 x4 x5 x7 x8) fun r0 =>
ob (C5 n x2 x3 x4 x5 x9 x10) fun r1 =>
ob (C5 n x7 x8 x9 x10 x2 x3) fun r3 =>
ob (C5 n x7 x8 x9 x10 x4 x5) fun r4 =>
ob (
bR (pd n x2 x3 x4 x5 x7 x8 x9 x10 x1 x6) n (([]:SB ((Int×Int)×Bool)),0)) fun l2 =>
ob (some (l2.length)) fun y0 =>
br (decide (1<(y0:Int))) (
some 3) (
ob (some (l2.length)) fun y1 =>
br (decide ((y1:Int)=1)) (
some 1) (
ob (
br (decide (RC (r0*r1)<0)) (
some (decide (RC (r3*r4)<0))) (
some false)) fun v1 =>
br (v1) (
some 2) (
some 0)))
end
section
open Go Go.Ab Go.Ab.W
def NK(n:Nat)(x1:Int)(x2:Int)(x3:Int)(x4:Int):SA Int :=
ob (C3 n x1 x2 x3 x4) fun r8 =>
some r8
end
end Go.Proofs.YthmekkhpddehjaaGreat
namespace Go.Proofs.YthmekkhpddehjaaGreat.W51
open Go Go.Ab Go.Ab.W
set_option maxRecDepth 10000
set_option maxHeartbeats 4000000
attribute [local irreducible] Tm.at Trie.set Trie.get Sr.get Sr.set Sr.alloc Sr.ww Sr.kill
def aS:TyI nH.P 33 true 2:=⟨by kernel_rfl,by kernel_rfl,by kernel_rfl⟩
def bj:∀b o,aM nH.P 33 (ptr b o) 0=some (ptr b (o+0)):=fun _ _=>by kernel_rfl
def bw:TyI nH.P 3 false 1:=⟨by kernel_rfl,by kernel_rfl,by kernel_rfl⟩
def bm:∀b o,aM nH.P 33 (ptr b o) 1=some (ptr b (o+1)):=fun _ _=>by kernel_rfl
def fH:nH.P.underlying 102=some (.slice 3):=by kernel_rfl
def dJ:SlT nH.P 102 3 1:=SlT.of (by kernel_rfl)
def z3:bK nH.P 3=some (.int .i64 0):=by kernel_rfl
def nD(n:Nat)(x1:Int)  (r:Bool)(hF:yY n x1=some r)(m:Sr)  :
  aK nH 103 [.int .i64 x1] m (fun v m'=>∃x:SC,v=.bool r/\Hp m m' []):=by
 unfold yY at hF;refine aC (m0:=m) (ps:=[]) (N:=6) (rs:=[.tmp 2]) rfl Tryz.func103 rfl rfl rfl (RZ m)<|RI<|RH<|RG (ai rfl) rfl<|RJ<|RK<|RI<|RH<|RG (aa rfl) rfl<|RG (aa rfl) rfl<|RG (aj rfl rfl (cB _ _)) rfl<|RG (ai rfl) rfl<|RJ<|RK<|RO ?_;cases hF;exact RR (.tmp rfl .nil) fun m' hm=>⟨(),rfl,(ae.ab [] rfl rfl) m' hm⟩
def nT(n:Nat)(x1:Int)(x2:Int)  (r:Int)(hF:I0 n x1 x2=some r)(m:Sr)  :
  aK nH 83 [.int .i64 x1,.int .i64 x2] m (fun v m'=>∃x:SC,v=.int .i64 r/\Hp m m' []):=by
 unfold I0 at hF;refine aC (m0:=m) (ps:=[]) (N:=20) (rs:=[.tmp 4]) rfl Tryz.func83 rfl rfl rfl (RZ m)<|RI<|RH<|RG (ai rfl) rfl<|RJ<|RK<|RI<|RH<|RG (aa rfl) rfl ?_;obtain⟨r4,h3,hF⟩:=J hF;refine RS (bM rfl rfl (fun m hm=>nD n x1  _ h3 m) fun _=>rfl) gn rfl ?_;rintro⟨⟩;refine RG (ai rfl) rfl<|RJ<|RK<|RI<|RH<|RG (aa rfl) rfl ?_;obtain⟨r6,h5,hF⟩:=J hF;refine RS (bM rfl rfl (fun m hm=>nD n x2  _ h5 m) fun _=>rfl) gn rfl ?_;rintro⟨⟩;refine RG (ai rfl) rfl<|RJ<|RK<|RI<|RI<|RH<|RG (aa rfl) rfl<|RJ<|RK ?_;rcases ah hF with⟨h7,hF⟩|⟨h7,hF⟩
 refine RT rfl h7<|RI<|RI<|RH<|RG (aa rfl) rfl<|RJ<|RK ?_;rcases ah hF with⟨h8,hF⟩|⟨h8,hF⟩
 refine RT rfl h8<|RI<|RH<|RG (ai rfl) rfl<|RJ<|RK<|RO<|R0<|R0 ?_;cases hF;exact RR (.tmp rfl .nil) fun m' hm=>⟨(),rfl,(ae.ab [] rfl rfl) m' hm⟩
 refine RV rfl h8<|RN<|RK<|RI<|RH<|RG (ai rfl) rfl<|RJ<|RK<|RO<|R0 ?_;cases hF;exact RR (.tmp rfl .nil) fun m' hm=>⟨(),rfl,(ae.ab [] rfl rfl) m' hm⟩
 refine RV rfl h7<|RN<|RK<|RI<|RI<|RH<|RG (aa rfl) rfl<|RJ<|RK ?_;rcases ah hF with⟨h9,hF⟩|⟨h9,hF⟩
 refine RT rfl h9<|RI<|RH<|RG (ai rfl) rfl<|RJ<|RK<|RO<|R0 ?_;cases hF;exact RR (.tmp rfl .nil) fun m' hm=>⟨(),rfl,(ae.ab [] rfl rfl) m' hm⟩
 refine RV rfl h9<|RN<|RK<|RI<|RI<|RH<|RG (aa rfl) rfl<|RG (aa rfl) rfl<|RG (aj rfl rfl (aF _ _ _)) rfl<|RJ<|RK ?_;rcases ah hF with⟨h10,hF⟩|⟨h10,hF⟩
 refine RT rfl h10<|RI<|RH<|RG (ai rfl) rfl<|RJ<|RK<|RO<|R0 ?_;cases hF;exact RR (.tmp rfl .nil) fun m' hm=>⟨(),rfl,(ae.ab [] rfl rfl) m' hm⟩
 refine RV rfl h10<|RN<|RK<|RI<|RI<|RH<|RG (aa rfl) rfl<|RG (aa rfl) rfl<|RG (aj rfl rfl (aZ _ _ _)) rfl<|RJ<|RK ?_;rcases ah hF with⟨h11,hF⟩|⟨h11,hF⟩
 refine RT rfl h11<|RI<|RH<|RG (ai rfl) rfl<|RJ<|RK<|RO<|R0 ?_;cases hF;exact RR (.tmp rfl .nil) fun m' hm=>⟨(),rfl,(ae.ab [] rfl rfl) m' hm⟩
 refine RV rfl h11<|RN<|RK<|RI<|RH<|RG (ai rfl) rfl<|RJ<|RK<|RO ?_;cases hF;exact RR (.tmp rfl .nil) fun m' hm=>⟨(),rfl,(ae.ab [] rfl rfl) m' hm⟩
def zN(n:Nat)(l1:SB (Int))(a2:Rv)(c3:Nat)(r:Int)(hF:Kc n l1=some r)(m:Sr)(h4:Rd m a2 c3 1 l1.length (l1.map (eI .i64))) :
  aK nH 82 [.slice a2 l1.length c3] m (fun v m'=>∃x:SC,v=.int .i64 r/\Hp m m' []):=by
 unfold Kc at hF;refine aC (m0:=m) (ps:=[.rd a2 c3 1 l1.length (l1.map (eI .i64))]) (N:=18) (rs:=[.tmp 2]) rfl Tryz.func82 rfl rfl rfl ((RZ m).oj rfl h4)<|RI<|RH<|RG (ai rfl) rfl<|RJ<|RK<|RI<|RH<|RG (ai rfl) rfl<|RJ<|RK<|RI<|RI<|RH<|RG (aa rfl) rfl<|RG (bz (k:=0) fH rfl rfl (.inl rfl)) rfl<|RG (aa rfl) rfl<|RJ<|RK<|RP ?_;obtain⟨r24,h23,hF⟩:=J hF;refine RY (G:=(fun(r:Int⊕SC) (g:SC)=>match r,g with|.inl v15,_=>⟨.ret,[(2,.int .i64 v15)],[]⟩|.inr _,_=>⟨(.exit 0),[(3,.int .i64 0)],[]⟩) r24) ?_ ?_
 refine R8 (fs':=[(3,.int .i64 0),(6,.slice a2 l1.length c3),(7,.int .i64 (l1.length:Int)),(8,.int .i64 0)]) (ps':=[.rd a2 c3 1 l1.length (l1.map (eI .i64))]) (sc rfl (sc rfl (sc rfl (sc rfl sn)))) (ae.ab [0] rfl rfl) ?_;refine R2 (σ:=Int) (ρ:=(Int)⊕SC) (γ:=SC) (δ:=fun _=>SC) _ (fun(s:Int) (g:SC)=>match s,g with|v6,_=>⟨.normal,[(3,.int .i64 0),(6,.slice a2 l1.length c3),(7,.int .i64 (l1.length:Int)),(8,.int .i64 v6)],[.rd a2 c3 1 l1.length (l1.map (eI .i64))]⟩) (fun(r:Int⊕SC) (g:SC)=>match r,g with|.inl v15,_=>⟨.ret,[(2,.int .i64 v15)],[]⟩|.inr _,_=>⟨(.exit 0),[(3,.int .i64 0)],[]⟩) ?_ (fun _ _=>rfl) (fun r d=>by rcases r with _|_<;>(intro e; cases e)) _ _ _ h23 ()
 clear hF h23;rintro v6 ⟨⟩ r hF;unfold mU at hF;refine RI<|RH<|RG (aj rfl rfl (aF _ _ _)) rfl<|RJ<|RK<|RI ?_;rcases ah hF with⟨h16,hF⟩|⟨h16,hF⟩
 refine RT rfl h16<|RN<|RK<|RI<|RP<|RI<|RH ?_;obtain⟨h17,hF⟩:=al hF;replace h17:=au h17;refine Sa (k:=0) rfl (aW h17) ?_;rintro b18 o19 rfl;refine RL (bp dJ rfl rfl h17) gn rfl ?_;obtain⟨x20,h21,hF⟩:=J hF;refine RG (bC (k:=0) bw rfl rfl (aL h21) rfl rfl) rfl<|RG (ai rfl) rfl<|RJ<|RK<|RI<|RH<|RG (aa rfl) rfl<|RG (aa rfl) rfl<|RG (aj rfl rfl (cB _ _)) rfl<|RJ<|RK ?_;rcases ah hF with⟨h22,hF⟩|⟨h22,hF⟩
 refine RT rfl h22<|RI<|RH<|RG (aa rfl) rfl<|RG (ai rfl) rfl<|RJ<|RK<|RO<|R5<|R0 ?_;cases hF;exact RM () rfl (sc rfl sn) (ae.ab [] rfl rfl)
 refine RV rfl h22<|RN<|R3<|RK<|RH<|RG (aj rfl rfl (aA _ _ _)) rfl<|RG (aa rfl) rfl<|RJ ?_;cases hF;exact RM () rfl (sc rfl (sc rfl (sc rfl (sc rfl sn)))) (ae.ab [1] rfl rfl)
 refine RV rfl h16<|R1<|R6 ?_;cases hF;exact RM () rfl (sc rfl sn) (ae.ab [] rfl rfl)
 clear h23;rcases r24 with v15|_
 rintro⟨⟩;refine R5<|R0 ?_;have hr:=Pf hF;subst r;exact RR (.tmp rfl .nil) fun m' hm=>⟨(),rfl,(ae.ab [] rfl rfl) m' hm⟩
 rintro⟨⟩;refine R7<|RK<|RI<|RH<|RG (aa rfl) rfl<|RG (ai rfl) rfl<|RJ<|RK<|RO ?_;cases hF;exact RR (.tmp rfl .nil) fun m' hm=>⟨(),rfl,(ae.ab [] rfl rfl) m' hm⟩
def rm(n:Nat)(x1:Int)(x2:Int)(x3:Int)(x4:Int)  (r:Int)(hF:C3 n x1 x2 x3 x4=some r)(m:Sr)  :
  aK nH 52 [.agg #[.int .i64 x1,.int .i64 x2],.agg #[.int .i64 x3,.int .i64 x4]] m (fun v m'=>∃x:SC,v=.int .i64 r/\Hp m m' []):=by
 unfold C3 at hF;refine aC (m0:=m) (ps:=[]) (N:=17) (rs:=[.tmp 4]) rfl Tryz.func52 rfl rfl rfl (RZ m)<|RI<|RH<|RS (bQ rfl) gn rfl fun b5=>?_;refine RS (bQ rfl) gn rfl fun b6=>?_;refine RG (ai rfl) rfl<|RJ<|RK<|RI<|Sd (prs:=[(4,6),(4,8)]) (by kernel_rfl)<|RX (az (r:=ptr b5 0) rfl (bj _ _)) rfl<|RX (aw (k:=1) bw rfl rfl rfl) rfl<|RX (az (r:=ptr b6 0) rfl (bj _ _)) rfl<|RX (aw (k:=0) bw rfl rfl rfl) rfl ?_
 obtain⟨r8,h7,hF⟩:=J hF;refine Sc (eC rfl rfl (fun m hm=>nT n x1 x3  _ h7 m) fun _=>rfl) gn rfl ?_;rintro⟨⟩;refine RX (az (r:=ptr b5 1) rfl (bm _ _)) rfl<|RX (aw (k:=1) bw rfl rfl rfl) rfl<|RX (az (r:=ptr b6 1) rfl (bm _ _)) rfl<|RX (aw (k:=0) bw rfl rfl rfl) rfl ?_;obtain⟨r10,h9,hF⟩:=J hF;refine Sc (eC rfl rfl (fun m hm=>nT n x2 x4  _ h9 m) fun _=>rfl) gn rfl ?_;rintro⟨⟩;refine Wn.x (fS (es:=([r8,r10]:SB (Int)).map (eI .i64)) dJ rfl (gD dJ z3 rfl rfl) rfl rfl) gn rfl fun b11=>?_;obtain⟨r13,h12,hF⟩:=J hF;refine Sc (eC rfl rfl (fun m hm=>zN n ([r8,r10]) (some ⟨b11,0,none⟩) 2 _ h12 m (hm.rd (k:=0) rfl (.arr _ _ _ _ _))) fun _=>rfl) gn rfl ?_;rintro⟨⟩;refine RX (ai rfl) rfl<|Sb (fun m hm=>eJ.all rfl)<|RK<|RO ?_;have hr:=Pf hF;subst r;exact RR (.tmp rfl .nil) fun m' hm=>⟨(),rfl,(ae.ab [] rfl rfl) m' hm⟩
def KJ(n:Nat)(x1:Int)(x2:Int)(x3:Int)(x4:Int)  (r:Int)(hF:NK n x1 x2 x3 x4=some r)(m:Sr)  :
  aK nH 51 [.agg #[.int .i64 x1,.int .i64 x2],.agg #[.int .i64 x3,.int .i64 x4]] m (fun v m'=>∃x:SC,v=.int .i64 r/\Hp m m' []):=by
 unfold NK at hF;refine aC (m0:=m) (ps:=[]) (N:=8) (rs:=[.tmp 4]) rfl Tryz.func51 rfl rfl rfl (RZ m)<|RI<|RH<|RS (bQ rfl) gn rfl fun b5=>?_;refine RS (bQ rfl) gn rfl fun b6=>?_;refine RG (ai rfl) rfl<|RJ<|RK<|RI<|RH<|RG (aw (k:=1) aS rfl rfl rfl) rfl<|RG (aw (k:=0) aS rfl rfl rfl) rfl ?_;obtain⟨r8,h7,hF⟩:=J hF;refine RS (bM rfl rfl (fun m hm=>rm n x1 x2 x3 x4  _ h7 m) fun _=>rfl) gn rfl ?_;rintro⟨⟩;refine RG (ai rfl) rfl<|RJ<|RK<|RO ?_;have hr:=Pf hF;subst r;exact RR (.tmp rfl .nil) fun m' hm=>⟨(),rfl,(ae.ab [] rfl rfl) m' hm⟩
end Go.Proofs.YthmekkhpddehjaaGreat.W51
namespace Go.Ab
open Go
def tz(x:Nat):Nat:=if x=0 then 64 else Nat.log2 (x &&&(2 ^ 64-x))
end Go.Ab
namespace Go.Ab.W
open Go Go.Ab
def ku{a:Nat}(h:a<2 ^ 64):uw .u64 a=a:=PJ h
def Er{a b:Nat}(ha:a<2 ^ 64)(hb:b<2 ^ 64):uw .u64 (uw .u64 a &&& uw .u64 b)=a &&& b:=by
 rw[ku ha,ku hb,ku (Nat.lt_of_le_of_lt Nat.and_le_left ha)]
section
variable{σ ρ τ:Type}
end
end Go.Ab.W
namespace Go.Ab.B
open Go Go.Ab Go.Ab.W
section
variable{α β σ ρ:Type}
def fG(a b:SA β):br true a b=a:=rfl
def cy(a b:SA β):br false a b=b:=rfl
def aN(a:SA β):gd true a=a:=rfl
def ak(x:α)(f:α->SA β):ob (some x) f=f x:=rfl
def aH{p:Prop}[Decidable p](h:p)(a b:SA β):br (decide p) a b=a:=by rw[Po h]; rfl
def aD{p:Prop}[Decidable p](h:¬p)(a b:SA β):br (decide p) a b=b:=by rw[PL h]; rfl
def Li(c:Bool)(a b:SA β):br c a b=if c then a else b:=by cases c<;>rfl
def qC(c d:Bool):br c (some true) (some d)=some (c||d):=by cases c<;>rfl
def fU(c d:Bool):br c (some d) (some false)=some (c&&d):=by cases c<;>rfl
def iB{p:Prop}[Decidable p](h:p)(a:SA β):gd (decide p) a=a:=by rw[Po h]; rfl
def aJ{i n:Nat}(h:i<n):bO (i:Int) n=true:=Po ⟨Int.natCast_nonneg i,by simpa using h⟩
def aq{x:Int}(h1 : -9223372036854775808<=x)(h2:x<9223372036854775808):RC x=x:=wrap_i64 x h1 (by omega)
def aV{i:Nat}(h:i<4611686018427387904):RC ((i:Int)+1)=((i+1:Nat):Int):=by rw[aq (by omega) (by omega)]; rfl
def aO{body:σ->SA (σ⊕ρ)}{n:Nat}{s s':σ}(h:body s=some (.inl s')):bR body (n+1) s=bR body n s':=by simp only[bR,h]
def aX{body:σ->SA (σ⊕ρ)}{n:Nat}{s:σ}{r:ρ}(h:body s=some (.inr r)):bR body (n+1) s=some r:=by simp only[bR,h]
end
def eE{u v B C:Int}(hB:0<=B)(hu1 : -B<=u)(hu2:u<=B)(hv1 : -C<=v)(hv2:v<=C) : -(B*C)<=u*v/\u*v<=B*C:=by
 have hC:0<=C:=by omega
 have h1:0<=(B-u)*(C-v):=Qy (by omega) (by omega)
 have h2:0<=(B+u)*(C+v):=Qy (by omega) (by omega)
 have h3:0<=(B-u)*(C+v):=Qy (by omega) (by omega)
 have h4:0<=(B+u)*(C-v):=Qy (by omega) (by omega)
 have e1:(B-u)*(C-v)=B*C-B*v-u*C+u*v:=by rw[Int.sub_mul,Int.mul_sub,Int.mul_sub]; omega
 have e2:(B+u)*(C+v)=B*C+B*v+u*C+u*v:=by rw[Int.add_mul,Int.mul_add,Int.mul_add]; omega
 have e3:(B-u)*(C+v)=B*C+B*v-u*C-u*v:=by rw[Int.sub_mul,Int.mul_add,Int.mul_add]; omega
 have e4:(B+u)*(C-v)=B*C-B*v+u*C-u*v:=by rw[Int.add_mul,Int.mul_sub,Int.mul_sub]; omega
 omega
def tu{α:Type}[DecidableEq α]:∀{l m:SB α},l.Nodup->(∀a∈l,a∈m)->l.length<=m.length
 | [],_,_,_=>Qf _
 | a::l,m,hn,hs=>by
  obtain⟨n1,n2⟩:=Qz.1 hn;have ha:=hs a P5;have:=tu (l:=l) (m:=m.erase a) n2 fun b hb=>by
   have hne:b≠a:=fun e=>n1 (e▸hb);exact(List.mem_erase_of_ne hne).2 (hs b (P0 _ hb))
  rw[List.length_erase_of_mem ha] at this;have hp:0<m.length:=List.length_pos_of_mem ha;rw[PD]; omega
end Go.Ab.B
namespace Jd
abbrev P2:=Rat×Rat
def tn(a b c:P2):Rat:=(b.1-a.1)*(c.2-a.2)-(b.2-a.2)*(c.1-a.1)
def af(α β γ:Rat)(x:P2):Rat:=α*x.1+β*x.2+γ
def Sep(a b p q:P2):Prop:=∃α β γ,0<af α β γ a/\0<af α β γ b/\af α β γ p<0/\af α β γ q<0
section
variable{a b p q:P2}
end
def fI:Nat->(Nat->Int)->Int
 | 0,_=>0
 | n+1,f=>fI n f+f n
def jq{n:Nat}{f g:Nat->Int}(h:∀i,i<n->f i=g i):fI n f=fI n g:=by
 induction n with
 | zero=>rfl
 | succ n ih=>simp only[fI]; rw[ih fun i hi=>h i (by omega),h n (by omega)]
def xV(n:Nat)(f:Nat->Int):fI n (fun i=>f (i+1)-f i)=f n-f 0:=by
 induction n with
 | zero=>simp[fI]
 | succ n ih=>simp only[fI]; rw[ih]; omega
def dt(u w x:P2):Rat:=(w.1-u.1)*(x.1-w.1)+(w.2-u.2)*(x.2-w.2)
structure Simple(n:Nat)(v:Nat->P2):Prop where
 n3:2<n
 cl:v n=v 0
 cl1:v (n+1)=v 1
 ne:∀i,i<n->v i≠v (i+1)
 eO:∀i,i<n->tn (v i) (v (i+1)) (v (i+2))≠0\/0<dt (v i) (v (i+1)) (v (i+2))
 sep:∀i j,i<n->j<n->i≠j->j≠i+1->i≠j+1->¬(i=0/\j+1=n)->¬(j=0/\i+1=n)->Sep (v i) (v (i+1)) (v j) (v (j+1))
section
variable{n:Nat}{v:Nat->P2}
end
section
variable{n:Nat}{v:Nat->P2}
end
abbrev I2:=Int×Int
def ti(a b c:I2):Int:=(b.1-a.1)*(c.2-a.2)-(b.2-a.2)*(c.1-a.1)
def jm(a b p:I2):ti b a p = -ti a b p:=by unfold ti; grind
def zW(a b:I2):ti a b a=0:=by unfold ti; grind
def za(a b:I2):ti a b b=0:=by unfold ti; grind
def GB(a b c d:I2):ti a b d-ti a b c=ti c d a-ti c d b:=by unfold ti; grind
def eV(a b p:I2):Prop:=ti a b p=0/\min a.1 b.1<=p.1/\p.1<=max a.1 b.1/\min a.2 b.2<=p.2/\p.2<=max a.2 b.2
instance(a b p:I2):Decidable (eV a b p):=by unfold eV; infer_instance
def eV.swap{a b p:I2}(h:eV a b p):eV b a p:=by
 obtain⟨h1,h2⟩:=h;exact⟨by rw[jm,h1]; rfl,by omega⟩
def su{a b p:I2}:eV a b p↔eV b a p:=⟨eV.swap,eV.swap⟩
def Jl(a b:I2):eV a b a:=⟨zW a b,by omega⟩
def Ja(a b:I2):eV a b b:=⟨za a b,by omega⟩
def Ek{a b p:I2}(h:a.1<b.1):eV a b p↔ti a b p=0/\a.1<=p.1/\p.1<=b.1:=by
 refine⟨fun⟨h1,h2⟩=>⟨h1,by omega⟩,fun⟨h1,h2,h3⟩=>⟨h1,by omega,by omega,?_,?_⟩⟩
 all_goals
  unfold ti at h1;have e1:(b.1-a.1)*(p.2-a.2)=(b.2-a.2)*(p.1-a.1):=by omega
  have e2:(b.1-a.1)*(b.2-p.2)=(b.2-a.2)*(b.1-p.1):=by grind
  by_cases hy:a.2<=b.2
  have m1:0<=(b.1-a.1)*(p.2-a.2):=by rw[e1]; exact Qy (by omega) (by omega)
  have m2:0<=(b.1-a.1)*(b.2-p.2):=by rw[e2]; exact Qy (by omega) (by omega)
  have k1:=QX m1 (by omega)
  have k2:=QX m2 (by omega)
  omega
  have m1:0<=(b.1-a.1)*(a.2-p.2):=by
   rw[show(b.1-a.1)*(a.2-p.2)=(a.2-b.2)*(p.1-a.1) by grind]; exact Qy (by omega) (by omega)
  have m2:0<=(b.1-a.1)*(p.2-b.2):=by
   rw[show(b.1-a.1)*(p.2-b.2)=(a.2-b.2)*(b.1-p.1) by grind]; exact Qy (by omega) (by omega)
  have k1:=QX m1 (by omega)
  have k2:=QX m2 (by omega)
  omega
def Dl{a b p:I2}(h:a.1=b.1)(hab:a≠b):eV a b p↔p.1=a.1/\min a.2 b.2<=p.2/\p.2<=max a.2 b.2:=by
 have hy:a.2≠b.2:=fun e=>hab (QY h e);refine⟨fun⟨_,h2⟩=>by omega,fun⟨h1,h2⟩=>⟨?_,by omega⟩⟩
 unfold ti;rw[h1,<-h]; grind
def mA{a b p:I2}(h:a.1=b.1)(hab:a≠b)(h0:ti a b p=0):p.1=a.1:=by
 have hy:b.2-a.2≠0:=fun e=>hab (QY h (by omega))
 unfold ti at h0;rw[h,Int.sub_self,Int.zero_mul] at h0;have:(b.2-a.2)*(p.1-b.1)=0:=by omega
 rcases Qu.1 this with e|e
 exact Pz e hy
 omega
def nB{a b p q:I2}(h:a.1≠b.1)(hp:ti a b p=0)(hq:ti a b q=0)(e:p.1=q.1):p=q:=by
 have:(b.1-a.1)*(p.2-q.2)=0:=by unfold ti at hp hq; rw[e] at hp; grind
 rcases Qu.1 this with e'|e'
 omega
 exact QY e (by omega)
def Lx(a b:I2):Prop:=a.1<b.1\/a.1=b.1/\a.2<=b.2
def J0{a b p:I2}(hab:a≠b)(h:Lx a b):eV a b p↔ti a b p=0/\Lx a p/\Lx p b:=by
 unfold Lx at *
 by_cases hx:a.1<b.1
 rw[Ek hx];refine⟨fun⟨h1,h2,h3⟩=>⟨h1,?_,?_⟩,fun⟨h1,h2,h3⟩=>⟨h1,by omega,by omega⟩⟩
 by_cases e:p.1=a.1
 have:=nB (by omega) h1 (zW a b) e
 rw[this]; omega
 omega
 by_cases e:p.1=b.1
 have:=nB (by omega) h1 (za a b) e
 rw[this]; omega
 omega
 have e:a.1=b.1:=by omega
 rw[Dl e hab];refine⟨fun⟨h1,h2⟩=>⟨?_,by omega,by omega⟩,fun⟨h1,h2,h3⟩=>?_⟩
 unfold ti; rw[h1,<-e]; grind
 have:=mA e hab h1;omega
def iL(a b c d x:I2):Prop:=(x=a\/x=b\/x=c\/x=d)/\eV a b x/\eV c d x
def low(a b c d:I2):Int:=if a.1=b.1 then max (min a.2 b.2) (min c.2 d.2)-min (max a.2 b.2) (max c.2 d.2) else max (min a.1 b.1) (min c.1 d.1)-min (max a.1 b.1) (max c.1 d.1)
def II{a b c d:I2}(hab:a≠b)(hcd:c≠d)(hc:ti a b c=0)(hd:ti a b d=0):∃f:I2->Int,low a b c d=max (min (f a) (f b)) (min (f c) (f d))-min (max (f a) (f b)) (max (f c) (f d)) /\
  (∀x y,ti a b x=0->ti a b y=0->f x=f y->x=y)/\(∀x,eV a b x↔ti a b x=0/\min (f a) (f b)<=f x/\f x<=max (f a) (f b))/\(∀x,ti a b x=0->(eV c d x↔min (f c) (f d)<=f x/\f x<=max (f c) (f d))):=by
 by_cases h:a.1=b.1
 have h3:=mA h hab hc;have h4:=mA h hab hd;refine⟨fun x=>x.2,by unfold low; rw[Ph h],fun x y hx hy e=>QY ((mA h hab hx).trans (mA h hab hy).symm) e,fun x=>?_,fun x hx=>?_⟩
 rw[Dl h hab];refine⟨fun⟨h0,h1⟩=>⟨?_,h1⟩,fun⟨h0,h1⟩=>⟨mA h hab h0,h1⟩⟩;unfold ti; rw[h0,<-h]; grind
 rw[Dl (by omega) hcd]
 have:=mA h hab hx;exact⟨fun h=>h.2,fun h=>⟨by omega,h⟩⟩
 have h2:c.1≠d.1:=fun e=>hcd (nB h hc hd e);have dir:∀x,ti a b x=0->ti c d x=0:=fun x hx=>by
  have e0:(b.1-a.1)*(c.2-a.2)=(b.2-a.2)*(c.1-a.1):=by unfold ti at hc; omega
  have e1:(b.1-a.1)*(d.2-a.2)=(b.2-a.2)*(d.1-a.1):=by unfold ti at hd; omega
  have e2:(b.1-a.1)*(x.2-a.2)=(b.2-a.2)*(x.1-a.1):=by unfold ti at hx; omega
  have:(b.1-a.1)*ti c d x=0:=by
   unfold ti;have:(b.1-a.1)*((d.1-c.1)*(x.2-c.2)-(d.2-c.2)*(x.1-c.1))=(d.1-c.1)*((b.1-a.1)*(x.2-a.2)-(b.1-a.1)*(c.2-a.2))-((b.1-a.1)*(d.2-a.2)-(b.1-a.1)*(c.2-a.2))*(x.1-c.1):=by grind
   rw[this,e0,e1,e2]; grind
  rcases Qu.1 this with e|e
  omega
  exact e
 have gen:∀{u w:I2},u.1≠w.1->∀x,(eV u w x↔ti u w x=0/\min u.1 w.1<=x.1/\x.1<=max u.1 w.1):=fun{u w} huw x=>by
  by_cases hl:u.1<w.1
  rw[Ek hl]; refine⟨fun⟨h0,h1⟩=>⟨h0,by omega⟩,fun⟨h0,h1⟩=>⟨h0,by omega⟩⟩
  rw[su,Ek (by omega),jm]; refine⟨fun⟨h0,h1⟩=>⟨by omega,by omega⟩,fun⟨h0,h1⟩=>⟨by omega,by omega⟩⟩
 refine⟨fun x=>x.1,by unfold low; rw[Pb h],fun x y hx hy e=>nB h hx hy e,gen h,fun x hx=>?_⟩
 rw[gen h2];exact⟨fun h=>h.2,fun h=>⟨dir x hx,h⟩⟩
def wL{a b c d:I2}(hab:a≠b)(hcd:c≠d)(hc:ti a b c=0)(hd:ti a b d=0) :
  (0<low a b c d↔∀x,¬iL a b c d x)/\(low a b c d<0↔∃x y,iL a b c d x/\iL a b c d y/\x≠y):=by
 obtain⟨f,e,hi,h1,h2⟩:=II hab hcd hc hd;have ha0:=zW a b;have hb0:=za a b;have hfab:f a≠f b:=fun h=>hab (hi a b ha0 hb0 h);have hfcd:f c≠f d:=fun h=>hcd (hi c d hc hd h);have IF:∀x,iL a b c d x↔(x=a\/x=b\/x=c\/x=d)/\(min (f a) (f b)<=f x/\f x<=max (f a) (f b))/\(min (f c) (f d)<=f x/\f x<=max (f c) (f d)):=fun x=>by
  unfold iL;refine⟨fun⟨h,g1,g2⟩=>⟨h,((h1 x).1 g1).2,(h2 x ((h1 x).1 g1).1).1 g2⟩,fun⟨h,g1,g2⟩=>?_⟩;have hx:ti a b x=0:=by rcases h with rfl|rfl|rfl|rfl<;>assumption
  exact⟨h,(h1 x).2 ⟨hx,g1⟩,(h2 x hx).2 g2⟩
 rw[e];have lo:∃x,(x=a\/x=b\/x=c\/x=d)/\f x=max (min (f a) (f b)) (min (f c) (f d)):=by
  by_cases g1:f a<=f b<;>by_cases g2:f c<=f d
  by_cases g3:f a<=f c
  exact⟨c,by simp,by omega⟩
  exact⟨a,by simp,by omega⟩
  by_cases g3:f a<=f d
  exact⟨d,by simp,by omega⟩
  exact⟨a,by simp,by omega⟩
  by_cases g3:f b<=f c
  exact⟨c,by simp,by omega⟩
  exact⟨b,by simp,by omega⟩
  by_cases g3:f b<=f d
  exact⟨d,by simp,by omega⟩
  exact⟨b,by simp,by omega⟩
 have hi':∃x,(x=a\/x=b\/x=c\/x=d)/\f x=min (max (f a) (f b)) (max (f c) (f d)):=by
  by_cases g1:f a<=f b<;>by_cases g2:f c<=f d
  by_cases g3:f b<=f d
  exact⟨b,by simp,by omega⟩
  exact⟨d,by simp,by omega⟩
  by_cases g3:f b<=f c
  exact⟨b,by simp,by omega⟩
  exact⟨c,by simp,by omega⟩
  by_cases g3:f a<=f d
  exact⟨a,by simp,by omega⟩
  exact⟨d,by simp,by omega⟩
  by_cases g3:f a<=f c
  exact⟨a,by simp,by omega⟩
  exact⟨c,by simp,by omega⟩
 obtain⟨x,x1,x2⟩:=lo;obtain⟨y,y1,y2⟩:=hi';constructor
 refine⟨fun h z hz=>?_,fun h=>?_⟩
 have:=(IF z).1 hz;omega
 refine Pw fun hc=>h x ((IF x).2 ⟨x1,by omega,by omega⟩)
 refine⟨fun h=>⟨x,y,(IF x).2 ⟨x1,by omega,by omega⟩,(IF y).2 ⟨y1,by omega,by omega⟩,fun e=>by rw[e] at x2; omega⟩,fun⟨z,w,hz,hw,hne⟩=>?_⟩
 refine Pw fun hc=>hne (hi z w ?_ ?_ ?_)
 exact hz.2.1.1
 exact hw.2.1.1
 have:=(IF z).1 hz;have:=(IF w).1 hw;omega
def Hr{a b c d:I2}(hcd:c≠d)(h:¬(ti a b c=0/\ti a b d=0)){x y:I2}(hx:eV a b x/\eV c d x)(hy:eV a b y/\eV c d y):x=y:=by
 obtain⟨⟨a1,_⟩,⟨a2,_⟩⟩:=hx;obtain⟨⟨b1,_⟩,⟨b2,_⟩⟩:=hy;have hk:(b.1-a.1)*(d.2-c.2)-(b.2-a.2)*(d.1-c.1)≠0:=fun e=>by
  have e1:ti a b d-ti a b c=0:=by
   have:ti a b d-ti a b c=(b.1-a.1)*(d.2-c.2)-(b.2-a.2)*(d.1-c.1):=by unfold ti; grind
   omega
  have e2:(d.1-c.1)*ti a b c=0:=by
   have t:(d.1-c.1)*ti a b c=(d.1-c.1)*ti a b x-(b.1-a.1)*ti c d x-(x.1-c.1)*((b.1-a.1)*(d.2-c.2)-(b.2-a.2)*(d.1-c.1)):=by unfold ti; grind
   rw[t,a1,a2,e]; simp
  have e3:(d.2-c.2)*ti a b c=0:=by
   have t:(d.2-c.2)*ti a b c=(d.2-c.2)*ti a b x-(b.2-a.2)*ti c d x-(x.2-c.2)*((b.1-a.1)*(d.2-c.2)-(b.2-a.2)*(d.1-c.1)):=by unfold ti; grind
   rw[t,a1,a2,e]; simp
  have h0:ti a b c=0:=by
   rcases Qu.1 e2 with g|g
   rcases Qu.1 e3 with g'|g'
   exact Pz (QY (by omega) (by omega)) hcd
   exact g'
   exact g
  exact h ⟨h0,by omega⟩
 have f1:((b.1-a.1)*(d.2-c.2)-(b.2-a.2)*(d.1-c.1))*(x.1-y.1)=0:=by
  have t:((b.1-a.1)*(d.2-c.2)-(b.2-a.2)*(d.1-c.1))*(x.1-y.1)=(d.1-c.1)*(ti a b x-ti a b y)-(b.1-a.1)*(ti c d x-ti c d y):=by unfold ti; grind
  rw[t,a1,a2,b1,b2]; simp
 have f2:((b.1-a.1)*(d.2-c.2)-(b.2-a.2)*(d.1-c.1))*(x.2-y.2)=0:=by
  have t:((b.1-a.1)*(d.2-c.2)-(b.2-a.2)*(d.1-c.1))*(x.2-y.2)=(d.2-c.2)*(ti a b x-ti a b y)-(b.2-a.2)*(ti c d x-ti c d y):=by unfold ti; grind
  rw[t,a1,a2,b1,b2]; simp
 refine QY ?_ ?_
 rcases Qu.1 f1 with g|g
 exact Pz g hk
 omega
 rcases Qu.1 f2 with g|g
 exact Pz g hk
 omega
def di(a b c:I2):Int:=(b.1-a.1)*(c.1-b.1)+(b.2-a.2)*(c.2-b.2)
def NM(a b c d:I2):Prop:=(∀x,¬iL a b c d x)/\¬(((0<ti a b c/\ti a b d<0)\/(ti a b c<0/\0<ti a b d))/\((0<ti c d a/\ti c d b<0)\/(ti c d a<0/\0<ti c d b)))
def nx(r:SB I2)(i:Nat):I2:=r.getD (i%r.length) (0,0)
structure VR(r:SB I2):Prop where
 n3:2<r.length
 still:∀i,nx r i≠nx r (i+1)
 td:∀i,¬(ti (nx r i) (nx r (i+1)) (nx r (i+2))=0/\di (nx r i) (nx r (i+1)) (nx r (i+2))<0)
 meet:∀j i,j+1<i->i<r.length->¬(j=0/\i+1=r.length)->NM (nx r j) (nx r (j+1)) (nx r i) (nx r (i+1))
def NO{x:Int}:0<=x*x:=by
 rcases Int.le_total 0 x with h|h
 exact Qy h h
 exact Int.mul_nonneg_of_nonpos_of_nonpos h h
def Mk{x:Int}(h:x*x=0):x=0:=by
 rcases Qu.1 h with h|h<;>exact h
def tA(a b c d:I2):Prop:=((0<ti a b c/\ti a b d<0)\/(ti a b c<0/\0<ti a b d))/\((0<ti c d a/\ti c d b<0)\/(ti c d a<0/\0<ti c d b))
def Gv(a b c d:I2):Prop:=ti a b c=0/\ti a b d=0
section
variable{a b c d:I2}
def GU(hab:a≠b)(hcd:c≠d):(∃x y,iL a b c d x/\iL a b c d y/\x≠y)↔Gv a b c d/\low a b c d<0:=by
 by_cases h:Gv a b c d
 have:=(wL hab hcd h.1 h.2).2;exact⟨fun g=>⟨h,this.2 g⟩,fun g=>this.1 g.2⟩
 exact⟨fun⟨x,y,hx,hy,hne⟩=>Pz (Hr hcd h hx.2 hy.2) hne,fun g=>Pz g.1 h⟩
def EF(hab:a≠b)(hcd:c≠d):(∃x,iL a b c d x)↔(Gv a b c d/\low a b c d<=0)\/(¬Gv a b c d/\(eV a b c\/eV a b d\/eV c d a\/eV c d b)):=by
 by_cases h:Gv a b c d
 have:=(wL hab hcd h.1 h.2).1;constructor
 rintro⟨x,hx⟩;refine .inl ⟨h,?_⟩;refine Pw fun hc=>?_;exact this.1 (by omega) x hx
 rintro(⟨_,g⟩|⟨g,_⟩)
 refine Classical.byContradiction fun hc=>?_;have:=this.2 fun x hx=>hc ⟨x,hx⟩;omega
 exact Pz h g
 constructor
 rintro⟨x,h1,h2,h3⟩;refine .inr ⟨h,?_⟩;rcases h1 with rfl|rfl|rfl|rfl
 exact .inr (.inr (.inl h3))
 exact .inr (.inr (.inr h3))
 exact .inl h2
 exact .inr (.inl h2)
 rintro(⟨g,_⟩|⟨_,g⟩)
 exact Pz g h
 rcases g with g|g|g|g
 exact⟨c,.inr (.inr (.inl rfl)),g,Jl c d⟩
 exact⟨d,.inr (.inr (.inr rfl)),g,Ja c d⟩
 exact⟨a,.inl rfl,Jl a b,g⟩
 exact⟨b,.inr (.inl rfl),Ja a b,g⟩
def wz(h:tA a b c d):¬Gv a b c d/\∀x,¬iL a b c d x:=by
 unfold tA at h;refine⟨fun g=>?_,fun x ⟨h1,h2,h3⟩=>?_⟩
 unfold Gv at g; omega
 have e2:=h2.1;have e3:=h3.1;rcases h1 with rfl|rfl|rfl|rfl<;>omega
noncomputable def wj (a b c d:I2):Int:=open Classical in if ∃x y,iL a b c d x/\iL a b c d y/\x≠y then 3 else if ∃x,iL a b c d x then 1 else if tA a b c d then 2 else 0
def HM(hab:a≠b)(hcd:c≠d):wj a b c d=open Classical in if Gv a b c d then(if 0<low a b c d then 0 else if low a b c d=0 then 1 else 3) else if tA a b c d then 2 else if eV a b c\/eV a b d\/eV c d a\/eV c d b then 1 else 0:=by
 classical
 unfold wj;have h2:=GU hab hcd;have h1:=EF hab hcd
 by_cases hc:Gv a b c d
 have hx:¬tA a b c d:=fun h=>(wz h).1 hc;rw[Ph hc,Pb hx]
 by_cases g1:0<low a b c d
 rw[Ph g1,Pb (fun h=>by have:=(h2.1 h).2; omega),Pb (fun h=>(h1.1 h).elim (fun g=>by have:=g.2; omega) (fun g=>g.1 hc))]
 by_cases g2:low a b c d=0
 rw[Pb g1,Ph g2,Pb (fun h=>by have:=(h2.1 h).2; omega),Ph (h1.2 (.inl ⟨hc,by omega⟩))]
 rw[Pb g1,Pb g2,Ph (h2.2 ⟨hc,by omega⟩)]
 rw[Pb hc,Pb (fun h=>hc (h2.1 h).1)]
 by_cases hx:tA a b c d
 rw[Ph hx,Ph hx,Pb (fun⟨x,h⟩=>(wz hx).2 x h)]
 rw[Pb hx,Pb hx]
 by_cases hb:eV a b c\/eV a b d\/eV c d a\/eV c d b
 rw[Ph hb,Ph (h1.2 (.inr ⟨hc,hb⟩))]
 rw[Pb hb,Pb (fun h=>(h1.1 h).elim (fun g=>hc g.1) (fun g=>hb g.2))]
def wa:wj a b c d=0↔NM a b c d:=by
 classical
 unfold wj NM;constructor
 intro h
 by_cases h1:∃x y,iL a b c d x/\iL a b c d y/\x≠y
 rw[Ph h1] at h; exact Pz h (by decide)
 rw[Pb h1] at h
 by_cases h2:∃x,iL a b c d x
 rw[Ph h2] at h; exact Pz h (by decide)
 rw[Pb h2] at h
 by_cases h3:tA a b c d
 rw[Ph h3] at h; exact Pz h (by decide)
 exact⟨fun x hx=>h2 ⟨x,hx⟩,h3⟩
 rintro⟨h1,h2⟩;rw[Pb (fun⟨x,_,hx,_⟩=>h1 x hx),Pb (fun⟨x,hx⟩=>h1 x hx)];exact Pb h2
end
section
variable{a b c d:I2}
def kR{x:I2}:iL a b c d x↔iL c d a b x:=by
 unfold iL;constructor<;>rintro⟨h,g1,g2⟩<;>exact⟨by rcases h with h|h|h|h<;>simp[h],g2,g1⟩
def jd{x:I2}:iL a b c d x↔iL b a c d x:=by
 unfold iL;rw[su (a:=a) (b:=b)];constructor<;>rintro⟨h,g⟩<;>exact⟨by rcases h with h|h|h|h<;>simp[h],g⟩
def Hw:tA a b c d↔tA c d a b:=by unfold tA; exact And.comm
def Dc:tA a b c d↔tA b a c d:=by
 unfold tA;rw[jm a b c,jm a b d];constructor<;>rintro⟨h,g⟩<;>constructor<;>omega
def uQ:wj c d a b=wj a b c d:=by
 classical
 have h1:(∃x y,iL c d a b x/\iL c d a b y/\x≠y)↔∃x y,iL a b c d x/\iL a b c d y/\x≠y :=
  ⟨fun⟨x,y,p,q,r⟩=>⟨x,y,kR.1 p,kR.1 q,r⟩,fun⟨x,y,p,q,r⟩=>⟨x,y,kR.1 p,kR.1 q,r⟩⟩
 have h2:(∃x,iL c d a b x)↔∃x,iL a b c d x:=⟨fun⟨x,p⟩=>⟨x,kR.1 p⟩,fun⟨x,p⟩=>⟨x,kR.1 p⟩⟩;unfold wj;simp only[h1,h2,Hw (a:=c) (b:=d) (c:=a) (d:=b)]
def xX:wj b a c d=wj a b c d:=by
 classical
 have h1:(∃x y,iL b a c d x/\iL b a c d y/\x≠y)↔∃x y,iL a b c d x/\iL a b c d y/\x≠y :=
  ⟨fun⟨x,y,p,q,r⟩=>⟨x,y,jd.1 p,jd.1 q,r⟩,fun⟨x,y,p,q,r⟩=>⟨x,y,jd.1 p,jd.1 q,r⟩⟩
 have h2:(∃x,iL b a c d x)↔∃x,iL a b c d x:=⟨fun⟨x,p⟩=>⟨x,jd.1 p⟩,fun⟨x,p⟩=>⟨x,jd.1 p⟩⟩;unfold wj;simp only[h1,h2,Dc (a:=b) (b:=a) (c:=c) (d:=d)]
end
end Jd
namespace Go.Proofs.YthmekkhpddehjaaGreat
open Go Go.Ab Go.Ab.W Go.Ab.B Jd
def j4(x:Int):Prop:=-9223372036854775808<=x/\x<9223372036854775808
def Fa(p:I2):Prop:=p.1 < -1000000\/1000000<p.1\/p.2 < -1000000\/1000000<p.2
instance(p:I2):Decidable (Fa p):=by unfold Fa; infer_instance
instance(a b p:I2):Decidable (eV a b p):=by unfold eV; infer_instance
def oN(a b:Int):ma a b=max a b:=by unfold ma; split<;>omega
def j7(a b:Int):mi a b=min a b:=by unfold mi; split<;>omega
def JB{x:Int}(h:j4 x):RC (0-x)=if x = -9223372036854775808 then x else -x:=by
 unfold j4 at h
 split
 rename_i e; subst e; decide
 rw[aq (by omega) (by omega)]; omega
def K4(n:Nat){x y:Int}(hx:j4 x)(hy:j4 y):LI n x y=some (decide (Fa (x,y))):=by
 unfold LI;rw[JB hx,JB hy,ak,qC,<-Bool.decide_or]
 congr 1
 rw[decide_eq_decide];unfold j4 at hx hy;unfold Fa
 dsimp only
 rw[oN,oN,oN,j7]
 split<;>split<;>omega
def sg(z:Int):Int:=if z<0 then -1 else if 0<z then 1 else 0
def z8(n:Nat)(x y:Int):I0 n x y=some (sg (x-y)):=by
 unfold I0 yY sg;simp only[decide_true,PE,ak,cy]
 by_cases h:x<y
 rw[aH h,Ph (show x-y<0 by omega)]
 rw[aD h,Pb (show ¬x-y<0 by omega)]
 by_cases g:y<x
 rw[aH g,Ph (show 0<x-y by omega)]
 rw[aD g,Pb (show ¬0<x-y by omega)]
def Nr(p:I2):Prop:=-1000000<=p.1/\p.1<=1000000/\-1000000<=p.2/\p.2<=1000000
def Jb{p:I2}:¬Fa p↔Nr p:=by unfold Fa Nr; omega
def nU(n:Nat){a b c:I2}(ha:Nr a)(hb:Nr b)(hc:Nr c):C5 n a.1 a.2 b.1 b.2 c.1 c.2=some (sg (ti a b c)):=by
 unfold Nr at ha hb hc;have m1:=eE (B:=2000000) (C:=2000000) (u:=b.1-a.1) (v:=c.2-a.2) (by decide) (by omega) (by omega) (by omega) (by omega)
 have m2:=eE (B:=2000000) (C:=2000000) (u:=b.2-a.2) (v:=c.1-a.1) (by decide) (by omega) (by omega) (by omega) (by omega)
 unfold C5;rw[aq (x:=b.1-a.1) (by omega) (by omega),aq (x:=c.2-a.2) (by omega) (by omega),aq (x:=b.2-a.2) (by omega) (by omega),aq (x:=c.1-a.1) (by omega) (by omega),
  aq (by omega) (by omega),aq (by omega) (by omega),ak,ak,z8,ak]
 rfl
def gb{z:Int}:sg z=0↔z=0:=by unfold sg; split<;>(try split)<;>omega
def uX{z:Int}:sg z<0↔z<0:=by unfold sg; split<;>(try split)<;>omega
def uE{z:Int}:0<sg z↔0<z:=by unfold sg; split<;>(try split)<;>omega
def jf(z:Int):sg z = -1\/sg z=0\/sg z=1:=by unfold sg; split<;>(try split)<;>simp
def KF(n:Nat)(r s:Int)(hn:2<n):Kc n [r,s]=some (if r≠0 then r else s):=by
 obtain⟨n,rfl⟩:∃n',n=n'+3:=⟨n-3,by omega⟩
 have L0:mU (n+3) [r,s] 0=if r≠0 then some (.inr (.inl r)) else some (.inl 1):=by
  unfold mU;rw[aH (by simp),show bO 0 [r,s].length=true from rfl,aN]
  show ob (some r) _=_
  rw[ak]
  by_cases h:r=0
  rw[Po h,PE,cy,Pb (by simpa using h)]; rfl
  rw[PL h,PQ,fG,Ph h]
 have L1:mU (n+3) [r,s] 1=if s≠0 then some (.inr (.inl s)) else some (.inl 2):=by
  unfold mU;rw[aH (by simp),show bO 1 [r,s].length=true from rfl,aN]
  show ob (some s) _=_
  rw[ak]
  by_cases h:s=0
  rw[Po h,PE,cy,Pb (by simpa using h)]; rfl
  rw[PL h,PQ,fG,Ph h]
 have L2:mU (n+3) [r,s] 2=some (.inr (.inr ())):=by
  unfold mU;rw[aD (by simp)]
 unfold Kc
 by_cases h:r=0
 rw[Pb (by simpa using h)] at L0 ⊢
 rw[aO L0]
 by_cases g:s=0
 rw[Pb (by simpa using g)] at L1
 rw[aO L1,aX L2,ak,g]
 rw[Ph g] at L1;rw[aX L1,ak]
 rw[Ph h] at L0 ⊢;rw[aX L0,ak]
def y8(a b:I2):Int:=if sg (a.1-b.1)≠0 then sg (a.1-b.1) else sg (a.2-b.2)
def uH(n:Nat)(a b:I2)(hn:2<n):C3 n a.1 a.2 b.1 b.2=some (y8 a b):=by
 unfold C3;rw[z8,ak,z8,ak,KF n _ _ hn,ak]; rfl
def uk{a b:I2}:y8 a b<=0↔Lx a b:=by
 unfold y8 Lx;have h1:=gb (z:=a.1-b.1);have h2:=uE (z:=a.1-b.1);have h3:=uE (z:=a.2-b.2)
 split<;>omega
def Eh(n:Nat)(e:Int){a b p:I2}(ha:Nr a)(hb:Nr b)(hp:Nr p)(hab:a≠b)(hn:2<n):AL n e a.1 a.2 b.1 b.2 p.1 p.2=some (decide (eV a b p)):=by
 unfold AL;rw[nU n ha hb hp,ak]
 by_cases h0:ti a b p=0
 rw[Po (gb.2 h0),PE,cy,uH n a b hn,ak];have key:∀{u v:I2},u≠v->Lx u v->ti u v p=0->(ob (C3 n u.1 u.2 p.1 p.2) fun r28=>br (decide (r28<=0)) (ob (C3 n p.1 p.2 v.1 v.2) fun r31=>some (decide (r31<=0))) (some false))=some (decide (eV u v p)):=fun{u v} huv hl ht=>by
  rw[uH n u p hn,ak,uH n p v hn,ak,fU,<-Qp]
  congr 1
  rw[decide_eq_decide,J0 huv hl,uk,uk];exact⟨fun h=>⟨ht,h⟩,fun h=>h.2⟩
 by_cases hl:0<y8 a b
 rw[aH hl,ak];have hl':Lx b a:=by
  have:¬Lx a b:=fun h=>by have:=uk.2 h; omega
  unfold Lx at this ⊢; omega
 have:=key hab.symm hl' (by rw[jm,h0]; rfl)
 dsimp only
 rw[this]
 congr 1
 rw[decide_eq_decide]; exact su
 rw[aD hl,ak];exact key hab (uk.1 (by omega)) h0
 rw[PL (fun h=>h0 (gb.1 h)),PQ,fG,PL fun h=>h0 h.1]
def e8{α β:Type}[DecidableEq α](k:α):∀(xs:SB (α×β)) (i:Nat),(dI k xs i=none/\k∉xs.map Prod.fst)\/∃j v,dI k xs i=some (i+j,v)/\(xs[j]?).map Prod.fst=some k
 | [],_=>.inl ⟨rfl,by simp⟩
 | e::es,i=>by
  unfold dI
  by_cases h:k=e.1
  rw[Ph h]; exact .inr ⟨0,e.2,rfl,by rw[h]; rfl⟩
  rw[Pb h];rcases e8 k es (i+1) with⟨h1,h2⟩|⟨j,v,h1,h2⟩
  exact .inl ⟨h1,fun g=>by
   rw[PS,Pp] at g;exact g.elim h h2⟩
  exact .inr ⟨j+1,v,by rw[h1,show i+1+j=i+(j+1) by omega],h2⟩
def CA{α β:Type}[DecidableEq α](xs:SB (α×β))(k:α)(v:β):(iy xs k v).map Prod.fst=if k∈xs.map Prod.fst then xs.map Prod.fst else xs.map Prod.fst++[k]:=by
 unfold iy;rcases e8 k xs 0 with⟨h1,h2⟩|⟨j,w,h1,h2⟩
 rw[h1,Pb h2]; simp
 rw[h1,PV];have hj:j<xs.length:=by
  refine Pw fun hc=>?_;rw[List.getElem?_eq_none (by omega)] at h2; cases h2
 have e:(xs.map Prod.fst)[j]? = some k:=by rw[PY]; exact h2
 rw[Ph (PO e),List.map_set];refine Q4 fun t=>?_;rw[List.getElem?_set]
 by_cases ht:j=t
 subst ht;rw[Ph rfl,Ph (by rw[Pk]; exact hj),e]
 rw[Pb ht]
def wi(a b c d:I2)(l:SB (I2×Bool))(x:I2):SB (I2×Bool):=if eV a b x/\eV c d x then iy l x true else l
def yj{a b c d:I2}:∀(xs:SB I2) (l:SB (I2×Bool)),(l.map Prod.fst).Nodup->((xs.foldl (wi a b c d) l).map Prod.fst).Nodup/\∀q,q ∈(xs.foldl (wi a b c d) l).map Prod.fst↔q∈l.map Prod.fst\/(q∈xs/\eV a b q/\eV c d q)
 | [],l,hn=>⟨hn,fun q=>by simp⟩
 | x::xs,l,hn=>by
  rw[List.foldl_cons];have key:((wi a b c d l x).map Prod.fst).Nodup/\∀q,q ∈(wi a b c d l x).map Prod.fst↔q∈l.map Prod.fst\/(q=x/\eV a b q/\eV c d q):=by
   unfold wi
   by_cases h:eV a b x/\eV c d x
   rw[Ph h,CA]
   by_cases g:x∈l.map Prod.fst
   rw[Ph g];exact⟨hn,fun q=>⟨.inl,fun e=>e.elim id fun e=>e.1▸g⟩⟩
   rw[Pb g];refine⟨List.nodup_append.2 ⟨hn,by simp,fun u hu v hv=>?_⟩,fun q=>?_⟩
   rw[PM] at hv;intro e; rw[e,hv] at hu; exact g hu
   rw[PX,PM];exact⟨fun e=>e.elim .inl fun e=>.inr ⟨e,e▸h⟩,fun e=>e.elim .inl fun e=>.inr e.1⟩
   rw[Pb h];exact⟨hn,fun q=>⟨.inl,fun e=>e.elim id fun⟨e,g⟩=>Pz (e▸g) h⟩⟩
  obtain⟨k1,k2⟩:=key;obtain⟨r1,r2⟩:=yj xs _ k1;refine⟨r1,fun q=>?_⟩;rw[r2,k2,Pp];constructor
  rintro((h|⟨rfl,h⟩) |⟨h,g⟩)
  exact .inl h
  exact .inr ⟨.inl rfl,h⟩
  exact .inr ⟨.inr h,g⟩
  rintro(h|⟨rfl|h,g⟩)
  exact .inl (.inl h)
  exact .inl (.inr ⟨rfl,g⟩)
  exact .inr ⟨h,g⟩
def vA(n:Nat)(e f:Int){a b c d x:I2}(ha:Nr a)(hb:Nr b)(hc:Nr c)(hd:Nr d)(hx:Nr x)(hab:a≠b)(hcd:c≠d)(hn:2<n)(l:SB (I2×Bool)){i:Nat}(hi:i<4)(he:[a,b,c,d][i]? = some x) :
  pd n a.1 a.2 b.1 b.2 c.1 c.2 d.1 d.2 e f (l,(i:Int))=some (.inl (wi a b c d l x,((i+1:Nat):Int))):=by
 unfold pd
 dsimp only
 rw[aH (by omega),aJ hi,aN,Pg]
 have:[(a.1,a.2),(b.1,b.2),(c.1,c.2),(d.1,d.2)][i]? = some (x.1,x.2):=he;rw[this,ak]
 dsimp only
 rw[Eh n e ha hb hx hab hn,ak,Eh n f hc hd hx hcd hn,ak,fU,ak,aV (by omega)]
 unfold wi
 by_cases h:eV a b x/\eV c d x
 rw[Po h.1,Po h.2,Ph h]; rfl
 rw[Pb h,<-Qp,PL h]; rfl
def Km(n:Nat)(e f:Int){a b c d:I2}(ha:Nr a)(hb:Nr b)(hc:Nr c)(hd:Nr d)(hab:a≠b)(hcd:c≠d)(hn:5<n):Mr n e a.1 a.2 b.1 b.2 f c.1 c.2 d.1 d.2=some (wj a b c d):=by
 classical
 unfold Mr;rw[nU n ha hb hc,ak,nU n ha hb hd,ak,nU n hc hd ha,ak,nU n hc hd hb,ak];have L:bR (pd n a.1 a.2 b.1 b.2 c.1 c.2 d.1 d.2 e f) n ([],0)=some ([a,b,c,d].foldl (wi a b c d) []):=by
  obtain⟨m,hm⟩:∃m,n=m+5:=⟨n-5,by omega⟩
  have L5:∀l,pd n a.1 a.2 b.1 b.2 c.1 c.2 d.1 d.2 e f (l,((4:Nat):Int))=some (.inr l):=fun l=>by
   unfold pd
   dsimp only
   rw[aD (by decide)]
  have h0:=vA n e f ha hb hc hd ha hab hcd (by omega) [] (i:=0) (by decide) rfl
  have h1:=vA n e f ha hb hc hd hb hab hcd (by omega) (wi a b c d [] a) (i:=1) (by decide) rfl
  have h2:=vA n e f ha hb hc hd hc hab hcd (by omega) (wi a b c d (wi a b c d [] a) b) (i:=2) (by decide) rfl
  have h3:=vA n e f ha hb hc hd hd hab hcd (by omega) (wi a b c d (wi a b c d (wi a b c d [] a) b) c) (i:=3) (by decide) rfl
  have:∀body:(SB (I2×Bool)×Int)->SA ((SB (I2×Bool)×Int)⊕SB (I2×Bool)),body=pd n a.1 a.2 b.1 b.2 c.1 c.2 d.1 d.2 e f->bR body n ([],0)=some ([a,b,c,d].foldl (wi a b c d) []):=fun body hbd=>by
   rw[<-hbd] at h0 h1 h2 h3 L5;rw[hm,show(0:Int)=((0:Nat):Int) from rfl,aO h0,aO h1,aO h2,aO h3,aX (L5 _)]
   rfl
  exact this _ rfl
 obtain⟨k1,k2⟩:=yj (a:=a) (b:=b) (c:=c) (d:=d) [a,b,c,d] [] (by simp)
 have hlen:([a,b,c,d].foldl (wi a b c d) []).length=(([a,b,c,d].foldl (wi a b c d) []).map Prod.fst).length:=by rw[Pk]
 rw[L,ak];generalize [a,b,c,d].foldl (wi a b c d) []=l at *;have kc:∀q,q∈l.map Prod.fst↔iL a b c d q:=fun q=>by
  rw[k2];unfold iL;constructor
  rintro(h|⟨h,g⟩)
  simp at h
  exact⟨by simpa only[Pp,List.not_mem_nil,or_false] using h,g⟩
  rintro⟨h,g⟩;exact .inr ⟨by simpa only[Pp,List.not_mem_nil,or_false] using h,g⟩
 rw[ak,ak,hlen];generalize l.map Prod.fst=ks at *;unfold wj
 by_cases h2:∃x y,iL a b c d x/\iL a b c d y/\x≠y
 obtain⟨x,y,hx,hy,hne⟩:=h2;have:=tu (l:=[x,y]) (m:=ks) (by simp[hne]) fun q hq=>by
  simp only[Pp,List.not_mem_nil,or_false] at hq;rcases hq with rfl|rfl
  exact(kc _).2 hx
  exact(kc _).2 hy
 have hl:2<=ks.length:=this;rw[aH (by omega),Ph ⟨x,y,hx,hy,hne⟩]
 ·have hl1:ks.length<=1:=by
   match ks,k1,kc with
   | [],_,_=>exact Qf _
   | [_],_,_=>exact Pd _
   | x::y::t,k1,kc =>
    refine Pz ⟨x,y,(kc x).1 (by simp),(kc y).1 (by simp),?_⟩ h2
    intro e; subst e; simp at k1
  rw[Pb h2,aD (by omega)]
  by_cases h1:∃x,iL a b c d x
  obtain⟨x,hx⟩:=h1;have:0<ks.length:=List.length_pos_of_mem ((kc x).2 hx);rw[Ph ⟨x,hx⟩,aH (by omega)]
  ·have:ks.length=0:=by
    match ks,kc with
    | [],_=>rfl
    | x::t,kc=>exact Pz ⟨x,(kc x).1 (by simp)⟩ h1
   rw[Pb h1,aD (by omega)]
   have w:∀u v:Int,RC (sg u*sg v)=sg u*sg v:=fun u v=>by
    have h1:=jf u;have h2:=jf v;rcases h1 with h1|h1|h1<;>rcases h2 with h2|h2|h2<;>rw[h1,h2]<;>decide
   have s:∀u v:Int,sg u*sg v<0↔(0<u/\v<0)\/(u<0/\0<v):=fun u v=>by
    have a1:=uX (z:=u);have a2:=uE (z:=u);have b1:=uX (z:=v);have b2:=uE (z:=v);have h1:=jf u;have h2:=jf v;rcases h1 with h1|h1|h1<;>rcases h2 with h2|h2|h2<;>rw[h1] at a1 a2 ⊢<;>rw[h2] at b1 b2 ⊢<;>omega
   rw[w,w,fU,ak,Li]
   by_cases hx:tA a b c d
   rw[Ph hx,Ph];unfold tA at hx;rw[Pe,Pv,Pv,s,s];exact hx
   rw[Pb hx,Pb];rw[Pe,Pv,Pv,s,s];exact hx
end Go.Proofs.YthmekkhpddehjaaGreat
namespace Go.Ab
open Go
def F2{j:aY}{l:SB Rx}(h:∀x∈l,bF x=true):LR j l l :=
 ⟨rfl,fun i v hi=>⟨v,hi,VR.bF (h v (PO hi))⟩⟩
def yi{W W':RB}(hc:Calm W W')(hs:W.heap.size<=W'.heap.size)(hold:∀c,c<W.heap.size->W'.heap[c]? = W.heap[c]?):∃q os,W'=Sort.grow (W.drewN q) os:=by
 refine⟨W'.drawn-W.drawn,W'.heap.extract W.heap.size W'.heap.size,?_⟩;have hh:W'.heap=W.heap++W'.heap.extract W.heap.size W'.heap.size:=by
  apply Array.ext_getElem?;intro i;rw[Array.getElem?_append]
  split
  exact hold i ‹_›
  rw[Array.getElem?_extract]
  split
  congr 1; omega
  exact Array.getElem?_eq_none (by omega)
 obtain⟨h1,h2,h3,h4⟩:=hc;cases W; cases W';simp only[Sort.grow,World.drewN] at *;subst h1; subst h2; subst h3
 congr 1
 omega
def Aa{E:Env}(hE:EnvOk E)(hmono:E.mono:=by trivial){f:SJ}{args:SB Rx}(hp:E.cM f=none){v:Rx}(hpl:∀x∈args,bF x=true)(hv:bF v=true)
  (h:aK E f args (pE E.glob fun _=>none) fun v' _=>v'=v) {W:RB} (hW:E.glob<=W.heap.size) :
  Calls E.P f args.toArray W fun e W'=>e=.returned v/\∃q os,W'=Sort.grow (W.drewN q) os:=by
 obtain⟨v',m',⟨k,hr⟩,rfl⟩:=h;have hm:MR E (Cr E.glob) (pE E.glob fun _=>none) W:=Hq (Pd _) hW fun b cs hb=>by cases hb
 refine callsIn_wide.1 ((nA hE hr hp hm (F2 hpl)).mono ?_);rintro e W' ⟨v1,rfl,j',s,hv1⟩;rw[fX hv hv1];refine⟨rfl,yi ⟨s.calm.1,s.calm.2.1,s.calm.2.2.1,s.calm.2.2.2 hmono⟩ s.size fun c hc=>s.frame c hc fun b k hb hl _=>?_⟩;have:(pE E.glob fun _=>none).get b=none:=by simp[Sr.get,pE,Heap.get_nil]
 rw[this] at hl; cases hl
def pF{w:RB}{B:Nat}{c:SD Rx}{e:Ry}{fz:Nat×Nat}(h:w.heap[B]? = some (.cells c e fz))(f:SD Rx->SD Rx):Sort.mapBlock w B f=w.putObj B (.cells (f c) e fz):=by
 unfold Sort.mapBlock World.putObj
 congr 1
 apply Array.ext_getElem?;intro i;rw[Array.getElem?_modify,Array.getElem?_setIfInBounds]
 by_cases hi:B=i
 subst hi;obtain⟨hlt,hv⟩:=Px.1 h;simp[hlt,hv,Sort.onCells]
 simp[hi]
def G1{E:Env}{j:aY}{m:Sr}{w:RB}(h:MR E j m w){b:Nat}{k:Blk}(hk:j b=some k){cs cs':SB Rx}{tag:Tag}(hg:m.get b=some (.cells cs tag))(hl:cs'.length=cs.length)(hp:cs'.all aR=true)(n:Nat)(os:SD Obj) :
  Sim E j m w j (m.set b (.cells cs' tag)) (Sort.grow (Sort.putRow id (Sort.ahead w n) k.c 0 cs'.toArray) os):=by
 obtain⟨c,e,fz,h1,h2,h3⟩:=h.kS hk hg;have s1:Sim E j m w j m (Sort.ahead w n):=Sim.of_heap h rfl ⟨rfl,rfl,rfl,Nat.le_add_right _ _⟩;have hle:cs.length<=c.size:=by
  cases tag with
  | ro=>exact Ro h2.2.symm
  | own=>exact Ro h2.2.1.symm
  | more sz=>exact h2.2.1
 have hor:OR j k (.cells cs' tag) (.cells (Sort.putCells id 0 cs'.toArray c) e fz):=by
  have hget:∀i,(Sort.putCells id 0 cs'.toArray c)[i]? = if i<cs'.length then(if i<c.size then some cs'[i]! else none) else c[i]?:=by
   intro i;simp only[Sort.putCells,Array.getElem?_mapIdx,Qf,true_and,PV,List.size_toArray,Qr,id]
   by_cases hi:i<c.size
   rw[Array.getElem?_eq_getElem hi];simp only[Pj]
   by_cases hj:i<cs'.length
   simp[hj,hi]
   simp[hj]
   rw[Array.getElem?_eq_none (by omega)]
   simp[hi]
  refine⟨?_,fun i v hi=>?_⟩
  rw[show cs'.length=cs.length from hl]
  refine ud.put h2 (by simp[Sort.putCells]) fun i hi=>?_
  rw[hget,RE]
  have hlt:i<cs'.length:=(PN.1 hi).1;refine⟨v,?_,.aR (Pr.1 hp v (PO hi))⟩;rw[hget,Ph hlt,RF,QW,hi]; rfl
 have s2:=iK s1.mr hk (by rw[hg]; rfl) hor
 have e2:Sort.putRow id (Sort.ahead w n) k.c 0 cs'.toArray=(Sort.ahead w n).putObj k.c (.cells (Sort.putCells id 0 cs'.toArray c) e fz):=pF (w:=Sort.ahead w n) h1 _;rw[e2];refine(s1.trans h s2).trans h (Sim.same s2.mr (fun x hx=>?_) (by simp) ⟨rfl,rfl,rfl,fun _=>Pd _⟩)
 show(_++_:SD Obj)[x]? = _
 rw[Array.getElem?_append,Ph hx]
def xu{α:Type}[Inhabited α]{enc:α->SB Rx}{k:Nat}(hk:∀x,(enc x).length=k)(h0:0<k):∀(l:SB α) (t:Nat),t<l.length*k->(l.map enc).flatten[t]! =(enc l[t/k]!)[t%k]!
 | [],t,h=>by simp at h
 | x::l,t,h=>by
  simp only[PS,P1];rw[QW,List.getElem?_append]
  by_cases ht:t<k
  rw[Ph (by rw[hk]; exact ht),Nat.div_eq_of_lt ht,PJ ht,<-QW]; rfl
  rw[Pb (by rw[hk]; exact ht),hk,<-QW,xu hk h0 l (t-k) (by simp only[PD,Qx,Nat.one_mul] at h; omega)]
  have e1:t/k=(t-k)/k+1:=by rw[Nat.div_eq_sub_div h0 (by omega)]
  have e2:t%k=(t-k)%k:=Nat.mod_eq_sub_mod (by omega)
  rw[e1,e2]; rfl
def dw{α:Type}{enc:α->SB Rx}{k:Nat}(hk:∀x,(enc x).length=k):∀l:SB α,(l.map enc).flatten.length=l.length*k
 | []=>by simp
 | x::l=>by simp only[PS,P1,Pm,PD,hk,dw hk l,Qx,Nat.one_mul]; omega
def lF{α:Type}[Inhabited α]{enc:α->SB Rx}{k:Nat}(hk:∀x,(enc x).length=k)(h0:0<k)(l:SB α):Sort.flatK enc k l.toArray=(l.map enc).flatten.toArray:=by
 refine Sort.ext_get! (by simp[dw hk]) fun t ht=>?_
 have ht':t<l.length*k:=by simpa using ht
 rw[Sort.get_flatK _ _ _ _ (by simpa using ht')]
 have:=xu hk h0 l t ht';simp at this ⊢;rw[this]
def Cz{E:Env}{j:aY}{m:Sr}{w:RB}(h:MR E j m w){b:Nat}{k:Blk}(hk:j b=some k){cs:SB Rx}{tag:Tag}(hg:m.get b=some (.cells cs tag))(ht:tag≠.ro)(hp:cs.all aR=true) :
  Sort.Holds id w k.c 0 cs.toArray:=by
 obtain⟨c,e,fz,h1,h2,h3⟩:=h.kS hk hg;have hfz:fz=(0,0):=by
  cases tag with
  | ro=>exact Pz rfl ht
  | own=>exact h2.2.2
  | more sz=>exact h2.2.2.1
 subst hfz;intro i hi;have hi':i<cs.length:=by simpa using hi
 obtain⟨v',g1,g2⟩:=h3 i cs[i] (Pl hi');have:=eD (Pr.1 hp _ (Qk hi')) g2;subst this;refine⟨?_,?_⟩
 simp only[World.cell?,h1,PV];simp[g1,hi']
 simp only[World.frozen?,h1]; simp
end Go.Ab
namespace Go.Proofs
open Go.Shelf
def Tryz.xE:Go.Shelf.Ren:=⟨fun|6=>50|15=>81|14=>80|28=>101|29=>102|20=>93|21=>94|22=>95|23=>96|24=>97|25=>98|26=>99|27=>100|46=>121|47=>122|48=>123|49=>124|50=>125|57=>143|n=>n,fun|22=>22|24=>33|25=>91|3=>3|39=>117|0=>0|53=>134|55=>136|4=>4|46=>127|45=>126|50=>131|5=>5|9=>9|66=>164|70=>168|76=>187|77=>81|n=>n,fun|n=>n⟩
def Tryz.Bs:Go.Proofs.SlLaysF0.n6 Tryz.prog Tryz.xE:={
 mixed:=by kernel_rfl
 f6:=⟨Tryz.f50.name,by decide,Tryz.func50.trans (Ps some (by kernel_rfl))⟩
 f14:=⟨Tryz.f80.name,by decide,Tryz.func80.trans (Ps some (by kernel_rfl))⟩
 f15:=Tryz.func81.trans (Ps some (by kernel_rfl))
 f20:=⟨Tryz.f93.name,by decide,Tryz.func93.trans (Ps some (by kernel_rfl))⟩
 f21:=⟨Tryz.f94.name,by decide,Tryz.func94.trans (Ps some (by kernel_rfl))⟩
 f22:=⟨Tryz.f95.name,by decide,Tryz.func95.trans (Ps some (by kernel_rfl))⟩
 f23:=⟨Tryz.f96.name,by decide,Tryz.func96.trans (Ps some (by kernel_rfl))⟩
 f24:=⟨Tryz.f97.name,by decide,Tryz.func97.trans (Ps some (by kernel_rfl))⟩
 f25:=⟨Tryz.f98.name,by decide,Tryz.func98.trans (Ps some (by kernel_rfl))⟩
 f26:=⟨Tryz.f99.name,by decide,Tryz.func99.trans (Ps some (by kernel_rfl))⟩
 f27:=⟨Tryz.f100.name,by decide,Tryz.func100.trans (Ps some (by kernel_rfl))⟩
 f28:=Tryz.func101.trans (Ps some (by kernel_rfl))
 f29:=Tryz.func102.trans (Ps some (by kernel_rfl))
 f46:=⟨Tryz.f121.name,by decide,Tryz.func121.trans (Ps some (by kernel_rfl))⟩
 f47:=Tryz.func122.trans (Ps some (by kernel_rfl))
 f48:=Tryz.func123.trans (Ps some (by kernel_rfl))
 f49:=⟨Tryz.f124.name,by decide,Tryz.func124.trans (Ps some (by kernel_rfl))⟩
 f50:=⟨Tryz.f125.name,by decide,Tryz.func125.trans (Ps some (by kernel_rfl))⟩
 f57:=⟨Tryz.f143.name,by decide,Tryz.func143.trans (Ps some (by kernel_rfl))⟩
 t0:=Tryz.underlying0
 a0:=Tryz.isAgg0
 z0:=Tryz.sizeOf0
 v0:=Tryz.zeroValue0
 t3:=Tryz.underlying3
 a3:=Tryz.isAgg3
 z3:=Tryz.sizeOf3
 v3:=Tryz.zeroValue3
 t4:=Tryz.underlying4
 a4:=Tryz.isAgg4
 z4:=Tryz.sizeOf4
 v4:=Tryz.zeroValue4
 t5:=Tryz.underlying5
 a5:=Tryz.isAgg5
 z5:=Tryz.sizeOf5
 v5:=Tryz.zeroValue5
 t9:=Tryz.underlying9
 a9:=Tryz.isAgg9
 z9:=Tryz.sizeOf9
 v9:=Tryz.zeroValue9
 t22:=Tryz.underlying22
 a22:=Tryz.isAgg22
 z22:=Tryz.sizeOf22
 v22:=Tryz.zeroValue22
 t25:=Tryz.underlying91
 a25:=Tryz.isAgg91
 z25:=Tryz.sizeOf91
 v25:=Tryz.zeroValue91
 t39:=Tryz.underlying117
 a39:=Tryz.isAgg117
 z39:=Tryz.sizeOf117
 v39:=Tryz.zeroValue117
 t45:=Tryz.underlying126
 a45:=Tryz.isAgg126
 z45:=Tryz.sizeOf126
 v45:=Tryz.zeroValue126
 t46:=Tryz.underlying127
 a46:=Tryz.isAgg127
 z46:=Tryz.sizeOf127
 v46:=Tryz.zeroValue127
 t50:=Tryz.underlying131
 a50:=Tryz.isAgg131
 z50:=Tryz.sizeOf131
 v50:=Tryz.zeroValue131
 t53:=Tryz.underlying134
 a53:=Tryz.isAgg134
 z53:=Tryz.sizeOf134
 v53:=Tryz.zeroValue134
 t55:=Tryz.underlying136
 a55:=Tryz.isAgg136
 z55:=Tryz.sizeOf136
 v55:=Tryz.zeroValue136
 t66:=Tryz.underlying164
 a66:=Tryz.isAgg164
 z66:=Tryz.sizeOf164
 v66:=Tryz.zeroValue164
 t70:=Tryz.underlying168
 a70:=Tryz.isAgg168
 z70:=Tryz.sizeOf168
 v70:=Tryz.zeroValue168
 t76:=Tryz.underlying187
 a76:=Tryz.isAgg187
 z76:=Tryz.sizeOf187
 v76:=Tryz.zeroValue187
 t77:=Tryz.underlying81
 a77:=Tryz.isAgg81
 z77:=Tryz.sizeOf81
 v77:=Tryz.zeroValue81}
end Go.Proofs
namespace Go.Proofs.YthmekkhpddehjaaGreat
open Go Go.Ab Go.Ab.W Go.Ab.B Jd
set_option maxRecDepth 10000
def G6(x y:Int×Int):NK 5 x.1 x.2 y.1 y.2=some (y8 x y):=by
 unfold NK;rw[uH 5 x y (by decide),ak]
def B0(x y:Int×Int){W:RB} :
  Calls Tryz.prog 51 #[.agg (sC x).toArray,.agg (sC y).toArray] W fun e W'=>e=.returned (.int .i64 (y8 x y))/\∃q os,W'=Sort.grow (W.drewN q) os :=
 Aa (E:=nH) uj (hmono:=trivial) (f:=51) (args:=[.agg #[.int .i64 x.1,.int .i64 x.2],.agg #[.int .i64 y.1,.int .i64 y.2]]) rfl (by intro v hv; simp at hv; rcases hv with rfl|rfl<;>rfl) rfl
  ((W51.KJ 5 x.1 x.2 y.1 y.2 _ (G6 x y) _).mono fun v m' ⟨_,h,_⟩=>h) (Qf _)
def MF(x y:Int×Int):Go.Proofs.ltOf y8 x y=decide (x.1<y.1\/x.1=y.1/\x.2<y.2):=by
 unfold Go.Proofs.ltOf y8;have h1:=uX (z:=x.1-y.1);have h2:=uX (z:=x.2-y.2);have h3:=gb (z:=x.1-y.1)
 congr 1
 apply propext
 split<;>omega
def Ov:Go.Sort.SWO (Go.Proofs.ltOf y8) where
 irrefl x:=by rw[MF]; simp
 trans x y z h1 h2:=by rw[MF] at *; simp only[Pv] at *; omega
 ntrans x y z h1 h2:=by rw[MF] at *; simp only[decide_eq_false_iff_not] at *; omega
def Om(x y:Int×Int)(h1:Go.Proofs.ltOf y8 x y=false)(h2:Go.Proofs.ltOf y8 y x=false):x=y:=by
 rw[MF] at h1 h2;simp only[decide_eq_false_iff_not] at h1 h2;exact QY (by omega) (by omega)
def Cw(nK off size:Nat)(w:RB):Go.Proofs.CmpLays Tryz.prog 51 #[] sC 2 y8 nK off size w :=
 fun m os dk _ x y=>B0 x y
end Go.Proofs.YthmekkhpddehjaaGreat
namespace Go.Ab
open Go
section
variable{E:Env}{j:aY}{m:Sr}{w:RB}
def VR.at{b o l c:Nat}{v':Rx}(h:VR j (.slice (some ⟨b,o,none⟩) l c) v'):∃k c',j b=some k/\v'=.slice (some ⟨k.c,o,none⟩) l c':=by
 cases h with
 | slice hj hm=>exact⟨_,_,hj,rfl⟩
 | sliceM hj hm _ _ _ _=>exact⟨_,_,hj,rfl⟩
end
end Go.Ab
namespace Go.Proofs.YthmekkhpddehjaaGreat
section
open Go Go.Ab Go.Ab.W
set_option maxRecDepth 10000
def F0:(fun x y=>!(Go.Proofs.ltOf y8) y x)=Br:=by
 funext x y
 show(!(Go.Proofs.ltOf y8) y x)=Br x y
 rw[MF]; unfold Br;rw[<-decide_not]
 congr 1
 apply propext; omega
def jN:∀{cs:SB Rx} {l:Rs},du cs=some l->cs=(l.map sC).flatten
 | [],l,h=>by cases h; rfl
 | .int .i64 a::.int .i64 b::r,l,h=>by
  have h':(du r).map ((a,b)::·)=some l:=h;cases hr:du r with
  | none=>rw[hr] at h'; cases h'
  | some l' =>
   rw[hr] at h'; cases h';rw[jN hr]; rfl
 | [_],_,h=>by unfold du at h; split at h<;>simp_all
 | _::_::_,l,h=>by
  unfold du at h
  split at h
  rename_i e; cases e
  ·rename_i a b r e;rw[e];cases hr:du r with
   | none=>rw[hr] at h; cases h
   | some l' =>
    rw[hr] at h; cases h;rw[jN hr]; rfl
  cases h
def xb{m:Sr}{b n n':Nat}{cs:SB Rx}{tg:Tag}(h:zM m b n n'=some (cs,tg)):m.get b=some (.cells cs tg)/\tg≠.ro/\n=n'/\cs.length=n*2/\cs.all aR=true:=by
 unfold zM at h
 split at h
 rename_i cs' hg
 split at h
 rename_i hc; cases h; exact⟨hg,(by intro e; cases e),hc⟩
 cases h
 rename_i cs' hg
 split at h
 rename_i hc; cases h; exact⟨hg,(by intro e; cases e),hc⟩
 cases h
 cases h
def xA{j:aY}{f:SJ}{xs ys:SD Rx}{v:Rx}(h:VR j (.func (.func f) xs ys) v)(h1:xs.size=0)(h2:ys.size=0):v=.func (.func f) #[] #[]:=by
 cases h with
 | @func _ _ ys' _ ds a _ c _ =>
  have e1:ys'=#[]:=Array.eq_empty_of_size_eq_zero (a.symm.trans h1);have e2:ds=#[]:=Array.eq_empty_of_size_eq_zero (c.symm.trans h2);rw[e1,e2]
def Hy(w:RB):(isAgg 33).run Tryz.prog w=.ok true w:=by rw[kU (by kernel_rfl) w,show dK Tryz.prog 33=true by kernel_rfl]
def Gj(w:RB):(Go.sizeOf 33).run Tryz.prog w=.ok 2 w:=by rw[cA (by kernel_rfl) w,show aE Tryz.prog 33=2 by kernel_rfl]
def KR{n:Nat}(h:lim n=true):n<=1073741824:=Pt h
def zc(l:Rs):((l.map sC).flatten).all aR=true:=by
 induction l with
 | nil=>rfl
 | cons x l ih=>rw[PS,P1,List.all_append,ih]; rfl
def Hg:∀args w,(callFunc 51 args).run Tryz.prog w=.ok (.enter 51 args) w:=fun args w=>uj.call 51 _ _ Tryz.func51 rfl args w
def yv{pr:Bool}{args:SB Rx}{m m':Sr}{v:Rx}(h:ve args m=some (v,m')){j:aY}{w:RB}{args':SB Rx}(hm:MR sP j m w)(hl:LR j args args') :
  ik sP.P pr 50 args'.toArray w (jZ sP j m w v m'):=by
 have hcall:∀args w,(callFunc 50 args).run Tryz.prog w=.ok (.enter 50 args) w:=fun args w=>uj.call 50 _ _ Tryz.func50 rfl args w;unfold ve at h
 split at h
 rename_i c xs ys
 split at h
 rename_i hc; cases h;obtain⟨v1,vs,rfl,h1,hvs⟩:=hl.cons_inv;obtain⟨v2,v3,rfl,h2,h3⟩:=hvs.cons_inv;obtain rfl:=h3.da;have e0:=xA h2 hc.1 hc.2;subst e0;cases h1;have hcon:=Go.Proofs.AnyF.slices_SortFunc_none Tryz.Bs none c (.func (.func 51) #[] #[]) w
 change Calls Tryz.prog 50 _ _ _ at hcon
 refine .inl ⟨hcall _ _,callsIn_wide.2 ?_⟩;refine Calls.mono hcon ?_;rintro e w' ⟨rfl,rfl⟩;exact⟨_,rfl,j,.refl hm,VR.undef j⟩
 cases h
 rename_i b n n' xs ys
 split at h
 rename_i cs tg hcs;obtain⟨hg,htg,rfl,hcl,hp⟩:=xb hcs
 split at h
 rename_i l h4
 split at h
 rename_i hc; cases h;obtain⟨⟨h5,h6⟩,hlim⟩:=hc;obtain⟨v1,vs,rfl,h1,hvs⟩:=hl.cons_inv;obtain⟨v2,v3,rfl,h2,h3⟩:=hvs.cons_inv;obtain rfl:=h3.da;have e0:=xA h2 h5 h6;subst e0;obtain⟨k,c',hk,rfl⟩:=h1.at
 have h0:∀x,(sC x).length=2:=fun _=>rfl;have ecs:=jN h4;have hlen:l.length=n:=by
  have:=dw h0 l;rw[<-ecs,hcl] at this; omega
 have hH:Go.Sort.HoldsK sC 2 w k.c 0 l.toArray:=by
  unfold Go.Sort.HoldsK;rw[lF h0 (by decide),<-ecs]
  exact Cz hm hk hg htg hp
 have hcon:=Go.Proofs.AnyQ.slices_SortFunc_total Tryz.Bs 2 (fun w=>Hy w) (fun w=>Gj w) sC h0 (fun x v hv=>by simp[sC,eP,eI] at hv; rcases hv with rfl|rfl<;>rfl) y8 Ov 51 #[] k.c 0 c' l.toArray w Hg
  (Cw _ _ _ _) hH (hm.lt b k hk).2 (by have:=KR hlim; simp; omega) Om
 change Calls Tryz.prog 50 _ _ _ at hcon
 rw[F0] at hcon;simp only[List.size_toArray,hlen] at hcon;refine .inl ⟨hcall _ _,callsIn_wide.2 ?_⟩;refine Calls.mono hcon ?_;rintro e w' ⟨rfl,q,os,rfl⟩;refine⟨_,rfl,j,?_,VR.undef j⟩;unfold Go.Proofs.sortWorldK Go.Sort.putRowK;rw[lF h0 (by decide)]
 exact G1 hm hk hg (by rw[dw h0,hcl,List.length_mergeSort,hlen]) (zc _) q os
 cases h
 cases h
 cases h
 cases h
end
section
open Go Go.Ab
def I9:EnvOk sP:=ym wI fun f p hp args m v m' hrun j w args' hm hl=>by
 have hp':G0 f=some p:=hp;unfold G0 at hp'
 split at hp'
 rename_i hf;subst hf;cases hp';exact sN hrun hm hl
 split at hp'
 rename_i hf;subst hf;cases hp';exact ng (E:=sP) zb (fun x y c w hc=>GK Tryz.func144 (by kernel_rfl) (by kernel_rfl) (by kernel_rfl) (by kernel_rfl) x y c w hc) rfl hrun hm hl
 split at hp'
 rename_i hf;subst hf;cases hp';exact ng (E:=sP) As (fun x y c w hc=>GH Tryz.func145 (by kernel_rfl) (by kernel_rfl) (by kernel_rfl) (by kernel_rfl) x y c w hc) rfl hrun hm hl
 cases hp'
def C2:∃fuel m',run sP fuel (.call 18 [] m14)=some (.val (.bool true) m')/\0<=m'.wl:=w9 (E:=sP) (F:=uO) (n:=1000) (g:=0) Ch zL
def vS{args:SB Rx}{m m':Sr}{v:Rx}(h:mE args m=some (v,m')){j:aY}{w:RB}{args':SB Rx}(hm:MR sP j m w)(hl:LR j args args') :
  ik sP.P (sP.cM 18).isSome 18 args'.toArray w (jZ sP j m w v m'):=by
 unfold mE at h
 split at h
 cases h;obtain⟨fuel,m0,h1,h2⟩:=C2;exact vR (E:=sP) (gs:=fun _=>none) I9 (fun x c h=>by cases h) h1 h2 rfl hm (fun x c hx hg=>by cases hg) hl
 cases h
def Ig:EnvOk aG:=zz (E:=sP) I9 (pr:=FO) fun f p hp=>by
 unfold FO at hp
 split at hp
 rename_i e;cases hp;subst e;exact .inr fun args m v m' h j w args' hm hl=>vS h hm hl
 split at hp
 rename_i e;cases hp;subst e;exact .inr fun args m v m' h j w args' hm hl=>yv h hm hl
 exact .inl hp
end
section
set_option maxRecDepth 100000
open Go Go.ChangeShapes Go.WideShapes Go.ChangeAt Go.WideMaps Go.WideElems Go.RowKit Go.Ab Go.Ab.W
section
variable{H:Type}{enc:Ry×Rx->H}{W:RB}{sp:Nat->Bool}{held:Bool}{v:Rx}{d:DataW H}{p:SB MemPlace}{base:Nat}
end
def MQ:laidOutB Tryz.prog=true:=by kernel_rfl
def IX:mapsRowed Tryz.prog=true:=by kernel_rfl
def IA:sizedB Tryz.prog=true:=by kernel_rfl
def CV{H:Type}{enc:Ry×Rx->H}{f:SJ}{fn:Func}{s:ChangeSpec}{W:RB}{args:SD Rx}{ds:SB (DataW H)}{before:SB MemPlace}{tb:Ry}{fresh handsOn:Bool}{absArgs:SB Rx}(hpr:aG.cM f=none)
  (hvars:s.vars=[]) (hres:fn.resultTypes.toList=[tb]) (hrs:fn.resultTypes.size=1) (htb:Tryz.prog.underlying tb=some .bool) (hpt:∀t∈fn.params.toList,t<Tryz.prog.types.size) (hfn:s.fn H ds ={ results:=[.lit (.bool true)],args:=ds,vars:=[]})
  (hW:DataW.Whole enc Tryz.prog fn.params.toList s.vars false W args.toList ds [] before)
  (hl:LR (dP W) absArgs args.toList) (hc:aK aG f absArgs (eF W) (fun v m'=>∃x:SC,v=.bool true/\Hp (eF W) m' [])) :
  Calls Tryz.prog f args W fun e W'=>∃v,e=.returned v/\s.post enc Tryz.prog fn false fresh handsOn false W args v W':=by
 obtain⟨v,m',⟨fuel,hrun⟩,_,rfl,hm'⟩:=hc;have hm:MR aG (dP W) (eF W) W:=KC (Qf _);have hcall:=callsIn_wide.1 (nA Ig hrun hpr hm hl);refine hcall.mono fun e W' ⟨v',he,j',sm,hv⟩=>?_;have hv':v'=.bool true:=eD rfl hv;subst hv';have hwl:(eF W).next<=m'.wl:=by
  have h1:=hm'.ext.wl;have h2:min (eF W).wl (eF W).next=(eF W).next:=Nat.min_self _
  omega
 exact⟨_,he,Db MQ IX IA hvars hres hrs htb hpt hfn hW sm.calm (sm.grown hm hwl)⟩
def Fc{W:RB}(h:W.ShapedOpen Tryz.prog):0<W.heap.size:=by
 unfold World.ShapedOpen at h;obtain⟨_,h2⟩:=h;have e:((begin Tryz.prog (fun _ _=>0) default).world).heap.size=Tryz.prog.globals.size+5:=by
  unfold begin; simp only[Array.size_push,Array.size_mapIdx]
 obtain⟨o,o0,h3,_⟩:=h2 Tryz.prog.globals.size (Pd _) (by rw[e]; omega)
 exact Nat.lt_of_le_of_lt (Qf _) (Px.1 h3).1
def NV:Co Tryz.prog 5 33=some [.int .i64,.int .i64]:=by kernel_rfl
def NX:Co Tryz.prog 5 28=some [.sl 5,.int .i16,.int .i16,.int .u8,.bool,.bool]:=by kernel_rfl
def Of:Co Tryz.prog 5 69=some [.int .u8,.int .u8,.int .u8,.int .i64,.int .i64,.int .u8,.int .u8,.int .u8,.int .i64,.int .i64]:=by kernel_rfl
def O6:Co Tryz.prog 5 5=some [.int .u8]:=by kernel_rfl
def Oe:Tryz.prog.underlying 34=some (.slice 33):=by kernel_rfl
def N2:Tryz.prog.underlying 69=some (.array 2 68):=by kernel_rfl
def bounds_i16{n:Int}(h:(Lit.int .i16 n).wf=true) : -32768<=n/\n<=32767:=by
 have h':(decide ((-32768:Int)<=n)&&decide (n<=32767))=true:=h
 simpa using h'
abbrev Ib(p:Int×Int):Prop:=(-9223372036854775808<=p.1/\p.1<=9223372036854775807)/\(-9223372036854775808<=p.2/\p.2<=9223372036854775807)
section
variable{H:Type}{enc:Ry×Rx->H}{W:RB}{sp:Nat->Bool}{held:Bool}{v:Rx}{d:DataW H}{p:SB MemPlace}{base:Nat}
theorem AD{P:RA}{base:Nat}{v:Rx}(h:mV enc P W base sp held (.int .i16) v):∃n:Int,v=.int .i16 n/\-32768<=n/\n<=32767:=by
 obtain⟨n,rfl,hw⟩:=h;exact⟨n,rfl,bounds_i16 hw⟩
theorem wF{P:RA}{base:Nat}{v:Rx}(h:mV enc P W base sp held .bool v):∃b,v=.bool b:=h
theorem Mn:∀(n:Nat) (cs:SB Rx) (x:DataW H×SB MemPlace),DataW.trod enc Tryz.prog W 0 sp held n 33 cs=some x->∃p:Int×Int,cs=eP (eI .i64) (eI .i64) p/\Ib p:=by
 intro n cs x h;obtain⟨v1,cs,rfl,h1,h⟩:=bS (nv 5 33 _ NV n _ x h);obtain⟨v2,cs,rfl,h2,h⟩:=bS h;obtain rfl:=nu h;obtain⟨a,rfl,ha⟩:=kM h1;obtain⟨b,rfl,hb⟩:=kM h2;exact⟨(a,b),rfl,ha,hb⟩
theorem N7:∀(n:Nat) (cs:SB Rx) (x:DataW H×SB MemPlace),DataW.trod enc Tryz.prog W 0 sp held n 5 cs=some x->∃p:Nat,cs=eN .u8 p/\p<256:=by
 intro n cs x h;obtain⟨v1,cs,rfl,h1,h⟩:=bS (nv 5 5 _ O6 n _ x h);obtain rfl:=nu h;obtain⟨a,rfl,ha⟩:=kA h1;exact⟨a,rfl,ha⟩
theorem Nq(hok:Value.okWide Tryz.prog W .any base 34 v)(hs:0<W.heap.size)(h:DataW.Trod enc Tryz.prog W 0 sp held 34 v d p):∃(l:Rs) (a:Rv) (c:Nat),
  VR (dP W) (.slice a l.length c) v/\(∀q∈l,Ib q)/\l.length<=maxLen/\Rd (eF W) a c 2 l.length (l.map (eP (eI .i64) (eI .i64))):=by
 obtain⟨a0,n0,c0,rfl⟩:=okWide_slice Oe hok;obtain⟨n,h⟩:=h;have h1:=nv 5 34 [.sl 33] (by kernel_rfl) n _ _ h
 obtain⟨v1,r,hr,h1,_⟩:=bS h1;cases hr;obtain⟨a,c,l,e1,e2,e3,e4⟩:=Df (f:=eP (eI .i64) (eI .i64)) (w:=2) (by kernel_rfl) (by omega) hs (fun q=>rfl) Mn h1
 exact⟨l,a,c,e1,e3,e4,e2⟩
theorem MJ(hok:Value.okWide Tryz.prog W .any base 28 v)(hs:0<W.heap.size)(h:DataW.Trod enc Tryz.prog W 0 sp held 28 v d p):∃(l:SB Nat) (a:Rv) (c:Nat) (x1 x2:Int) (x3:Nat) (x4 x5:Bool),
  VR (dP W) (.agg #[.slice a l.length c,.int .i16 x1,.int .i16 x2,.int .u8 ((x3:Nat):Int),.bool x4,.bool x5]) v/\(∀q∈l,q<256)/\(-32768<=x1/\x1<=32767)/\(-32768<=x2/\x2<=32767)/\x3<256/\Rd (eF W) a c 1 l.length (l.map (eN .u8)):=by
 obtain⟨cs,rfl,_⟩:=okWide_struct (t:=28) (fs:=Tryz.prog.underlying 28 |>.elim #[] fun u=>match u with|.struct fs=>fs|_=>#[]) (by kernel_rfl) hok
 obtain⟨n,h⟩:=h;obtain⟨v1,r,hr,h1,h⟩:=bS (qy NX h);obtain⟨v2,r,rfl,h2,h⟩:=bS h;obtain⟨v3,r,rfl,h3,h⟩:=bS h;obtain⟨v4,r,rfl,h4,h⟩:=bS h;obtain⟨v5,r,rfl,h5,h⟩:=bS h;obtain⟨v6,r,rfl,h6,h⟩:=bS h;obtain rfl:=nu h;obtain⟨a,c,l,e1,e2,e3,e4⟩:=Df (f:=eN .u8) (w:=1) (by kernel_rfl) (by omega) hs (fun q=>rfl) N7 h1
 obtain⟨x1,rfl,g1⟩:=AD h2;obtain⟨x2,rfl,g2⟩:=AD h3;obtain⟨x3,rfl,g3⟩:=kA h4;obtain⟨x4,rfl⟩:=wF h5;obtain⟨x5,rfl⟩:=wF h6;refine⟨l,a,c,x1,x2,x3,x4,x5,?_,e3,g1,g2,g3,e2⟩;refine Gh (l:=[.slice a l.length c,.int .i16 x1,.int .i16 x2,.int .u8 ((x3:Nat):Int),.bool x4,.bool x5]) ?_;rw[hr];exact .cons e1 (LR.plain rfl)
theorem NF(hok:Value.okWide Tryz.prog W .any base 69 v)(h:DataW.Trod enc Tryz.prog W 0 sp held 69 v d p):∃(x1 x2 x3:Nat) (x4 x5:Int) (x6 x7 x8:Nat) (x9 x10:Int),
  VR (dP W) (.agg #[.int .u8 ((x1:Nat):Int),.int .u8 ((x2:Nat):Int),.int .u8 ((x3:Nat):Int),.int .i64 x4,.int .i64 x5,.int .u8 ((x6:Nat):Int),.int .u8 ((x7:Nat):Int),.int .u8 ((x8:Nat):Int),.int .i64 x9,.int .i64 x10]) v /\
   (x2<256/\x3<256/\Ib (x4,x5))/\(x7<256/\x8<256/\Ib (x9,x10)):=by
 obtain⟨cs,rfl,_⟩:=uz N2 hok;obtain⟨n,h⟩:=h;obtain⟨v1,r,hr,h1,h⟩:=bS (qy Of h);obtain⟨v2,r,rfl,h2,h⟩:=bS h;obtain⟨v3,r,rfl,h3,h⟩:=bS h;obtain⟨v4,r,rfl,h4,h⟩:=bS h;obtain⟨v5,r,rfl,h5,h⟩:=bS h;obtain⟨v6,r,rfl,h6,h⟩:=bS h;obtain⟨v7,r,rfl,h7,h⟩:=bS h;obtain⟨v8,r,rfl,h8,h⟩:=bS h;obtain⟨v9,r,rfl,h9,h⟩:=bS h;obtain⟨v10,r,rfl,h10,h⟩:=bS h;obtain rfl:=nu h;obtain⟨x1,rfl,_⟩:=kA h1;obtain⟨x2,rfl,g2⟩:=kA h2;obtain⟨x3,rfl,g3⟩:=kA h3;obtain⟨x4,rfl,g4⟩:=kM h4;obtain⟨x5,rfl,g5⟩:=kM h5;obtain⟨x6,rfl,_⟩:=kA h6;obtain⟨x7,rfl,g7⟩:=kA h7;obtain⟨x8,rfl,g8⟩:=kA h8;obtain⟨x9,rfl,g9⟩:=kM h9;obtain⟨x10,rfl,g10⟩:=kM h10;refine⟨x1,x2,x3,x4,x5,x6,x7,x8,x9,x10,?_,⟨g2,g3,g4,g5⟩,⟨g7,g8,g9,g10⟩⟩;refine Gh (l:=[.int .u8 ((x1:Nat):Int),.int .u8 ((x2:Nat):Int),.int .u8 ((x3:Nat):Int),.int .i64 x4,.int .i64 x5,.int .u8 ((x6:Nat):Int),.int .u8 ((x7:Nat):Int),.int .u8 ((x8:Nat):Int),.int .i64 x9,.int .i64 x10]) ?_;rw[hr];exact LR.plain rfl
end
end
section
open Go Go.Ab Go.Ab.W
set_option maxRecDepth 10000
def Ko(n:Nat)(l1:SB (Nat))(x5:Int)(x6:Int)(x7:Nat)(x8:Bool)(x9:Bool)(x10:Int):SA Int :=
br (decide ((l1.length:Int)=0)) (
some (Int.tmod x10 3)) (
gd (decide ((l1.length:Int)≠0)) (
gd (bO (Int.tmod x10 (l1.length:Int)) l1.length) (
ob (l1[(Int.tmod x10 (l1.length:Int)).toNat]?) fun x17 =>
some (RC ((x17:Nat):Int)))))
def tU(n:Nat)(l1:SB (Nat))(x5:Int)(x6:Int)(x7:Nat)(x8:Bool)(x9:Bool):(Rs×Rs×Int)->SA ((Rs×Rs×Int)⊕Rs):=fun(l2,l3,v1) =>
br (decide (v1<12)) (
ob (
ob (Ko n l1 x5 x6 x7 x8 x9 v1) fun r0 =>
ob (
br (decide (Int.tmod r0 6=0)) (
some (!decide (Int.tmod v1 3=0))) (
some false)) fun v2 =>
br (v2) (
some l2) (
gd (bO v1 12) (
ob (l3[v1.toNat]?) fun(x3,x4) =>
ob (some (RC (x3*(RC (1+(Int.tmod (Int.tmod r0 6) 5)))))) fun y0 =>
gd (bO v1 12) (
ob (some (RC (x4*(RC (1+(Int.tmod (Int.tmod r0 6) 5)))))) fun y1 =>
gd (lim (l2++[(y0,y1)]).length) (
some (l2++[(y0,y1)])))))) fun l4 =>
some (.inl (l4,l3,RC (v1+1)))) (
some (.inr l2))
def rq(n:Nat)(v2:Int)(r0:Int):(Rs×Nat×Int)->SA ((Rs×Nat×Int) ⊕(Rs×Nat)):=fun(l2,n1,v1) =>
br (decide (v2<=v1)) (
ob (
gd (bO (RC ((n1:Int)-1)) n1) (
ob (l2[(RC ((n1:Int)-1)).toNat]?) fun(x3,x4) =>
br (!(decide (x3=v1)&&decide (x4=RC (1+(Int.tmod r0 5))))) (
gd (lim (l2++[(v1,RC (1+(Int.tmod r0 5)))]).length) (
some ((l2++[(v1,RC (1+(Int.tmod r0 5)))]),(l2++[(v1,RC (1+(Int.tmod r0 5)))]).length))) (
some (l2,n1)))) fun(l3,n2) =>
some (.inl (l3,n2,RC (v1-1)))) (
some (.inr (l2,n1)))
def xq(n:Nat)(l1:SB (Nat))(x5:Int)(x6:Int)(x7:Nat)(x8:Bool)(x9:Bool):(Rs×Nat×Int)->SA ((Rs×Nat×Int) ⊕(Rs×Nat)):=fun(l2,n1,v1) =>
br (decide (0<=v1)) (
ob (Ko n l1 x5 x6 x7 x8 x9 (RC (v1+1))) fun r0 =>
ob (
bR (rq n v1 r0) n (l2,n1,RC (v1+1))) fun(l3,n2) =>
some (.inl (l3,n2,RC (v1-1)))) (
some (.inr (l2,n1)))
def MU(n:Nat)(l1:SB (Nat))(x5:Int)(x6:Int)(x7:Nat)(x8:Bool)(x9:Bool):SA Rs :=
br (!x8) (
ob (
bR (tU n l1 x5 x6 x7 x8 x9) n (([]:Rs),([(2,0),(2,1),(1,2),(0,2),(-1,2),(-2,1),(-2,0),(-2,-1),(-1,-2),(0,-2),(1,-2),(2,-1)]:Rs),0)) fun l2 =>
some l2) (
ob (Ko n l1 x5 x6 x7 x8 x9 0) fun r0 =>
ob (
bR (xq n l1 x5 x6 x7 x8 x9) n ([(0,0),(RC (1+(Int.tmod r0 6)),0)],2,RC ((RC (1+(Int.tmod r0 6)))-1))) fun(l3,n1) =>
some l3)
def LP(n:Nat)(x1:Int)(x2:Int):SA Bool :=
br (decide (x1 < -1000000)) (
some true) (
br (decide (1000000<x1)) (
some true) (
br (decide (x2 < -1000000)) (
some true) (
some (decide (1000000<x2)))))
def CO(n:Nat)(l1:Rs)(x5:Int):SA (Int×Int) :=
gd (decide ((l1.length:Int)≠0)) (
gd (bO (Int.tmod x5 (l1.length:Int)) l1.length) (
ob (l1[(Int.tmod x5 (l1.length:Int)).toNat]?) fun(x11,x12) =>
some (x11,x12)))
def C4(n:Nat)(x1:Int)(x2:Int)(x3:Int)(x4:Int)(x5:Int)(x6:Int):SA Int :=
ob (some (RC ((RC (x3-x1))*(RC (x6-x2))))) fun y10 =>
ob (some (RC ((RC (x4-x2))*(RC (x5-x1))))) fun y12 =>
some (RC (y10-y12))
def Mw(n:Nat)(x1:Int)(x2:Int)(x3:Int)(x4:Int)(x5:Int)(x6:Int):SA Int :=
ob (some (RC ((RC (x3-x1))*(RC (x5-x3))))) fun y10 =>
ob (some (RC ((RC (x4-x2))*(RC (x6-x4))))) fun y12 =>
some (RC (y10+y12))
def Jr(n:Nat)(x1:Int):SA Int :=
br (decide (0<x1)) (
some 1) (
br (decide (x1<0)) (
some (-1)) (
some 0))
def HQ(n:Nat)(x1:Int)(x2:Int)(x3:Int)(x4:Int)(x5:Int)(x6:Int):SA Bool :=
ob (C4 n x1 x2 x3 x4 x5 x6) fun r11 =>
br (!decide (r11=0)) (
some false) (
br (decide (mi x1 x3<=x5)) (
br (decide (x5<=ma x1 x3)) (
br (decide (mi x2 x4<=x6)) (
some (decide (x6<=ma x2 x4))) (
some false)) (
some false)) (
some false))
def L6(n:Nat)(x1:Int)(x2:Int)(x3:Int)(x4:Int)(x5:Int)(x6:Int)(x7:Int)(x8:Int):SA Int :=
ob (C4 n x1 x2 x3 x4 x5 x6) fun r3 =>
ob (Jr n r3) fun r0 =>
ob (C4 n x1 x2 x3 x4 x7 x8) fun r4 =>
ob (Jr n r4) fun r1 =>
ob (C4 n x5 x6 x7 x8 x1 x2) fun r5 =>
ob (Jr n r5) fun r6 =>
ob (C4 n x5 x6 x7 x8 x3 x4) fun r7 =>
ob (Jr n r7) fun r8 =>
ob (
br (decide (r0=0)) (
some (decide (r1=0))) (
some false)) fun v2 =>
br (v2) (
ob (some (RC ((ma (mi x1 x3) (mi x5 x7))-(mi (ma x1 x3) (ma x5 x7))))) fun y0 =>
ob (
br (decide (x1=x3)) (
ob (some (RC ((ma (mi x2 x4) (mi x6 x8))-(mi (ma x2 x4) (ma x6 x8))))) fun y1 =>
some y1) (
some y0)) fun v1 =>
br (decide (0<v1)) (
some 0) (
br (decide (v1=0)) (
some 1) (
some 3))) (
ob (
br (decide (RC (r0*r1)<0)) (
some (decide (RC (r6*r8)<0))) (
some false)) fun v3 =>
br (v3) (
some 2) (
ob (
ob (HQ n x1 x2 x3 x4 x5 x6) fun r9 =>
br (r9) (
some true) (
ob (HQ n x1 x2 x3 x4 x7 x8) fun r10 =>
br (r10) (
some true) (
ob (HQ n x5 x6 x7 x8 x1 x2) fun r11 =>
br (r11) (
some true) (
ob (HQ n x5 x6 x7 x8 x3 x4) fun r12 =>
some r12)))) fun v4 =>
br (v4) (
some 1) (
some 0)))
def w7(n:Nat)(l1:Rs):Int->SA (Int⊕Int⊕SC):=fun v18 =>
br (decide (v18<(l1.length:Int))) (
gd (bO v18 l1.length) (
ob (l1[v18.toNat]?) fun(x35,x36) =>
ob (LP n x35 x36) fun r39 =>
br (r39) (
some (.inr (.inl v18))) (
some (.inl (RC (v18+1)))))) (
some (.inr (.inr ())))
def wT(n:Nat)(l1:Rs):Int->SA (Int⊕Int⊕SC):=fun v44 =>
br (decide (v44<(l1.length:Int))) (
gd (bO v44 l1.length) (
ob (l1[v44.toNat]?) fun(x62,x63) =>
ob (CO n l1 (RC (v44+1))) fun(r66,r67) =>
br ((decide (x62=r66)&&decide (x63=r67))) (
some (.inr (.inl v44))) (
some (.inl (RC (v44+1)))))) (
some (.inr (.inr ())))
def xl(n:Nat)(l1:Rs):Int->SA (Int⊕Int⊕SC):=fun v1 =>
br (decide (v1<(l1.length:Int))) (
ob (CO n l1 (RC ((RC (v1+(l1.length:Int)))-1))) fun(r0,r1) =>
gd (bO v1 l1.length) (
ob (l1[v1.toNat]?) fun(x3,x4) =>
ob (CO n l1 (RC (v1+1))) fun(r3,r4) =>
ob (
ob (C4 n r0 r1 x3 x4 r3 r4) fun r5 =>
br (decide (r5=0)) (
ob (Mw n r0 r1 x3 x4 r3 r4) fun r6 =>
some (decide (r6<0))) (
some false)) fun v2 =>
br (v2) (
some (.inr (.inl v1))) (
some (.inl (RC (v1+1)))))) (
some (.inr (.inr ())))
def xI(n:Nat)(v2:Int)(l1:Rs):Int->SA (Int⊕SC⊕SC):=fun v1 =>
br (decide (RC (v1+1)<v2)) (
ob (α:=(SC)⊕SC) (
ob (
br (decide (v1=0)) (
some (decide (v2=RC ((l1.length:Int)-1)))) (
some false)) fun v3 =>
br (v3) (
some (.inl ())) (
gd (bO v1 l1.length) (
ob (l1[v1.toNat]?) fun(x3,x4) =>
gd (bO (RC (v1+1)) l1.length) (
ob (l1[(RC (v1+1)).toNat]?) fun(x10,x11) =>
gd (bO v2 l1.length) (
ob (l1[v2.toNat]?) fun(x12,x13) =>
ob (CO n l1 (RC (v2+1))) fun(r0,r1) =>
ob (L6 n x3 x4 x10 x11 x12 x13 r0 r1) fun r3 =>
br (!decide (r3=0)) (
some (.inr ())) (
some (.inl ()))))))) fun r4=>match r4 with
| .inl _ =>
some (.inl (RC (v1+1)))
| .inr _ =>
some (.inr (.inl ()))) (
some (.inr (.inr ())))
def wx(n:Nat)(l1:Rs):Int->SA (Int⊕Int⊕SC):=fun v1 =>
br (decide (v1<(l1.length:Int))) (
ob (α:=(SC)⊕SC) (
bR (xI n v1 l1) n 0) fun r0=>match r0 with
| .inl _ =>
some (.inr (.inl v1))
| .inr _ =>
some (.inl (RC (v1+1)))) (
some (.inr (.inr ())))
def Ns(n:Nat)(l1:Rs):SA (Int×Int) :=
ob (
br (decide ((l1.length:Int)<3)) (
some true) (
some (decide (40<(l1.length:Int))))) fun v1 =>
br (v1) (
some (1,0)) (
ob (α:=(Int)⊕SC) (
bR (w7 n l1) n 0) fun r0=>match r0 with
| .inl v2 =>
some (2,v2)
| .inr _ =>
ob (α:=(Int)⊕SC) (
bR (wT n l1) n 0) fun r1=>match r1 with
| .inl v3 =>
some (3,v3)
| .inr _ =>
ob (α:=(Int)⊕SC) (
bR (xl n l1) n 0) fun r3=>match r3 with
| .inl v4 =>
some (4,v4)
| .inr _ =>
ob (α:=(Int)⊕SC) (
bR (wx n l1) n 0) fun r4=>match r4 with
| .inl v5 =>
some (5,v5)
| .inr _ =>
some (0,0))
def Ip(n:Nat)(l1:Rs):SA Int :=
ob (Ns n l1) fun(r6,r7) =>
br (decide (0<r6)) (
some 140) (
some 0)
def xx(n:Nat)(l1:Rs):(Rs×Nat×Int)->SA ((Rs×Nat×Int) ⊕(Rs×Nat)):=fun(l25,n27,v28) =>
br (decide (0<v28)) (
gd (bO v28 l1.length) (
ob (l1[v28.toNat]?) fun(x46,x47) =>
gd (lim (l25++[(x46,x47)]).length) (
some (.inl ((l25++[(x46,x47)]),(l25++[(x46,x47)]).length,RC (v28-1)))))) (
some (.inr (l25,n27)))
def LV(n:Nat)(l1:Rs):SA (Rs×Int) :=
ob (Ip n l1) fun r6 =>
br (!decide (r6=0)) (
some ([],r6)) (
gd (bO 0 l1.length) (
ob (l1[RD]?) fun(x11,x12) =>
ob (
bR (xx n l1) n ([(x11,x12)],1,RC ((l1.length:Int)-1))) fun(l41,n43) =>
some (l41,0)))
def s5(n:Nat)(l12:Rs)(x5:Int)(x6:Int):(Rs×Int×Int)->SA ((Rs×Int×Int)⊕Rs):=fun(l33,v34,v35) =>
br (decide (v35<(l12.length:Int))) (
gd (bO v35 l12.length) (
ob (l33[v35.toNat]?) fun(x60,x61) =>
ob (some (RC ((RC (x60*v34))+(RC x5)))) fun y63 =>
gd (bO v35 l12.length) (
ob (some (RC ((RC (x61*v34))+(RC x6)))) fun y66 =>
gd (bO v35 l12.length) (
some (.inl ((l33.set v35.toNat (y63,y66)),v34,RC (v35+1))))))) (
some (.inr l33))
def Ni(n:Nat)(l1:SB (Nat))(x5:Int)(x6:Int)(x7:Nat)(x8:Bool)(x9:Bool):SA Rs :=
ob (MU n l1 x5 x6 x7 x8 x9) fun l12 =>
ob (
bR (s5 n l12 x5 x6) n (l12,RC (1+(RC ((x7:Nat):Int))),0)) fun l54 =>
ob (
br (x9) (
ob (LV n l54) fun(l83,r86) =>
some (l83,l83.length)) (
some (l54,l12.length))) fun(l78,n80) =>
some l78
def xL(n:Nat)(x3:Nat):(Rs)->SA (Rs⊕Rs):=fun l2 =>
br (decide ((l2.length:Int)<RC (39+(RC ((x3%3:Nat):Int))))) (
gd (lim (l2++[(RC (3*(l2.length:Int)),RC ((l2.length:Int)*(l2.length:Int)))]).length) (
some (.inl (l2++[(RC (3*(l2.length:Int)),RC ((l2.length:Int)*(l2.length:Int)))])))) (
some (.inr l2))
def LX(n:Nat)(x1:Nat)(x2:Nat)(x10:Nat)(x3:Int)(x5:Int)(l6:Rs):SA Rs :=
gd (okB 0 (mi (l6.length:Int) (50:Int)) l6.length) (
gd (lim (([]:Rs)++(Sk l6 50)).length) (
br (decide (((([]:Rs)++(Sk l6 50)).length:Int)=0)) (
some (([]:Rs)++(Sk l6 50))) (
gd (decide (((([]:Rs)++(Sk l6 50)).length:Int)≠0)) (
ob (some (Int.tmod (RC ((x2:Nat):Int)) ((([]:Rs)++(Sk l6 50)).length:Int))) fun y0 =>
gd (decide (((([]:Rs)++(Sk l6 50)).length:Int)≠0)) (
ob (some (Int.tmod (RC ((x10:Nat):Int)) ((([]:Rs)++(Sk l6 50)).length:Int))) fun y1 =>
ob (
br (decide (x1%9=0)) (
gd (bO y0 ((([]:Rs)++(Sk l6 50)).length)) (
ob ((([]:Rs)++(Sk l6 50))[y0.toNat]?) fun(x23,x24) =>
some (((([]:Rs)++(Sk l6 50)).set y0.toNat (x3,x5)),(([]:Rs)++(Sk l6 50)).length))) (
br (decide (x1%9=1)) (
gd (bO y1 ((([]:Rs)++(Sk l6 50)).length)) (
ob ((([]:Rs)++(Sk l6 50))[y1.toNat]?) fun(x13,x14) =>
gd (bO y0 ((([]:Rs)++(Sk l6 50)).length)) (
ob ((([]:Rs)++(Sk l6 50))[y0.toNat]?) fun(x25,x26) =>
some (((([]:Rs)++(Sk l6 50)).set y0.toNat (x13,x14)),(([]:Rs)++(Sk l6 50)).length)))) (
br (decide (x1%9=2)) (
gd (bO y1 ((([]:Rs)++(Sk l6 50)).length)) (
ob ((([]:Rs)++(Sk l6 50))[y1.toNat]?) fun(x11,x12) =>
gd (bO y0 ((([]:Rs)++(Sk l6 50)).length)) (
ob ((([]:Rs)++(Sk l6 50))[y0.toNat]?) fun(x15,x16) =>
gd (bO y0 ((([]:Rs)++(Sk l6 50)).length)) (
gd (bO y1 ((([]:Rs)++(Sk l6 50)).length)) (
ob (((([]:Rs)++(Sk l6 50)).set y0.toNat (x11,x12))[y1.toNat]?) fun(x27,x28) =>
some ((((([]:Rs)++(Sk l6 50)).set y0.toNat (x11,x12)).set y1.toNat (x15,x16)),(([]:Rs)++(Sk l6 50)).length)))))) (
br (decide (x1%9=3)) (
gd (okB 0 y0 ((([]:Rs)++(Sk l6 50)).length)) (
some ((((([]:Rs)++(Sk l6 50)).drop RD).take ((y0:Int).toNat-RD)),(((([]:Rs)++(Sk l6 50)).drop RD).take ((y0:Int).toNat-RD)).length))) (
br (decide (x1%9=4)) (
gd (lim ((([]:Rs)++(Sk l6 50))++[(x3,x5)]).length) (
some (((([]:Rs)++(Sk l6 50))++[(x3,x5)]),((([]:Rs)++(Sk l6 50))++[(x3,x5)]).length))) (
br (decide (x1%9=5)) (
gd (bO y0 ((([]:Rs)++(Sk l6 50)).length)) (
ob ((([]:Rs)++(Sk l6 50))[y0.toNat]?) fun(x17,x18) =>
gd (decide (((([]:Rs)++(Sk l6 50)).length:Int)≠0)) (
ob (some (Int.tmod (RC (y0+1)) ((([]:Rs)++(Sk l6 50)).length:Int))) fun y4 =>
gd (bO y4 ((([]:Rs)++(Sk l6 50)).length)) (
ob ((([]:Rs)++(Sk l6 50))[y4.toNat]?) fun(x19,x20) =>
ob (some (RC ((RC (Qt x17 2))+(RC (Qt x19 2))))) fun y2 =>
ob (some (RC ((RC (Qt x18 2))+(RC (Qt x20 2))))) fun y3 =>
gd (okB 0 (RC (y0+1)) ((([]:Rs)++(Sk l6 50)).length)) (
gd (lim (([]:Rs)++(((([]:Rs)++(Sk l6 50)).drop RD).take ((RC (y0+1):Int).toNat-RD))).length) (
gd (lim ((([]:Rs)++(((([]:Rs)++(Sk l6 50)).drop RD).take ((RC (y0+1):Int).toNat-RD)))++[(y2,y3)]).length) (
gd (okB (RC (y0+1)) ((([]:Rs)++(Sk l6 50)).length:Int) ((([]:Rs)++(Sk l6 50)).length)) (
gd (lim (((([]:Rs)++(((([]:Rs)++(Sk l6 50)).drop RD).take ((RC (y0+1):Int).toNat-RD)))++[(y2,y3)])++(((([]:Rs)++(Sk l6 50)).drop (RC (y0+1):Int).toNat).take ((((([]:Rs)++(Sk l6 50)).length:Int):Int).toNat-(RC (y0+1):Int).toNat))).length) (
some ((((([]:Rs)++(((([]:Rs)++(Sk l6 50)).drop RD).take ((RC (y0+1):Int).toNat-RD)))++[(y2,y3)])++(((([]:Rs)++(Sk l6 50)).drop (RC (y0+1):Int).toNat).take ((((([]:Rs)++(Sk l6 50)).length:Int):Int).toNat-(RC (y0+1):Int).toNat))),(((([]:Rs)++(((([]:Rs)++(Sk l6 50)).drop RD).take ((RC (y0+1):Int).toNat-RD)))++[(y2,y3)])++(((([]:Rs)++(Sk l6 50)).drop (RC (y0+1):Int).toNat).take ((((([]:Rs)++(Sk l6 50)).length:Int):Int).toNat-(RC (y0+1):Int).toNat))).length)))))))))) (
br (decide (x1%9=6)) (
ob (
bR (xL n x10) n (([]:Rs)++(Sk l6 50))) fun l2 =>
some (l2,l2.length)) (
br (decide (x1%9=7)) (
gd (bO y0 ((([]:Rs)++(Sk l6 50)).length)) (
ob ((([]:Rs)++(Sk l6 50))[y0.toNat]?) fun(x21,x4) =>
gd (bO y0 ((([]:Rs)++(Sk l6 50)).length)) (
gd (bO y0 ((([]:Rs)++(Sk l6 50)).length)) (
gd (bO y0 ((([]:Rs)++(Sk l6 50)).length)) (
ob (((([]:Rs)++(Sk l6 50)).set y0.toNat (x4,x4))[y0.toNat]?) fun(x22,x29) =>
some ((((([]:Rs)++(Sk l6 50)).set y0.toNat (x4,x4)).set y0.toNat (x22,x21)),(([]:Rs)++(Sk l6 50)).length)))))) (
some ((([]:Rs)++(Sk l6 50)),(([]:Rs)++(Sk l6 50)).length)))))))))) fun(l3,n1) =>
some l3)))))
def Ms(n:Nat)(l1:Rs):SA Rs :=
gd (okB 0 (mi (l1.length:Int) (50:Int)) l1.length) (
some (Sk l1 50))
def LO(n:Nat)(l1:Rs)(l6:SB (Nat))(x11:Int)(x12:Int)(x13:Nat)(x14:Bool)(x15:Bool)(x16:Nat)(x17:Nat)(x18:Nat)(x19:Int)(x20:Int)(x21:Nat)(x22:Nat)(x23:Nat)(x24:Int)(x25:Int):SA (Rs×Rs×Rs×Rs) :=
ob (Ni n l6 x11 x12 x13 x14 x15) fun l30 =>
ob (LX n x16 x17 x18 x19 x20 l30) fun l34 =>
ob (LX n x21 x22 x23 x24 x25 l34) fun l39 =>
ob (Ms n l1) fun l44 =>
some (l30,l34,l39,l44)
def yp(n:Nat)(l1:Rs):Int->SA (Int⊕Int⊕SC):=fun v49 =>
br (decide (v49<(l1.length:Int))) (
gd (bO v49 l1.length) (
ob (l1[v49.toNat]?) fun(x66,x67) =>
ob (LI n x66 x67) fun r70 =>
br (r70) (
some (.inr (.inl v49))) (
some (.inl (RC (v49+1)))))) (
some (.inr (.inr ())))
def xS(n:Nat)(l1:Rs):Int->SA (Int⊕Int⊕SC):=fun v1 =>
br (decide (v1<(l1.length:Int))) (
gd (bO v1 l1.length) (
ob (l1[v1.toNat]?) fun(x3,x4) =>
gd (decide ((l1.length:Int)≠0)) (
gd (bO (Int.tmod (RC (v1+1)) (l1.length:Int)) l1.length) (
ob (l1[(Int.tmod (RC (v1+1)) (l1.length:Int)).toNat]?) fun(x10,x11) =>
ob (α:=(SC)⊕SC) (
br ((decide (x3=x10)&&decide (x4=x11))) (
some (.inl ())) (
some (.inr ()))) fun r0=>match r0 with
| .inl _ =>
some (.inr (.inl v1))
| .inr _ =>
some (.inl (RC (v1+1))))))) (
some (.inr (.inr ())))
def wA(n:Nat)(l1:Rs):Int->SA (Int⊕Int⊕SC):=fun v1 =>
br (decide (v1<(l1.length:Int))) (
gd (bO v1 l1.length) (
ob (l1[v1.toNat]?) fun(x3,x4) =>
gd (decide ((l1.length:Int)≠0)) (
gd (bO (Int.tmod (RC (v1+1)) (l1.length:Int)) l1.length) (
ob (l1[(Int.tmod (RC (v1+1)) (l1.length:Int)).toNat]?) fun(x10,x11) =>
ob (α:=(SC)⊕SC) (
gd (decide ((l1.length:Int)≠0)) (
ob (some (Int.tmod (RC ((RC (v1+(l1.length:Int)))-1)) (l1.length:Int))) fun y0 =>
gd (bO y0 l1.length) (
ob (l1[y0.toNat]?) fun(x12,x13) =>
ob (
ob (C5 n x12 x13 x3 x4 x10 x11) fun r0 =>
br (decide (r0=0)) (
ob (some (RC ((RC (x3-x12))*(RC (x10-x3))))) fun y1 =>
ob (some (RC ((RC (x4-x13))*(RC (x11-x4))))) fun y2 =>
some (decide (RC (y1+y2)<0))) (
some false)) fun v2 =>
br (v2) (
some (.inl ())) (
some (.inr ()))))) fun r1=>match r1 with
| .inl _ =>
some (.inr (.inl v1))
| .inr _ =>
some (.inl (RC (v1+1))))))) (
some (.inr (.inr ())))
def yD(n:Nat)(l1:Rs)(v2:Int)(x3:Int)(x4:Int)(x10:Int)(x11:Int):Int->SA (Int⊕SC⊕SC⊕SC):=fun v1 =>
br (decide (v1<(l1.length:Int))) (
gd (bO v1 l1.length) (
ob (l1[v1.toNat]?) fun(x12,x13) =>
gd (decide ((l1.length:Int)≠0)) (
gd (bO (Int.tmod (RC (v1+1)) (l1.length:Int)) l1.length) (
ob (l1[(Int.tmod (RC (v1+1)) (l1.length:Int)).toNat]?) fun(x14,x15) =>
ob (α:=(SC)⊕SC⊕SC) (
br (decide (RC (v2-1)<=v1)) (
some (.inl ())) (
ob (
br (decide (v1=0)) (
some (decide (v2=RC ((l1.length:Int)-1)))) (
some false)) fun v3 =>
br (v3) (
some (.inr (.inl ()))) (
ob (Mr n v2 x3 x4 x10 x11 v1 x12 x13 x14 x15) fun r0 =>
br (!decide (r0=0)) (
some (.inr (.inr ()))) (
some (.inr (.inl ())))))) fun r1=>match r1 with
| .inl _ =>
some (.inr (.inl ()))
| .inr (.inl _) =>
some (.inl (RC (v1+1)))
| .inr (.inr _) =>
some (.inr (.inr (.inl ()))))))) (
some (.inr (.inr (.inr ()))))
def yC(n:Nat)(l1:Rs):Int->SA (Int⊕Int⊕SC):=fun v1 =>
br (decide (v1<(l1.length:Int))) (
gd (bO v1 l1.length) (
ob (l1[v1.toNat]?) fun(x3,x4) =>
gd (decide ((l1.length:Int)≠0)) (
gd (bO (Int.tmod (RC (v1+1)) (l1.length:Int)) l1.length) (
ob (l1[(Int.tmod (RC (v1+1)) (l1.length:Int)).toNat]?) fun(x10,x11) =>
ob (α:=(SC)⊕SC) (
ob (
some ()) fun _ =>
ob (α:=(SC)⊕SC⊕SC) (
ob (α:=(SC)⊕SC⊕SC) (
bR (yD n l1 v1 x3 x4 x10 x11) n 0) fun r0=>match r0 with
| .inl _ =>
some (.inl ())
| .inr (.inl _) =>
some (.inr (.inl ()))
| .inr (.inr _) =>
some (.inr (.inr ()))) fun r1=>match r1 with
| .inl _ =>
some (.inl ())
| .inr (.inl _) =>
some (.inr ())
| .inr (.inr _) =>
some (.inl ())) fun r3=>match r3 with
| .inl _ =>
some (.inl (RC (v1+1)))
| .inr _ =>
some (.inr (.inl v1)))))) (
some (.inr (.inr ())))
def Mq(n:Nat)(l1:Rs):SA (Int×Int) :=
ob (
br (decide ((l1.length:Int)<3)) (
some true) (
some (decide (40<(l1.length:Int))))) fun v2 =>
br (v2) (
some (1,0)) (
ob (
ob (α:=(Int)⊕SC) (
bR (yp n l1) n 0) fun r0=>match r0 with
| .inl v3 =>
some v3
| .inr _ =>
some (-1)) fun v1 =>
br (decide (0<=v1)) (
some (2,v1)) (
ob (
some ()) fun _ =>
ob (α:=(Int)⊕SC) (
ob (α:=(Int)⊕SC) (
bR (xS n l1) n 0) fun r1=>match r1 with
| .inl v4 =>
some (.inl v4)
| .inr _ =>
some (.inr ())) fun r3=>match r3 with
| .inl v5 =>
some (3,v5)
| .inr _ =>
ob (
some ()) fun _ =>
ob (α:=(Int)⊕SC) (
ob (α:=(Int)⊕SC) (
bR (wA n l1) n 0) fun r4=>match r4 with
| .inl v6 =>
some (.inl v6)
| .inr _ =>
some (.inr ())) fun r5=>match r5 with
| .inl v7 =>
some (4,v7)
| .inr _ =>
ob (
some ()) fun _ =>
ob (α:=(Int)⊕SC) (
ob (α:=(Int)⊕SC) (
bR (yC n l1) n 0) fun r6=>match r6 with
| .inl v8 =>
some (.inl v8)
| .inr _ =>
some (.inr ())) fun r7=>match r7 with
| .inl v9 =>
some (5,v9)
| .inr _ =>
some (0,0)))
def Iu(n:Nat)(l1:Rs):SA Int :=
ob (Mq n l1) fun(r6,r7) =>
br (decide (0<r6)) (
some 140) (
some 0)
def Nd(n:Nat)(l1:Rs)(l5:Rs):Int->SA (Int⊕SC⊕SC):=fun v11 =>
br (decide (v11<(l1.length:Int))) (
gd (bO v11 l1.length) (
ob (l1[v11.toNat]?) fun(x31,x32) =>
gd (bO v11 l5.length) (
ob (l5[v11.toNat]?) fun(x37,x38) =>
br (!(decide (x31=x37)&&decide (x32=x38))) (
some (.inr (.inl ()))) (
some (.inl (RC (v11+1))))))) (
some (.inr (.inr ())))
def O1(n:Nat)(l1:Rs)(l5:Rs):SA Bool :=
br (!decide ((l1.length:Int)=(l5.length:Int))) (
some false) (
ob (α:=(SC)⊕SC) (
bR (Nd n l1 l5) n 0) fun r42=>match r42 with
| .inl _ =>
some false
| .inr _ =>
some true)
end
section
open Go Go.Ab Go.Ab.W
set_option maxRecDepth 10000
set_option maxHeartbeats 4000000
attribute [local irreducible] Tm.at Trie.set Trie.get Sr.get Sr.set Sr.alloc Sr.ww Sr.kill
def OQ(n:Nat)(l:Rs):SA Rs:=gd (lim l.length) (some l)
end
end Go.Proofs.YthmekkhpddehjaaGreat
namespace Go.Ab.W
open Go Go.Ab
attribute [local irreducible] Tm.at Trie.set Trie.get Sr.get Sr.set Sr.alloc Sr.ww Sr.kill
section
variable{E:Env}{n:Nat}{m0 m:Sr}{fs:Fs}{ps:SB Pc}{x y:Rz}{ty:Ry}
def tO(a:Rv)(cap w l:Nat)(es:Ru):GPc where
 ow b:=eL a=some b
 rd _:=False
 P m:=es.length=l/\(∀e∈es,e.length=w)/\0<w/\l<=cap/\((a=none/\cap=0)\/∃b jk tg,a=some ⟨b,0,none⟩/\b<m.next/\m.get b=some (.cells (es.flatten++jk) tg)/\(tg=.own\/tg=.more w)/\(es.flatten++jk).length=cap*w)
 st m m' h hn hg:=by
  obtain⟨h1,h2,h3,h4,h5⟩:=h;refine⟨h1,h2,h3,h4,?_⟩;rcases h5 with h5|⟨b,jk,tg,rfl,h6,h7,h8⟩
  exact .inl h5
  exact .inr ⟨b,jk,tg,rfl,by omega,by rw[hg b (.inl rfl) h6]; exact h7,h8⟩
 lt m b h hb:=by
  obtain⟨_,_,_,_,h5⟩:=h;rcases hb with hb|hb
  rcases h5 with⟨rfl,_⟩|⟨b',_,_,rfl,h6,_⟩
  cases hb
  cases hb; exact h6
  exact hb.elim
variable{α:Type}{f:α->SB Rx}{elem:Ry}{k cap w l:Nat}{a:Rv}{es:Ru}{xs:SB α}
def ae.OF(hp:pk ps k=some (.sl a w l es)):ae m0 ps (cf ps k (.gen (tO a l w l es))):=fun m h=>by
 have h0:=h.get hp;refine h.Dt hp (fun b hb=>.inl (.inl ⟨rfl,?_⟩)) (fun b hb=>.inl (.inl ?_)) (Pd _) h.ext ⟨?_,fun _ b hb=>?_⟩ fun _ _ _=>rfl
 rcases hb with hb|hb
 cases hb.1
 exact hb
 rcases hb with hb|hb
 cases hb
 rcases hb with hb|hb
 exact hb
 exact hb.elim
 rcases h0 with⟨rfl,rfl,rfl,h1⟩|⟨b,tg,rfl,h1⟩
 exact⟨rfl,fun e he=>(by cases he),h1,Pd _,.inl ⟨rfl,rfl⟩⟩
 exact⟨h1.2.2.2.1,h1.2.2.2.2.1,h1.2.2.2.2.2.2,Pd _,.inr ⟨b,[],tg,rfl,h1.2.1,by rw[PU]; exact h1.2.2.1,h1.2.2.2.2.2.1,by rw[PU,dw h1.2.2.2.2.1,h1.2.2.2.1]⟩⟩
 have hb:eL a=some b:=hb;rcases h0 with⟨_,_,rfl,_⟩|⟨b',tg,rfl,h1⟩
 cases hb
 cases hb; exact h1.1
def KN{a:Rv}{cap w l:Nat}{es:Ru}(h:(tO a cap w l es).P m):Rd m a cap w l es:=by
 obtain⟨h1,h2,h3,h4,h5⟩:=h;refine⟨h1,h4,?_⟩;rcases h5 with⟨rfl,rfl⟩|⟨b,jk,tg,rfl,h6,h7,h8,h9⟩
 exact .inl ⟨rfl,by omega⟩
 refine .inr (.inr ⟨b,0,rfl,h6,_,tg,h7,fun sz e=>by rcases h8 with h|h<;>rw[h] at e<;>cases e; rfl,fun i e he=>?_⟩)
 have hi:i<es.length:=(PN.1 he).1;have hl:=h2 e (PO he);refine⟨?_,hl⟩;have:=vQ h2 he;rw[PV,List.drop_append_of_le_length (by rw[dw h2]; exact Qd w (by omega)),List.take_append_of_le_length,this]
 rw[List.length_drop,dw h2];have:(i+1)*w<=es.length*w:=Qd w hi;rw[QI] at this; omega
def ae.NQ(hp:pk ps k=some (.gen (tO a cap w l es))):ae m0 ps (cf ps k (.rd a cap w l es)):=fun m h =>
 h.Dt hp (fun b hb=>.inl (.inr (by rcases hb with hb|hb; cases hb.1; exact hb.elim))) (fun b hb=>.inl (.inr (.inl (by rcases hb with hb|hb; exact hb; exact hb.elim)))) (Pd _) h.ext (KN (h.get hp).1) fun _ _ _=>rfl
def ae.OS{i:Nat}(hp:pk ps k=some (.gen (tO a cap w l es)))(hi:i<=l):ae m0 ps (cf ps k (.gen (tO a cap w i (es.take i)))):=fun m h=>by
 refine h.Dt hp (fun b hb=>.inl (.inr (by rcases hb with hb|hb; cases hb.1; exact hb))) (fun b hb=>.inl (.inr (by rcases hb with hb|hb; cases hb; exact hb))) (Pd _) h.ext ⟨?_,fun _ b hb=>(h.get hp).2 rfl b hb⟩ fun _ _ _=>rfl
 obtain⟨h1,h2,h3,h4,h5⟩:=(h.get hp).1;refine⟨by rw[Qj]; omega,fun e he=>h2 e (QZ he),h3,by omega,?_⟩
 rcases h5 with h5|⟨b,jk,tg,rfl,h6,h7,h8,h9⟩
 exact .inl h5
 have e:es.flatten++jk=(es.take i).flatten++((es.drop i).flatten++jk):=by rw[<-List.append_assoc,<-List.flatten_append,List.take_append_drop]
 exact .inr ⟨b,(es.drop i).flatten++jk,tg,rfl,h6,by rw[<-e]; exact h7,h8,by rw[<-e]; exact h9⟩
def Na{ys:SB α}{hi:Int}{hx:SA Rz}{kd:IntKind}(ht:SlT E.P ty elem w)(hv:ev E fs x=some (.slice a l cap))(e2:xh E fs hx=some (some (.int kd hi)))(hp:pk ps k=some (.gen (tO a cap w l (xs.map f))))(hb:okB 0 hi l=true)(h0:0<l)(hys:xs.take hi.toNat=ys) :
  Od E m0 fs ps (.slice ty x none hx none) (.slice a ys.length cap) (cf ps k (.gen (tO a cap w ys.length (ys.map f)))) :=
 fun t m hf hm=>by
  subst hys;have hP:=(hm.get hp).1;obtain⟨h1,h2,h3,h4,h5⟩:=hP;obtain⟨_,b2,b3⟩:=yA hb;have hlen:(xs.take hi.toNat).length=hi.toNat:=by rw[Qj]; rw[Pk] at h1; omega
  rcases h5 with⟨_,h⟩|⟨b,jk,tg,rfl,h6,h7,h8,h9⟩
  omega
  refine⟨fun b' hb'=>?_,fun K hK=>?_⟩
  have:dW (.slice (some ⟨b,0,none⟩) l cap)=some b:=rfl;simp only[aQ,hf.ev hv,PI,this] at hb';cases hb'; exact h6
  have hbd:dN l cap none (some (.int kd hi)) none=some (0,hi.toNat,cap):=iW (Qf _) (by omega) (.inl ⟨rfl,rfl⟩) (.inr ⟨kd,by rw[Qn b2]⟩)
  have hs:cj E.P ty (.slice (some ⟨b,0,none⟩) l cap) none (some (.int kd hi)) none m=some (.slice (some ⟨b,0,none⟩) hi.toNat cap):=by
   rcases h8 with rfl|rfl
   simp only[cj,ht.und,ht.known,if_true,h7,hbd,ht.size,QO,Qh,Qr,ite_self]
   simp only[cj,ht.und,ht.known,if_true,h7,hbd,ht.size,QO,Qh,Qr];rw[Pb (by simp),RE]
  rw[Go.Ab.pP (hf.ev hv) (hf.xh rfl) (hf.xh e2) (hf.xh rfl) hs,<-hlen];refine hK m ?_;have:=ae.OS (m0:=m0) (i:=(xs.take hi.toNat).length) hp (by rw[hlen]; omega) m hm
  rwa[<-List.map_take,show xs.take (xs.take hi.toNat).length=xs.take hi.toNat by rw[hlen]] at this
def yX {P:RA} {ty2 n1 c0:Nat} {a0:Rv} {e0:Ru} (ht:SlT P ty elem w) (h10:∃e1,P.underlying ty2=some (.slice e1)) (h:Hp m0 m ps) (hp:pk ps k=some (.gen (tO a cap w l es))) (hr:Rd m a0 c0 w n1 e0) (h7:∀e ∈ e0,e.length=w) (ho:fw e0) (hl:lim (l+n1)=true) :
  ∃a' cap' m',bV P ty (some ty2) (.slice a l cap) (.slice a0 n1 c0) m=some (.slice a' (l+n1) cap',m')/\Hp m0 m' (cf ps k (.gen (tO a' cap' w (l+n1) (es++e0)))):=by
 obtain⟨e1,h11⟩:=h10;obtain⟨inf,h12,h13,h14⟩:=ht.bytes;have hln:l+n1<=1073741824:=Pt hl;have hc:=hr.cells;have hlen2:e0.flatten.length=n1*w:=by rw[dw h7,hr.1]
 have hnew:eh P elem (some ty2) (.slice a0 n1 c0) m=some (n1,e0.flatten):=by
  simp only[eh,PI,h11,ht.size];have:cO w (.slice a0 n1 c0) n1 m=some e0.flatten:=hc;rw[this]; rfl
 have hfit:(P.info? elem).any (fun i=>dG i.bytes (l+n1)&&i.bytes != 0)=true:=by
  rw[h12];have hmul:(2*(l+n1)+2000)*inf.bytes<=(2*1073741824+2000)*1024:=Qw (by omega) h14
  simp only[Rj,dG,Pe,Pv,bne_iff_ne,ne_eq];exact⟨by omega,h13⟩
 have hzero:(bK P elem).any (fun z=>z.cells.size==w&&z.cells.toList.all aR)=true:=ht.zero;have hpos:=ht.pos;have h15:(w==0)=false:=by simp; omega
 have hguard:(!(known P elem)||aE P elem==0 || !bg e0.flatten || !(P.info? elem).any (fun i=>dG i.bytes (l+n1)&&i.bytes != 0)||e0.flatten.length != n1*aE P elem || !(bK P elem).any (fun z=>z.cells.size==aE P elem&&z.cells.toList.all aR))=false:=by
  rw[ht.size,ht.known,hfit,hzero,pv ho,h15,hlen2]; simp
 have hpc:=h.get hp;have hext:=h.ext;have hnew':∀{mm:Sr} {q:Ru},q.length=l+n1->(∀e∈q,e.length=w)->(tO (some ⟨mm.next,0,none⟩) (l+n1) w (l+n1) q).P (mm.alloc (.cells q.flatten (.more w))):=fun{mm q} h0 h2 =>
  ⟨h0,h2,hpos,Pd _,.inr ⟨mm.next,[],.more w,rfl,by rw[Sr.next_alloc]; omega,by rw[Sr.bh,Ph rfl,PU],.inr rfl,by rw[PU,dw h2,h0]⟩⟩
 obtain⟨h0,h2,h18,h19,h16⟩:=hpc.1;have h3:(es++e0).length=l+n1:=by rw[Pm,h0,hr.1]
 have h4:∀e∈es++e0,e.length=w:=fun e he=>(PX.1 he).elim (h2 e) (h7 e);have hfl:es.flatten.length=l*w:=by rw[dw h2,h0]
 have o1:∀b,(Pc.gen (tO a cap w l es)).ow b↔eL a=some b:=fun b=>⟨fun hb=>by rcases hb with hb|hb; cases hb.1; exact hb,fun hb=>.inr hb⟩
 have fresh:∀{mm:Sr} {c':Nat},m.next<=mm.next->Ext m0 mm->(∀b,eL a≠some b->b<m.next->mm.get b=m.get b)->∀{o:St},(tO (some ⟨mm.next,0,none⟩) c' w (l+n1) (es++e0)).P (mm.alloc o)->Hp m0 (mm.alloc o) (cf ps k (.gen (tO (some ⟨mm.next,0,none⟩) c' w (l+n1) (es++e0)))):=fun{mm c'} hn he hg {o} hP =>
  h.Dt hp (fun b hb=>.inr (by rcases hb with hb|hb; cases hb.1; cases hb; exact hn)) (fun b hb=>.inr (by rcases hb with hb|hb; cases hb; rcases hb with hb|hb; cases hb; exact hn; exact hb.elim)) (by rw[Sr.next_alloc]; omega) (he.alloc _) ⟨hP,fun _ b hb=>by cases hb; exact PB hext.next hn⟩ fun b hb hlt=>by
   rw[Sr.bh,RE]; exact hg b (fun e=>hb ((o1 b).2 e)) hlt
 rcases h16 with⟨rfl,rfl⟩|⟨b,jk,tg,rfl,h17,h1,h6,h8⟩
 obtain rfl:l=0:=by omega
 obtain rfl:es=[]:=Qa.1 h0
 by_cases h5:n1=0
 subst h5;obtain rfl:e0=[]:=Qa.1 hr.1;refine⟨none,0,m,?_,?_⟩
 unfold bV;simp only[ht.und,hnew];rw[Pb (by rw[hguard]; exact PZ)]
 rfl
 refine h.Dt hp (fun b hb=>.inl (.inr (by rcases hb with hb|hb; cases hb.1; exact hb))) (fun b hb=>.inl (.inr (by rcases hb with hb|hb; cases hb; exact hb))) (Pd _) h.ext ⟨⟨rfl,fun e he=>(by cases he),hpos,Pd _,.inl ⟨rfl,rfl⟩⟩,fun _ b hb=>(by cases hb)⟩ fun _ _ _=>rfl
 refine⟨some ⟨m.next,0,none⟩,n1,m.alloc (.cells e0.flatten (.more w)),?_,?_⟩
 unfold bV;simp only[ht.und,hnew];rw[Pb (by rw[hguard]; exact PZ)]
 simp only[ht.size];rw[Pb (by simp),Pb h5,PV]
 have:=hnew' (mm:=m) (q:=[]++e0) h3 h4;rw[PV] at this ⊢;exact(by simpa using fresh (mm:=m) (c':=n1) (Pd _) hext (fun _ _ _=>rfl) (by simpa using this))
 ·have hlo:=hpc.2 rfl b rfl
  by_cases hcap:l+n1<=cap
  ·have hjk:n1*w<=jk.length:=by
    rw[Pm,hfl] at h8;have:=Qd w hcap;rw[Qx] at this;omega
   have hsp:aT (es.flatten++jk) (l*w) e0.flatten=(es++e0).flatten++jk.drop (n1*w):=by
    have e2:=pg es.flatten jk e0.flatten 0;rw[Qh,hfl] at e2;rw[e2,List.flatten_append,List.append_assoc]
    congr 1
    refine Q4 fun i=>?_;rw[ca,PV,Qr,List.getElem?_append,hlen2]
    by_cases hi:i<n1*w
    rw[Ph ⟨Qf _,hi,by omega⟩,Ph hi]
    rw[RE,Pb hi,QK]
    congr 1; omega
   have hlenS:((es++e0).flatten++jk.drop (n1*w)).length=cap*w:=by
    rw[<-hsp,cx,h8]
   by_cases hz:e0.flatten=[]
   
   have h5:n1=0:=by
    rw[hz,QU] at hlen2;rcases Nat.mul_eq_zero.1 hlen2.symm with e|e
    exact e
    omega
   subst h5;obtain rfl:e0=[]:=Qa.1 hr.1;refine⟨some ⟨b,0,none⟩,cap,m,?_,?_⟩
   unfold bV;simp only[ht.und,hnew];rw[Pb (by rw[hguard]; exact PZ)]
   simp only[h1];rw[Ph hcap];simp[Sr.cE]
   rw[PU,Qh];refine h.Dt hp (fun b hb=>.inl hb) (fun b hb=>.inl hb) (Pd _) h.ext hpc fun _ _ _=>rfl
   ·refine⟨some ⟨b,0,none⟩,cap,m.set b (.cells ((es++e0).flatten++jk.drop (n1*w)) tg),?_,?_⟩
    ·have hst:m.cE b (0+l*w) e0.flatten=some (m.set b (.cells ((es++e0).flatten++jk.drop (n1*w)) tg)):=by
      rw[PV,<-hsp];have hfit':l*w+e0.flatten.length<=(es.flatten++jk).length:=by rw[hlen2,Pm,hfl]; omega
      cases h9:e0.flatten with
      | nil=>exact Pz h9 hz
      | cons v vs =>
       rw[h9] at hfit';rcases h6 with rfl|rfl<;>simp only[Sr.cE,h1]<;>rw[Ph hfit']
     unfold bV;simp only[ht.und,hnew];rw[Pb (by rw[hguard]; exact PZ)]
     simp only[h1,ht.size];rw[Ph hcap,hst]; rfl
    refine h.Dt hp (fun b' hb=>.inl (by rcases hb with hb|hb; cases hb.1; exact .inr hb)) (fun b' hb=>.inl (by rcases hb with hb|hb; cases hb; exact .inr hb)) (by rw[Sr.next_set]; exact Pd _) (hext.set hlo _) ⟨⟨h3,h4,hpos,hcap,.inr ⟨b,jk.drop (n1*w),tg,rfl,by rw[Sr.next_set]; exact h17,by rw[Sr.bL,Ph rfl],h6,hlenS⟩⟩,fun _ b' hb=>by cases hb; exact hlo⟩ fun b' hb hlt=>?_
    rw[Sr.bL,Pb (fun e=>hb ((o1 b').2 (by rw[e]; rfl)))]
  have htake:(es.flatten++jk).take (l*w)=es.flatten:=by rw[List.take_append_of_le_length (by omega),Ra (by omega)]
  rcases h6 with rfl|rfl
  refine⟨some ⟨m.next,0,none⟩,l+n1,m.alloc (.cells (es.flatten++e0.flatten) (.more w)),?_,?_⟩
  unfold bV;simp only[ht.und,hnew];rw[Pb (by rw[hguard]; exact PZ)]
  simp only[ht.size,h1];rw[Pb hcap];have hld:m.dq b 0 (l*w)=some es.flatten:=by
   simp only[Sr.dq,h1,List.drop_zero,htake];rw[Ph hfl]
  simp only[hld]
  have:=hnew' (mm:=m) h3 h4;rw[List.flatten_append] at this;exact fresh (Pd _) hext (fun _ _ _=>rfl) this
  refine⟨some ⟨(m.kill b).next,0,none⟩,l+n1,(m.kill b).alloc (.cells (es.flatten++e0.flatten) (.more w)),?_,?_⟩
  unfold bV;simp only[ht.und,hnew];rw[Pb (by rw[hguard]; exact PZ)]
  simp only[ht.size,h1];rw[Pb hcap];simp only[and_self,if_true,htake,hfl,Sr.next_kill]
  have hk:Ext m0 (m.kill b):=⟨by rw[Sr.next_kill]; exact hext.next,fun x hx=>by rw[Sr.eo,RE]; exact hext.same x hx,by
   rw[Sr.wl_kill];have:=hext.wl; omega⟩
  have:=hnew' (mm:=m.kill b) h3 h4;rw[List.flatten_append] at this;exact fresh (by rw[Sr.next_kill]; exact Pd _) hk (fun b' hb' hlt=>by rw[Sr.eo,Pb (fun e=>hb' (by rw[e]; rfl))]) this
def JF{ty2 c0 l2:Nat}{a0:Rv}{ys:SB α}{ars:SD Rz}(he:Enc f w)(ht:SlT E.P ty elem w)(h2:∃e0,E.P.underlying ty2=some (.slice e0))(ha:gK E fs ars.toList=some [.slice a l cap,.slice a0 l2 c0])(hp:pk ps k=some (.gen (tO a cap w l (xs.map f))))(hr:∀m,Hp m0 m ps->Rd m a0 c0 w l2 (ys.map f))(hl:lim (xs++ys).length=true) :
  Ox E m0 fs ps (.call ⟨.builtin .append,ars,#[ty,ty2]⟩) (fun r:Rv×Nat=>.slice r.1 (xs++ys).length r.2) (fun r=>cf ps k (.gen (tO r.1 r.2 w (xs++ys).length ((xs++ys).map f)))):=by
 intro t m hf hm;have h0:l=xs.length:=by have:=(hm.get hp).1.1; rw[Pk] at this; exact this.symm
 have h1:l2=ys.length:=by have:=(hr m hm).1; rw[Pk] at this; exact this.symm
 refine⟨fun b hb=>(by simp[aQ] at hb),fun K hK=>?_⟩
 obtain⟨a',cap',m',g0,g1⟩:=yX ht h2 hm hp (hr m hm) (he.pV ys) (he.fw ys) (by rw[h0,h1,<-Pm]; exact hl)
 have e1:xs.map f++ys.map f=(xs++ys).map f:=Rl.symm;have e0:l+l2=(xs++ys).length:=by rw[h0,h1,Pm]
 rw[e1,e0] at g1;rw[e0] at g0;have:bf E.P .append #[ty,ty2] [.slice a l cap,.slice a0 l2 c0] m=some (.slice a' (xs++ys).length cap',m'):=g0;rw[Go.Ab.dL (hf.gK ha) this];exact hK (a',cap') m' g1
end
section
variable{E:Env}{n:Nat}{m0:Sr}{fs:Fs}{ps:SB Pc}{ops:SD Oper}{os:SB Oper}{K:Tm->Sr->Prop}{dr:Bool}
end
end Go.Ab.W
namespace Go.Proofs.YthmekkhpddehjaaGreat
section
open Go Go.Ab Go.Ab.W
set_option maxRecDepth 10000
def M8(n:Nat)(l1:Rs):(Int×Int)->SA ((Int×Int)⊕Int):=fun(v1,v2) =>
br (decide (v1<(l1.length:Int))) (
gd (bO v1 l1.length) (
ob (l1[v1.toNat]?) fun(x10,x11) =>
gd (decide ((l1.length:Int)≠0)) (
gd (bO (Int.tmod (RC (v1+1)) (l1.length:Int)) l1.length) (
ob (l1[(Int.tmod (RC (v1+1)) (l1.length:Int)).toNat]?) fun(x12,x13) =>
ob (
gd (bO 0 l1.length) (
ob (l1[RD]?) fun(x3,x4) =>
gd (bO 0 l1.length) (
ob (some (RC ((RC (x10-x3))*(RC (x13-x4))))) fun y0 =>
gd (bO 0 l1.length) (
gd (bO 0 l1.length) (
ob (some (RC ((RC (x11-x4))*(RC (x12-x3))))) fun y1 =>
some (RC ((RC (v2+y0))-y1))))))) fun v3 =>
some (.inl (RC (v1+1),v3)))))) (
some (.inr v2))
def OZ(n:Nat)(l1:Rs):SA (Int×Int) :=
ob (Iu n l1) fun r0 =>
br (!decide (r0=0)) (
some (0,r0)) (
ob (
some ()) fun _ =>
ob (
ob (
bR (M8 n l1) n (0,0)) fun v1 =>
some v1) fun v2 =>
some (v2,0))
def Nc(n:Nat)(l1:Rs):(Int×Int)->SA ((Int×Int)⊕Int):=fun(v7,v8) =>
br (decide (v8<(l1.length:Int))) (
gd (bO v8 l1.length) (
ob (l1[v8.toNat]?) fun(x30,x31) =>
ob (CO n l1 (RC (v8+1))) fun(r34,r35) =>
ob (some (RC ((RC (v7+(RC (x30*r35))))-(RC (x31*r34))))) fun y38 =>
some (.inl (y38,RC (v8+1))))) (
some (.inr v7))
def OT(n:Nat)(l1:Rs):SA Int :=
ob (
bR (Nc n l1) n (0,0)) fun v25 =>
some v25
def OO(n:Nat)(l1:Rs):SA (Int×Int) :=
ob (Ip n l1) fun r6 =>
br (!decide (r6=0)) (
some (0,r6)) (
ob (OT n l1) fun r9 =>
some (r9,0))
def Mg(n:Nat)(l1:Rs):(Int×SB (Bool))->SA ((Int×SB (Bool)) ⊕(SB (Bool))):=fun(v1,l2) =>
br (decide (v1<(l1.length:Int))) (
gd (bO v1 l1.length) (
ob (l1[v1.toNat]?) fun(x3,x4) =>
gd (decide ((l1.length:Int)≠0)) (
gd (bO (Int.tmod (RC (v1+1)) (l1.length:Int)) l1.length) (
ob (l1[(Int.tmod (RC (v1+1)) (l1.length:Int)).toNat]?) fun(x10,x11) =>
ob (
gd (decide ((l1.length:Int)≠0)) (
gd (bO (Int.tmod (RC (v1+2)) (l1.length:Int)) l1.length) (
ob (l1[(Int.tmod (RC (v1+2)) (l1.length:Int)).toNat]?) fun(x12,x13) =>
ob (C5 n x3 x4 x10 x11 x12 x13) fun r0 =>
gd (bO (RC (1+r0)) 3) (
ob (l2[(RC (1+r0)).toNat]?) fun x14 =>
some (l2.set ((RC (1+r0)).toNat) true))))) fun l3 =>
some (.inl (RC (v1+1),l3)))))) (
some (.inr l2))
def OU(n:Nat)(l1:Rs):SA (Bool×Int) :=
ob (Iu n l1) fun r0 =>
br (!decide (r0=0)) (
some (false,r0)) (
ob (
some ()) fun _ =>
ob (
ob (
bR (Mg n l1) n (0,([false,false,false]:SB (Bool)))) fun l2 =>
some l2) fun l3 =>
ob (Pa l3) fun(x3,x10,x4) =>
some (!(x3==x4),0))
def ME(n:Nat)(l1:Rs):(Bool×Bool×Int)->SA ((Bool×Bool×Int) ⊕(Bool×Bool)):=fun(v2,v3,v1) =>
br (decide (v1<(l1.length:Int))) (
ob (
gd (bO v1 l1.length) (
ob (l1[v1.toNat]?) fun(x3,x4) =>
ob (CO n l1 (RC (v1+1))) fun(r1,r3) =>
ob (CO n l1 (RC (v1+2))) fun(r4,r5) =>
ob (C4 n x3 x4 r1 r3 r4 r5) fun r0 =>
ob (
br (v2) (
some true) (
some (decide (0<r0)))) fun v4 =>
br (v3) (
some (v4,true)) (
some (v4,decide (r0<0))))) fun(v5,v6) =>
some (.inl (v5,v6,RC (v1+1)))) (
some (.inr (v2,v3)))
def O9(n:Nat)(l1:Rs):SA (Bool×Int) :=
ob (Ip n l1) fun r6 =>
br (!decide (r6=0)) (
some (false,r6)) (
ob (
bR (ME n l1) n (false,false,0)) fun(v62,v63) =>
some (!(v62==v63),0))
def Nh(n:Nat)(l3:Rs):(Rs×Int×Int)->SA ((Rs×Int×Int)⊕Rs):=fun(l2,v1,v2) =>
br (decide (v1<v2)) (
gd (bO v2 (l3.length-1:Nat)) (
ob (l2[(1+v2.toNat)]?) fun(x3,x4) =>
gd (bO v1 (l3.length-1:Nat)) (
ob (l2[(1+v1.toNat)]?) fun(x10,x11) =>
gd (bO v1 (l3.length-1:Nat)) (
gd (bO v2 (l3.length-1:Nat)) (
ob ((l2.set (1+v1.toNat) (x3,x4))[(1+v2.toNat)]?) fun(x12,x13) =>
some (.inl (((l2.set (1+v1.toNat) (x3,x4)).set (1+v2.toNat) (x10,x11)),RC (v1+1),RC (v2-1)))))))) (
some (.inr l2))
def OP(n:Nat)(l1:Rs):SA (Rs×Int) :=
ob (Iu n l1) fun r0 =>
br (!decide (r0=0)) (
some ([],r0)) (
ob (OQ n l1) fun l2 =>
gd (decide (1<l2.length)) (
ob (
ob (
bR (Nh n l2) n (l2,0,RC (((l2.length-1:Nat):Int)-1))) fun l3 =>
some l3) fun l4 =>
some (l4,0)))
def Nv(n:Nat)(l1:Rs)(x5:Int)(x6:Int):(Int×Int)->SA ((Int×Int)⊕Int⊕Int):=fun(v1,v2) =>
br (decide (v1<(l1.length:Int))) (
gd (bO v1 l1.length) (
ob (l1[v1.toNat]?) fun(x10,x3) =>
gd (decide ((l1.length:Int)≠0)) (
gd (bO (Int.tmod (RC (v1+1)) (l1.length:Int)) l1.length) (
ob (l1[(Int.tmod (RC (v1+1)) (l1.length:Int)).toNat]?) fun(x11,x4) =>
ob (α:=(SC)⊕Int) (
ob (AL n v1 x10 x3 x11 x4 x5 x6) fun r1 =>
br (r1) (
some (.inl ())) (
ob (C5 n x10 x3 x11 x4 x5 x6) fun r0 =>
ob (
br (decide (x3<=x6)) (
br (decide (x6<x4)) (
some (decide (0<r0))) (
some false)) (
some false)) fun v3 =>
br (v3) (
some (.inr (RC (v2+1)))) (
ob (
br (decide (x6<x3)) (
br (decide (x4<=x6)) (
some (decide (r0<0))) (
some false)) (
some false)) fun v4 =>
br (v4) (
some (.inr (RC (v2-1)))) (
some (.inr v2))))) fun r3=>match r3 with
| .inl _ =>
some (.inr (.inl v2))
| .inr v5 =>
some (.inl (RC (v1+1),v5)))))) (
some (.inr (.inr v2)))
def OM(n:Nat)(l1:Rs)(x5:Int)(x6:Int):SA (Int×Int) :=
ob (Iu n l1) fun r0 =>
br (!decide (r0=0)) (
some (0,r0)) (
ob (LI n x5 x6) fun r1 =>
br (r1) (
some (0,2)) (
ob (
some ()) fun _ =>
ob (α:=(Int)⊕Int) (
ob (α:=(Int)⊕Int) (
bR (Nv n l1 x5 x6) n (0,0)) fun r3=>match r3 with
| .inl v1 =>
some (.inl v1)
| .inr v2 =>
some (.inr v2)) fun r4=>match r4 with
| .inl v4 =>
some (1,0)
| .inr v3 =>
br (!decide (v3=0)) (
some (2,0)) (
some (0,0))))
def M6(n:Nat)(l1:Rs)(x5:Int)(x6:Int):(Bool×Int)->SA ((Bool×Int)⊕SC⊕Bool):=fun(v2,v1) =>
br (decide (v1<(l1.length:Int))) (
ob (α:=(SC)⊕Bool) (
gd (bO v1 l1.length) (
ob (l1[v1.toNat]?) fun(x4,x3) =>
ob (CO n l1 (RC (v1+1))) fun(r1,r0) =>
ob (HQ n x4 x3 r1 r0 x5 x6) fun r3 =>
br (r3) (
some (.inl ())) (
ob (
br (!((decide (x6<x3)) ==(decide (x6<r0)))) (
ob (C4 n x4 x3 r1 r0 x5 x6) fun r4 =>
some ((decide (0<r4)) ==(decide (x3<r0)))) (
some false)) fun v3 =>
br (v3) (
some (.inr (!v2))) (
some (.inr v2))))) fun r5=>match r5 with
| .inl _ =>
some (.inr (.inl ()))
| .inr v4 =>
some (.inl (v4,RC (v1+1)))) (
some (.inr (.inr v2)))
def O5(n:Nat)(l1:Rs)(x5:Int)(x6:Int):SA Int :=
ob (α:=(SC)⊕Bool) (
bR (M6 n l1 x5 x6) n (false,0)) fun r0=>match r0 with
| .inl _ =>
some 1
| .inr v1 =>
br (v1) (
some 2) (
some 0)
def O0(n:Nat)(l1:Rs)(x5:Int)(x6:Int):SA (Int×Int) :=
ob (Ip n l1) fun r9 =>
br (!decide (r9=0)) (
some (0,r9)) (
ob (LP n x5 x6) fun r12 =>
br (r12) (
some (0,2)) (
ob (O5 n l1 x5 x6) fun r15 =>
some (r15,0)))
def NW(n:Nat)(x10:Int)(x11:Int)(x9:Int)(x12:Int)(x13:Int)(x14:Int)(v2:Int)(v3:Int)(l2:Rs):Int->SA (Int⊕SC⊕SC):=fun v1 =>
br (decide (v1<3)) (
gd (bO v1 3) (
ob ([(x10,x11),(RC ((RC x9)+(RC x12)),RC ((RC x13)+(RC x14))),(v2,v3)][v1.toNat]?) fun(x3,x4) =>
ob (OM n l2 x3 x4) fun(r0,r1) =>
ob (O0 n l2 x3 x4) fun(r3,r4) =>
ob (
br (!decide (r0=r3)) (
some true) (
some (!decide (r1=r4)))) fun v4 =>
br (v4) (
some (.inr (.inl ()))) (
some (.inl (RC (v1+1)))))) (
some (.inr (.inr ())))
def Oq(n:Nat)(l3:Rs)(l4:Rs)(l7:Rs)(l8:Rs)(x3:Nat)(x4:Int)(x10:Int)(x9:Int)(x11:Int)(x12:Int)(x13:Int):Int->SA (Int⊕SC⊕SC):=fun v1 =>
br (decide (v1<4)) (
gd (bO v1 4) (
ob ([l3,l4,l7,l8][v1.toNat]?) fun l2 =>
ob (OZ n l2) fun(r0,r1) =>
ob (OO n l2) fun(r3,r4) =>
ob (OU n l2) fun(r5,r6) =>
ob (O9 n l2) fun(r7,r8) =>
ob (OP n l2) fun(l9,r9) =>
ob (LV n l2) fun(l10,r10) =>
ob (
br (!decide (r0=r3)) (
some true) (
br (!decide (r1=r4)) (
some true) (
br (!(r5==r7)) (
some true) (
br (!decide (r6=r8)) (
some true) (
br (!decide (r9=r10)) (
some true) (
ob (O1 n l9 l10) fun r11 =>
some (!r11))))))) fun v2 =>
br (v2) (
some (.inr (.inl ()))) (
ob (
br (decide (1<(l2.length:Int))) (
gd (decide ((l2.length:Int)≠0)) (
gd (bO (Int.tmod (RC ((x3:Nat):Int)) (l2.length:Int)) l2.length) (
ob (l2[(Int.tmod (RC ((x3:Nat):Int)) (l2.length:Int)).toNat]?) fun(x14,x15) =>
gd (bO 0 l2.length) (
ob (l2[RD]?) fun(x16,x17) =>
ob (some (RC ((RC (Qt x14 2))+(RC (Qt x16 2))))) fun y0 =>
gd (bO 0 l2.length) (
ob (some (RC ((RC (Qt x15 2))+(RC (Qt x17 2))))) fun y1 =>
some (y0,y1)))))) (
some (0,0))) fun(v3,v4) =>
ob (α:=(SC)⊕SC) (
bR (NW n x4 x10 x9 x11 x12 x13 v3 v4 l2) n 0) fun r12=>match r12 with
| .inl _ =>
some (.inr (.inl ()))
| .inr _ =>
some (.inl (RC (v1+1)))))) (
some (.inr (.inr ())))
def F8(n:Nat)(l1:Rs)(l5:SB (Nat))(x9:Int)(x3:Int)(x10:Nat)(x11:Bool)(x12:Bool)(x13:Nat)(x4:Nat)(x14:Nat)(x15:Int)(x16:Int)(x17:Nat)(x18:Nat)(x19:Nat)(x20:Int)(x21:Int)(x22:Int)(x23:Int)(x24:Int)(x25:Int):SA Bool :=
ob (LO n l1 l5 x9 x3 x10 x11 x12 x13 x4 x14 x15 x16 x17 x18 x19 x20 x21) fun(l2,l3,l4,l7) =>
ob (α:=(SC)⊕SC) (
bR (Oq n l2 l3 l4 l7 x4 x22 x23 x9 x24 x3 x25) n 0) fun r0=>match r0 with
| .inl _ =>
some false
| .inr _ =>
ob (Ou n) fun r1 =>
some r1
end
section
open Go Go.Ab Go.Ab.W
end
end Go.Proofs.YthmekkhpddehjaaGreat
namespace Go.Ab.W
open Go Go.Ab
attribute [local irreducible] Tm.at Trie.set Trie.get Sr.get Sr.set Sr.alloc Sr.ww Sr.kill
section
variable{E:Env}{n:Nat}{m0 m:Sr}{fs:Fs}{ps:SB Pc}{x y:Rz}{ty:Ry}{v:Rx}
end
end Go.Ab.W
namespace Go.Proofs.YthmekkhpddehjaaGreat
section
open Go Go.Ab Go.Ab.W
set_option maxRecDepth 10000
end
section
open Go Go.Ab Go.Ab.W
end
end Go.Proofs.YthmekkhpddehjaaGreat
namespace Go.Ab.W
open Go Go.Ab
attribute [local irreducible] Tm.at Trie.set Trie.get Sr.get Sr.set Sr.alloc Sr.ww Sr.kill
section
variable{α γ:Type}[DecidableEq α]
def e8{β δ:Type}(k:α):∀(xs:SB (α×β)) (ys:SB (α×δ)) (i:Nat),xs.map (·.1)=ys.map (·.1)->(dI k xs i).map (·.1)=(dI k ys i).map (·.1)
 | [],[],_,_=>rfl
 | [],_::_,_,h=>by cases h
 | _::_,[],_,h=>by cases h
 | x::xs,y::ys,i,h=>by
  simp only[PS,List.cons.injEq] at h;unfold dI;rw[h.1]
  split
  rfl
  exact e8 k xs ys (i+1) h.2
def pC(m:Sr)(R:Rw)(w:Nat)(f:γ->SB Rx)(es:SB (α×Rx))(L:SB (α×Bool×SB γ)):Prop :=
 es.map (·.1)=L.map (·.1)/\∀(i:Nat) (k:α) (v:Bool×SB γ),L[i]? = some (k,v)->∃a c,es[i]? = some (k,.agg #[.bool v.1,.slice a v.2.length c])/\Rd m a c w v.2.length (v.2.map f)/\∀b,eL a=some b->R b
omit [DecidableEq α] in
def pC.gG{m m':Sr}{R:Rw}{w:Nat}{f:γ->SB Rx}{es:SB (α×Rx)}{L:SB (α×Bool×SB γ)}(h:pC m R w f es L)(hn:m.next<=m'.next)(hg:∀b,R b->b<m.next->m'.get b=m.get b):pC m' R w f es L :=
 ⟨h.1,fun i k v hi=>by
  obtain⟨a,c,h1,h2,h3⟩:=h.2 i k v hi;exact⟨a,c,h1,h2.gG hn fun b hb hlt=>hg b (h3 b hb) hlt,h3⟩⟩
def pC.yes{m:Sr}{R:Rw}{w:Nat}{f:γ->SB Rx}{es:SB (α×Rx)}{L:SB (α×Bool×SB γ)}(h:pC m R w f es L){k:α}{v:Bool×SB γ}(hv:iS L k=some v) :
  ∃a c,iS es k=some (.agg #[.bool v.1,.slice a v.2.length c])/\Rd m a c w v.2.length (v.2.map f)/\∀b,eL a=some b->R b:=by
 unfold iS at hv ⊢;have hk:=e8 k es L 0 h.1;cases h1:dI k L 0 with
 | none=>rw[h1] at hv; cases hv
 | some p =>
  rw[h1] at hv hk;cases hv;cases h2:dI k es 0 with
  | none=>rw[h2] at hk; cases hk
  | some q =>
   rw[h2] at hk;have hpq:q.1=p.1:=by simpa using hk
   have a1:=(gw k L 0 p h1).2.2;have a2:=(gw k es 0 q h2).2.2;obtain⟨a,c,e1,e2,e3⟩:=h.2 _ _ _ a1;rw[hpq] at a2;rw[a2] at e1;have e4:q.2=.agg #[.bool p.2.1,.slice a p.2.2.length c]:=Ps Prod.snd (Pf e1);exact⟨a,c,by rw[Pj,e4],e2,e3⟩
def pC.no{m:Sr}{R:Rw}{w:Nat}{f:γ->SB Rx}{es:SB (α×Rx)}{L:SB (α×Bool×SB γ)}(h:pC m R w f es L){k:α}(hv:iS L k=none):iS es k=none:=by
 unfold iS at hv ⊢;have hk:=e8 k es L 0 h.1;cases h1:dI k L 0 with
 | none =>
  rw[h1] at hk;cases h2:dI k es 0 with
  | none=>rfl
  | some q=>rw[h2] at hk; cases hk
 | some p=>rw[h1] at hv; cases hv
def pC.put{m:Sr}{R:Rw}{w:Nat}{f:γ->SB Rx}{es:SB (α×Rx)}{L:SB (α×Bool×SB γ)}(h:pC m R w f es L)(k:α)(v:Bool×SB γ){a:Rv}{c:Nat}(hr:Rd m a c w v.2.length (v.2.map f))(hR:∀b,eL a=some b->R b) :
  pC m R w f (iy es k (.agg #[.bool v.1,.slice a v.2.length c])) (iy L k v):=by
 have hk:=e8 k es L 0 h.1;have hlen:es.length=L.length:=by have:=Ps List.length h.1; simpa using this
 unfold iy;cases h1:dI k L 0 with
 | none =>
  rw[h1] at hk;cases h2:dI k es 0 with
  | some q=>rw[h2] at hk; cases hk
  | none =>
   refine⟨by simp[h.1],fun i k' v' hi=>?_⟩
   by_cases hlt:i<L.length
   dsimp only at hi ⊢
   rw[PR hlt] at hi;rw[PR (by omega)]
   exact h.2 i k' v' hi
   ·dsimp only at hi ⊢
    rw[PA (by omega)] at hi
    rw[PA (by omega),hlen]
    cases hz:i-L.length with
    | zero =>
     rw[hz] at hi;have e:=Pf hi;cases e;exact⟨a,c,rfl,hr,hR⟩
    | succ z=>rw[hz] at hi; simp at hi
 | some p =>
  rw[h1] at hk;cases h2:dI k es 0 with
  | none=>rw[h2] at hk; cases hk
  | some q =>
   rw[h2] at hk;have hpq:q.1=p.1:=by simpa using hk
   have a1:=gw k L 0 p h1
   dsimp only
   rw[hpq];refine⟨by rw[List.map_set,List.map_set,h.1],fun i k' v' hi=>?_⟩
   by_cases e:p.1=i
   subst e;rw[QR (by omega)] at hi
   rw[QR (by omega)]
   cases Pf hi;exact⟨a,c,rfl,hr,hR⟩
   rw[QM e] at hi;rw[QM e];exact h.2 i k' v' hi
def qv(b:Nat)(R:Rw)(w:Nat)(f:γ->SB Rx)(kE:α->Rx)(L:SB (α×Bool×SB γ)):GPc where
 ow x:=x=b
 rd x:=R x
 P m:=(∃es:SB (α×Rx),m.get b=some (.map (es.map (eM kE fun v=>v)))/\pC m R w f es L)/\b<m.next/\∀x,R x->x<m.next/\x≠b
 st m m' h hn hg:=by
  obtain⟨⟨es,h1,h2⟩,h3,h4⟩:=h;exact⟨⟨es,by rw[hg b (.inl rfl) h3]; exact h1,h2.gG hn fun x hx hlt=>hg x (.inr hx) hlt⟩,Pn h3 hn,fun x hx=>⟨Pn (h4 x hx).1 hn,(h4 x hx).2⟩⟩
 lt m x h hx:=by
  rcases hx with hx|hx
  cases hx; exact h.2.1
  exact(h.2.2 x hx).1
end
section
variable{α γ:Type}[DecidableEq α]{E:Env}{m0 m:Sr}{fs:Fs}{ps:SB Pc}{f:γ->SB Rx}{w:Nat}{kE:α->Rx}
def Hp.Jy(h:Hp m0 m ps){k:Nat}{p q:Pc}(hp:pk ps k=some p)(hq:q.ok m0.next m)(hqo:∀b,¬q.ow b)(hb:∀b,q.any b->p.any b/\¬p.ow b):Hp m0 m (q::ps) where
 ext:=h.ext
 ok:=fun r hr=>by
  rcases Pp.1 hr with rfl|hr
  exact hq
  exact h.ok r hr
 apart:=PC.2 ⟨fun r hr=>⟨fun b h1 _=>hqo b h1,fun b h1 h2=>by
  obtain⟨k',hk'⟩:=ig hr
  by_cases hne:k=k'
  rw[<-hne,hp] at hk';exact(hb b h2).2 (by rw[Pf hk']; exact h1)
  exact(dZ h.apart hp hk' hne).2 b h1 (hb b h2).1⟩,h.apart⟩
omit [DecidableEq α] in
def vW{b:Nat}{R:Rw}{L:SB (α×Bool×SB γ)}{x:Nat}(h:Pc.ow (.gen (qv b R w f kE L)) x):x=b:=h.elim (fun h=>by cases h.1) id
omit [DecidableEq α] in
def vj{b:Nat}{R:Rw}{L:SB (α×Bool×SB γ)}{x:Nat}(h:Pc.any (.gen (qv b R w f kE L)) x):x=b\/R x:=h.elim (fun h=>by cases h) id
omit [DecidableEq α] in
def ae.N8{k b:Nat}(hp:pk ps k=some (.obj b (.map []))):ae m0 ps (cf ps k (.gen (qv b (fun _=>False) w f kE ([]:SB (α×Bool×SB γ))))):=fun m h=>by
 have hP:=h.get hp;refine h.Dt hp (fun x hx=>.inl ?_) (fun x hx=>.inl ?_) (Pd _) h.ext ⟨⟨⟨[],hP.2.2,rfl,fun i k v hi=>by simp at hi⟩,hP.2.1,fun _ h=>h.elim⟩,fun _ x hx=>?_⟩ (fun _ _ _=>rfl)
 rw[vW hx]; exact .inl ⟨rfl,rfl⟩
 rcases vj hx with rfl|hx
 exact .inl rfl
 exact hx.elim
 cases hx; exact hP.1
variable{x y z:Rz}{ty:Ry}
def MD{kt et b q:Nat}{R:Rw}{L:SB (α×Bool×SB γ)}{k:α}(hu:E.P.underlying ty=some (.map kt et))(hk:KeyE E.P kt kE)(hz:bK E.P et=some (.agg #[.bool false,.slice none 0 0]))(hw:0<w)(hx:ev E fs x=some (.map (some b)))(hy:ev E fs y=some (kE k))(hp:pk ps q=some (.gen (qv b R w f kE L))) :
  Ox E m0 fs ps (.lookup ty x y false) (fun r:Rv×Nat=>.agg #[.bool ((iS L k).getD (false,[])).1,.slice r.1 ((iS L k).getD (false,[])).2.length r.2]) (fun r=>.rd r.1 r.2 w ((iS L k).getD (false,[])).2.length (((iS L k).getD (false,[])).2.map f)::ps):=by
 intro t m hf hm;have hP:=hm.get hp;obtain⟨⟨⟨es,h1,h2⟩,h3,h4⟩,_⟩:=hP;refine⟨fun b' hb'=>?_,fun K hK=>?_⟩
 simp only[aQ,hf.ev hx] at hb';cases hb'; exact h3
 ·have hl:=E5 (c:=false) (k:=k) (vE:=fun v:Rx=>v) hu hk hz (by decide) h1
  unfold bH;simp only[lV,cQ,hf.ev hx,hf.ev hy,hl,Pj];cases hv:iS L k with
  | none =>
   rw[hv] at hK;rw[h2.no hv];exact hK (none,0) m (hm.Jy hp (Rd.nil _ _) (fun b hb=>hb.elim (fun h=>by cases h.1) fun h=>h.elim) fun b hb=>hb.elim (fun h=>by cases h) fun h=>h.elim)
  | some v =>
   rw[hv] at hK;obtain⟨a,c,e1,e2,e3⟩:=h2.yes hv;rw[e1];refine hK (a,c) m (hm.Jy hp e2 (fun b hb=>hb.elim (fun h=>by cases h.1) fun h=>h.elim) fun b hb=>?_)
   rcases hb with hb|hb
   have:=e3 b hb;exact⟨.inr (.inr this),fun ho=>(h4 b this).2 (vW ho)⟩
   exact hb.elim
def FL{kt et b q:Nat}{R:Rw}{L:SB (α×Bool×SB γ)}{k:α}{s:Bool}{l:SB γ}(hu:E.P.underlying ty=some (.map kt et))(hk:KeyE E.P kt kE)(hz:bK E.P et=some (.agg #[.bool false,.slice none 0 0]))(hw:0<w)(hx:ev E fs x=some (.map (some b)))(hy:ev E fs y=some (kE k))(hp:pk ps q=some (.gen (qv b R w f kE L)))(hv:some ((iS L k).getD (false,[]))=some (s,l)) :
  Ox E m0 fs ps (.lookup ty x y false) (fun r:Rv×Nat=>.agg #[.bool s,.slice r.1 l.length r.2]) (fun r=>.rd r.1 r.2 w l.length (l.map f)::ps):=by
 have:=MD (m0:=m0) hu hk hz hw hx hy hp;rw[Pf hv] at this;exact this
def Md(m:Sr)(b w:Nat)(f:γ->SB Rx)(kE:α->Rx)(L:SB (α×Bool×SB γ)):Prop:=∃(R:Rw) (es:SB (α×Rx)),m.get b=some (.map (es.map (eM kE fun v=>v)))/\b<m.next/\pC m R w f es L
omit [DecidableEq α] in
def Hp.OV{k b:Nat}{R:Rw}{L:SB (α×Bool×SB γ)}(h:Hp m0 m ps)(hp:pk ps k=some (.gen (qv b R w f kE L))):Md m b w f kE L:=by
 obtain⟨⟨⟨es,h1,h2⟩,h3,_⟩,_⟩:=h.get hp;exact⟨R,es,h1,h3,h2⟩
omit [DecidableEq α] in
def ae.Lr{b k q cap n:Nat}{R:Rw}{L:SB (α×Bool×SB γ)}{a:Rv}{es:Ru}(hp:pk ps k=some (.gen (qv b R w f kE L)))(hq:pk ps q=some (.rd a cap w n es)):ae m0 ps (cf ps k (.gen (qv b (fun x=>R x\/eL a=some x) w f kE L))):=fun m h=>by
 have hP:=h.get hp;obtain⟨⟨⟨es',h1,h2⟩,h3,h4⟩,h5⟩:=hP;have hrd:Pc.ok m0.next m (.rd a cap w n es):=h.get hq
 have hkq:k≠q:=fun e=>by rw[e,hq] at hp; cases hp
 have hap:=dZ h.apart hp hq hkq;refine⟨h.ext,fun r hr=>?_,ft hp (fun r hr ha=>⟨fun x h1 h2=>ha.1 x (.inr (vW h1)) h2,fun x hx hy=>?_⟩) h.apart⟩
 rcases oA hr with hr|rfl
 exact h.ok r hr
 refine⟨⟨⟨es',h1,h2.1,fun i k v hi=>?_⟩,h3,fun x hx=>?_⟩,fun _ x hx=>h5 rfl x hx⟩
 obtain⟨a,c,e1,e2,e3⟩:=h2.2 i k v hi;exact⟨a,c,e1,e2,fun b hb=>.inl (e3 b hb)⟩
 rcases hx with hx|hx
 exact h4 x hx
 exact⟨Pc.eH hrd (.inl hx),fun e=>hap.1 x (by rw[e]; exact .inr rfl) (.inl hx)⟩
 rcases vj hy with rfl|hy|hy
 exact ha.2 x hx (.inr (.inl rfl))
 exact ha.2 x hx (.inr (.inr hy))
 obtain⟨k',hk'⟩:=ig hr
 by_cases hne:k'=q
 rw[hne,hq] at hk';rw[<-Pf hk'] at hx;exact hx.elim (fun h=>by cases h.1) fun h=>h.elim
 exact(dZ h.apart hk' hq hne).1 x hx (.inl hy)
def Mc{kt et b k2 q cap:Nat}{R:Rw}{L:SB (α×Bool×SB γ)}{k:α}{s:Bool}{l:SB γ}{a:Rv}(hu:E.P.underlying ty=some (.map kt et))(hk:KeyE E.P kt kE)(hx:ev E fs x=some (.map (some b)))(hy:ev E fs y=some (kE k))(hz:ev E fs z=some (.agg #[.bool s,.slice a l.length cap]))(hp:pk ps k2=some (.gen (qv b R w f kE L)))(hq:pk ps q=some (.rd a cap w l.length (l.map f))) :
  Od E m0 fs ps (.mapUpdate ty x y z) undef (cf ps k2 (.gen (qv b (fun x=>R x\/eL a=some x) w f kE (iy L k (s,l))))) :=
 fun t m hf h=>⟨fun b' hb'=>by simp[aQ] at hb',fun K hK=>by
  have h1:=ae.Lr (m0:=m0) hp hq m h;have hp1:pk (cf ps k2 (.gen (qv b (fun x=>R x\/eL a=some x) w f kE L))) k2=some (.gen (qv b (fun x=>R x\/eL a=some x) w f kE L)):=Hd _ hp;have hrd:Rd m a cap w l.length (l.map f):=h.get hq;obtain⟨⟨⟨es,g1,g2⟩,g3,g4⟩,g5⟩:=h1.get hp1;have hup:cL E.P ty (.map (some b)) (kE k) (.agg #[.bool s,.slice a l.length cap]) m=some (m.set b (.map ((iy es k (.agg #[.bool s,.slice a l.length cap])).map (eM kE fun v=>v)))):=by
   simp only[cL,hu,g1,hk.ok,if_true,kW hk,iy];cases hfd:dI k es 0 with
   | none=>simp only[Option.map_none,Rl,PS,List.map_nil]; rfl
   | some p =>
    obtain⟨e1,e2,e3⟩:=gw k es 0 p hfd;simp only[Qr] at e3;have hst:gU (es.map (eM kE fun v=>v)) p.1 (kE k)=true:=by
     simp only[gU,PY,e3,Pj,eM,hk.plain,hk.same,Qc]
    simp only[Pj,hst,if_true];rw[lT (vE:=fun v:Rx=>v) k _ es p.1 (by omega)]
  unfold bH;simp only[lV,cQ,hf.ev hx,hf.ev hy,hf.ev hz,hup,Pj];have g2':=g2.put k (s,l) hrd fun b hb=>.inr hb;have hset:∀x,x≠b->(m.set b (.map ((iy es k (.agg #[.bool s,.slice a l.length cap])).map (eM kE fun v=>v)))).get x=m.get x:=fun x hx=>by rw[Sr.bL,Pb hx]
  have key:=h1.Dt (m':=m.set b (.map ((iy es k (.agg #[.bool s,.slice a l.length cap])).map (eM kE fun v=>v)))) (p':=.gen (qv b (fun x=>R x\/eL a=some x) w f kE (iy L k (s,l)))) hp1 (fun x hx=>.inl (by rw[vW hx]; exact .inr rfl)) (fun x hx=>.inl ((vj hx).elim (fun e=>by rw[e]; exact .inr (.inl rfl)) fun e=>.inr (.inr e)))
   (by rw[Sr.next_set]; exact Pd _) (h1.ext.set (g5 rfl b rfl) _)
   ⟨⟨⟨_,by rw[Sr.bL,Ph rfl],g2'.gG (by rw[Sr.next_set]; exact Pd _) fun x hx _=>hset x (g4 x hx).2⟩,by rw[Sr.next_set]; exact g3,fun x hx=>by rw[Sr.next_set]; exact g4 x hx⟩,fun _ x hx=>by cases hx; exact g5 rfl b rfl⟩
   fun x hx _=>hset x fun e=>hx (by rw[e]; exact .inr rfl)
  rw[CH] at key;exact hK _ key⟩
omit [DecidableEq α] in
def Jq{ars:SD Rz}{elem l cap:Nat}(hu:E.P.underlying ty=some (.slice elem))(ha:gK E fs ars.toList=some [.slice none l cap]):Od E m0 fs ps (.call ⟨.builtin .cap,ars,#[ty]⟩) (.int .i64 (cap:Int)) ps :=
 fun t m hf h=>⟨fun b hb'=>by
  simp only[aQ,hf.gK ha] at hb';have:dW (.slice none l cap)=none:=rfl;rw[this] at hb'; exact(Option.some_ne_none _ hb'.symm).elim,fun K hK=>by
  have:bf E.P .cap #[ty] [.slice none l cap] m=some (.int .i64 (cap:Int),m):=by
   have ht:(#[ty]:SD Ry)[0]? = some ty:=rfl;simp only[bf,ht,PI,hu]
  rw[Go.Ab.dL (hf.gK ha) this]; exact hK m h⟩
def Ny{elem:Ry}{hx:SA Rz}{hv:SA Rx}(ht:SlT E.P ty elem w)(hv':ev E fs x=some (.slice none 0 0))(e2:xh E fs hx=some hv)(hh:hv=none\/∃k,hv=some (.int k 0)) :
  Od E m0 fs ps (.slice ty x none hx none) (.slice none 0 0) ps :=
 fun t m hf h=>⟨fun b hb'=>by
  simp only[aQ,hf.ev hv',PI] at hb';have e:dW (.slice none 0 0)=none:=rfl;rw[e] at hb';exact(Option.some_ne_none _ hb'.symm).elim,fun K hK=>by
  have hb:dN 0 0 none hv none=some (0,0,0):=by
   have:=iW (n:=0) (cap:=0) (lo:=0) (hi:=0) (Pd _) (Pd _) (l:=none) (h:=hv) (.inl ⟨rfl,rfl⟩) (hh.imp (fun e=>⟨e,rfl⟩) fun e=>e);exact this
  have hs:cj E.P ty (.slice none 0 0) none hv none m=some (.slice none 0 0):=by
   simp only[cj,ht.und,ht.known,if_true,hb]
  rw[Go.Ab.pP (hf.ev hv') (hf.xh (x:=none) rfl) (hf.xh e2) rfl hs];exact hK m h⟩
def sD{l:SB Rx}(h:l.all aR=true):bg l=true:=by
 unfold bg;rw[Pr] at h ⊢;intro v hv;have:=h v hv;cases v<;>first|rfl|cases this
def KW{β:Type}{g:β->SB Rx}{z0:β}{elem ty2:Ry}{kd:IntKind}{i:Int}{z:Rx}{ars:SD Rz}(ht:SlT E.P ty elem w)(ht2:E.P.underlying ty2=some (.int kd))(ha:gK E fs ars.toList=some [.slice none 0 0,.int .i64 i])(hi:decide (0<i)=true)(hl:lim i.toNat=true)(hz:bK E.P elem=some z)(hp:z.cells.toList.all aR=true)(hzf:z.cells.toList=g z0) :
  Ox E m0 fs ps (.call ⟨.builtin .append,ars,#[ty,ty2]⟩) (fun b=>.slice (some ⟨b,0,none⟩) i.toNat i.toNat) (fun b=>.arr b w i.toNat ((List.replicate i.toNat z0).map g) (.more w)::ps):=by
 obtain⟨n,rfl⟩:∃n:Nat,i=n:=⟨i.toNat,by have:=of_decide_eq_true hi; omega⟩
 have hn:0<n:=by have:=of_decide_eq_true hi; omega
 rw[Pg] at hl ⊢;rw[<-BG,<-hzf];have hzs:z.cells.size=w:=by have:=ht.zero; rw[hz] at this; simp only[Rj,Pe,beq_iff_eq] at this; exact this.1
 refine .made (ob:=fun _=>.cells (List.replicate n z.cells.toList).flatten (.more w)) (p:=fun b=>.arr b w n (List.replicate n z.cells.toList) (.more w)) (fun t=>by simp[aQ]) (fun t m hfr K=>?_) (fun _=>rfl) fun _ _ _ h1 h2 h3=>⟨h1,h2,h3,by simp,fun e he=>by rw[QH he]; simpa using hzs,.inr rfl,ht.pos⟩
 have hln:n<=1073741824:=Pt hl;obtain⟨inf,hi1,hi2,hi3⟩:=ht.bytes;have hzz:eK E.P elem n=some (List.replicate n z.cells.toList).flatten:=by
  simp only[eK,hz,ht.size];rw[Ph hzs,kB]
 have hall:(List.replicate n z.cells.toList).flatten.all aR=true:=by
  rw[Pr];intro v hv;obtain⟨l,h1,h2⟩:=List.mem_flatten.1 hv;rw[QH h1] at h2;exact Pr.1 hp v h2
 have hnew:eh E.P elem (some ty2) (.int .i64 (n:Int)) m=some (n,(List.replicate n z.cells.toList).flatten):=by
  simp only[eh,PI,ht2];rw[RF,Pg,hzz,PI,Ph hall]
 have hfit:(E.P.info? elem).any (fun i=>dG i.bytes (0+n)&&i.bytes != 0)=true:=by
  rw[hi1];have hmul:(2*(0+n)+2000)*inf.bytes<=(2*1073741824+2000)*1024:=Qw (by omega) hi3
  simp only[Rj,dG,Pe,Pv,bne_iff_ne,ne_eq];exact⟨by omega,hi2⟩
 have hzero:(bK E.P elem).any (fun z=>z.cells.size==w&&z.cells.toList.all aR)=true:=ht.zero;have hpos:=ht.pos;have hw0:(w==0)=false:=by simp; omega
 have hlen:(List.replicate n z.cells.toList).flatten.length=n*w:=by rw[dw (w:=w) (fun e he=>by rw[QH he]; simpa using hzs),List.length_replicate]
 have hone:bg (List.replicate n z.cells.toList).flatten=true:=sD hall;have hguard:(!(known E.P elem)||aE E.P elem==0 || !bg (List.replicate n z.cells.toList).flatten || !(E.P.info? elem).any (fun i=>dG i.bytes (0+n)&&i.bytes != 0) ||(List.replicate n z.cells.toList).flatten.length != n*aE E.P elem || !(bK E.P elem).any (fun z=>z.cells.size==aE E.P elem&&z.cells.toList.all aR))=false:=by
  rw[ht.size,ht.known,hfit,hzero,hone,hw0,hlen]; simp
 have this:bf E.P .append #[ty,ty2] [.slice none 0 0,.int .i64 (n:Int)] m=some (.slice (some ⟨m.next,0,none⟩) n n,m.alloc (.cells (List.replicate n z.cells.toList).flatten (.more w))):=by
  show bV E.P ty (some ty2) (.slice none 0 0) (.int .i64 (n:Int)) m=_
  unfold bV;simp only[ht.und,hnew];rw[Pb (by rw[hguard]; exact PZ)]
  simp only[ne_eq,not_true_eq_false,or_self,if_false,ht.size];rw[RE]
 rw[Go.Ab.dL (hfr.gK ha) this]
end
end Go.Ab.W
namespace Go.Proofs.YthmekkhpddehjaaGreat
section
open Go Go.Ab Go.Ab.W
def GY(_:Nat)(L:SB (Int×Bool×SB Nat)):SA (SB Int):=gd (LL (L.map (·.1))) (some (fo (L.map (·.1))))
def xF{kE:Int->Rx}(hk:kE=fun n=>.int .i64 n):∀es:SB (Int×Rx),qg (es.map (eM kE fun v=>v))=some (es.map (·.1))
 | []=>rfl
 | e::es=>by
  subst hk;rw[PS,PS]
  show(qg (es.map (eM (fun n:Int=>Value.int .i64 n) fun v=>v))).map (e.1::·)=_
  rw[xF rfl es]; rfl
def xz(a:Int):∀l:SB Int,(wu a l).length=l.length+1
 | []=>rfl
 | b::l=>by
  unfold wu
  split
  rfl
  rw[PD,xz a l,PD]
def s8:∀l:SB Int,(fo l).length=l.length
 | []=>rfl
 | a::l=>by unfold fo; rw[xz,s8 l,PD]
def BM:∀l:SB Int,(l.map (eI .i64)).flatten=l.map (Value.int .i64)
 | []=>rfl
 | a::l=>by rw[PS,P1,BM l]; rfl
def Hh(n:Nat)(L:SB (Int×Bool×SB Nat))(b:Nat)(r:SB Int)(hF:GY n L=some r)(m:Sr)(h:Md m b 1 (eN .u64) (fun n:Int=>.int .i64 n) L) :
  aK aG 111 [.map (some b)] m (fun v m'=>∃x:Rv×Nat,v=.slice x.1 x.2 x.2/\Hp m m' [.sl x.1 1 x.2 (r.map (eI .i64))]):=by
 obtain⟨hok,hF⟩:=al hF;have hr:=Pf hF;obtain⟨R,es,h1,h2,h3⟩:=h;have hk:=xF rfl es;rw[h3.1] at hk;cases hks:L.map (·.1) with
 | nil =>
  rw[hks] at hk hok hr;subst hr;refine aK.cM (p:=⟨ez⟩) rfl (v:=.slice none 0 0) (m':=m) ?_ ⟨(none,0),rfl,(ae.nil 1 rfl) m (RZ m)⟩
  show ez [.map (some b)] m=_
  simp only[ez,h1,hk,hok,if_true]
 | cons k ks =>
  rw[hks] at hk hok hr;have hlen:(fo (k::ks)).length=ks.length+1:=by rw[s8]; rfl
  refine aK.cM (p:=⟨ez⟩) rfl (v:=.slice (some ⟨m.next,0,none⟩) (ks.length+1) (ks.length+1)) (m':=m.alloc (.cells ((fo (k::ks)).map (.int .i64)) (.more 1))) ?_ ⟨(some ⟨m.next,0,none⟩,ks.length+1),rfl,?_⟩
  show ez [.map (some b)] m=_
  simp only[ez,h1,hk,hok,if_true]
  subst hr;have hm:=RZ m;refine hm.cons (Nat.le_succ _) (hm.ext.alloc _) (fun b hlt=>by rw[Sr.bh,RE]) ?_ (fun b' h'=>?_) (fun _ h=>h)
  refine .inr ⟨m.next,.more 1,rfl,Pd _,QL _,?_,by rw[Pk,hlen],fun e he=>?_,.inr rfl,by decide⟩
  rw[Sr.bh,Ph rfl,BM]
  obtain⟨x,_,rfl⟩:=P6.1 he; rfl
  cases h'; exact Pd _
set_option maxRecDepth 10000
def sF(n:Nat)(x1:Int):SA Bool :=
br (decide (-1000000000000000<=x1)) (
some (decide (x1<=1000000000000000))) (
some false)
def D7(n:Nat)(x1:Int)(x2:Int):SA Bool :=
br (decide (x2<0)) (
some true) (
br (decide (10000000000000<x2)) (
some true) (
ob (sF n x1) fun r7 =>
some (!r7)))
def nQ(n:Nat)(x1:Int):(Int×Int)->SA ((Int×Int)⊕Int):=fun(v4,v5) =>
br (decide (1<RC (v5-v4))) (
ob (some (RC ((RC (Qt (RC (v4+v5)) 2))*(RC (Qt (RC (v4+v5)) 2))))) fun y14 =>
br (decide (y14<=x1)) (
some (.inl (RC (Qt (RC (v4+v5)) 2),v5))) (
some (.inl (v4,RC (Qt (RC (v4+v5)) 2))))) (
some (.inr v4))
def Eb(n:Nat)(x1:Int):SA Int :=
ob (
bR (nQ n x1) n (0,4000000)) fun v12 =>
some v12
def mw(n:Nat)(v1:Int):(Int×Int×Bool)->SA ((Int×Int×Bool) ⊕(Int×Int×Bool)):=fun(v2,v3,v4) =>
gd (decide (v1≠0)) (
br (decide (Int.tmod v2 v1=0)) (
gd (decide (v1≠0)) (
ob (
br (v4) (
some (RC (v3*v1))) (
some v3)) fun v5 =>
some (.inl (RC (Qt v2 v1),v5,!v4)))) (
some (.inr (v2,v3,v4))))
def lW(n:Nat):(Rr)->SA (Rr ⊕(Int×Int×Int)):=fun(v2,v4,v3,v1) =>
br (decide (v1<=21545)) (
ob (α:=(SC) ⊕(Int×Int×Int)) (
br (decide (v2<RC (v1*v1))) (
some (.inl ())) (
ob (
bR (mw n v1) n (v2,v4,false)) fun(v5,v6,v7) =>
br (v7) (
some (.inr (v5,v6,RC (v3*v1)))) (
some (.inr (v5,v6,v3))))) fun r0=>match r0 with
| .inl _ =>
some (.inr (v2,v4,v3))
| .inr (v8,v9,v10) =>
some (.inl (v8,v9,v10,RC (v1+1)))) (
some (.inr (v2,v4,v3)))
def yW(n:Nat)(x1:Int):SA (Int×Int) :=
ob (
bR (lW n) n (x1,1,1,2)) fun(v1,v2,v3) =>
ob (Eb n v1) fun r0 =>
br (decide (RC (r0*r0)=v1)) (
some (RC (v2*r0),v3)) (
some (v2,RC (v3*v1)))
def DB(n:Nat):(SB (Nat)×Int)->SA ((SB (Nat)×Int) ⊕(SB (Nat))):=fun(l40,v41) =>
br (decide (v41<8)) (
gd (bO v41 8) (
ob (l40[v41.toNat]?) fun x52 =>
some (.inl ((l40.set v41.toNat 18446744073709551615),RC (v41+1))))) (
some (.inr l40))
def wN(n:Nat)(x1:Int):SA (Nat×Nat×Nat×Nat×Nat×Nat×Nat×Nat) :=
ob (
br (decide (x1<0)) (
ob (
bR (DB n) n (([ui .u64 x1,0,0,0,0,0,0,0]:SB (Nat)),1)) fun l49 =>
some l49) (
some ([ui .u64 x1,0,0,0,0,0,0,0]:SB (Nat)))) fun l30 =>
ob (M4 l30) fun(x59,x60,x61,x62,x63,x64,x65,x66) =>
some (x59,x60,x61,x62,x63,x64,x65,x66)
def C9(n:Nat):(SB (Nat)×SB (Nat)×Nat×Int)->SA ((SB (Nat)×SB (Nat)×Nat×Int) ⊕(SB (Nat)×Nat)):=fun(l36,l37,v38,v39) =>
br (decide (v39<8)) (
gd (bO v39 8) (
ob (l36[v39.toNat]?) fun x60 =>
gd (bO v39 8) (
ob (l37[v39.toNat]?) fun x63 =>
ob (GW n x60 x63 v38) fun(r66,r67) =>
gd (bO v39 8) (
some (.inl ((l36.set v39.toNat r66),l37,r67,RC (v39+1))))))) (
some (.inr (l36,v38)))
def HK(n:Nat)(x1:Nat)(x2:Nat)(x3:Nat)(x4:Nat)(x5:Nat)(x6:Nat)(x7:Nat)(x8:Nat)(x9:Nat)(x10:Nat)(x11:Nat)(x12:Nat)(x13:Nat)(x14:Nat)(x15:Nat)(x16:Nat):SA (Nat×Nat×Nat×Nat×Nat×Nat×Nat×Nat×Nat) :=
ob (
bR (C9 n) n (([x1,x2,x3,x4,x5,x6,x7,x8]:SB (Nat)),([x9,x10,x11,x12,x13,x14,x15,x16]:SB (Nat)),0,0)) fun(l56,v57) =>
ob (M4 l56) fun(x72,x73,x74,x75,x76,x77,x78,x79) =>
some (x72,x73,x74,x75,x76,x77,x78,x79,v57)
def FW(n:Nat)(x1:Nat)(x2:Nat)(x3:Nat)(x4:Nat)(x5:Nat)(x6:Nat)(x7:Nat)(x8:Nat):SA (Bool×Nat×Nat×Nat×Nat×Nat×Nat×Nat×Nat) :=
ob (
br (decide (mN .u64 x8 63=1)) (
ob (HK n 0 0 0 0 0 0 0 0 x1 x2 x3 x4 x5 x6 x7 x8) fun(r34,r35,r36,r37,r38,r39,r40,r41,r42) =>
some (decide (mN .u64 x8 63=1),r34,r35,r36,r37,r38,r39,r40,r41)) (
some (decide (mN .u64 x8 63=1),x1,x2,x3,x4,x5,x6,x7,x8))) fun(v23,v24,v25,v26,v27,v28,v29,v30,v31) =>
some (v23,v24,v25,v26,v27,v28,v29,v30,v31)
def lS(n:Nat)(l2:SB (Nat)):Int->SA (Int⊕Int):=fun v9 =>
ob (
br (decide (0<v9)) (
gd (bO (RC (v9-1)) l2.length) (
ob (l2[(RC (v9-1)).toNat]?) fun x71 =>
some (decide (x71=0)))) (
some false)) fun v66 =>
br (v66) (
some (.inl (RC (v9-1)))) (
some (.inr v9))
def xj(n:Nat)(x1:Bool)(l2:SB (Nat)):SA (Bool×SB Nat) :=
ob (
bR (lS n l2) n (l2.length:Int)) fun v43 =>
br (x1) (
gd (okB 0 v43 l2.length) (
some (decide (0<v43),((l2.drop RD).take ((v43:Int).toNat-RD))))) (
gd (okB 0 v43 l2.length) (
some (false,((l2.drop RD).take ((v43:Int).toNat-RD)))))
def Hk(n:Nat)(x1:Nat)(x2:Nat)(x3:Nat)(x4:Nat)(x5:Nat)(x6:Nat)(x7:Nat)(x8:Nat):SA (Bool×SB Nat) :=
ob (FW n x1 x2 x3 x4 x5 x6 x7 x8) fun(r12,r13,r14,r15,r16,r17,r18,r19,r20) =>
gd (lim (([]:SB (Nat))++[r13,r14,r15,r16,r17,r18,r19,r20]).length) (
ob (xj n r12 (([]:SB (Nat))++[r13,r14,r15,r16,r17,r18,r19,r20])) fun(r26,l27) =>
some (r26,l27))
def CS(n:Nat)(x1:Int):SA (Bool×SB Nat) :=
ob (wN n x1) fun(r4,r5,r6,r7,r8,r9,r10,r11) =>
ob (Hk n r4 r5 r6 r7 r8 r9 r10 r11) fun(r13,l14) =>
some (r13,l14)
def FC(n:Nat)(x1:Nat)(x2:Nat):SA (Nat×Nat) :=
ob (some (uw .u64 ((uw .u64 (uw .u64 x1 &&& uw .u64 4294967295))*(uw .u64 (uw .u64 x2 &&& uw .u64 4294967295))))) fun y3 =>
ob (some (uw .u64 ((mN .u64 x1 32)*(uw .u64 (uw .u64 x2 &&& uw .u64 4294967295))))) fun y5 =>
ob (some (uw .u64 (uw .u64 (uw .u64 (y5+(mN .u64 y3 32))) &&& uw .u64 4294967295))) fun y7 =>
ob (some (uw .u64 ((uw .u64 (uw .u64 x1 &&& uw .u64 4294967295))*(mN .u64 x2 32)))) fun y9 =>
ob (some (uw .u64 ((uw .u64 ((mN .u64 x1 32)*(mN .u64 x2 32)))+(mN .u64 (uw .u64 (y5+(mN .u64 y3 32))) 32)))) fun y11 =>
some (uw .u64 (y11+(mN .u64 (uw .u64 (y7+y9)) 32)),uw .u64 (x1*x2))
def oC(n:Nat)(l5:SB (Nat))(x3:Nat)(v2:Int)(n1:Nat):(SB (Nat)×Nat×Int)->SA ((SB (Nat)×Nat×Int) ⊕(SB (Nat)×Nat)):=fun(l2,v3,v1) =>
br (decide (v1<(l5.length:Int))) (
gd (bO v1 l5.length) (
ob (l5[v1.toNat]?) fun x4 =>
ob (FC n x3 x4) fun(r0,r1) =>
gd (bO (RC (v2+v1)) n1) (
ob (l2[(RC (v2+v1)).toNat]?) fun x10 =>
ob (CT n x10 r1 0) fun(r3,r4) =>
ob (CT n r3 v3 0) fun(r5,r6) =>
gd (bO (RC (v2+v1)) n1) (
some (.inl ((l2.set ((RC (v2+v1)).toNat) r5),uw .u64 ((uw .u64 (r0+r4))+r6),RC (v1+1))))))) (
some (.inr (l2,v3)))
def oU(n:Nat)(l1:SB (Nat))(l5:SB (Nat)):(SB (Nat)×Nat×Int)->SA ((SB (Nat)×Nat×Int) ⊕(SB (Nat)×Nat)):=fun(l2,n1,v1) =>
br (decide (v1<(l1.length:Int))) (
gd (bO v1 l1.length) (
ob (l1[v1.toNat]?) fun x3 =>
ob (
bR (oC n l5 x3 v1 n1) n (l2,0,0)) fun(l3,v2) =>
gd (bO (RC (v1+(l5.length:Int))) n1) (
ob (l3[(RC (v1+(l5.length:Int))).toNat]?) fun x4 =>
some (.inl ((l3.set ((RC (v1+(l5.length:Int))).toNat) v2),n1,RC (v1+1)))))) (
some (.inr (l2,n1)))
def E1(n:Nat)(l1:SB (Nat))(l5:SB (Nat)):SA (SB Nat) :=
gd (decide (0<=RC ((l1.length:Int)+(l5.length:Int)))) (gd (lim ((RC ((l1.length:Int)+(l5.length:Int))).toNat)) (
ob (
bR (oU n l1 l5) n ((List.replicate (RC ((l1.length:Int)+(l5.length:Int))).toNat (0:Nat)),(RC ((l1.length:Int)+(l5.length:Int))).toNat,0)) fun(l2,n1) =>
some l2))
def CY(n:Nat)(x1:Bool)(l2:SB (Nat))(x7:Bool)(l8:SB (Nat)):SA (Bool×SB Nat) :=
ob (E1 n l2 l8) fun l17 =>
ob (xj n (!(x1==x7)) l17) fun(r21,l22) =>
some (r21,l22)
def mn(n:Nat)(l2:SB (Nat))(l3:SB (Nat)):(SB (Nat)×Nat×Nat×Int)->SA ((SB (Nat)×Nat×Nat×Int) ⊕(SB (Nat)×Nat×Nat)):=fun(l4,n1,v2,v1) =>
br (decide (v1<(l2.length:Int))) (
gd (bO v1 l2.length) (
ob (l2[v1.toNat]?) fun x3 =>
ob (
br (decide (v1<(l3.length:Int))) (
gd (bO v1 l3.length) (
ob (l3[v1.toNat]?) fun x4 =>
some x4)) (
some 0)) fun v3 =>
ob (CT n x3 v3 v2) fun(r0,r1) =>
gd (bO v1 n1) (
ob (l4[v1.toNat]?) fun x10 =>
some (.inl ((l4.set v1.toNat r0),n1,r1,RC (v1+1)))))) (
some (.inr (l4,n1,v2)))
def Em(n:Nat)(l1:SB (Nat))(l5:SB (Nat)):SA (SB Nat) :=
ob (
br (decide ((l1.length:Int)<(l5.length:Int))) (
some (l5,l1)) (
some (l1,l5))) fun(l2,l4) =>
gd (decide (0<=RC ((l2.length:Int)+1))) (gd (lim ((RC ((l2.length:Int)+1)).toNat)) (
ob (
bR (mn n l2 l4) n ((List.replicate (RC ((l2.length:Int)+1)).toNat (0:Nat)),(RC ((l2.length:Int)+1)).toNat,0,0)) fun(l3,n1,v1) =>
gd (bO (l2.length:Int) n1) (
ob (l3[(l2.length:Int).toNat]?) fun x3 =>
some (l3.set ((l2.length:Int).toNat) v1))))
def ki(n:Nat)(l1:SB (Nat))(l5:SB (Nat)):Int->SA (Int⊕Int⊕SC):=fun v11 =>
br (decide (0<=v11)) (
gd (bO v11 l1.length) (
ob (l1[v11.toNat]?) fun x33 =>
gd (bO v11 l5.length) (
ob (l5[v11.toNat]?) fun x38 =>
br (decide (x33<x38)) (
some (.inr (.inl (-1)))) (
gd (bO v11 l1.length) (
gd (bO v11 l5.length) (
br (decide (x38<x33)) (
some (.inr (.inl 1))) (
some (.inl (RC (v11-1)))))))))) (
some (.inr (.inr ())))
def Dm(n:Nat)(l1:SB (Nat))(l5:SB (Nat)):SA Int :=
br (!decide ((l1.length:Int)=(l5.length:Int))) (
some (RC ((l1.length:Int)-(l5.length:Int)))) (
ob (α:=(Int)⊕SC) (
bR (ki n l1 l5) n (RC ((l1.length:Int)-1))) fun r45=>match r45 with
| .inl v28 =>
some v28
| .inr _ =>
some 0)
def nZ(n:Nat)(l1:SB (Nat))(l5:SB (Nat)):(SB (Nat)×Nat×Int)->SA ((SB (Nat)×Nat×Int) ⊕(SB (Nat))):=fun(l2,v2,v1) =>
br (decide (v1<(l1.length:Int))) (
gd (bO v1 l1.length) (
ob (l1[v1.toNat]?) fun x3 =>
ob (
br (decide (v1<(l5.length:Int))) (
gd (bO v1 l5.length) (
ob (l5[v1.toNat]?) fun x4 =>
some x4)) (
some 0)) fun v3 =>
ob (GW n x3 v3 v2) fun(r0,r1) =>
gd (bO v1 ((l1.length:Int).toNat)) (
ob (l2[v1.toNat]?) fun x10 =>
some (.inl ((l2.set v1.toNat r0),r1,RC (v1+1)))))) (
some (.inr l2))
def ED(n:Nat)(l1:SB (Nat))(l5:SB (Nat)):SA (SB Nat) :=
gd (decide (0<=(l1.length:Int))) (gd (lim ((l1.length:Int).toNat)) (
ob (
bR (nZ n l1 l5) n ((List.replicate (l1.length:Int).toNat (0:Nat)),0,0)) fun l2 =>
some l2))
def Cm(n:Nat)(x1:Bool)(l2:SB (Nat))(x7:Bool)(l8:SB (Nat)):SA (Bool×SB Nat) :=
br ((x1==x7)) (
ob (Em n l2 l8) fun l18 =>
ob (xj n x1 l18) fun(r22,l23) =>
some (r22,l23)) (
ob (
ob (Dm n l2 l8) fun r39 =>
br (decide (r39<0)) (
some (x7,l8,x1,l2)) (
some (x1,l2,x7,l8))) fun(v30,l31,v34,l35) =>
ob (ED n l31 l35) fun l44 =>
ob (xj n v30 l44) fun(r48,l49) =>
some (r48,l49))
def F3(n:Nat):(SB (Nat)×SB (Nat)×Int)->SA ((SB (Nat)×SB (Nat)×Int)⊕Int⊕SC):=fun(l32,l33,v34) =>
br (decide (0<=v34)) (
gd (bO v34 8) (
ob (l32[v34.toNat]?) fun x52 =>
gd (bO v34 8) (
ob (l33[v34.toNat]?) fun x55 =>
br (!decide (x52=x55)) (
gd (bO v34 8) (
gd (bO v34 8) (
br (decide (x52<x55)) (
some (.inr (.inl (-1)))) (
some (.inr (.inl 1)))))) (
some (.inl (l32,l33,RC (v34-1))))))) (
some (.inr (.inr ())))
def E8(n:Nat)(x1:Nat)(x2:Nat)(x3:Nat)(x4:Nat)(x5:Nat)(x6:Nat)(x7:Nat)(x8:Nat)(x9:Nat)(x10:Nat)(x11:Nat)(x12:Nat)(x13:Nat)(x14:Nat)(x15:Nat)(x16:Nat):SA Int :=
ob (α:=(Int)⊕SC) (
bR (F3 n) n (([x1,x2,x3,x4,x5,x6,x7,x8]:SB (Nat)),([x9,x10,x11,x12,x13,x14,x15,x16]:SB (Nat)),7)) fun r62=>match r62 with
| .inl v49 =>
some v49
| .inr _ =>
some 0
def HI(n:Nat)(x1:Bool)(x2:Nat)(x3:Nat)(x4:Nat)(x5:Nat)(x6:Nat)(x7:Nat)(x8:Nat)(x9:Nat):SA (Nat×Nat×Nat×Nat×Nat×Nat×Nat×Nat×Int) :=
ob (E8 n x2 x3 x4 x5 x6 x7 x8 x9 0 0 0 0 0 0 0 9223372036854775808) fun r24 =>
ob (
br (decide (0<r24)) (
some true) (
br (decide (r24=0)) (
some (!x1)) (
some false))) fun v27 =>
br (v27) (
some (0,0,0,0,0,0,0,0,6)) (
ob (
br (x1) (
ob (HK n 0 0 0 0 0 0 0 0 x2 x3 x4 x5 x6 x7 x8 x9) fun(r54,r55,r56,r57,r58,r59,r60,r61,r62) =>
some (r54,r55,r56,r57,r58,r59,r60,r61)) (
some (x2,x3,x4,x5,x6,x7,x8,x9))) fun(v44,v45,v46,v47,v48,v49,v50,v51) =>
some (v44,v45,v46,v47,v48,v49,v50,v51,0))
def DD(n:Nat)(x1:Bool)(l2:SB (Nat)):SA (Nat×Nat×Nat×Nat×Nat×Nat×Nat×Nat×Int) :=
br (decide (8<(l2.length:Int))) (
some (0,0,0,0,0,0,0,0,6)) (
gd (decide ((l2:SB (Nat)).length<=8)) (
ob (M4 ((l2:SB (Nat))++([0,0,0,0,0,0,0,0]:SB (Nat)).drop (l2:SB (Nat)).length)) fun(x12,x13,x14,x15,x16,x17,x18,x19) =>
ob (HI n x1 x12 x13 x14 x15 x16 x17 x18 x19) fun(r21,r22,r23,r24,r25,r26,r27,r28,r29) =>
some (r21,r22,r23,r24,r25,r26,r27,r28,r29)))
def DT(n:Nat)(x1:Nat)(x2:Nat)(x3:Nat)(x4:Nat)(x5:Nat)(x6:Nat)(x7:Nat)(x8:Nat):SA (Int×Int) :=
ob (wN n (RC ((x1:Nat):Int))) fun(r11,r12,r13,r14,r15,r16,r17,r18) =>
br (!(decide (r11=x1)&&decide (r12=x2)&&decide (r13=x3)&&decide (r14=x4)&&decide (r15=x5)&&decide (r16=x6)&&decide (r17=x7)&&decide (r18=x8))) (
some (0,6)) (
some (RC ((x1:Nat):Int),0))
def xW(n:Nat)(l1:Rs):Int->SA (Int⊕Int⊕SC):=fun v1 =>
br (decide (v1<(l1.length:Int))) (
gd (bO v1 l1.length) (
ob (l1[v1.toNat]?) fun(x3,x4) =>
ob (D7 n x3 x4) fun r0 =>
br (r0) (
some (.inr (.inl v1))) (
some (.inl (RC (v1+1)))))) (
some (.inr (.inr ())))
def tJ(n:Nat)(l1:Rs):(SB (Int×Bool×SB Nat)×Int)->SA ((SB (Int×Bool×SB Nat)×Int) ⊕(SB (Int×Bool×SB Nat))):=fun(l2,v1) =>
br (decide (v1<(l1.length:Int))) (
ob (
gd (bO v1 l1.length) (
ob (l1[v1.toNat]?) fun(x3,x4) =>
ob (
br (decide (x4=0)) (
some true) (
some (decide (x3=0)))) fun v2 =>
br (v2) (
some l2) (
ob (yW n x4) fun(r1,r0) =>
ob (some ((iS l2 r0).getD (false,[]))) fun(y0,l3) =>
ob (CS n x3) fun(r3,l4) =>
ob (CS n r1) fun(r4,l7) =>
ob (CY n r3 l4 r4 l7) fun(r5,l8) =>
ob (Cm n y0 l3 r5 l8) fun(r6,l9) =>
some (iy l2 r0 (r6,l9))))) fun l10 =>
some (.inl (l10,RC (v1+1)))) (
some (.inr l2))
def tv(n:Nat)(l3:SB Int)(l4:SB (Int×Bool×SB Nat)):(Rs×Int)->SA ((Rs×Int)⊕SC⊕Rs):=fun(l2,v1) =>
br (decide (v1<(l3.length:Int))) (
ob (α:=(SC)⊕Rs) (
gd (bO v1 l3.length) (
ob (l3[v1.toNat]?) fun x3 =>
ob (some ((iS l4 x3).getD (false,[]))) fun(y0,l7) =>
ob (DD n y0 l7) fun(r1,r3,r4,r5,r6,r7,r8,r9,r10) =>
ob (DT n r1 r3 r4 r5 r6 r7 r8 r9) fun(r0,r11) =>
ob (
br (!decide (r10=0)) (
some true) (
br (!decide (r11=0)) (
some true) (
ob (sF n r0) fun r12 =>
some (!r12)))) fun v2 =>
br (v2) (
some (.inl ())) (
br (!decide (r0=0)) (
gd (lim (l2++[(r0,x3)]).length) (
some (.inr (l2++[(r0,x3)])))) (
some (.inr l2))))) fun r13=>match r13 with
| .inl _ =>
some (.inr (.inl ()))
| .inr l8 =>
some (.inl (l8,RC (v1+1)))) (
some (.inr (.inr l2)))
def LM(n:Nat)(l1:Rs):SA (Rs×Int) :=
br (decide (400<(l1.length:Int))) (
some ([],3)) (
ob (
ob (
ob (α:=(Int)⊕SC) (
bR (xW n l1) n 0) fun r0=>match r0 with
| .inl v1 =>
some v1
| .inr _ =>
some (-1)) fun v2 =>
some (decide (0<=v2))) fun v3 =>
br (v3) (
some ([],2)) (
ob (
bR (tJ n l1) n (([]:SB (Int×Bool×SB Nat)),0)) fun l2 =>
ob (GY n l2) fun l4 =>
ob (α:=(SC)⊕Rs) (
bR (tv n l4 l2) n (([]:Rs),0)) fun r1=>match r1 with
| .inl _ =>
some ([],6)
| .inr l3 =>
br (decide (200<(l3.length:Int))) (
some ([],3)) (
some (l3,0))))
def xc(n:Nat)(x1:Int)(x2:Int)(x3:Int)(x4:Int):Int->SA (Int⊕SC⊕SC):=fun v8 =>
br (decide (v8<4)) (
gd (bO v8 4) (
ob ([x1,x2,x3,x4][v8.toNat]?) fun x39 =>
ob (
br (decide (x39 < -1000000)) (
some true) (
some (decide (1000000<x39)))) fun v43 =>
br (v43) (
some (.inr (.inl ()))) (
some (.inl (RC (v8+1)))))) (
some (.inr (.inr ())))
def Mu(n:Nat)(x1:Int)(x2:Int)(x3:Int)(x4:Int):SA (Rs×Int) :=
ob (α:=(SC)⊕SC) (
bR (xc n x1 x2 x3 x4) n 0) fun r49=>match r49 with
| .inl _ =>
some ([],2)
| .inr _ =>
ob (some (RC ((RC (x1-x3))*(RC (x1-x3))))) fun y50 =>
ob (some (RC ((RC (x2-x4))*(RC (x2-x4))))) fun y52 =>
ob (LM n ([(1,RC (y50+y52))])) fun(l56,r59) =>
some (l56,r59)
def th(n:Nat)(l1:Rs):(Int×Int)->SA ((Int×Int)⊕SC⊕SC):=fun(v2,v1) =>
br (decide (v1<(l1.length:Int))) (
gd (bO v1 l1.length) (
ob (l1[v1.toNat]?) fun(x4,x3) =>
ob (
br (decide (x3<=v2)) (
some true) (
br (decide (10000000000000<x3)) (
some true) (
br (decide (x4=0)) (
some true) (
ob (sF n x4) fun r0 =>
some (!r0))))) fun v3 =>
br (v3) (
some (.inr (.inl ()))) (
ob (yW n x3) fun(r1,r3) =>
br (decide (1<r1)) (
some (.inr (.inl ()))) (
some (.inl (x3,RC (v1+1))))))) (
some (.inr (.inr ())))
def LQ(n:Nat)(l1:Rs):SA Int :=
br (decide (200<(l1.length:Int))) (
some 30) (
ob (α:=(SC)⊕SC) (
bR (th n l1) n (0,0)) fun r0=>match r0 with
| .inl _ =>
some 30
| .inr _ =>
some 0)
def MN(n:Nat)(l1:Rs)(l5:Rs):SA (Rs×Int) :=
ob (
ob (LQ n l1) fun r0 =>
br (!decide (r0=0)) (
some true) (
ob (LQ n l5) fun r1 =>
some (!decide (r1=0)))) fun v1 =>
br (v1) (
some ([],30)) (
ob (
gd (bO 0 2) (
ob (([l1,l5]:SB (Rs))[RD]?) fun l4 =>
br (decide (RC (0+(l4.length:Int))<0)) (
none) (
gd (bO 1 2) (
ob (([l1,l5]:SB (Rs))[(1:Int).toNat]?) fun l8 =>
ob (some (RC ((RC (0+(l4.length:Int)))+(l8.length:Int)))) fun y0 =>
br (decide (y0<0)) (
none) (
ob (
ob (
br (decide (0<RC (y0-0))) (
gd (decide ((0:Int)<RC (y0-0))) (gd (lim ((RC (y0-0)).toNat)) (
gd (okB 0 0 ((RC (y0-0)).toNat)) (
gd (decide (0<((RC (y0-0)).toNat))) (
ob (some ((List.replicate (RC (y0-0)).toNat ((0,0):Int×Int)).take RD)) fun l9 =>
some l9))))) (
some ([]:Rs))) fun l10 =>
some l10) fun l2 =>
gd (bO 0 2) (
ob (([l1,l5]:SB (Rs))[RD]?) fun l3 =>
gd (lim (l2++l3).length) (
gd (bO 1 2) (
ob (([l1,l5]:SB (Rs))[(1:Int).toNat]?) fun l7 =>
gd (lim ((l2++l3)++l7).length) (
some ((l2++l3)++l7)))))))))) fun l11 =>
ob (LM n l11) fun(l12,r3) =>
some (l12,r3))
def tx(n:Nat)(l1:Rs):(Int×Rs)->SA ((Int×Rs)⊕Int⊕Rs):=fun(v1,l2) =>
br (decide (v1<(l1.length:Int))) (
gd (bO v1 l1.length) (
ob (l1[v1.toNat]?) fun(x3,x4) =>
gd (decide ((l1.length:Int)≠0)) (
gd (bO (Int.tmod (RC (v1+1)) (l1.length:Int)) l1.length) (
ob (l1[(Int.tmod (RC (v1+1)) (l1.length:Int)).toNat]?) fun(x10,x11) =>
ob (α:=(Int)⊕Rs) (
ob (Mu n x3 x4 x10 x11) fun(l3,r0) =>
br (!decide (r0=0)) (
some (.inl r0)) (
ob (MN n l2 l3) fun(l4,r1) =>
br (!decide (r1=0)) (
some (.inl r1)) (
some (.inr l4)))) fun r3=>match r3 with
| .inl v2 =>
some (.inr (.inl v2))
| .inr l7 =>
some (.inl (RC (v1+1),l7)))))) (
some (.inr (.inr l2)))
def KG(n:Nat)(l1:Rs):SA (Rs×Int) :=
ob (Iu n l1) fun r0 =>
br (!decide (r0=0)) (
some ([],r0)) (
ob (
some ()) fun _ =>
ob (α:=(Int)⊕Rs) (
ob (α:=(Int)⊕Rs) (
bR (tx n l1) n (0,([]:Rs))) fun r1=>match r1 with
| .inl v1 =>
some (.inl v1)
| .inr l2 =>
some (.inr l2)) fun r3=>match r3 with
| .inl v2 =>
some ([],v2)
| .inr l3 =>
some (l3,0))
def yg(n:Nat)(l1:Rs)(l5:Rs):Int->SA (Int⊕SC⊕SC):=fun v11 =>
br (decide (v11<(l1.length:Int))) (
gd (bO v11 l1.length) (
ob (l1[v11.toNat]?) fun(x31,x32) =>
gd (bO v11 l5.length) (
ob (l5[v11.toNat]?) fun(x37,x38) =>
br (!(decide (x31=x37)&&decide (x32=x38))) (
some (.inr (.inl ()))) (
some (.inl (RC (v11+1))))))) (
some (.inr (.inr ())))
def MK(n:Nat)(l1:Rs)(l5:Rs):SA Bool :=
br (!decide ((l1.length:Int)=(l5.length:Int))) (
some false) (
ob (α:=(SC)⊕SC) (
bR (yg n l1 l5) n 0) fun r42=>match r42 with
| .inl _ =>
some false
| .inr _ =>
some true)
end
section
open Go Go.Ab Go.Ab.W
def LS(n:Nat)(x1:Int)(x2:Int):SA Bool :=
br (decide (x1 < -1000000)) (
some true) (
br (decide (1000000<x1)) (
some true) (
br (decide (x2 < -1000000)) (
some true) (
some (decide (1000000<x2)))))
def zJ(n:Nat)(x1:Int):SA Bool :=
br (decide (-1000000000000000<=x1)) (
some (decide (x1<=1000000000000000))) (
some false)
def qN(n:Nat)(l1:SB (Int)):Int->SA (Int⊕Int):=fun v7 =>
ob (
br (decide (0<v7)) (
gd (bO (RC (v7-1)) l1.length) (
ob (l1[(RC (v7-1)).toNat]?) fun x69 =>
some (decide (x69=0)))) (
some false)) fun v64 =>
br (v64) (
some (.inl (RC (v7-1)))) (
some (.inr v7))
def pD(n:Nat)(l1:SB (Int)):SA (SB Int) :=
ob (
bR (qN n l1) n (l1.length:Int)) fun v41 =>
gd (okB 0 v41 l1.length) (
some ((l1.drop RD).take ((v41:Int).toNat-RD)))
def jx(n:Nat)(x1:Bool)(l2:SB (Int)):SA (Bool×SB Int) :=
ob (pD n l2) fun l9 =>
br (x1) (
some (decide (0<(l9.length:Int)),l9)) (
some (false,l9))
def rB(n:Nat)(x1:Int):SA (Bool×SB Int) :=
ob (
br (decide (x1<0)) (
some (DH .u64 (ui .u64 x1))) (
some (ui .u64 x1))) fun v4 =>
ob (jx n (decide (x1<0)) ([RC ((v4%4294967296:Nat):Int),RC ((uw .u64 (v4/4294967296):Nat):Int)])) fun(r10,l11) =>
some (r10,l11)
def oz(n:Nat)(l6:SB (Int))(v2:Int)(n1:Nat)(l1:SB (Int)):(SB (Int)×Nat×Int)->SA ((SB (Int)×Nat×Int) ⊕(SB (Int)×Nat)):=fun(l2,v3,v1) =>
br (decide (v1<(l6.length:Int))) (
gd (bO (RC (v2+v1)) n1) (
ob (l2[(RC (v2+v1)).toNat]?) fun x3 =>
gd (bO v2 l1.length) (
ob (l1[v2.toNat]?) fun x4 =>
gd (bO v1 l6.length) (
ob (l6[v1.toNat]?) fun x10 =>
ob (some (uw .u64 ((uw .u64 (v3+(ui .u64 x3)))+(uw .u64 ((ui .u64 x4)*(ui .u64 x10)))))) fun y0 =>
gd (bO (RC (v2+v1)) n1) (
some (.inl ((l2.set ((RC (v2+v1)).toNat) (RC ((y0%4294967296:Nat):Int))),uw .u64 (y0/4294967296),RC (v1+1)))))))) (
some (.inr (l2,v3)))
def jQ(n:Nat)(l1:SB (Int))(l6:SB (Int)):(SB (Int)×Nat×Int)->SA ((SB (Int)×Nat×Int) ⊕(SB (Int)×Nat)):=fun(l2,n1,v1) =>
br (decide (v1<(l1.length:Int))) (
ob (
bR (oz n l6 v1 n1 l1) n (l2,0,0)) fun(l3,v2) =>
gd (bO (RC (v1+(l6.length:Int))) n1) (
ob (l3[(RC (v1+(l6.length:Int))).toNat]?) fun x3 =>
some (.inl ((l3.set ((RC (v1+(l6.length:Int))).toNat) (RC ((v2:Nat):Int))),n1,RC (v1+1))))) (
some (.inr (l2,n1)))
def zp(n:Nat)(l1:SB (Int))(l6:SB (Int)):SA (SB Int) :=
gd (decide (0<=RC ((l1.length:Int)+(l6.length:Int)))) (gd (lim ((RC ((l1.length:Int)+(l6.length:Int))).toNat)) (
ob (
bR (jQ n l1 l6) n ((List.replicate (RC ((l1.length:Int)+(l6.length:Int))).toNat (0:Int)),(RC ((l1.length:Int)+(l6.length:Int))).toNat,0)) fun(l2,n1) =>
ob (pD n l2) fun l3 =>
some l3))
def jt(n:Nat)(l1:SB (Int))(l5:SB (Int)):Int->SA (Int⊕Int⊕SC):=fun v11 =>
br (decide (0<=v11)) (
gd (bO v11 l1.length) (
ob (l1[v11.toNat]?) fun x32 =>
gd (bO v11 l5.length) (
ob (l5[v11.toNat]?) fun x37 =>
br (!decide (x32=x37)) (
gd (bO v11 l1.length) (
gd (bO v11 l5.length) (
some (.inr (.inl (RC (x32-x37))))))) (
some (.inl (RC (v11-1))))))) (
some (.inr (.inr ())))
def Cd(n:Nat)(l1:SB (Int))(l5:SB (Int)):SA Int :=
br (!decide ((l1.length:Int)=(l5.length:Int))) (
some (RC ((l1.length:Int)-(l5.length:Int)))) (
ob (α:=(Int)⊕SC) (
bR (jt n l1 l5) n (RC ((l1.length:Int)-1))) fun r43=>match r43 with
| .inl v27 =>
some v27
| .inr _ =>
some 0)
def qO(n:Nat)(v1:Int)(y0:Int)(l4:SB (Int)):(SB (Int)×Int)->SA ((SB (Int)×Int) ⊕(SB (Int))):=fun(l2,v2) =>
br (decide (0<=v2)) (
ob (
gd (bO v1 y0.toNat) (
ob (l2[v1.toNat]?) fun x3 =>
gd (bO v1 y0.toNat) (
gd (lim (([]:SB (Int))++(l2.set v1.toNat (RC (x3+(lf .i64 1 v2.toNat))))).length) (
ob (pD n (([]:SB (Int))++(l2.set v1.toNat (RC (x3+(lf .i64 1 v2.toNat)))))) fun l3 =>
ob (zp n l3 l3) fun l7 =>
ob (Cd n l7 l4) fun r0 =>
br (decide (0<r0)) (
gd (bO v1 y0.toNat) (
ob ((l2.set v1.toNat (RC (x3+(lf .i64 1 v2.toNat))))[v1.toNat]?) fun x4 =>
gd (bO v1 y0.toNat) (
some ((l2.set v1.toNat (RC (x3+(lf .i64 1 v2.toNat)))).set v1.toNat (RC (x4-(lf .i64 1 v2.toNat))))))) (
some (l2.set v1.toNat (RC (x3+(lf .i64 1 v2.toNat))))))))) fun l8 =>
some (.inl (l8,RC (v2-1)))) (
some (.inr l2))
def uK(n:Nat)(y0:Int)(l3:SB (Int)):(SB (Int)×Int)->SA ((SB (Int)×Int) ⊕(SB (Int))):=fun(l2,v1) =>
br (decide (0<=v1)) (
ob (
bR (qO n v1 y0 l3) n (l2,31)) fun l4 =>
some (.inl (l4,RC (v1-1)))) (
some (.inr l2))
def C7(n:Nat)(x1:Bool)(l2:SB (Int)):SA (Bool×SB Int) :=
ob (some (RC (Qt (RC ((l2.length:Int)+1)) 2))) fun y0 =>
gd (decide (0<=y0)) (gd (lim y0.toNat) (
ob (
bR (uK n y0 l2) n ((List.replicate y0.toNat (0:Int)),RC (y0-1))) fun l3 =>
ob (jx n false l3) fun(r0,l4) =>
some (r0,l4)))
def ET(n:Nat)(x1:Bool)(l2:SB (Int)):SA (Bool×SB Int) :=
ob (jx n (!x1) l2) fun(r10,l11) =>
some (r10,l11)
def qY(n:Nat)(l1:SB (Int))(l5:SB (Int)):(SB (Int)×Int×Int)->SA ((SB (Int)×Int×Int) ⊕(SB (Int))):=fun(l2,v2,v1) =>
ob (
br (decide (v1<(l1.length:Int))) (
some true) (
br (decide (v1<(l5.length:Int))) (
some true) (
some (decide (0<v2))))) fun v5 =>
br (v5) (
ob (
br (decide (v1<(l1.length:Int))) (
gd (bO v1 l1.length) (
ob (l1[v1.toNat]?) fun x3 =>
some (RC (v2+x3)))) (
some v2)) fun v4 =>
ob (
br (decide (v1<(l5.length:Int))) (
gd (bO v1 l5.length) (
ob (l5[v1.toNat]?) fun x4 =>
some (RC (v4+x4)))) (
some v4)) fun v3 =>
gd (lim (l2++[Int.tmod v3 4294967296]).length) (
some (.inl ((l2++[Int.tmod v3 4294967296]),RC (Qt v3 4294967296),RC (v1+1))))) (
some (.inr l2))
def CZ(n:Nat)(l1:SB (Int))(l5:SB (Int)):SA (SB Int) :=
ob (
bR (qY n l1 l5) n (([]:SB (Int)),0,0)) fun l2 =>
some l2
def rV(n:Nat)(l1:SB (Int))(l6:SB (Int)):(SB (Int)×Int×Int)->SA ((SB (Int)×Int×Int) ⊕(SB (Int))):=fun(l2,v3,v1) =>
br (decide (v1<(l1.length:Int))) (
gd (bO v1 l1.length) (
ob (l1[v1.toNat]?) fun x3 =>
ob (
br (decide (v1<(l6.length:Int))) (
gd (bO v1 l6.length) (
ob (l6[v1.toNat]?) fun x4 =>
some (RC ((RC (x3-v3))-x4)))) (
some (RC (x3-v3)))) fun v2 =>
ob (
br (decide (v2<0)) (
some (1,RC (v2+4294967296))) (
some (0,v2))) fun(v5,v4) =>
gd (lim (l2++[v4]).length) (
some (.inl ((l2++[v4]),v5,RC (v1+1)))))) (
some (.inr l2))
def B5(n:Nat)(l1:SB (Int))(l6:SB (Int)):SA (SB Int) :=
ob (
bR (rV n l1 l6) n (([]:SB (Int)),0,0)) fun l2 =>
ob (pD n l2) fun l3 =>
some l3
def zf(n:Nat)(x1:Bool)(l2:SB (Int))(x7:Bool)(l8:SB (Int)):SA (Bool×SB Int) :=
br ((x1==x7)) (
ob (CZ n l2 l8) fun l18 =>
ob (jx n x1 l18) fun(r22,l23) =>
some (r22,l23)) (
ob (Cd n l2 l8) fun r28 =>
br (decide (0<=r28)) (
ob (B5 n l2 l8) fun l31 =>
ob (jx n x1 l31) fun(r36,l37) =>
some (r36,l37)) (
ob (B5 n l8 l2) fun l42 =>
ob (jx n x7 l42) fun(r47,l48) =>
some (r47,l48)))
def Ds(n:Nat)(x1:Bool)(l2:SB (Int))(x7:Bool)(l8:SB (Int)):SA (Bool×SB Int) :=
ob (ET n x7 l8) fun(r17,l18) =>
ob (zf n x1 l2 r17 l18) fun(r23,l24) =>
some (r23,l24)
def yJ(n:Nat)(x1:Bool)(l2:SB (Int))(x6:Bool)(l7:SB (Int)):SA Int :=
ob (Ds n x1 l2 x6 l7) fun(r14,l15) =>
br (r14) (
some (-1)) (
br (decide (0<(l15.length:Int))) (
some 1) (
some 0))
def oD(n:Nat)(l2:SB (Int)):(Nat×Int)->SA ((Nat×Int)⊕Nat):=fun(v2,v1) =>
br (decide (0<=v1)) (
gd (bO v1 l2.length) (
ob (l2[v1.toNat]?) fun x3 =>
some (.inl (uw .u64 ((uw .u64 (v2*4294967296))+(ui .u64 x3)),RC (v1-1))))) (
some (.inr v2))
def BZ(n:Nat)(x1:Bool)(l2:SB (Int)):SA (Int×Int) :=
ob (
ob (rB n (-9223372036854775808)) fun(r0,l3) =>
ob (yJ n x1 l2 r0 l3) fun r1 =>
br (decide (r1<0)) (
some true) (
ob (rB n 9223372036854775807) fun(r3,l4) =>
ob (yJ n x1 l2 r3 l4) fun r4 =>
some (decide (0<r4)))) fun v2 =>
br (v2) (
some (0,6)) (
ob (
bR (oD n l2) n (0,RC ((l2.length:Int)-1))) fun v1 =>
ob (
br (x1) (
some (DH .u64 v1)) (
some v1)) fun v3 =>
some (RC ((v3:Nat):Int),0))
def qu(n:Nat)(v1:Int):(Int×Int)->SA ((Int×Int) ⊕(Int×Int)):=fun(v2,v3) =>
gd (decide (v1≠0)) (
br (decide (Int.tmod v2 v1=0)) (
gd (decide (v1≠0)) (
some (.inl (RC (Qt v2 v1),RC (v3+1))))) (
some (.inr (v2,v3))))
def qA(n:Nat)(v3:Int)(v4:Int):(Int×Int)->SA ((Int×Int)⊕Int):=fun(v1,v2) =>
br (decide (v2<RC (Qt v3 2))) (
some (.inl (RC (v1*v4),RC (v2+1)))) (
some (.inr v1))
def qR(n:Nat):(Rr)->SA (Rr ⊕(Int×Int×Int)):=fun(v3,v2,v4,v1) =>
br (decide (v1<=21545)) (
ob (
ob (
bR (qu n v1) n (v4,0)) fun(v5,v6) =>
ob (
bR (qA n v6 v1) n (v3,0)) fun v7 =>
br (decide (Int.tmod v6 2=1)) (
some (v7,RC (v2*v1),v5)) (
some (v7,v2,v5))) fun(v8,v9,v10) =>
some (.inl (v8,v9,v10,RC (v1+1)))) (
some (.inr (v3,v2,v4)))
def zD(n:Nat)(x1:Int):SA (Int×Int) :=
ob (
bR (qR n) n (1,1,x1,2)) fun(v2,v3,v1) =>
ob (rB n v1) fun(r1,l2) =>
ob (C7 n r1 l2) fun(r3,l3) =>
ob (BZ n r3 l3) fun(r0,r4) =>
br (decide (RC (r0*r0)=v1)) (
some (RC (v2*r0),v3)) (
some (v2,RC (v3*v1)))
def FY(n:Nat)(x1:Bool)(l2:SB (Int))(x7:Bool)(l8:SB (Int)):SA (Bool×SB Int) :=
ob (zp n l2 l8) fun l17 =>
ob (jx n (!(x1==x7)) l17) fun(r22,l23) =>
some (r22,l23)
def fq(n:Nat)(l1:SB (Int×Bool×SB Int))(x3:Int)(x4:Bool)(l3:SB (Int)):(SB (Int×Bool×SB Int)×Bool×Int)->SA ((SB (Int×Bool×SB Int)×Bool×Int) ⊕(SB (Int×Bool×SB Int)×Bool)):=fun(l2,v2,v1) =>
br (decide (v1<(l1.length:Int))) (
ob (
ob (
br (!v2) (
gd (bO v1 l1.length) (
ob (l1[v1.toNat]?) fun(x12,x15,l11) =>
some (decide (x12=x3)))) (
some false)) fun v3 =>
br (v3) (
gd (bO v1 l1.length) (
ob (l1[v1.toNat]?) fun(x16,x13,l9) =>
ob (zf n x13 l9 x4 l3) fun(r0,l4) =>
gd (lim (l2++([(x3,r0,l4)]:SB (Int×Bool×SB Int))).length) (
some ((l2++([(x3,r0,l4)]:SB (Int×Bool×SB Int))),true)))) (
ob (
ob (
br (!v2) (
gd (bO v1 l1.length) (
ob (l1[v1.toNat]?) fun(x14,x17,l12) =>
some (decide (x3<x14)))) (
some false)) fun v4 =>
br (v4) (
gd (lim (l2++([(x3,x4,l3)]:SB (Int×Bool×SB Int))).length) (
some ((l2++([(x3,x4,l3)]:SB (Int×Bool×SB Int))),true))) (
some (l2,v2))) fun(l7,v5) =>
gd (bO v1 l1.length) (
ob (l1[v1.toNat]?) fun(x10,x11,l8) =>
gd (lim (l7++([(x10,x11,l8)]:SB (Int×Bool×SB Int))).length) (
some ((l7++([(x10,x11,l8)]:SB (Int×Bool×SB Int))),v5))))) fun(l10,v6) =>
some (.inl (l10,v6,RC (v1+1)))) (
some (.inr (l2,v2)))
def Ef(n:Nat)(l1:SB (Int×Bool×SB Int))(x3:Int)(x4:Bool)(l2:SB (Int)):SA (SB (Int×Bool×SB Int)) :=
ob (
bR (fq n l1 x3 x4 l2) n (([]:SB (Int×Bool×SB Int)),false,0)) fun(l3,v1) =>
ob (
br (!v1) (
gd (lim (l3++([(x3,x4,l2)]:SB (Int×Bool×SB Int))).length) (
some (l3++([(x3,x4,l2)]:SB (Int×Bool×SB Int))))) (
some l3)) fun l4 =>
some l4
def wS(n:Nat)(l1:Rs):Int->SA (Int⊕SC⊕SC):=fun v1 =>
br (decide (v1<(l1.length:Int))) (
ob (
gd (bO v1 l1.length) (
ob (l1[v1.toNat]?) fun(x4,x3) =>
br (decide (x3<0)) (
some true) (
gd (bO v1 l1.length) (
br (decide (10000000000000<x3)) (
some true) (
gd (bO v1 l1.length) (
ob (zJ n x4) fun r0 =>
some (!r0))))))) fun v2 =>
br (v2) (
some (.inr (.inl ()))) (
some (.inl (RC (v1+1))))) (
some (.inr (.inr ())))
def tZ(n:Nat)(l1:Rs):(SB (Int×Bool×SB Int)×Int)->SA ((SB (Int×Bool×SB Int)×Int) ⊕(SB (Int×Bool×SB Int))):=fun(l2,v1) =>
br (decide (v1<(l1.length:Int))) (
ob (
gd (bO v1 l1.length) (
ob (l1[v1.toNat]?) fun(x4,x3) =>
br (decide (0<x3)) (
gd (bO v1 l1.length) (
ob (zD n x3) fun(r0,r1) =>
gd (bO v1 l1.length) (
ob (rB n x4) fun(r3,l3) =>
ob (rB n r0) fun(r4,l4) =>
ob (FY n r3 l3 r4 l4) fun(r5,l7) =>
ob (Ef n l2 r1 r5 l7) fun l8 =>
some l8))) (
some l2))) fun l9 =>
some (.inl (l9,RC (v1+1)))) (
some (.inr l2))
def tH(n:Nat)(l2:SB (Int×Bool×SB Int)):(Rs×Int)->SA ((Rs×Int)⊕SC⊕Rs):=fun(l3,v1) =>
br (decide (v1<(l2.length:Int))) (
ob (α:=(SC)⊕Rs) (
gd (bO v1 l2.length) (
ob (l2[v1.toNat]?) fun(x3,x4,l4) =>
ob (BZ n x4 l4) fun(r0,r1) =>
ob (
br (!decide (r1=0)) (
some true) (
ob (zJ n r0) fun r3 =>
some (!r3))) fun v2 =>
br (v2) (
some (.inl ())) (
br (!decide (r0=0)) (
gd (bO v1 l2.length) (
gd (lim (l3++[(r0,x3)]).length) (
some (.inr (l3++[(r0,x3)]))))) (
some (.inr l3))))) fun r4=>match r4 with
| .inl _ =>
some (.inr (.inl ()))
| .inr l7 =>
some (.inl (l7,RC (v1+1)))) (
some (.inr (.inr l3)))
def LY(n:Nat)(l1:Rs):SA (Rs×Int) :=
br (decide (400<(l1.length:Int))) (
some ([],3)) (
ob (α:=(SC)⊕SC) (
bR (wS n l1) n 0) fun r0=>match r0 with
| .inl _ =>
some ([],2)
| .inr _ =>
ob (
bR (tZ n l1) n (([]:SB (Int×Bool×SB Int)),0)) fun l3 =>
ob (α:=(SC)⊕Rs) (
bR (tH n l3) n (([]:Rs),0)) fun r1=>match r1 with
| .inl _ =>
some ([],6)
| .inr l2 =>
br (decide (200<(l2.length:Int))) (
some ([],3)) (
some (l2,0)))
def NJ(n:Nat)(x1:Int)(x2:Int)(x3:Int)(x4:Int):SA (Rs×Int) :=
ob (
ob (LS n x1 x2) fun r28 =>
br (r28) (
some true) (
ob (LS n x3 x4) fun r31 =>
some r31)) fun v26 =>
br (v26) (
some ([],2)) (
ob (some (RC ((RC (x1-x3))*(RC (x1-x3))))) fun y35 =>
ob (some (RC ((RC (x2-x4))*(RC (x2-x4))))) fun y37 =>
ob (LY n ([(1,RC (y35+y37))])) fun(l41,r44) =>
some (l41,r44))
def yy(n:Nat)(l1:Rs):Int->SA (Int⊕SC⊕SC):=fun v1 =>
br (decide (v1<(l1.length:Int))) (
gd (bO v1 l1.length) (
ob (l1[v1.toNat]?) fun(x4,x3) =>
ob (
br (decide (x3<1)) (
some true) (
br (decide (10000000000000<x3)) (
some true) (
br (decide (x4=0)) (
some true) (
ob (zJ n x4) fun r0 =>
br (!r0) (
some true) (
br (decide (0<v1)) (
gd (bO (RC (v1-1)) l1.length) (
ob (l1[(RC (v1-1)).toNat]?) fun(x11,x10) =>
some (decide (x3<=x10)))) (
some false)))))) fun v2 =>
br (v2) (
some (.inr (.inl ()))) (
ob (zD n x3) fun(r1,r3) =>
br (decide (1<r1)) (
some (.inr (.inl ()))) (
some (.inl (RC (v1+1))))))) (
some (.inr (.inr ())))
def LJ(n:Nat)(l1:Rs):SA Bool :=
br (decide (200<(l1.length:Int))) (
some false) (
ob (α:=(SC)⊕SC) (
bR (yy n l1) n 0) fun r0=>match r0 with
| .inl _ =>
some false
| .inr _ =>
some true)
def MO(n:Nat)(l1:Rs)(l5:Rs):SA (Rs×Int) :=
ob (
ob (LJ n l1) fun r30 =>
br (!r30) (
some true) (
ob (LJ n l5) fun r33 =>
some (!r33))) fun v28 =>
br (v28) (
some ([],30)) (
gd (lim (([]:Rs)++l1).length) (
gd (lim ((([]:Rs)++l1)++l5).length) (
ob (LY n ((([]:Rs)++l1)++l5)) fun(l42,r45) =>
some (l42,r45))))
def tE(n:Nat)(l1:Rs):(Rs×Int)->SA ((Rs×Int)⊕Int⊕Rs):=fun(l32,v34) =>
br (decide (v34<(l1.length:Int))) (
gd (bO v34 l1.length) (
ob (l1[v34.toNat]?) fun(x68,x69) =>
ob (CO n l1 (RC (v34+1))) fun(r72,r73) =>
ob (NJ n x68 x69 r72 r73) fun(l75,r78) =>
br (!decide (r78=0)) (
some (.inr (.inl r78))) (
ob (MO n l32 l75) fun(l81,r84) =>
br (!decide (r84=0)) (
some (.inr (.inl r84))) (
some (.inl (l81,RC (v34+1))))))) (
some (.inr (.inr l32)))
def KZ(n:Nat)(l1:Rs):SA (Rs×Int) :=
ob (Ip n l1) fun r6 =>
br (!decide (r6=0)) (
some ([],r6)) (
ob (α:=(Int)⊕Rs) (
bR (tE n l1) n (([]:Rs),0)) fun r87=>match r87 with
| .inl v60 =>
some ([],v60)
| .inr l61 =>
some (l61,0))
def D1(n:Nat)(l3:Rs)(l4:Rs)(l7:Rs)(l8:Rs):Int->SA (Int⊕SC⊕SC):=fun v1 =>
br (decide (v1<4)) (
gd (bO v1 4) (
ob ([l3,l4,l7,l8][v1.toNat]?) fun l2 =>
ob (KG n l2) fun(l9,r0) =>
ob (KZ n l2) fun(l10,r1) =>
ob (
br (!decide (r0=r1)) (
some true) (
ob (MK n l9 l10) fun r3 =>
some (!r3))) fun v2 =>
br (v2) (
some (.inr (.inl ()))) (
some (.inl (RC (v1+1)))))) (
some (.inr (.inr ())))
def F9(n:Nat)(l1:Rs)(l5:SB (Nat))(x9:Int)(x3:Int)(x4:Nat)(x10:Bool)(x11:Bool)(x12:Nat)(x13:Nat)(x14:Nat)(x15:Int)(x16:Int)(x17:Nat)(x18:Nat)(x19:Nat)(x20:Int)(x21:Int):SA Bool :=
ob (LO n l1 l5 x9 x3 x4 x10 x11 x12 x13 x14 x15 x16 x17 x18 x19 x20 x21) fun(l2,l3,l4,l7) =>
ob (α:=(SC)⊕SC) (
bR (D1 n l2 l3 l4 l7) n 0) fun r0=>match r0 with
| .inl _ =>
some false
| .inr _ =>
ob (Ou n) fun r1 =>
some r1
set_option maxRecDepth 10000
end
end Go.Proofs.YthmekkhpddehjaaGreat
