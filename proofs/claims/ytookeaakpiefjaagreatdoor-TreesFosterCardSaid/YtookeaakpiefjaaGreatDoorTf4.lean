/- A part of the proof. -/
import Derived.Test.YtookeaakpiefjaaGreatDoorTf3
section
namespace Go.Ab.W
open Go Go.Ab
set_option maxRecDepth 10000
attribute [local irreducible] Tm.at Trie.set Trie.get AMem.get AMem.set AMem.alloc AMem.ww
theorem DJ (ps:List Pc):∀(k:Nat) (p:Pc),pk ps k=some p→cG ps k p=ps:=by
 induction ps with
 | nil=>intro k p h; exact nomatch h
 | cons q l ih =>
  intro k p h;cases k with
  | zero=>rw[iZ] at h; cases h; rfl
  | succ k=>rw[gX] at h; simp only[cG,ih k p h]
section
variable {E : Env} {n : Nat} {m0 : AMem} {fs : Fs} {ps : List Pc} {x y z : Operand} {v : Value} {ty ty2 : TypeId}
theorem Dp {elem lo hi mx b o len cap w k:Nat} {cs:List Value} {tg:Tag} {lx hx kx:Option Operand} {l h q:Option Value} (ht:SlT E.P ty elem w) (hv:ev E fs x=some (.slice (some ⟨b,o,none⟩) len cap)) (e1:Am E fs lx=some l) (e2:Am E fs hx=some h) (e3:Am E fs kx=some q)
  (hp:pk ps k=some (.obj b (.cells cs tg))) (htg:Cp tg=true) (hb:cm len cap l h q=some (lo,hi,mx)) {o':Nat} (ho:o'=if mx=lo then o else o+lo*w) :
  Od E m0 fs ps (.slice ty x lx hx kx) (.slice (some ⟨b,o',none⟩) (hi-lo) (mx-lo)) ps :=
 fun t m hf hm=>⟨fun b' hb'=>by
  have:eu (.slice (some ⟨b,o,none⟩) len cap)=some b:=rfl;simp only[aE,hf.ev hv,Option.bind_some,this] at hb';cases hb'; exact(hm.get hp).2.1,fun K hK=>by
  have hg:=(hm.get hp).2.2;have hs:cl E.P ty (.slice (some ⟨b,o,none⟩) len cap) l h q m=some (.slice (some ⟨b,o',none⟩) (hi-lo) (mx-lo)):=by
   subst ho;cases tg with
   | more s=>cases htg
   | ro=>simp only[cl,ht.und,ht.known,if_true,hg,hb,ht.size]; split<;>rfl
   | own=>simp only[cl,ht.und,ht.known,if_true,hg,hb,ht.size]; split<;>rfl
  rw[Go.Ab.vF (hf.ev hv) (hf.Am e1) (hf.Am e2) (hf.Am e3) hs]; exact hK m hm⟩
theorem JH {m:AMem} {b o l c w q k:Nat} {cs:List Value} {tg:Tag} (hm:Hp m0 m ps) (hp:pk ps k=some (.obj b (.cells cs tg))) (h0:q≠0) (hl:o+q*w≤cs.length):bU w (.slice (some ⟨b,o,none⟩) l c) q m=some ((cs.drop o).take (q*w)):=by
 have hg:=(hm.get hp).2.2;have h1:((cs.drop o).take (q*w)).length=q*w:=by simp; omega
 simp only[bU,if_neg h0,AMem.du,hg,if_pos h1]
theorem OD {elem w b o l c k:Nat} {cs zs:List Value} {tg:Tag} {ars:Array Operand} (ht:SlT E.P ty elem w) (ha:gT E fs ars.toList=some [.slice (some ⟨b,o,none⟩) l c]) (hp:pk ps k=some (.obj b (.cells cs tg))) (htg:zM tg=true)
  (h0:l≠0) (hz:ef E.P elem l=some zs) (hzp:zs.all aw=true) (hne:zs≠[]) (hl:o+zs.length≤cs.length) :
  Od E m0 fs ps (.call ⟨.builtin .clear,ars,#[ty]⟩) undef (cG ps k (.obj b (.cells (au cs o zs) tg))) :=
 fun t m hf hm=>⟨fun b' hb'=>by simp[aE] at hb',fun K hK=>by
  have hg:=(hm.get hp).2.2;have hst:m.cc b o zs=some (m.set b (.cells (au cs o zs) tg)):=by
   cases zs with
   | nil=>exact absurd rfl hne
   | cons a' new =>
    cases tg with
    | ro=>cases htg
    | own=>simp only[AMem.cc,hg,if_pos hl]
    | more s=>simp only[AMem.cc,hg,if_pos hl]
  obtain⟨q,rfl⟩:=Nat.exists_eq_succ_of_ne_zero h0;have:aI E.P .clear #[ty] [.slice (some ⟨b,o,none⟩) (q+1) c] m=some (undef,m.set b (.cells (au cs o zs) tg)):=by
   have hty:(#[ty]:Array TypeId)[0]? = some ty:=rfl;simp only[aI,hty,xi,ht.und,hz,hzp,if_true,hst,Option.map_some]
   rfl
  rw[Go.Ab.dA (hf.gT ha) this];exact hK _ (hm.write hp rfl rfl rfl rfl ⟨(hm.get hp).1,by rw[AMem.next_set]; exact(hm.get hp).2.1,by rw[AMem.bD,if_pos rfl]⟩)⟩
theorem OO {elem w b o len cap l1 c1 k:Nat} {a0:Option Addr} {cs new:List Value} {ars:Array Operand} (ht:SlT E.P ty elem w) (h0:∃e0,E.P.underlying ty2=some (.slice e0)) (ha:gT E fs ars.toList=some [.slice (some ⟨b,o,none⟩) len cap,.slice a0 l1 c1]) (hp:pk ps k=some (.obj b (.cells cs .own)))
  (hs:∀m,Hp m0 m ps→bU w (.slice a0 l1 c1) l1 m=some new) (hnl:new.length=l1*w) (ho:aG new=true) (hlim:mj (len+l1)=true) (hfit:len+l1≤cap) (hl:o+len*w+new.length≤cs.length) :
  Od E m0 fs ps (.call ⟨.builtin .append,ars,#[ty,ty2]⟩) (.slice (some ⟨b,o,none⟩) (len+l1) cap) (cG ps k (.obj b (.cells (au cs (o+len*w) new) .own))) :=
 fun t m hf hm=>⟨fun b' hb'=>by simp[aE] at hb',fun K hK=>by
  have hg:=(hm.get hp).2.2;obtain⟨e0,h0⟩:=h0;obtain⟨inf,h1,h2,h3⟩:=ht.bytes;have hlim':len+l1≤1073741824:=Nat.le_of_ble_eq_true hlim;have hfc:ep inf.bytes (len+l1)=true:=by
   simp only[ep,decide_eq_true_eq]
   calc (2*(len+l1)+2000)*inf.bytes≤(2*1073741824+2000)*1024:=Nat.mul_le_mul (by omega) h3
    _≤2 ^ 48:=by decide
  have hguard:(!(known E.P elem) || al E.P elem == 0 || !aG new || !(E.P.info? elem).any (fun i=>ep i.bytes (len+l1) && i.bytes != 0) || new.length != l1*al E.P elem || !(bu E.P elem).any (fun z=>z.cells.size == al E.P elem && z.cells.toList.all aw))=false:=by
   have hz:=ht.zero;have hp:=ht.pos;rw[ht.size];simp only[ht.known,ho,h1,Option.any_some,hfc,hz,hnl];simp[h2]; omega
  have hnc:fo E.P elem (some ty2) (.slice a0 l1 c1) m=some (l1,new):=by
   simp only[fo,Option.bind_some,h0,ht.size,hs m hm,Option.map_some]
  by_cases hnil:new = []
  ·subst hnil;have hsp:au cs (o+len*w) []=cs:=by
    apply List.ext_getElem?;intro i;rw[aL,if_neg (by simp; omega)]
   have:aI E.P .append #[ty,ty2] [.slice (some ⟨b,o,none⟩) len cap,.slice a0 l1 c1] m=some (.slice (some ⟨b,o,none⟩) (len+l1) cap,m):=by
    show cD E.P ty (some ty2) _ _ m=_
    unfold cD;simp only[ht.und,hnc,hguard,Bool.false_eq_true,if_false,hg,if_pos hfit,AMem.cc,Option.map_some]
   rw[Go.Ab.dA (hf.gT ha) this];refine hK _ ?_;rw[hsp];have e:cG ps k (.obj b (.cells cs .own))=ps:=DJ _ _ _ hp;rw[e]; exact hm
  ·have hst:m.cc b (o+len*w) new=some (m.set b (.cells (au cs (o+len*w) new) .own)):=by
    cases new with
    | nil=>exact absurd rfl hnil
    | cons a' new=>simp only[AMem.cc,hg,if_pos hl]
   have h4:m.cc b (o+len*al E.P elem) new=some (m.set b (.cells (au cs (o+len*w) new) .own)):=by rw[ht.size]; exact hst
   have:aI E.P .append #[ty,ty2] [.slice (some ⟨b,o,none⟩) len cap,.slice a0 l1 c1] m=some (.slice (some ⟨b,o,none⟩) (len+l1) cap,m.set b (.cells (au cs (o+len*w) new) .own)):=by
    show cD E.P ty (some ty2) _ _ m=_
    unfold cD;simp only[ht.und,hnc,hguard,Bool.false_eq_true,if_false,hg,if_pos hfit,h4,Option.map_some]
   rw[Go.Ab.dA (hf.gT ha) this];exact hK _ (hm.write hp rfl rfl rfl rfl ⟨(hm.get hp).1,by rw[AMem.next_set]; exact(hm.get hp).2.1,by rw[AMem.bD,if_pos rfl]⟩)⟩
end
end Go.Ab.W
end

section
namespace Go.Proofs.YtookeaakpiefjaaGreatDoor
open Go Go.Ab Go.Ab.W
set_option maxRecDepth 10000
set_option maxHeartbeats 4000000
attribute [local irreducible] Tm.at Trie.set Trie.get AMem.get AMem.set AMem.alloc AMem.ww AMem.kill
theorem E3:SlT qI.P 32 43 2:=SlT.of (by kernel_rfl)
theorem IN:qI.P.underlying 32=some (.slice 43):=by kernel_rfl
theorem bA (k:IntKind) {x y:Nat} (h:x≤y):iK (.int k (x:Int)) y=some x:=by
 simp only[iK]; rw[if_pos ⟨by omega,by omega⟩,Int.toNat_natCast]
theorem Mi {len cap lo hi mx:Nat} {k1 k2 k3:IntKind} (h1:lo≤hi) (h2:hi≤mx) (h3:mx≤cap):cm len cap (some (.int k1 (lo:Int))) (some (.int k2 (hi:Int))) (some (.int k3 (mx:Int)))=some (lo,hi,mx):=by
 unfold cm; simp only[bA _ h3,bA _ h2,bA _ h1]
theorem QH {len cap hi:Nat} {k2:IntKind} (h2:hi≤cap):cm len cap none (some (.int k2 (hi:Int))) none=some (0,hi,cap):=by
 unfold cm; simp only[bA _ h2]
theorem QX {len cap lo:Nat} {k1:IntKind} (h1:lo≤len):cm len cap (some (.int k1 (lo:Int))) none none=some (lo,len,cap):=by
 unfold cm; simp only[bA _ h1]
theorem PL {len cap lo hi:Nat} {k1 k2:IntKind} (h1:lo≤hi) (h2:hi≤cap):cm len cap (some (.int k1 (lo:Int))) (some (.int k2 (hi:Int))) none=some (lo,hi,cap):=by
 unfold cm; simp only[bA _ h2,bA _ h1]
theorem Fb {m:AMem} {b:Nat} {all:List Value}:Hp { m.kill b with wl:=m.next} { (m.kill b).alloc (.cells all .own) with wl:=m.next} [.obj m.next (.cells all .own)]:=by
 have hg:∀x,({ (m.kill b).alloc (.cells all .own) with wl:=m.next}:AMem).get x=((m.kill b).alloc (.cells all .own)).get x:=fun x=>by unfold AMem.get; rfl
 have hg0:∀x,({ m.kill b with wl:=m.next}:AMem).get x=(m.kill b).get x:=fun x=>by unfold AMem.get; rfl
 have hn:({ (m.kill b).alloc (.cells all .own) with wl:=m.next}:AMem).next=m.next+1:=by
  show((m.kill b).alloc (.cells all .own)).next=_
  rw[AMem.next_alloc,AMem.next_kill]
 have hn0:({ m.kill b with wl:=m.next}:AMem).next=m.next:=by show(m.kill b).next=_; rw[AMem.next_kill]
 refine⟨⟨by rw[hn,hn0]; omega,fun x hx=>?_,by rw[hn0]; exact Nat.min_le_left _ _⟩,fun p hp=>?_,by simp⟩
 ·rw[hn0] at hx;rw[hg,hg0,AMem.bF,AMem.next_kill,if_neg (by omega)]
 ·rw[List.mem_singleton] at hp;subst hp;exact⟨by rw[hn0]; omega,by rw[hn]; omega,by rw[hg,AMem.bF,AMem.next_kill,if_pos rfl]⟩
theorem Me {a b:Nat} (h:mj a=true) (hb:b≤a):mj b=true:=Nat.ble_eq_true_of_le (Nat.le_trans hb (Nat.le_of_ble_eq_true h))
theorem xN {l l':List Value} (h:aG l=true) (hs:∀v ∈ l',v ∈ l):aG l'=true:=List.all_eq_true.2 fun v hv=>List.all_eq_true.1 h v (hs v hv)
theorem Qx {n:Nat}:ef qI.P 43 n=some (bQ [.int .i64 0,.int .i64 0] n):=by
 have:bu qI.P 43=some (.agg #[.int .i64 0,.int .i64 0]):=by kernel_rfl
 have hs:al qI.P 43=2:=by kernel_rfl
 simp only[ef,this,hs]; rfl
theorem tv {l:List Value} (h:l.all aw=true):aG l=true:=List.all_eq_true.2 fun v hv=>by
 have:=List.all_eq_true.1 h v hv;unfold aw at this
 split at this<;>first|rfl|cases this
theorem oz {cs vs:List Value} {o:Nat} (h:cs.all aw=true) (h':vs.all aw=true):(au cs o vs).all aw=true:=List.all_eq_true.2 fun v hv=>by
 obtain⟨k,hk⟩:=List.mem_iff_getElem?.1 hv;rw[aL] at hk
 split at hk
 ·exact List.all_eq_true.1 h' v (List.mem_of_getElem? hk)
 ·exact List.all_eq_true.1 h v (List.mem_of_getElem? hk)
theorem lT {l l':List Value} (h:l.all aw=true) (hs:∀v ∈ l',v ∈ l):l'.all aw=true:=List.all_eq_true.2 fun v hv=>List.all_eq_true.1 h v (hs v hv)
theorem yd {cs new zs:List Value} {p q:Nat} (hq:q=p+new.length) (hl:q≤cs.length):(au (au cs p new) q zs).take q=cs.take p++new:=by
 apply List.ext_getElem?;intro k;have hp:(cs.take p).length=p:=by rw[List.length_take]; omega
 rw[List.getElem?_take]
 split
 ·rw[aL,if_neg (by omega),aL]
  by_cases hk:k<p
  ·rw[if_neg (by omega),List.getElem?_append_left (by rw[hp]; exact hk),List.getElem?_take,if_pos hk]
  ·rw[if_pos ⟨by omega,by omega,by omega⟩,List.getElem?_append_right (by rw[hp]; omega),hp]
 ·rw[List.getElem?_eq_none (by rw[List.length_append,hp]; omega)]
theorem Gf {m0 m:AMem} {b n c i j:Nat} {cs:List Value} (hm:Hp m0 m [.obj b (.cells cs .own)]) (hcl:n*2≤cs.length) (hone:aG cs=true) (hnc:n≤c) (hij:i<j) (hjn:j≤n) (hlim:mj n=true) :
  aB qI 30 [.slice (some ⟨b,0,none⟩) n c,.int .i64 (i:Int),.int .i64 (j:Int)] m fun v m'=>v = .slice (some ⟨b,0,none⟩) (n-(j-i)) c ∧
   ∃cs',Hp m0 m' [.obj b (.cells cs' .own)]∧cs'.length=cs.length∧(cs.all aw=true→cs'.all aw=true)∧cs'.take ((n-(j-i))*2)=cs.take (i*2)++(cs.drop (j*2)).take ((n-j)*2):=by
 refine bN (m0:=m0) (ps:=[.obj b (.cells cs .own)]) (N:=33) (rs:=[.tmp 6]) rfl Tryz.func30 rfl rfl rfl hm ?_;refine Wk.seq ?_;refine Wk.region ?_;refine Wo.od (nr rfl) rfl ?_;refine Wo.nil ?_;refine At.tn ?_;refine Wk.seq ?_;refine Wk.region ?_;refine Wo.od (bC rfl) rfl ?_;refine Wo.od (bC rfl) rfl ?_;refine Wo.od (bC rfl) rfl ?_;refine Wo.od (bC rfl) rfl ?_;refine Wo.od (Ku (k:=0) IN rfl rfl (.inl rfl)) rfl ?_;refine Wo.od (Dp (k:=0) E3 rfl rfl rfl rfl rfl rfl (Mi (Nat.le_of_lt hij) hjn hnc) rfl) rfl ?_;refine Wo.nil ?_;refine At.tn ?_;refine Wk.seq ?_;refine Wk.seq ?_;refine Wk.region ?_;refine Wo.od (bC rfl) rfl ?_;refine Wo.od (bC rfl) rfl ?_;refine Wo.od (aN rfl rfl (Be _ _)) rfl ?_;refine Wo.nil ?_;refine At.tn ?_;refine Wk.LA rfl (decide_eq_false (Nat.ne_of_lt hij)) ?_;refine Wk.skip ?_;refine At.tn ?_;refine Wk.seq ?_;refine Wk.region ?_;refine Wo.od (bC rfl) rfl ?_;refine Wo.od (Ku (k:=0) IN rfl rfl (.inl rfl)) rfl ?_;refine Wo.od (nr rfl) rfl ?_;refine Wo.nil ?_;refine At.tn ?_;refine Wk.seq ?_;refine Wk.draw (by kernel_rfl) ?_
 refine Wo.od (bC rfl) rfl ?_;refine Wo.od (bC rfl) rfl ?_;refine Wo.od (Dp (k:=0) (o':=0) E3 rfl rfl rfl rfl rfl rfl (QH (by omega)) (by split<;>simp)) rfl ?_
 refine Wo.od (bC rfl) rfl ?_;refine Wo.od (bC rfl) rfl ?_;refine Wo.od (Dp (k:=0) (o':=if c=j then 0 else 0+j*2) E3 rfl rfl rfl rfl rfl rfl (QX hjn) rfl) rfl ?_
 have hnl:((cs.drop (j*2)).take ((n-j)*2)).length=(n-j)*2:=by simp; omega
 have hs:∀m,Hp m0 m [.obj b (.cells cs .own)]→bU 2 (.slice (some ⟨b,if c=j then 0 else 0+j*2,none⟩) (n-j) (c-j)) (n-j) m=some ((cs.drop (j*2)).take ((n-j)*2)):=by
  intro m' hm'
  by_cases h0:n-j=0
  ·simp[bU,h0]
  ·rw[if_neg (by omega),JH (k:=0) hm' rfl h0 (by omega),Nat.zero_add]
 have ho1:aG ((cs.drop (j*2)).take ((n-j)*2))=true:=xN hone fun v hv=>List.mem_of_mem_drop (List.mem_of_mem_take hv);refine Wo.od (OO (k:=0) E3 ⟨_,IN⟩ rfl rfl hs hnl ho1 (Me hlim (by omega)) (by omega) (by rw[hnl]; omega)) rfl ?_
 refine Wo.od (nr rfl) rfl ?_;refine Wo.nil ?_;refine At.tn ?_;refine Wk.seq ?_;refine Wk.region ?_;refine Wo.od (bC rfl) rfl ?_;refine Wo.od (bC rfl) rfl ?_;refine Wo.od (Ku (k:=0) IN rfl rfl (.inl rfl)) rfl ?_;refine Wo.od (bC rfl) rfl ?_;refine Wo.od (Dp (k:=0) (o':=0+(i-0+(n-j))*2) E3 rfl rfl rfl rfl rfl rfl (PL (by omega) (by omega)) (by rw[if_neg (by omega)])) rfl ?_
 refine Wo.o0 (OD (k:=0) (zs:=bQ [.int .i64 0,.int .i64 0] (n-(i-0+(n-j)))) E3 rfl rfl rfl (by omega) Qx (gh (by decide) _) (by intro e; have:=congrArg List.length e; rw[dC] at this; simp at this; omega) (by rw[dC,bO]; simp; omega)) ?_
 refine Wo.nil ?_;refine At.tn ?_;refine Wk.seq ?_;refine Wk.region ?_;refine Wo.od (bC rfl) rfl ?_;refine Wo.od (nr rfl) rfl ?_;refine Wo.nil ?_;refine At.tn ?_;refine Wk.ret ?_;refine At.ret (.tmp rfl .nil) fun m' hm'=>⟨?_,_,hm',?_,?_,?_⟩
 ·rw[show i-0+(n-j)=n-(j-i) by omega,Nat.sub_zero]; rfl
 ·rw[bO,bO]
 ·exact fun h=>oz (oz h (lT h fun v hv=>List.mem_of_mem_drop (List.mem_of_mem_take hv))) (gh (by decide) _)
 ·rw[show(n-(j-i))*2=0+(i-0+(n-j))*2 by omega]
  rw[yd (by rw[hnl]; omega) (by omega),Nat.zero_add,Nat.sub_zero]
theorem D9 {m:AMem} {b n i j:Nat} {cs:List Value} (hcl:cs.length=n*2) (hp:cs.all aw=true) (hij:i<j) (hjn:j≤n) (hlim:mj n=true) :
  Hc qI 30 m b 2 n cs [.int .i64 (i:Int),.int .i64 (j:Int)] (n-(j-i)) (cs.take (i*2)++cs.drop (j*2)):=by
 intro zs c hz hnc hcc;have hall:(cs++zs).all aw=true:=by rw[List.all_append,hp,hz]; rfl
 refine(Gf (cs:=cs++zs) Fb (by rw[List.length_append]; omega) (tv hall) hnc hij hjn hlim).mono fun v m3 ⟨h1,cs',h2,h3,h5,h4⟩=>?_
 have hn0:({ m.kill b with wl:=m.next}:AMem).next=m.next:=by show(m.kill b).next=_; rw[AMem.next_kill]
 have hwl:=h2.ext.wl;rw[hn0] at hwl;have hwl':m.next≤m3.wl:=by rwa[Nat.min_eq_left (Nat.le_refl _)] at hwl
 have hget:=(h2.get (k:=0) rfl).2.2;have hnew:cs.take (i*2)++cs.drop (j*2)=cs'.take ((n-(j-i))*2):=by
  have e2:(cs.drop (j*2)).take ((n-j)*2)=cs.drop (j*2):=List.take_of_length_le (by rw[List.length_drop]; omega)
  rw[h4,List.take_append_of_le_length (by omega),List.drop_append_of_le_length (by omega),List.take_append_of_le_length (by rw[List.length_drop]; omega),e2]
 refine⟨hwl',m.next,c,cs'.drop ((n-(j-i))*2),.own,h1,Nat.le_refl _,?_,?_,by omega,.inl ⟨rfl,?_⟩⟩
 ·rw[hnew,List.take_append_drop]; exact hget
 ·exact lT (h5 hall) fun v hv=>List.mem_of_mem_drop hv
 ·rw[hnew,←List.length_append,List.take_append_drop,h3,List.length_append]; omega
def xz (m:AMem) (b n n':Nat):Option (List Value) :=
 match m.get b with
 | some (.cells cs .own)=>if n=n'∧cs.length=n*2∧cs.all aw=true then some cs else none
 | some (.cells cs (.more 2))=>if n=n'∧cs.length=n*2∧cs.all aw=true then some cs else none
 | _=>none
theorem vJ {m:AMem} {b n n':Nat} {cs:List Value} (h:xz m b n n'=some cs):∃tg,m.get b=some (.cells cs tg)∧(tg = .own∨tg = .more 2)∧n=n'∧cs.length=n*2∧cs.all aw=true:=by
 unfold xz at h
 split at h
 ·rename_i cs' hg
  split at h
  ·rename_i hc; cases h; exact⟨_,hg,.inl rfl,hc⟩
  ·cases h
 ·rename_i cs' hg
  split at h
  ·rename_i hc; cases h; exact⟨_,hg,.inr rfl,hc⟩
  ·cases h
 ·cases h
theorem Ep {l l2:List Value} (h:l.all aw=true) (h2:l2.all aw=true):(l++l2).all aw=true:=by rw[List.all_append,h,h2]; rfl
def Bn (args:List Value) (m:AMem):Option (Value × AMem) :=
 match args with
 | [.slice (some ⟨b,0,none⟩) n n',.int .i64 i,.int .i64 j] =>
  match xz m b n n' with
  | some cs=>if 0≤i∧i<j∧j≤n∧mj n=true then
    some (.slice (some ⟨m.next,0,none⟩) (n-(j.toNat-i.toNat)) (n-(j.toNat-i.toNat)),(m.kill b).alloc (.cells (cs.take (i.toNat*2)++cs.drop (j.toNat*2)) (.more 2)))
   else none
  | none=>none
 | _=>none
theorem Bz {args:List Value} {m m':AMem} {v:Value} (h:Bn args m=some (v,m')) {j:aJ} {w:World} {args':List Value} (hm:MR qI j m w) (hl:LR j args args') :
  ir qI.P (qI.cV 30).isSome 30 args'.toArray w (jI qI j m w v m'):=by
 unfold Bn at h
 split at h
 ·rename_i b n n' i jj
  split at h
  ·rename_i cs hcs;obtain⟨tg,hg,htg,rfl,hcl,hp⟩:=vJ hcs
   split at h
   ·rename_i hc;cases h;obtain⟨h1,h2,h3,h4⟩:=hc;obtain⟨i,rfl⟩:=Int.eq_ofNat_of_zero_le h1;obtain⟨jj,rfl⟩:=Int.eq_ofNat_of_zero_le (show 0≤jj by omega)
    have hij:i<jj:=by omega
    have hjn:jj≤n:=by omega
    simp only[Int.toNat_natCast];exact xE FU hg htg (by decide) hcl hp (by rw[List.length_append,List.length_take,List.length_drop]; omega) (Ep (lT hp fun v hv=>List.mem_of_mem_take hv) (lT hp fun v hv=>List.mem_of_mem_drop hv))
     (D9 hcl hp hij hjn h4) hm hl
   ·cases h
  ·cases h
 ·cases h
end Go.Proofs.YtookeaakpiefjaaGreatDoor
end

section
namespace Go.Ab
open Go
section
variable {E : Env} {j j1 : aJ} {m m1 : AMem} {w w1 : World}
theorem Sim.same (h:MR E j m w) (hold:∀c,c<w.heap.size→w1.heap[c]? = w.heap[c]?) (hsize:w.heap.size≤w1.heap.size) (hcalm:Calm w w1):Sim E j m w j m w1 where
 ext:=.refl m
 le:=.refl j
 new:=fun b k h h'=>by simp[h'] at h
 mr:=⟨fun b k hb=>⟨(h.lt b k hb).1,Nat.lt_of_lt_of_le (h.lt b k hb).2 hsize⟩,fun b o k ho hb=>by
  obtain⟨o',h1,h2⟩:=h.obj b o k ho hb;exact⟨o',(hold k.c (h.lt b k hb).2).trans h1,h2⟩,h.inj,h.glob⟩
 size:=hsize
 full:=fun b h h' _=>absurd h (by omega)
 away:=fun _ _ _=>rfl
 fresh:=fun b k h h'=>by simp[h'] at h
 frame:=fun c hc _=>hold c hc
 calm:=hcalm
def rT (R:Nat→Value):Prop:=∀(j1 j2:aJ) (b1 b2:Nat) (v':Value),(∀k,j1 b1=some k→j2 b2=some k)→VR j1 (R b1) v'→VR j2 (R b2) v'
def nw (A:Nat→List Value):Prop:=∀(j1 j2:aJ) (b1 b2:Nat) (l':List Value),(∀k,j1 b1=some k→j2 b2=some k)→LR j1 (A b1) l'→LR j2 (A b2) l'
theorem rT.slice (o len cap:Nat):rT fun b=>.slice (some ⟨b,o,none⟩) len cap:=by
 intro j1 j2 b1 b2 v' hk h;cases h with
 | slice e hm=>exact .slice (hk _ e) hm
 | sliceM e hm a1 a2 hl hc=>exact .sliceM (hk _ e) hm a1 a2 hl hc
theorem rT.plain {v:Value} (h:aw v=true):rT fun _=>v:=by
 intro j1 j2 b1 b2 v' _ hv;have:=dG h hv;subst this;exact .aw h
theorem nw.nil:nw fun _=>[]:=fun _ _ _ _ _ _ h=>by rw[h.dy]; exact .nil _
theorem nw.cons {R:Nat→Value} {A:Nat→List Value} (hR:rT R) (hA:nw A):nw fun b=>R b::A b:=by
 intro j1 j2 b1 b2 l' hk h;obtain⟨y,ys,rfl,h1,h2⟩:=h.cons_inv;exact .cons (hR _ _ _ _ _ hk h1) (hA _ _ _ _ _ hk h2)
theorem A9 (hE:EnvOk E) {pr:FuncId→Option Prim} (h:∀f p,pr f=some p→E.cV f=some p∨∀args m v m',p.run args m=some (v,m')→∀(j:aJ) (w:World) (args':List Value),MR E j m w→LR j args args'→ir E.P (E.cV f).isSome f args'.toArray w (jI E j m w v m')):EnvOk { E with cV:=pr}:=by
 refine⟨hE.call,hE.mixed,fun f p hp args m v m' hrun j w args' hm hl=>?_⟩;have hp':({ E with cV:=pr}:Env).cV f=some p:=hp;have hm0:MR E j m w:=MR.env (E:={ E with cV:=pr}) (E':=E) rfl hm;have key:∀v' w',jI E j m w v m' v' w'→jI { E with cV:=pr} j m w v m' v' w':=fun v' w' ⟨j',s,hv⟩=>⟨j',Sim.env (E:=E) rfl s,hv⟩;rcases h f p hp with h1|h1
 ·exact iX (fun _=>by rw[hp']; rfl) (hE.cV f p h1 args m v m' hrun j w args' hm0 hl) key
 ·exact iX (fun _=>by rw[hp']; rfl) (h1 args m v m' hrun j w args' hm0 hl) key
end
section
variable {E : Env} {j : aJ} {m : AMem} {w : World}
def kT (j:aJ) (g:Nat):aJ:=fun x=>if x<g then j x else none
theorem xW (n:Nat) (gs:Nat→Option (List Value)) (b:Nat):(EE n gs).get b=(gs b).map fun cs=>.cells cs .ro:=by
 simp[AMem.get,EE,Heap.get_nil]
theorem MR.Oz {gs:Nat→Option (List Value)} (h:MR E j m w) (hgs:∀x c,x<E.glob→gs x=some c→m.get x=some (.cells c .ro)) (hgp:∀x c,gs x=some c→c.all aw=true):MR E (kT j E.glob) (EE E.glob gs) w:=by
 have cases1:∀x k,kT j E.glob x=some k→x<E.glob∧j x=some k:=by
  intro x k hx;unfold kT at hx
  split at hx
  ·rename_i hlt; exact⟨hlt,hx⟩
  ·cases hx
 refine⟨fun x k hx=>?_,fun x o k ho hx=>?_,fun x x' k k' hx hx' hl hl' hc=>?_,fun gl hgl=>?_⟩
 ·obtain⟨hlt,hj⟩:=cases1 x k hx;exact⟨hlt,(h.lt x k hj).2⟩
 ·rw[xW] at ho;obtain⟨hlt,hj⟩:=cases1 x k hx;cases hg:gs x with
  | none=>rw[hg] at ho; cases ho
  | some c =>
   rw[hg] at ho; cases ho;have hgx:=hgs x c hlt hg;obtain⟨o',h1,h2⟩:=h.obj x _ k hgx hj;refine⟨o',h1,?_⟩;cases o' with
   | cells c' ty fz =>
    refine⟨h2.1,fun i v hi=>?_⟩;obtain⟨v',h3,h4⟩:=h2.2 i v hi;have hpv:=List.all_eq_true.1 (hgp x c hg) v (List.mem_of_getElem? hi);have:=dG hpv h4;subst this;exact⟨_,h3,.aw hpv⟩
   | _=>exact h2.elim
 ·have live:∀y,y<E.glob→((EE E.glob gs).get y).isSome=true→(m.get y).isSome=true:=by
   intro y hy hl;rw[xW] at hl;cases hg:gs y with
   | none=>rw[hg] at hl; cases hl
   | some c=>rw[hgs y c hy hg]; rfl
  obtain⟨hlt,hj⟩:=cases1 x k hx;obtain⟨hlt',hj'⟩:=cases1 x' k' hx';exact h.inj x x' k k' hj hj' (live x hlt hl) (live x' hlt' hl') hc
 ·unfold kT;rw[if_pos hgl];exact h.glob gl hgl
theorem vj (hE:EnvOk E) {f:FuncId} {gs:Nat→Option (List Value)} (hgp:∀x c,gs x=some c→c.all aw=true) {fuel:Nat} {v:Value} {m0:AMem}
  (hrun:run E fuel (.call f [] (EE E.glob gs))=some (.val v m0)) (hwl:E.glob≤m0.wl) (hpv:bw v=true) {args':List Value} (h:MR E j m w) (hgs:∀x c,x<E.glob→gs x=some c→m.get x=some (.cells c .ro)) (hl:LR j [] args') :
  ir E.P (E.cV f).isSome f args'.toArray w (jI E j m w v m):=by
 have hm0:=h.Oz hgs hgp;have hl0:LR (kT j E.glob) [] args':=by
  rw[LR.dy hl]; exact .nil _
 obtain⟨_,_,e,hs⟩:=qw hE fuel _ _ hrun;cases e;refine iX (fun x=>x) (hs _ w args' hm0 hl0) ?_;intro v' w' ⟨j',s,hv'⟩;have hold:∀c,c<w.heap.size→w'.heap[c]? = w.heap[c]?:=fun c hc=>s.frame c hc fun x k hx _ _=>by
  have:x<E.glob:=(hm0.lt x k hx).1;omega
 exact⟨j,.same h hold s.size s.calm,VR.EL hpv hv'⟩
end
end Go.Ab
end

section
namespace Go.Ab.W
open Go Go.Ab
attribute [local irreducible] Tm.at Trie.set Trie.get AMem.get AMem.set AMem.alloc AMem.ww AMem.kill
section
variable {E : Env} {n : Nat} {m0 m1 m m' : AMem} {fs : Fs} {ps : List Pc} {ops : Array Oper} {os : List Oper} {K : Tm → AMem → Prop} {x y : Operand} {ty : TypeId}
theorem Rd.ext {m m':AMem} {a:Option Addr} {cap w n:Nat} {es:List (List Value)} (h:Rd m a cap w n es) (e:Ext m m'):Rd m' a cap w n es:=h.dV e.next fun b _ hb=>e.same b hb
theorem Hp.base {m':AMem} (hx:Ext m0 m1) (h:Hp m1 m' []):Hp m0 m' []:=⟨hx.trans h.ext,fun p hp=>(by cases hp),.nil⟩
end
section
variable {α β : Type} [DecidableEq α]
def cz (k:α):List (α × β)→Nat→Option (Nat × β)
 | [],_=>none
 | e::es,i=>if k=e.1 then some (i,e.2) else cz k es (i+1)
def aP (xs:List (α × β)) (k:α):Option β:=(cz k xs 0).map (·.2)
def bR (xs:List (α × β)) (k:α) (v:β):List (α × β) :=
 match cz k xs 0 with
 | some p=>xs.set p.1 (k,v)
 | none=>xs++[(k,v)]
def eM (kE:α→Value) (vE:β→Value) (p:α × β):Value × Value:=(kE p.1,vE p.2)
structure KeyE (P:Program) (kt:TypeId) (kE:α→Value):Prop where
 eq:∀a b,iN P Op.maxDepth kt (kE a) (kE b)=some (decide (a=b))
 ok:∀a,gQ P kt (kE a)=true
 plain:∀a,bw (kE a)=true
 same:∀a,Instr.sameBits 10000 (kE a) (kE a)=true
theorem lP {P:Program} {kt:TypeId} {kE:α→Value} {vE:β→Value} (hk:KeyE P kt kE) (k:α):∀(xs:List (α × β)) (i:Nat),gC P kt (kE k) (xs.map (eM kE vE)) i=some ((cz k xs i).map fun p=>(p.1,vE p.2))
 | [],_=>rfl
 | e::es,i=>by
  simp only[List.map_cons,gC,eM,hk.eq,cz]
  by_cases h:k=e.1
  ·rw[decide_eq_true h,if_pos h]; rfl
  ·rw[decide_eq_false h,if_neg h];exact lP hk k es (i+1)
omit [DecidableEq α] in
theorem nh {kE:α→Value} {vE:β→Value} (k:α) (v:β):∀(xs:List (α × β)) (i:Nat),i<xs.length→jQ (xs.map (eM kE vE)) i (kE k) (vE v)=(xs.set i (k,v)).map (eM kE vE)
 | [],i,h=>by cases h
 | e::es,0,_=>rfl
 | e::es,i+1,h=>by
  simp only[List.map_cons,jQ,List.set_cons_succ];rw[nh k v es i (by simpa using h)]
theorem q9 (k:α):∀(xs:List (α × β)) (i:Nat) (p:Nat × β),cz k xs i=some p→i≤p.1∧p.1<i+xs.length∧xs[p.1-i]? = some (k,p.2)
 | [],_,_,h=>by cases h
 | e::es,i,p,h=>by
  unfold cz at h
  split at h
  ·rename_i hk; cases h; subst hk; simp
  ·obtain⟨h1,h2,h3⟩:=q9 k es (i+1) p h;refine⟨by omega,by simp; omega,?_⟩
   obtain⟨d,hd⟩:∃d,p.1-i=d+1:=⟨p.1-i-1,by omega⟩
   rw[hd,List.getElem?_cons_succ,←h3]
   congr 1; omega
end
section
variable {E : Env} {n : Nat} {m0 m : AMem} {fs : Fs} {ps : List Pc} {x y z : Operand} {ty : TypeId}
variable {α β : Type} [DecidableEq α]
theorem sR {P:Program} {kt et b:Nat} {kE:α→Value} {vE:β→Value} {z0:β} {xs:List (α × β)} {k:α} {c:Bool} (hu:P.underlying ty=some (.map kt et)) (hk:KeyE P kt kE) (hz:bu P et=some (vE z0)) (hzp:bw (vE z0)=true) (hg:m.get b=some (.map (xs.map (eM kE vE)))) :
  cO P ty (.map (some b)) (kE k) c m=some (if c then .tuple #[vE ((aP xs k).getD z0),.bool (aP xs k).isSome] else vE ((aP xs k).getD z0)):=by
 simp only[cO,hu,mapOf,hg,hz,hk.ok,if_true,lP hk,aP];cases cz k xs 0 with
 | none=>simp only[Option.map_none,hzp,if_true,Option.getD_none,Option.isSome_none]
 | some p=>simp only[Option.map_some,Option.getD_some,Option.isSome_some]
theorem Qu {kt et b q:Nat} {kE:α→Value} {vE:β→Value} {z0:β} {xs:List (α × β)} {k:α} (hu:E.P.underlying ty=some (.map kt et)) (hk:KeyE E.P kt kE) (hz:bu E.P et=some (vE z0)) (hzp:bw (vE z0)=true) (hx:ev E fs x=some (.map (some b))) (hy:ev E fs y=some (kE k)) (hp:pk ps q=some (.obj b (.map (xs.map (eM kE vE))))) :
  Od E m0 fs ps (.lookup ty x y false) (vE ((aP xs k).getD z0)) ps :=
 fun t m hf h=>⟨fun b' hb'=>by
  simp only[aE,hf.ev hx] at hb';cases hb'; exact(h.get hp).2.1,fun K hK=>by
  have:=sR (c:=false) (k:=k) hu hk hz hzp (h.get hp).2.2;unfold aZ;simp only[iD,cM,hf.ev hx,hf.ev hy,this,Option.map_some];exact hK m h⟩
theorem Pl {kt et b q:Nat} {kE:α→Value} {vE:β→Value} {z0:β} {xs:List (α × β)} {k:α} (hu:E.P.underlying ty=some (.map kt et)) (hk:KeyE E.P kt kE) (hz:bu E.P et=some (vE z0)) (hzp:bw (vE z0)=true) (hx:ev E fs x=some (.map (some b))) (hy:ev E fs y=some (kE k)) (hp:pk ps q=some (.obj b (.map (xs.map (eM kE vE))))) :
  Od E m0 fs ps (.lookup ty x y true) (.tuple #[vE ((aP xs k).getD z0),.bool (aP xs k).isSome]) ps :=
 fun t m hf h=>⟨fun b' hb'=>by
  simp only[aE,hf.ev hx] at hb';cases hb'; exact(h.get hp).2.1,fun K hK=>by
  have:=sR (c:=true) (k:=k) hu hk hz hzp (h.get hp).2.2;unfold aZ;simp only[iD,cM,hf.ev hx,hf.ev hy,this,Option.map_some];exact hK m h⟩
theorem kB {kt et b q:Nat} {kE:α→Value} {vE:β→Value} {z0 v:β} {xs:List (α × β)} {k:α} (hu:E.P.underlying ty=some (.map kt et)) (hk:KeyE E.P kt kE) (hz:bu E.P et=some (vE z0)) (hzp:bw (vE z0)=true) (hx:ev E fs x=some (.map (some b))) (hy:ev E fs y=some (kE k)) (hp:pk ps q=some (.obj b (.map (xs.map (eM kE vE))))) (hv:some ((aP xs k).getD z0)=some v) :
  Od E m0 fs ps (.lookup ty x y false) (vE v) ps:=by
 cases hv;exact Qu hu hk hz hzp hx hy hp
theorem pN {kt et b q:Nat} {kE:α→Value} {vE:β→Value} {z0 v:β} {c:Bool} {xs:List (α × β)} {k:α} (hu:E.P.underlying ty=some (.map kt et)) (hk:KeyE E.P kt kE) (hz:bu E.P et=some (vE z0)) (hzp:bw (vE z0)=true) (hx:ev E fs x=some (.map (some b))) (hy:ev E fs y=some (kE k)) (hp:pk ps q=some (.obj b (.map (xs.map (eM kE vE))))) (hv:some ((aP xs k).getD z0,(aP xs k).isSome)=some (v,c)) :
  Od E m0 fs ps (.lookup ty x y true) (.tuple #[vE v,.bool c]) ps:=by
 cases hv;exact Pl hu hk hz hzp hx hy hp
theorem O1 {kt et:Nat} {kE:α→Value} {vE:β→Value} {z0:β} {k:α} (hu:E.P.underlying ty=some (.map kt et)) (hk:KeyE E.P kt kE) (hz:bu E.P et=some (vE z0)) (hzp:bw (vE z0)=true) (hx:ev E fs x=some (.map none)) (hy:ev E fs y=some (kE k)) :
  Od E m0 fs ps (.lookup ty x y false) (vE z0) ps :=
 fun t m hf h=>⟨fun b' hb'=>(by
  simp only[aE,hf.ev hx] at hb';cases hb'),fun K hK=>by
  have:cO E.P ty (.map none) (kE k) false m=some (vE z0):=by
   simp only[cO,hu,mapOf,hz,hk.ok,if_true,gC,hzp,Bool.false_eq_true,if_false]
  unfold aZ;simp only[iD,cM,hf.ev hx,hf.ev hy,this,Option.map_some];exact hK m h⟩
theorem DU {kt et b q:Nat} {kE:α→Value} {vE:β→Value} {xs:List (α × β)} {k:α} {v:β} (hu:E.P.underlying ty=some (.map kt et)) (hk:KeyE E.P kt kE) (hx:ev E fs x=some (.map (some b))) (hy:ev E fs y=some (kE k)) (hz:ev E fs z=some (vE v)) (hp:pk ps q=some (.obj b (.map (xs.map (eM kE vE))))) :
  Od E m0 fs ps (.mapUpdate ty x y z) undef (cG ps q (.obj b (.map ((bR xs k v).map (eM kE vE))))) :=
 fun t m hf h=>⟨fun b' hb'=>by simp[aE] at hb',fun K hK=>by
  have hg:=(h.get hp).2.2;have hup:cJ E.P ty (.map (some b)) (kE k) (vE v) m=some (m.set b (.map ((bR xs k v).map (eM kE vE)))):=by
   simp only[cJ,hu,hg,hk.ok,if_true,lP hk,bR];cases hfd:cz k xs 0 with
   | none=>simp only[Option.map_none,List.map_append,List.map_cons,List.map_nil]; rfl
   | some p =>
    obtain⟨h1,h2,h3⟩:=q9 k xs 0 p hfd;simp only[Nat.sub_zero] at h3;have hst:gZ (xs.map (eM kE vE)) p.1 (kE k)=true:=by
     simp only[gZ,List.getElem?_map,h3,Option.map_some,eM,hk.plain,hk.same,Bool.and_self]
    simp only[Option.map_some,hst,if_true];rw[nh k v xs p.1 (by omega)]
  unfold aZ;simp only[iD,cM,hf.ev hx,hf.ev hy,hf.ev hz,hup,Option.map_some];exact hK _ (h.write hp rfl rfl rfl rfl ⟨(h.get hp).1,by rw[AMem.next_set]; exact(h.get hp).2.1,by rw[AMem.bD,if_pos rfl]⟩)⟩
theorem Wk.label {fn:FuncId} {ro:Option Nat} {Q:AExit→Tm→AMem→Prop} {l:Nat} (h:At Q .normal m0 fs ps):Wk E n fn ro (.label l) Q m0 fs ps:=fun t m hf hm=>.label (h t m hf hm)
theorem F6 {γ:Type} {f:γ→List Value} {xs:List γ} {k cap w l:Nat} {a:Option Addr} (h:Hp m0 m ps) (hp:pk ps k=some (.rd a cap w l (xs.map f))):l=xs.length:=by
 have:=(h.get hp).1;rw[List.length_map] at this;exact this.symm
theorem fK {P:Program} {kt:TypeId} {k:IntKind} (hu:P.underlying kt=some (.int k)):KeyE P kt (fun n:Int=>.int k n) where
 eq:=fun a b=>by
  simp only[Op.maxDepth,iN,hu,if_true]
  by_cases h:a=b
  ·subst h; simp
  ·simp[h]
 ok:=fun a=>by simp only[gQ,hu]
 plain:=fun a=>rfl
 same:=fun a=>by simp[Instr.sameBits]
end
def dj (ps:List Pc) (j:Nat) (ks:List Nat):Option (List Pc) :=
 match az ps ks with
 | some qs=>some (qs++ps.drop j)
 | none=>none
theorem Jj:∀{ps:List Pc} {j:Nat} {r:Pc},r ∈ ps.drop j→∃k,j≤k∧pk ps k=some r:=by
 intro ps j r h;obtain⟨k,hk⟩:=mP h;refine⟨j+k,by omega,?_⟩
 have key:∀(ps:List Pc) (j k:Nat),pk (ps.drop j) k=pk ps (j+k):=by
  intro ps
  induction ps with
  | nil=>intro j k; rw[List.drop_nil]; cases(j+k)<;>rfl
  | cons p l ih =>
   intro j k;cases j with
   | zero=>rw[List.drop_zero,Nat.zero_add]
   | succ j=>rw[List.drop_succ_cons,ih,Nat.succ_add]; rfl
 rw[←key]; exact hk
section
variable {E : Env} {n : Nat} {m0 m : AMem} {fs : Fs} {ps ps' : List Pc} {x y z : Operand} {ty : TypeId}
theorem ak.dj (j:Nat) (ks:List Nat) (hnd:jL ks=true) (hlt:ks.all (fun k=>Nat.blt k j)=true) (e:W.dj ps j ks=some ps'):ak m0 ps ps':=by
 intro m h;unfold W.dj at e
 split at e
 ·rename_i qs hq;have e:=Option.some.inj e;subst e;have h1:=h.az ks hnd hq;refine⟨h.ext,fun p hp=>?_,List.pairwise_append.2 ⟨h1.apart,h.apart.sublist (List.drop_sublist _ _),fun p hp q hq'=>?_⟩⟩
  ·rcases List.mem_append.1 hp with hp|hp
   ·exact h1.ok p hp
   ·exact h.ok p (List.mem_of_mem_drop hp)
  ·obtain⟨k,hk,hk2⟩:=pA hq p hp;obtain⟨k',hk',hk2'⟩:=Jj hq';have:=List.all_eq_true.1 hlt k hk;rw[Nat.blt_eq] at this;exact gv h.apart hk2 hk2' (by omega)
 ·cases e
theorem OM {b q:Nat} {kt et:TypeId} {es:List (Value × Value)} {ars:Array Operand} (hu:E.P.underlying ty=some (.map kt et)) (ha:gT E fs ars.toList=some [.map (some b)]) (hp:pk ps q=some (.obj b (.map es))) :
  Od E m0 fs ps (.call ⟨.builtin .len,ars,#[ty]⟩) (.int .i64 (es.length:Int)) ps :=
 fun t m hf h=>⟨fun b' hb'=>by
  simp only[aE,hf.gT ha] at hb';cases hb'; exact(h.get hp).2.1,fun K hK=>by
  have:aI E.P .len #[ty] [.map (some b)] m=some (.int .i64 (es.length:Int),m):=by
   have ht:(#[ty]:Array TypeId)[0]? = some ty:=rfl;simp only[aI,ht,Option.bind_some,hu,mapOf,(h.get hp).2.2,Option.map_some]
  rw[Go.Ab.dA (hf.gT ha) this]; exact hK m h⟩
theorem vO {α:Type} {b q l:Nat} {kt et:TypeId} {xs:List α} {f:α→Value × Value} {ars:Array Operand} (hu:E.P.underlying ty=some (.map kt et)) (ha:gT E fs ars.toList=some [.map (some b)]) (hp:pk ps q=some (.obj b (.map (xs.map f)))) (hl:xs.length=l) :
  Od E m0 fs ps (.call ⟨.builtin .len,ars,#[ty]⟩) (.int .i64 (l:Int)) ps:=by
 have:=OM (m0:=m0) hu ha hp;rw[List.length_map,hl] at this;exact this
theorem Pv {P:Program} {kt el:TypeId} {k:IntKind} (hu:P.underlying kt=some (.array 2 el)) (hk:known P el=true) (hs:al P el=1) (ha:cS P el=false) (he:P.underlying el=some (.int k)):KeyE P kt (fun p:Int × Int=>.agg #[.int k p.1,.int k p.2]) where
 eq:=fun a b=>by
  rw[Lp hu hk hs ha he]
  congr 1
  by_cases h:a=b
  ·subst h; simp
  ·have:¬(a.1=b.1∧a.2=b.2):=fun⟨h1,h2⟩=>h (Prod.ext h1 h2);rw[decide_eq_false h,←Bool.decide_and,decide_eq_false this]
 ok:=fun a=>by
  have hkk:eR P el=true:=by simp only[eR,he]
  simp only[gQ,hu,hkk,hk,hs,Bool.true_and]
  rfl
 plain:=fun a=>rfl
 same:=fun a=>by simp[Instr.sameBits]
end
section
variable {α : Type}
def P4:List α→Option (α × α × α × α × α × α × α × α)
 | [a,b,c,d,e,f,g,h]=>some (a,b,c,d,e,f,g,h)
 | _=>none
theorem qZ {xs:List α} {a b c d e f g h:α} (hx:P4 xs=some (a,b,c,d,e,f,g,h)):xs = [a,b,c,d,e,f,g,h]:=by
 unfold P4 at hx
 split at hx
 ·cases hx; rfl
 ·cases hx
end
section
variable {E : Env} {n : Nat} {m0 m : AMem} {fs : Fs} {ps : List Pc} {x y z : Operand} {ty : TypeId}
theorem ak.uv {α:Type} {xs:List α} {f:α→List Value} {k b w l:Nat} {cs:List Value} (hp:pk ps k=some (.obj b (.cells cs .own))) (hx:cs=(xs.map f).flatten) (hl:xs.length=l) (he:Enc f w) (h0:Nat.blt 0 w=true):ak m0 ps (cG ps k (.arr b w l (xs.map f) .own)):=fun m h=>by
 subst hx;exact h.put hp rfl rfl rfl (Nat.le_refl _) h.ext ⟨(h.get hp).1,(h.get hp).2.1,(h.get hp).2.2,by rw[List.length_map]; exact hl,fun e hm=>by obtain⟨x,_,rfl⟩:=List.mem_map.1 hm; exact he.1 x,.inl rfl,by rwa[Nat.blt_eq] at h0⟩ fun _ _ _=>rfl
theorem ak.CW {α:Type} {xs ys:List α} {f:α→List Value} {k b w l:Nat} {cs:List Value} {tg:Tag} (hp:pk ps k=some (.arr b w l (xs.map f) tg)) (hx:xs=ys) (hc:(ys.map f).flatten=cs):ak m0 ps (cG ps k (.obj b (.cells cs tg))):=fun m h=>by
 subst hx hc;exact h.put hp rfl rfl rfl (Nat.le_refl _) h.ext ⟨(h.get hp).1,(h.get hp).2.1,(h.get hp).2.2.1⟩ fun _ _ _=>rfl
theorem pX {el:TypeId} {b len w:Nat} {i:Int} {kd:IntKind} (h:ArT E.P ty el len w) (hx:ev E fs x=some (ptr b 0)) (hy:ev E fs y=some (.int kd i)) (hi:0≤i∧i.toNat<len):Od E m0 fs ps (.indexAddr ty x y) (ptr b (i.toNat*w+0)) ps:=by
 obtain⟨j,rfl⟩:=Int.eq_ofNat_of_zero_le hi.1;have hj:j<len:=by simpa using hi.2
 refine Aw hx hy ?_;rw[Ed h (b:=b) (o:=0) hj];simp
end
section
variable {E : Env} {n : Nat} {m0 m : AMem} {fs : Fs} {ps : List Pc}
theorem Hp.ie {m0 m:AMem} {l0:List Pc} {H:Nat→Prop} {a:Option Addr} {cap w l:Nat} {es:List (List Value)} (h:Hp m0 m (l0++[.gen (oE H)])) (ho:(l0.all Pc.J8)=true) (hr:Rd m a cap w l es) (ha:∀b,gE a=some b→¬H b):Hp m0 m (.rd a cap w l es::(l0++[.gen (oE H)])) :=
 ⟨h.ext,fun p hp=>by
  rcases List.mem_cons.1 hp with rfl|hp
  ·exact hr
  ·exact h.ok p hp,List.pairwise_cons.2 ⟨fun q hq=>⟨fun b a=>a.elim (fun a=>by cases a.1) fun a=>a.elim,fun b h1 h2=>by
   rcases List.mem_append.1 hq with hq|hq
   ·exact absurd h1 (Pc.Dg (List.all_eq_true.1 ho q hq) b)
   ·rw[List.mem_singleton.1 hq] at h1;rcases h1 with h1|h1
    ·cases h1.1
    ·exact ha b (h2.elim id fun h=>h.elim) h1⟩,h.apart⟩⟩
def nH (l:List Pc):Bool:=l.all Pc.bound
theorem pT {α:Type} {V:α→Value} {N:α→List Pc} {f:Operand} {g:FuncId} {ars:Array Operand} {ts:Array TypeId} {args:List Value} (hf:ev E fs f=some (.func (.func g) #[] #[])) (ha:gT E fs ars.toList=some args) (hc:∀m,Hp m0 m ps→aB E g args m (fun v m'=>∃x,v=V x∧Hp m m' (N x++[.gen (oE (wG ps))]))) (ho:∀x,nH (N x)=true):Ox E m0 fs ps (.call ⟨.value f,ars,ts⟩) V (fun x=>N x++ps) :=
 fH hf ha fun m hm=>by
  simp only[List.nil_append,List.append_nil];exact(hc m hm).mono fun v m' ⟨x,e,h⟩=>⟨x,e,hm.GU h fun p hp=>List.all_eq_true.1 (ho x) p hp⟩
theorem nF {α:Type} {V:α→Value} {N:α→List Pc} {f:Operand} {g:FuncId} {ars:Array Operand} {ts:Array TypeId} {args:List Value} (hf:ev E fs f=some (.func (.func g) #[] #[])) (ha:gT E fs ars.toList=some args) (hc:∀m,Hp m0 m ps→aB E g args m (fun v m'=>∃x,v=V x∧Hp m m' (N x++[.gen (oE (wG ps))]))) (ho:∀x,nH (N x)=true):Oc E m0 fs ps (.call ⟨.value f,ars,ts⟩) V (fun x=>N x++ps) :=
 fun t m hfr hm hwl=>⟨fun b hb=>(by simp[aE] at hb),fun K hK=>by
  show kv E (aj E t f) (bq E t ars.toList) m _
  rw[hfr.ev hf,hfr.gT ha,sf];refine(hc m hm).mono fun v m' ⟨x,e,h⟩=>?_;rw[e];refine hK x m' (hm.GU h fun p hp=>List.all_eq_true.1 (ho x) p hp) ?_;have:=h.ext.wl;omega⟩
end
section
variable {E : Env} {n : Nat} {m0 : AMem} {fs : Fs} {ps : List Pc} {ops : Array Oper} {os : List Oper} {dr : Bool}
theorem Wo.bJ {K:Tm→AMem→Prop} {α:Type} {f:α→List Value} {k w l cap:Nat} {a:Option Addr} {xs:List α} (hp:pk ps k=some (.rd a cap w l (xs.map f))) (h:l=xs.length→Wo dr E n ops K os m0 fs ps):Wo dr E n ops K os m0 fs ps:=by
 have key:∀m,Hp m0 m ps→l=xs.length:=fun m hm=>F6 hm hp;cases dr with
 | false=>exact fun t m hf hm=>h (key m hm) t m hf hm
 | true=>exact fun t m w hf hm hw=>h (key m hm) t m w hf hm hw
theorem Wn.bJ {prs:List (Nat × Nat)} {K:Tm→AMem→Prop} {ss:List Nk} {α:Type} {f:α→List Value} {k w l cap:Nat} {a:Option Addr} {xs:List α} (hp:pk ps k=some (.rd a cap w l (xs.map f))) (h:l=xs.length→Wn E n ops prs K os ss m0 fs ps):Wn E n ops prs K os ss m0 fs ps :=
 fun t m ns hf hm hn=>h (F6 hm hp) t m ns hf hm hn
end
section
variable {E : Env} {m0 : AMem} {fs : Fs} {ps : List Pc} {ty : TypeId}
theorem Qa {α:Type} {f:α→List Value} {elem ty2:TypeId} {w k c1 l l1:Nat} {a a0:Option Addr} {xs ys:List α} {ars:Array Operand} (he:Enc f w) (ht:SlT E.P ty elem w) (h2:∃e0,E.P.underlying ty2=some (.slice e0)) (ha:gT E fs ars.toList=some [.slice a l l,.slice a0 l1 c1]) (hp:pk ps k=some (.sl a w l (xs.map f))) (hr:∀m,Hp m0 m ps→Rd m a0 c1 w l1 (ys.map f)) (hl:mj (xs++ys).length=true) :
  Ox E m0 fs ps (.call ⟨.builtin .append,ars,#[ty,ty2]⟩) (fun a':Option Addr=>.slice a' (xs++ys).length (xs++ys).length) (fun a'=>cG ps k (.sl a' w (xs++ys).length ((xs++ys).map f))):=fun t m hf hm=>⟨fun b hb=>(by simp[aE] at hb),fun K hK=>by
 have h0:l=xs.length:=by
  have:=hm.get hp;rcases this with⟨h3,h0,_⟩|⟨b,tg,_,h0⟩
  ·rw[h3,List.map_eq_nil_iff.1 h0]; rfl
  ·have:=h0.2.2.2.1; rw[List.length_map] at this; exact this.symm
 have h4:l1=ys.length:=by
  have:=(hr m hm).1; rw[List.length_map] at this; exact this.symm
 have e0:l+l1=(xs++ys).length:=by rw[h0,h4,List.length_append]
 obtain⟨a',m',h5,h1⟩:=uI (n:=l) ht h2 hm hp (hr m hm) (he.vL ys) (he.jl ys) (by rw[e0]; exact hl)
 have:aI E.P .append #[ty,ty2] [.slice a l l,.slice a0 l1 c1] m=some (.slice a' (l+l1) (l+l1),m'):=h5;rw[Go.Ab.dA (hf.gT ha) this];have e1:xs.map f++ys.map f=(xs++ys).map f:=List.map_append.symm;rw[e1,e0] at h1;rw[e0];exact hK a' m' h1⟩
end
section
theorem oc (c:Value) (cs:List Value) (o:Nat) (vs:List Value):au (c::cs) (o+1) vs=c::au cs o vs:=by cases vs<;>rfl
theorem fb:∀(cs:List Value) (o:Nat),au cs o []=cs
 | [],0=>rfl
 | _::_,0=>rfl
 | [],_+1=>rfl
 | c::cs,o+1=>by rw[oc,fb cs o]
theorem pZ {f:Nat→List Value} {v:Nat→Value} (hf:∀x,f x = [v x]):∀{ys xs zs:List Nat},ys++xs.drop ys.length=zs→ys.length≤xs.length→au (xs.map f).flatten 0 (ys.map f).flatten=(zs.map f).flatten
 | [],xs,zs,h,_=>by
  rw[List.nil_append,List.length_nil,List.drop_zero] at h;rw[h];exact fb _ 0
 | y::ys,[],zs,_,hl=>by simp at hl
 | y::ys,x::xs,zs,h,hl=>by
  have ih:=pZ hf (ys:=ys) (xs:=xs) (zs:=ys++xs.drop ys.length) rfl (by simpa using hl)
  subst h;simp only[List.map_cons,List.flatten_cons,hf,List.cons_append,List.nil_append,List.length_cons,List.drop_succ_cons] at ih ⊢
  show v y::au _ 0 _=_
  rw[ih]
theorem Ps {f:Nat→List Value} {v:Nat→Value} (hf:∀x,f x = [v x]) {c:Value} {ys xs zs:List Nat} (h:ys++xs.drop ys.length=zs) (hl:ys.length≤xs.length):au (c::(xs.map f).flatten) 1 (ys.map f).flatten=c::(zs.map f).flatten:=by
 rw[show(1:Nat)=0+1 from rfl,oc,pZ hf h hl]
variable {E : Env} {m0 : AMem} {fs : Fs} {ps : List Pc} {ty : TypeId}
theorem PA {f:Nat→List Value} {elem ty2:TypeId} {k b o q c1 l1:Nat} {a0:Option Addr} {cs cs':List Value} {ys:List Nat} {ars:Array Operand} (he:Enc f 1) (ht:SlT E.P ty elem 1) (ha:gT E fs ars.toList=some [.slice (some ⟨b,o,none⟩) q q,.slice a0 l1 c1]) (hp:pk ps k=some (.obj b (.cells cs .own))) (hr:∀m,Hp m0 m ps→Rd m a0 c1 1 l1 (ys.map f)) (hq:decide (ys.length≤q)=true) (ho:Nat.ble (o+q) cs.length=true) (hs:au cs o (ys.map f).flatten=cs') :
  Od E m0 fs ps (.call ⟨.builtin .copy,ars,#[ty,ty2]⟩) (.int .i64 (ys.length:Int)) (cG ps k (.obj b (.cells cs' .own))):=fun t m hf hm=>⟨fun b hb=>(by simp[aE] at hb),fun K hK=>by
 have h0:l1=ys.length:=by
  have:=(hr m hm).1; rw[List.length_map] at this; exact this.symm
 have hq':=of_decide_eq_true hq;have ho':=Nat.le_of_ble_eq_true ho;have hc:=(hr m hm).cells;have hmin:min l1 q=l1:=by omega
 have hone:aG (ys.map f).flatten=true:=by
  unfold aG;rw[List.all_eq_true];intro x hx;obtain⟨e,h3,h4⟩:=List.mem_flatten.1 hx;exact List.all_eq_true.1 (he.jl ys e h3) x h4
 have hlen:(ys.map f).flatten.length=ys.length:=by
  clear hs hr hq hK h0 hq' hc hone
  induction ys with
  | nil=>rfl
  | cons x l ih=>rw[List.map_cons,List.flatten_cons,List.length_append,ih,he.1 x,List.length_cons]; omega
 have hg:=(hm.get hp).2.2;have hsrc:bU (al E.P elem) (.slice a0 l1 c1) (min l1 q) m=some (ys.map f).flatten:=by rw[ht.size,hmin]; exact hc
 cases hy:ys with
 | nil =>
  subst hy;have e0:cs'=cs:=by rw[←hs]; exact fb cs o
  have h1:min l1 q=0:=by rw[hmin,h0]; rfl
  have:aI E.P .copy #[ty,ty2] [.slice (some ⟨b,o,none⟩) q q,.slice a0 l1 c1] m=some (.int .i64 0,m):=by
   show ry E.P ty _ _ m=_
   unfold ry;rw[h1] at hsrc;simp only[ht.und,ht.known,Bool.not_true,Bool.false_eq_true,if_false,h1,hsrc,hone]
  rw[Go.Ab.dA (hf.gT ha) this];exact hK m (by rw[e0]; exact hm.put hp rfl rfl rfl (Nat.le_refl _) hm.ext (hm.get hp) fun _ _ _=>rfl)
 | cons y y2 =>
  have h2:min l1 q=y2.length+1:=by rw[hmin,h0,hy]; rfl
  have hst:m.cc b o (ys.map f).flatten=some (m.set b (.cells cs' .own)):=by
   have hne:(ys.map f).flatten≠[]:=fun e=>by rw[e,hy] at hlen; cases hlen
   unfold AMem.cc
   split
   ·rename_i e; exact absurd e hne
   ·rw[hg];simp only[hlen];rw[if_pos (by omega),hs]
  have:aI E.P .copy #[ty,ty2] [.slice (some ⟨b,o,none⟩) q q,.slice a0 l1 c1] m=some (.int .i64 (ys.length:Int),m.set b (.cells cs' .own)):=by
   show ry E.P ty _ _ m=_
   unfold ry;rw[h2] at hsrc;simp only[ht.und,ht.known,Bool.not_true,Bool.false_eq_true,if_false,h2,hsrc,hone,hst,Option.map_some];rw[hy]; rfl
  rw[Go.Ab.dA (hf.gT ha) this];have hw:Hp m0 (m.set b (.cells cs' .own)) (cG ps k (.obj b (.cells cs' .own))):=hm.write (o':=.cells cs' .own) (p':=.obj b (.cells cs' .own)) hp rfl rfl rfl rfl ⟨(hm.get hp).1,by rw[AMem.next_set]; exact(hm.get hp).2.1,by rw[AMem.bD,if_pos rfl]⟩
  exact hK _ hw⟩
end
end Go.Ab.W
end

section
namespace Go.Ab.W
open Go Go.Ab
section
variable {α : Type}
def Hl (m:AMem) (R:Nat→Prop) (w:Nat) (f:α→List Value) (cs:List Value) (L:List (List α)):Prop :=
 cs.length=L.length∧∀(i:Nat) (l:List α),L[i]? = some l→∃a c,cs[i]? = some (.slice a l.length c)∧Rd m a c w l.length (l.map f)∧∀b,gE a=some b→R b
theorem Hl.dV {m m':AMem} {R:Nat→Prop} {w:Nat} {f:α→List Value} {cs:List Value} {L:List (List α)} (h:Hl m R w f cs L) (hn:m.next≤m'.next) (hg:∀b,R b→b<m.next→m'.get b=m.get b):Hl m' R w f cs L :=
 ⟨h.1,fun i l hi=>by
  obtain⟨a,c,h1,h2,h3⟩:=h.2 i l hi;exact⟨a,c,h1,h2.dV hn fun b hb hlt=>hg b (h3 b hb) hlt,h3⟩⟩
end
section
variable {α : Type} {E : Env} {m0 m : AMem} {fs : Fs} {ps : List Pc} {f : α → List Value} {w : Nat}
variable {x : Operand} {ty : TypeId}
theorem C6 {k n cap:Nat} {a:Option Addr} {ars:Array Operand} {p:Pc} {elem:TypeId} (hu:E.P.underlying ty=some (.slice elem)) (ha:gT E fs ars.toList=some [.slice a n cap]) (hp:pk ps k=some p) (hb:∀b,gE a=some b→p.any b) :
  Od E m0 fs ps (.call ⟨.builtin .len,ars,#[ty]⟩) (.int .i64 (n:Int)) ps :=
 fun t m hf h=>⟨fun b hb'=>by
  simp only[aE,hf.gT ha] at hb';have hab:eu (.slice a n cap)=gE a:=by cases a<;>rfl
  rw[hab] at hb';exact Pc.jh (h.get hp) (hb b hb'),fun K hK=>by
  have:aI E.P .len #[ty] [.slice a n cap] m=some (.int .i64 (n:Int),m):=by
   have ht:(#[ty]:Array TypeId)[0]? = some ty:=rfl;simp only[aI,ht,Option.bind_some,hu]
  rw[Go.Ab.dA (hf.gT ha) this]; exact hK m h⟩
variable {N : Nat} {ops : Array Oper} {os : List Oper} {dr : Bool}
end
end Go.Ab.W
end

section
namespace Go.Ab.W
open Go Go.Ab
attribute [local irreducible] Tm.at Trie.set Trie.get AMem.get AMem.set AMem.alloc AMem.ww AMem.kill
section
variable {α : Type} {E : Env} {m0 m : AMem} {fs : Fs} {ps : List Pc} {f : α → List Value} {w : Nat} {ty : TypeId}
theorem Hl.one {R:Nat→Prop} {cs:List Value} {L:List (List α)} (h:Hl m R w f cs L):jl (cs.map fun c=>[c]):=fun e he=>by
 obtain⟨c,hc,rfl⟩:=List.mem_map.1 he;obtain⟨i,hi,rfl⟩:=List.mem_iff_getElem.1 hc;obtain⟨a,cap,h1,_⟩:=h.2 i (L[i]'(by rw[←h.1]; exact hi)) (by simp)
 rw[List.getElem?_eq_getElem hi] at h1;rw[Option.some.inj h1]; rfl
end
section
variable {α : Type} {E : Env} {n : Nat} {m0 m : AMem} {fs : Fs} {ps : List Pc} {f : α → List Value} {w : Nat} {ops : Array Oper} {os : List Oper} {prs : List (Nat × Nat)} {K : Tm → AMem → Prop} {ss : List Nk}
end
def CS (m:AMem) (RW:Nat→Prop) (rb:Nat) (row:List (Bool × List Nat)):Prop :=
 rb<m.next∧∃vs,m.get rb=some (.cells vs .own)∧vs.length=row.length*2∧∀(j:Nat) (x:Bool × List Nat),row[j]? = some x→vs[j*2]? = some (.bool x.1)∧∃a c,vs[j*2+1]? = some (.slice a x.2.length c)∧Rd m a c 1 x.2.length (x.2.map (eN .u64))∧∀b,gE a=some b→RW b
theorem CS.dV {m m':AMem} {RW RW':Nat→Prop} {rb:Nat} {row:List (Bool × List Nat)} (h:CS m RW rb row) (hn:m.next≤m'.next) (hg:∀b,(b=rb∨RW b)→b<m.next→m'.get b=m.get b) (hs:∀b,RW b→RW' b):CS m' RW' rb row:=by
 obtain⟨h1,vs,h2,h3,h4⟩:=h;refine⟨Nat.lt_of_lt_of_le h1 hn,vs,by rw[hg rb (.inl rfl) h1]; exact h2,h3,fun j x hx=>?_⟩
 obtain⟨g1,a,c,g2,g3,g4⟩:=h4 j x hx;exact⟨g1,a,c,g2,g3.dV hn fun b hb hlt=>hg b (.inr (g4 b hb)) hlt,fun b hb=>hs b (g4 b hb)⟩
def wL (ρ:Nat→Nat) (L:List (List (Bool × List Nat))) (x:Nat):Prop:=∃i row,L[i]? = some row∧row≠[]∧x=ρ i
structure MatAt (m:AMem) (b n:Nat) (ρ:Nat→Nat) (RW:Nat→Prop) (L:List (List (Bool × List Nat))):Prop where
 lt:b<m.next
 len:n=L.length
 cells:∃cs,m.get b=some (.cells cs .own)∧cs.length=n∧∀(i:Nat) (row:List (Bool × List Nat)),L[i]? = some row→(row = []∧cs[i]? = some (.slice none 0 0))∨(row≠[]∧cs[i]? = some (.slice (some ⟨ρ i,0,none⟩) row.length row.length))
 rows:∀(i:Nat) (row:List (Bool × List Nat)),L[i]? = some row→row≠[]→CS m RW (ρ i) row
 rw:∀x,RW x→x<m.next∧x≠b∧¬wL ρ L x
 out:∀(i:Nat) (row:List (Bool × List Nat)),L[i]? = some row→row≠[]→ρ i≠b
 inj:∀(i j:Nat) (row row':List (Bool × List Nat)),L[i]? = some row→L[j]? = some row'→row≠[]→row'≠[]→ρ i=ρ j→i=j
def nU (b n:Nat) (ρ:Nat→Nat) (RW:Nat→Prop) (L:List (List (Bool × List Nat))):GPc where
 ow x:=x=b∨wL ρ L x
 rd x:=RW x
 P m:=MatAt m b n ρ RW L
 st m m' h hn hg:=by
  refine⟨Nat.lt_of_lt_of_le h.lt hn,h.len,?_,fun i row hi hne=>(h.rows i row hi hne).dV hn (fun x hx hlt=>?_) fun _ h=>h,fun x hx=>⟨Nat.lt_of_lt_of_le (h.rw x hx).1 hn,(h.rw x hx).2⟩,h.out,h.inj⟩
  ·obtain⟨cs,h1,h2⟩:=h.cells;exact⟨cs,by rw[hg b (.inl (.inl rfl)) h.lt]; exact h1,h2⟩
  ·rcases hx with rfl|hx
   ·exact hg _ (.inl (.inr ⟨i,row,hi,hne,rfl⟩)) hlt
   ·exact hg _ (.inr hx) hlt
 lt m x h hx:=by
  rcases hx with(rfl|⟨i,row,h1,h2,rfl⟩) | hx
  ·exact h.lt
  ·exact(h.rows i row h1 h2).1
  ·exact(h.rw x hx).1
theorem qN {b n:Nat} {ρ:Nat→Nat} {RW:Nat→Prop} {L:List (List (Bool × List Nat))}:∀x,gE (some ⟨b,0,none⟩)=some x→Pc.any (.gen (nU b n ρ RW L)) x:=fun x h=>by cases h; exact .inr (.inl (.inl rfl))
section
variable {E : Env} {m0 m : AMem} {fs : Fs} {ps : List Pc} {x y : Operand} {ty : TypeId} {b n : Nat} {ρ : Nat → Nat} {RW : Nat → Prop} {L : List (List (Bool × List Nat))}
theorem pa (v:Value):∀n:Nat,(List.replicate n [v]).flatten=List.replicate n v
 | 0=>rfl
 | n+1=>by rw[List.replicate_succ,List.flatten_cons,pa v n,List.replicate_succ]; rfl
theorem ak.Ph:ak m0 (.arr b 1 n (List.replicate n [.slice none 0 0]) .own::ps) (.gen (nU b n (fun _=>0) (fun _=>False) (List.replicate n []))::ps):=fun m h=>by
 have h0:An m0.next m b 1 n (List.replicate n [.slice none 0 0]) .own:=h.ok _ (List.mem_cons_self ..)
 have hno:∀x,¬wL (fun _=>0) (List.replicate n []) x:=fun x ⟨i,row,h1,h2,_⟩=>h2 (List.eq_of_mem_replicate (List.mem_of_getElem? h1));have ha:=List.pairwise_cons.1 h.apart;refine⟨h.ext,fun p hp=>?_,List.pairwise_cons.2 ⟨fun r hr=>⟨fun z h1 h2=>?_,fun z h1 h2=>?_⟩,ha.2⟩⟩
 ·rcases List.mem_cons.1 hp with rfl|hp
  ·refine⟨⟨h0.2.1,by simp,⟨_,h0.2.2.1,by rw[pa]; simp,fun i row hi=>.inl ⟨List.eq_of_mem_replicate (List.mem_of_getElem? hi),?_⟩⟩,fun i row hi hne=>absurd (List.eq_of_mem_replicate (List.mem_of_getElem? hi)) hne,fun x hx=>hx.elim,fun i row hi hne=>absurd (List.eq_of_mem_replicate (List.mem_of_getElem? hi)) hne,fun i j row row' hi _ hne=>absurd (List.eq_of_mem_replicate (List.mem_of_getElem? hi)) hne⟩,fun _ z hz=>?_⟩
   ·have hlt:=(List.getElem?_eq_some_iff.1 hi).1;rw[pa,List.getElem?_replicate,if_pos (by simpa using hlt)]
   ·rcases hz with rfl|hz
    ·exact h0.1
    ·exact absurd hz (hno z)
  ·exact h.ok p (List.mem_cons_of_mem _ hp)
 ·rcases h1 with h1|h1
  ·cases h1.1
  ·rcases h1 with rfl|h1
   ·exact(ha.1 r hr).1 _ (.inl ⟨rfl,rfl⟩) h2
   ·exact absurd h1 (hno z)
 ·rcases h2 with h2|h2
  ·cases h2
  ·rcases h2 with(rfl|h2) | h2
   ·exact(ha.1 r hr).2 _ h1 (.inl rfl)
   ·exact absurd h2 (hno z)
   ·exact h2.elim
theorem DF (l:Nat):∀j,j<l→(List.replicate l [Value.bool false,.slice none 0 0]).flatten[j*2]? = some (.bool false)∧(List.replicate l [Value.bool false,.slice none 0 0]).flatten[j*2+1]? = some (.slice none 0 0):=by
 induction l with
 | zero=>intro j h; cases h
 | succ l ih =>
  intro j hj;rw[List.replicate_succ,List.flatten_cons];cases j with
  | zero=>exact⟨rfl,rfl⟩
  | succ j =>
   have:=ih j (by omega)
   refine⟨?_,?_⟩
   ·rw[show(j+1)*2=j*2+2 by omega]; exact this.1
   ·rw[show(j+1)*2+1=(j*2+1)+2 by omega]; exact this.2
theorem F0 (l:Nat):(List.replicate l [Value.bool false,.slice none 0 0]).flatten.length=l*2:=by
 induction l with
 | zero=>rfl
 | succ l ih=>rw[List.replicate_succ,List.flatten_cons,List.length_append,ih]; simp only[List.length_cons,List.length_nil]; omega
theorem at_set {α:Type} {l:List α} {i j:Nat} {v x:α} (h:(l.set i v)[j]? = some x):(i=j∧x=v∧j<l.length)∨(i≠j∧l[j]? = some x):=by
 rw[List.getElem?_set] at h
 by_cases e:i=j
 ·rw[if_pos e] at h
  split at h
  ·exact .inl ⟨e,(Option.some.inj h).symm,by omega⟩
  ·cases h
 ·rw[if_neg e] at h; exact .inr ⟨e,h⟩
theorem I9 {k l i off rb:Nat} {r0:List (Bool × List Nat)} (ht:TyI E.P ty false 1) (hx:ev E fs x=some (ptr b off)) (ho:off=i) (hy:ev E fs y=some (.slice (some ⟨rb,0,none⟩) l l)) (hp:pk ps k=some (.gen (nU b n ρ RW L))) (he:L[i]? = some r0) (hl:0<l) :
  Od E m0 fs (.arr rb 2 l (List.replicate l [.bool false,.slice none 0 0]) .own::ps) (.store ty x y) undef (cG ps k (.gen (nU b n (fun j=>if j=i then rb else ρ j) RW (L.set i (List.replicate l (false,[])))))):=fun t m hf h=>⟨fun b' hb'=>(by simp[aE] at hb'),fun K hK=>by
 subst ho;have hk:=h.get (k:=k+1) hp;have hP:MatAt m b n ρ RW L:=hk.1;have h0:An m0.next m rb 2 l (List.replicate l [.bool false,.slice none 0 0]) .own:=h.ok _ (List.mem_cons_self ..)
 have ha:=(List.pairwise_cons.1 h.apart).1;have hak:=ha _ (j5 hp);have hi:off<L.length:=(List.getElem?_eq_some_iff.1 he).1;obtain⟨cs,c2,c1,c3⟩:=hP.cells;have hst:dE E.P ty (ptr b off) (.slice (some ⟨rb,0,none⟩) l l) m=some (m.set b (.cells (cs.set off (.slice (some ⟨rb,0,none⟩) l l)) .own)):=FL ht.known ht.size rfl c2 (by rw[c1,hP.len]; exact hi)
 have e:=Go.Ab.wU (t:=t) (E:=E) (hf.ev hx) (hf.ev hy) hst K;rw[e];have hrbb:rb≠b:=fun e=>hak.1 rb (.inl ⟨rfl,rfl⟩) (.inr (.inl (.inl e)));have hrbm:¬wL ρ L rb:=fun g=>hak.1 rb (.inl ⟨rfl,rfl⟩) (.inr (.inl (.inr g)));have hrbw:¬RW rb:=fun g=>hak.1 rb (.inl ⟨rfl,rfl⟩) (.inr (.inr g));have hget:∀z,z≠b→(m.set b (.cells (cs.set off (.slice (some ⟨rb,0,none⟩) l l)) .own)).get z=m.get z:=fun z hz=>by rw[AMem.bD,if_neg hz]
 have hnext:(m.set b (.cells (cs.set off (.slice (some ⟨rb,0,none⟩) l l)) .own)).next=m.next:=AMem.next_set ..
 have hne:(List.replicate l ((false,[]):Bool × List Nat))≠[]:=by
  intro e;have:=congrArg List.length e;simp at this; omega
 have hmr:∀z,wL (fun j=>if j=off then rb else ρ j) (L.set off (List.replicate l (false,[]))) z→z=rb∨wL ρ L z:=fun z ⟨j,row,g1,g0,g3⟩=>by
  rcases at_set g1 with⟨e0,_,_⟩|⟨e0,g2⟩
  ·simp only[if_pos e0.symm] at g3; exact .inl g3
  ·simp only[if_neg (fun e:j=off=>e0 e.symm)] at g3; exact .inr ⟨j,row,g2,g0,g3⟩
 refine hK _ ⟨h.ext.set (Pc.nW hk rfl (.inr (.inl rfl))) _,fun p hpm=>?_,ft hp (fun r hr hap=>⟨fun z g1 g0=>?_,fun z g1 g0=>?_⟩) (List.pairwise_cons.1 h.apart).2⟩
 ·rcases oC hp (List.pairwise_cons.1 h.apart).2 hpm with rfl|⟨hpm,hap⟩
  ·refine⟨⟨by rw[hnext]; exact hP.lt,by rw[List.length_set]; exact hP.len,⟨_,by rw[AMem.bD,if_pos rfl],by rw[List.length_set]; exact c1,fun j row hj=>?_⟩,fun j row hj hne'=>?_,fun z hz=>⟨by rw[hnext]; exact(hP.rw z hz).1,(hP.rw z hz).2.1,fun g=>?_⟩,fun j row hj hne'=>?_,fun j j' row row' hj hj' h1 h2 heq=>?_⟩,fun _ z hz=>?_⟩
   ·rcases at_set hj with⟨e0,rfl,_⟩|⟨e0,g2⟩
    ·subst e0;refine .inr ⟨hne,?_⟩;rw[List.getElem?_set_self (by rw[c1,hP.len]; exact hi)]
     simp
    ·rw[List.getElem?_set_ne e0];simp only[if_neg (fun e:j=off=>e0 e.symm)];exact c3 j row g2
   ·rcases at_set hj with⟨e0,rfl,_⟩|⟨e0,g2⟩
    ·subst e0;simp only[if_true];refine⟨by rw[hnext]; exact h0.2.1,_,by rw[hget rb hrbb]; exact h0.2.2.1,by rw[F0]; simp,fun j x hx=>?_⟩
     have hjl:j<l:=by have:=(List.getElem?_eq_some_iff.1 hx).1; simpa using this
     have hx':x=(false,[]):=List.eq_of_mem_replicate (List.mem_of_getElem? hx);subst hx';exact⟨(DF l j hjl).1,none,0,(DF l j hjl).2,Rd.nil _ _,fun _ h=>by cases h⟩
    ·simp only[if_neg (fun e:j=off=>e0 e.symm)];exact(hP.rows j row g2 hne').dV (by rw[hnext]; exact Nat.le_refl _) (fun z hz _=>hget z (fun e=>by
      rcases hz with hz|hz
      ·exact hP.out j row g2 hne' (by rw[←hz]; exact e)
      ·exact(hP.rw z hz).2.1 e)) fun _ h=>h
   ·rcases hmr z g with rfl|g
    ·exact hrbw hz
    ·exact(hP.rw z hz).2.2 g
   ·rcases at_set hj with⟨e0,_,_⟩|⟨e0,g2⟩
    ·simp only[if_pos e0.symm]; exact hrbb
    ·simp only[if_neg (fun e:j=off=>e0 e.symm)]; exact hP.out j row g2 hne'
   ·rcases at_set hj with⟨e0,_,_⟩|⟨e0,g2⟩<;>rcases at_set hj' with⟨e1,_,_⟩|⟨e1,g4⟩
    ·exact e0.symm.trans e1
    ·simp only[if_pos e0.symm,if_neg (fun e:j'=off=>e1 e.symm)] at heq;exact absurd ⟨j',row',g4,h2,heq⟩ hrbm
    ·simp only[if_neg (fun e:j=off=>e0 e.symm),if_pos e1.symm] at heq;exact absurd ⟨j,row,g2,h1,heq.symm⟩ hrbm
    ·simp only[if_neg (fun e:j=off=>e0 e.symm),if_neg (fun e:j'=off=>e1 e.symm)] at heq;exact hP.inj j j' row row' g2 g4 h1 h2 heq
   ·rcases hz with rfl|hz
    ·exact Pc.nW hk rfl (.inr (.inl rfl))
    ·rcases hmr z hz with rfl|hz
     ·exact h0.1
     ·exact Pc.nW hk rfl (.inr (.inr hz))
  ·exact Pc.fU (h.ok p (List.mem_cons_of_mem _ hpm)) (by rw[hnext]; exact Nat.le_refl _) fun z hz _=>hget z fun e=>hap.2 z (.inr (.inl e)) hz
 ·rcases g1 with g1|g1
  ·cases g1.1
  ·rcases g1 with rfl|g1
   ·exact hap.1 _ (.inr (.inl rfl)) g0
   ·rcases hmr z g1 with rfl|g1
    ·exact(ha r hr).1 _ (.inl ⟨rfl,rfl⟩) g0
    ·exact hap.1 _ (.inr (.inr g1)) g0
 ·rcases g0 with g0|g0
  ·cases g0
  ·rcases g0 with(rfl|g0) | g0
   ·exact hap.2 _ g1 (.inr (.inl (.inl rfl)))
   ·rcases hmr z g0 with rfl|g0
    ·exact(ha r hr).2 _ g1 (.inl rfl)
    ·exact hap.2 _ g1 (.inr (.inl (.inr g0)))
   ·exact hap.2 _ g1 (.inr (.inr g0))⟩
theorem dL {k i off:Nat} {row:List (Bool × List Nat)} (ht:TyI E.P ty false 1) (hx:ev E fs x=some (ptr b off)) (ho:off=i) (hp:pk ps k=some (.gen (nU b n ρ RW L))) (he:L[i]? = some row) (hl:0<row.length) :
  Ox E m0 fs ps (.load ty x) (fun r:{ rb:Nat // ρ i=rb}=>.slice (some ⟨r.1,0,none⟩) row.length row.length) (fun _=>ps):=fun t m hf h=>by
 subst ho;have hP:MatAt m b n ρ RW L:=(h.get hp).1;obtain⟨cs,c1,c2,c3⟩:=hP.cells;have hne:row≠[]:=fun e=>by rw[e] at hl; cases hl
 have hc:cs[off]? = some (.slice (some ⟨ρ off,0,none⟩) row.length row.length):=((c3 off row he).resolve_left fun g=>hne g.1).2;refine⟨fun b' hb'=>?_,fun K hK=>?_⟩
 ·have hx':aj E t x=some (ptr b off):=hf.ev hx;simp only[aE,hx',Option.bind_some] at hb';cases hb'; exact hP.lt
 ·rw[Go.Ab.vf (hf.ev hx) (vY ht.known ht.agg c1 hc)];exact hK ⟨ρ off,rfl⟩ m h
theorem jk {k i j off rb:Nat} {row:List (Bool × List Nat)} {e:Bool} {w:List Nat} (ht:TyI E.P ty true 2) (hx:ev E fs x=some (ptr rb off)) (ho:off=j*2+0) (hp:pk ps k=some (.gen (nU b n ρ RW L))) (he:L[i]? = some row) (hrb:ρ i=rb) (hj:row[j]? = some (e,w)) :
  Ox E m0 fs ps (.load ty x) (fun r:Option Addr × Nat=>.agg #[.bool e,.slice r.1 w.length r.2]) (fun r=>.rd r.1 r.2 1 w.length (w.map (eN .u64))::ps):=fun t m hf h=>by
 subst ho hrb;have hk:=h.get hp;have hP:MatAt m b n ρ RW L:=hk.1;have hne:row≠[]:=fun e=>by rw[e] at hj; simp at hj
 obtain⟨h1,vs,h2,h3,h4⟩:=hP.rows i row he hne;obtain⟨g1,a,c,g2,g3,g4⟩:=h4 j (e,w) hj;refine⟨fun b' hb'=>?_,fun K hK=>?_⟩
 ·have hx':aj E t x=some (ptr (ρ i) (j*2+0)):=hf.ev hx;simp only[aE,hx',Option.bind_some] at hb';cases hb'; exact h1
 ·have htk:(vs.drop (j*2+0)).take 2 = [.bool e,.slice a w.length c]:=by
   refine List.ext_getElem? fun i=>?_;rw[List.getElem?_take];rcases i with _|_|i
   ·rw[if_pos (by decide),List.getElem?_drop]; exact g1
   ·rw[if_pos (by decide),List.getElem?_drop]; exact g2
   ·rw[if_neg (by omega)]; rfl
  have hld:dc E.P ty (ptr (ρ i) (j*2+0)) m=some (.agg #[.bool e,.slice a w.length c]):=C7 ht.known ht.agg ht.size h2 htk rfl;rw[Go.Ab.vf (hf.ev hx) hld];refine hK (a,c) m ⟨h.ext,fun p hpm=>?_,List.pairwise_cons.2 ⟨fun r hr=>⟨fun z a1 _=>?_,fun z a1 a2=>?_⟩,h.apart⟩⟩
  ·rcases List.mem_cons.1 hpm with rfl|hpm
   ·exact g3
   ·exact h.ok p hpm
  ·exact a1.elim (fun a1=>by cases a1.1) fun a1=>a1.elim
  ·have hz:RW z:=g4 z (a2.elim id fun a2=>a2.elim);obtain⟨k',hk'⟩:=mP hr
   by_cases hkk:k=k'
   ·subst hkk;rw[hp] at hk';cases hk';rcases a1 with a1|a1
    ·cases a1.1
    ·exact a1.elim (hP.rw z hz).2.1 (hP.rw z hz).2.2
   ·exact(gv h.apart hp hk' hkk).2 z a1 (.inr (.inr hz))
theorem ru {k k2 i j off rb c:Nat} {row:List (Bool × List Nat)} {e:Bool} {a:Option Addr} {w:List Nat} {p1:Pc} (ht:TyI E.P ty true 2) (hx:ev E fs x=some (ptr rb off)) (ho:off=j*2+0) (hy:ev E fs y=some (.agg #[.bool e,.slice a w.length c])) (hp:pk ps k=some (.gen (nU b n ρ RW L))) (he:L[i]? = some row) (hrb:ρ i=rb) (hj:Nat.blt j row.length=true) (hw:(pk ps k2=some p1∧p1 = .rd a c 1 w.length (w.map (eN .u64)))∨(a=none∧w = [])) :
  Od E m0 fs ps (.store ty x y) undef (cG ps k (.gen (nU b n ρ (fun z=>RW z∨gE a=some z) (L.set i (row.set j (e,w)))))):=fun t m hf h=>⟨fun b' hb'=>(by simp[aE] at hb'),fun K hK=>by
 subst ho hrb;have hj:j<row.length:=by rwa[Nat.blt_eq] at hj
 have hk:=h.get hp;have hP:MatAt m b n ρ RW L:=hk.1;have hne:row≠[]:=fun e=>by rw[e] at hj; cases hj
 have hrd:∃c',Rd m a c' 1 w.length (w.map (eN .u64))∧(a≠none→c'=c):=by
  rcases hw with⟨hw,rfl⟩|⟨rfl,rfl⟩
  ·exact⟨c,h.get hw,fun _=>rfl⟩
  ·exact⟨0,Rd.nil _ _,fun g=>absurd rfl g⟩
 have haw:∀z,gE a=some z→z<m.next∧¬Pc.ow (.gen (nU b n ρ RW L)) z∧∀r ∈ ps,¬r.ow z:=by
  rcases hw with⟨hw,rfl⟩|⟨rfl,_⟩
  ·intro z hz;have hno:∀r ∈ ps,¬r.ow z:=fun r hr g=>by
    obtain⟨k',hk'⟩:=mP hr
    by_cases hkk:k2=k'
    ·subst hkk; rw[hw] at hk'; cases hk';exact g.elim (fun g=>by cases g.1) fun g=>g.elim
    ·exact(gv h.apart hw hk' hkk).2 z g (.inl hz)
   exact⟨Rd.lt (h.get hw) hz,hno _ (j5 hp),hno⟩
  ·intro z hz; cases hz
 obtain⟨h0,vs,h1,h2,h3⟩:=hP.rows i row he hne;have hcs:(Value.agg #[.bool e,.slice a w.length c]).cells=#[.bool e,.slice a w.length c]:=rfl;have hst:dE E.P ty (ptr (ρ i) (j*2+0)) (.agg #[.bool e,.slice a w.length c]) m=some (m.set (ρ i) (.cells (au vs (j*2+0) [.bool e,.slice a w.length c]) .own)):=Aa ht.known (by rw[ht.size]; rfl) rfl (by rw[hcs]; simp) h1 (by rw[hcs]; simp only[List.length_cons,List.length_nil]; omega)
 have e2:=Go.Ab.wU (t:=t) (E:=E) (hf.ev hx) (hf.ev hy) hst K;rw[e2];have hnext:(m.set (ρ i) (.cells (au vs (j*2+0) [.bool e,.slice a w.length c]) .own)).next=m.next:=AMem.next_set ..
 have hget:∀z,z≠ρ i→(m.set (ρ i) (.cells (au vs (j*2+0) [.bool e,.slice a w.length c]) .own)).get z=m.get z:=fun z hz=>by rw[AMem.bD,if_neg hz]
 have hself:wL ρ L (ρ i):=⟨i,row,he,hne,rfl⟩;have hmr:∀z,wL ρ (L.set i (row.set j (e,w))) z↔wL ρ L z:=fun z=>by
  constructor
  ·rintro⟨q,r,q1,q2,q0⟩;rcases at_set q1 with⟨e0,_,_⟩|⟨e0,q4⟩
   ·subst e0; rw[q0]; exact hself
   ·exact⟨q,r,q4,q2,q0⟩
  ·rintro⟨q,r,q1,q2,q0⟩
   by_cases e0:i=q
   ·subst e0;refine⟨i,row.set j (e,w),by rw[List.getElem?_set_self (List.getElem?_eq_some_iff.1 he).1],fun g=>?_,q0⟩
    have:=congrArg List.length g;rw[List.length_set] at this;simp at this;exact hne this
   ·exact⟨q,r,by rw[List.getElem?_set_ne e0]; exact q1,q2,q0⟩
 have h4:row.set j (e,w)≠[]:=fun g=>by
  have:=congrArg List.length g;rw[List.length_set] at this;simp at this;exact hne this
 have hap:∀z,gE a=some z→z≠ρ i:=fun z hz g=>(haw z hz).2.1 (.inr (.inr (g ▸ hself)));refine hK _ ⟨h.ext.set (Pc.nW hk rfl (.inr (.inr hself))) _,fun p hpm=>?_,ft hp (fun r hr hapr=>⟨fun z g1 g0=>?_,fun z g1 g0=>?_⟩) h.apart⟩
 ·rcases oC hp h.apart hpm with rfl|⟨hpm,h5⟩
  ·refine⟨⟨by rw[hnext]; exact hP.lt,by rw[List.length_set]; exact hP.len,?_,fun q r hq hr=>?_,fun z hz=>?_,fun q r hq hr=>?_,fun q q' r r' hq hq' hr hr' heq=>?_⟩,fun _ z hz=>?_⟩
   ·obtain⟨cs,c2,c3,c1⟩:=hP.cells;refine⟨cs,by rw[hget b fun g=>hP.out i row he hne g.symm]; exact c2,c3,fun q r hq=>?_⟩
    rcases at_set hq with⟨e0,rfl,_⟩|⟨e0,q4⟩
    ·subst e0;exact .inr ⟨h4,by rw[List.length_set]; exact((c1 i row he).resolve_left fun g=>hne g.1).2⟩
    ·exact c1 q r q4
   ·rcases at_set hq with⟨e0,rfl,_⟩|⟨e0,q4⟩
    ·subst e0;refine⟨by rw[hnext]; exact h0,_,by rw[AMem.bD,if_pos rfl],by rw[bO,h2,List.length_set],fun q v hv=>?_⟩
     rcases at_set hv with⟨e1,rfl,q5⟩|⟨e1,q5⟩
     ·subst e1;obtain⟨c',r1,r2⟩:=hrd;refine⟨by rw[aL,if_pos ⟨by omega,by simp only[List.length_cons,List.length_nil]; omega,by omega⟩]; simp,a,c,by rw[aL,if_pos ⟨by omega,by simp only[List.length_cons,List.length_nil]; omega,by omega⟩]; simp,?_,fun z hz=>.inr hz⟩
      have r0:Rd (m.set (ρ i) (.cells (au vs (j*2+0) [.bool e,.slice a w.length c]) .own)) a c' 1 w.length (w.map (eN .u64)):=r1.dV (by rw[hnext]; exact Nat.le_refl _) fun z hz _=>hget z (hap z hz)
      cases a with
      | none =>
       have r3:w.length=0:=by
        rcases r0.2.2 with⟨_,g⟩|⟨_,_,g,_⟩|⟨_,_,g,_⟩
        ·exact g
        ·cases g
        ·cases g
       exact⟨r0.1,by show w.length≤c; omega,.inl ⟨rfl,r3⟩⟩
      | some ad=>rw[r2 (by simp)] at r0; exact r0
     ·obtain⟨s1,a',c',s2,s3,s4⟩:=h3 q v q5;refine⟨by rw[aL,if_neg (by simp only[List.length_cons,List.length_nil]; omega)]; exact s1,a',c',by rw[aL,if_neg (by simp only[List.length_cons,List.length_nil]; omega)]; exact s2,s3.dV (by rw[hnext]; exact Nat.le_refl _) (fun z hz _=>hget z fun g=>(hP.rw z (s4 z hz)).2.2 (g ▸ hself)),fun z hz=>.inl (s4 z hz)⟩
    ·refine(hP.rows q r q4 hr).dV (by rw[hnext]; exact Nat.le_refl _) (fun z hz _=>hget z fun g=>?_) fun z hz=>.inl hz
     rcases hz with rfl|hz
     ·exact e0 (hP.inj q i r row q4 he hr hne g).symm
     ·exact(hP.rw z hz).2.2 (g ▸ hself)
   ·rcases hz with hz|hz
    ·exact⟨by rw[hnext]; exact(hP.rw z hz).1,(hP.rw z hz).2.1,fun g=>(hP.rw z hz).2.2 ((hmr z).1 g)⟩
    ·exact⟨by rw[hnext]; exact(haw z hz).1,fun g=>(haw z hz).2.1 (.inr (.inl g)),fun g=>(haw z hz).2.1 (.inr (.inr ((hmr z).1 g)))⟩
   ·rcases at_set hq with⟨e0,_,_⟩|⟨e0,q4⟩
    ·subst e0; exact hP.out i row he hne
    ·exact hP.out q r q4 hr
   ·have fix:∀q r,(L.set i (row.set j (e,w)))[q]? = some r→r≠[]→∃r',L[q]? = some r'∧r'≠[]:=fun q r hq hr=>by
     rcases at_set hq with⟨e0,_,_⟩|⟨e0,q4⟩
     ·subst e0; exact⟨row,he,hne⟩
     ·exact⟨r,q4,hr⟩
    obtain⟨s,s1,s2⟩:=fix q r hq hr;obtain⟨s',s1',s2'⟩:=fix q' r' hq' hr';exact hP.inj q q' s s' s1 s1' s2 s2' heq
   ·rcases hz with rfl|hz
    ·exact Pc.nW hk rfl (.inr (.inl rfl))
    ·exact Pc.nW hk rfl (.inr (.inr ((hmr z).1 hz)))
  ·exact Pc.fU (h.ok p hpm) (by rw[hnext]; exact Nat.le_refl _) fun z hz _=>hget z fun g=>h5.2 z (.inr (.inr (g ▸ hself))) hz
 ·rcases g1 with g1|g1
  ·cases g1.1
  ·rcases g1 with rfl|g1
   ·exact hapr.1 _ (.inr (.inl rfl)) g0
   ·exact hapr.1 _ (.inr (.inr ((hmr z).1 g1))) g0
 ·rcases g0 with g0|g0
  ·cases g0
  ·rcases g0 with(rfl|g0) | (g0|g0)
   ·exact hapr.2 _ g1 (.inr (.inl (.inl rfl)))
   ·exact hapr.2 _ g1 (.inr (.inl (.inr ((hmr z).1 g0))))
   ·exact hapr.2 _ g1 (.inr (.inr g0))
   ·exact(haw z g0).2.2 r hr g1⟩
end
abbrev kI:Int→Value:=fun n=>.int .i64 n
abbrev vB:Bool→Value:=fun b=>.bool b
def B0 (m:AMem) (H:Nat→Prop) (bo:Option Nat) (xs:List (Int × Bool)):Prop:=(bo=none∧xs = [])∨∃b,bo=some b∧H b∧m.get b=some (.map (xs.map (eM kI vB)))
theorem B0.nil {m:AMem} {H:Nat→Prop}:B0 m H none []:=.inl ⟨rfl,rfl⟩
def PV (H:Nat→Prop) (M:List (Option Nat × List (Int × Bool))):GPc where
 ow:=H
 rd:=fun _=>False
 P m:=(∀b,H b→b<m.next)∧∀p ∈ M,B0 m H p.1 p.2
 fr:=true
 st m m' h hn hg:=⟨fun b hb=>Nat.lt_of_lt_of_le (h.1 b hb) hn,fun p hp=>(h.2 p hp).imp id fun⟨b,h1,h2,h3⟩=>⟨b,h1,h2,by rw[hg b (.inl h2) (h.1 b h2)]; exact h3⟩⟩
 lt m b h hb:=hb.elim (h.1 b) fun h=>h.elim
section
variable {E : Env} {m0 m : AMem} {fs : Fs} {ps : List Pc} {x y z : Operand} {ty : TypeId} {H : Nat → Prop} {M : List (Option Nat × List (Int × Bool))}
theorem Hp.vm {l0:List Pc} (h:Hp m0 m (l0++[.gen (oE H)])) (hM:∀p ∈ M,B0 m H p.1 p.2):Hp m0 m (l0++[.gen (PV H M)]):=by
 have ha:=List.pairwise_append.1 h.apart;refine⟨h.ext,fun p hp=>?_,List.pairwise_append.2 ⟨ha.1,List.pairwise_singleton ..,fun p hp q hq=>?_⟩⟩
 ·rcases List.mem_append.1 hp with hp|hp
  ·exact h.ok p (List.mem_append_left _ hp)
  ·rw[List.mem_singleton.1 hp];have h0:Pc.ok m0.next m (.gen (oE H)):=h.ok _ (List.mem_append_right _ (List.mem_singleton.2 rfl))
   exact⟨⟨h0.1,hM⟩,fun h=>by cases h⟩
 ·rw[List.mem_singleton.1 hq];have h1:Pc.apart p (.gen (oE H)):=ha.2.2 p hp _ (List.mem_singleton.2 rfl);exact⟨fun b a c=>h1.1 b a c,fun b a c=>h1.2 b a c⟩
theorem Hp.Ry {l0:List Pc} {bo bo':Option Nat} {xs xs':List (Int × Bool)} (h:Hp m0 m (l0++[.gen (oE H)])) (h1:B0 m H bo xs) (h2:B0 m H bo' xs'):Hp m0 m (l0++[.gen (PV H [(bo,xs),(bo',xs')])]):=h.vm fun p hp=>by
 rcases List.mem_cons.1 hp with rfl|hp
 ·exact h1
 ·rw[List.mem_singleton.1 hp]; exact h2
theorem ak.Rl {k:Nat} (hp:pk ps k=some (.gen (PV H M))):ak m0 ps (cG ps k (.gen (oE H))):=fun m h =>
 h.QW hp (fun b hb=>.inl hb) (fun b hb=>.inl hb) (Nat.le_refl _) h.ext ⟨(h.get hp).1.1,fun h=>by cases h⟩ fun _ _ _=>rfl
theorem Hp.RS {k b:Nat} {xs:List (Int × Bool)} (h:Hp m0 m ps) (hp:pk ps k=some (.obj b (.map (xs.map (eM kI vB))))):B0 m (wG ps) (some b) xs:=.inr ⟨b,rfl,⟨_,j5 hp,.inl ⟨rfl,rfl⟩⟩,(h.get hp).2.2⟩
theorem Ll {kt et k q:Nat} {bo:Option Nat} {xs:List (Int × Bool)} {i:Int} {v:Bool} (hu:E.P.underlying ty=some (.map kt et)) (hk:KeyE E.P kt kI) (hz:bu E.P et=some (.bool false)) (hx:ev E fs x=some (.map bo)) (hy:ev E fs y=some (.int .i64 i)) (hp:pk ps k=some (.gen (PV H M))) (hq:M[q]? = some (bo,xs)) (hv:some ((aP xs i).getD false)=some v) :
  Od E m0 fs ps (.lookup ty x y false) (.bool v) ps:=by
 cases hv;intro t m hf h;have hM:=(h.get hp).1.2 _ (List.mem_of_getElem? hq);rcases hM with⟨h1,h2⟩|⟨b,h1,h2,h3⟩
 ·simp only at h1 h2;subst h1 h2;exact O1 (vE:=vB) (z0:=false) (k:=i) hu hk hz rfl hx hy t m hf h
 ·simp only at h1 h3;subst h1;refine⟨fun b' hb'=>?_,fun K hK=>?_⟩
  ·simp only[aE,hf.ev hx] at hb';cases hb'; exact(h.get hp).1.1 b h2
  ·have:=sR (c:=false) (k:=i) (vE:=vB) (z0:=false) hu hk hz rfl h3;unfold aZ;simp only[iD,cM,hf.ev hx,hf.ev hy,this,Option.map_some];exact hK m h
theorem PU {elem:TypeId} {i:Int} (ht:SlT E.P ty elem 1) (hx:ev E fs x=some (.int .i64 i)) (hi:decide (0≤i)=true) (hl:mj i.toNat=true) (hz:bu E.P elem=some (.slice none 0 0)) :
  Ox E m0 fs ps (.makeSlice ty x x) (fun b=>.slice (some ⟨b,0,none⟩) i.toNat i.toNat) (fun b=>.gen (nU b i.toNat (fun _=>0) (fun _=>False) (List.replicate i.toNat []))::ps):=fun t m hf hm =>
 have h:=Oa (m0:=m0) (ps:=ps) ht hx (Int.toNat_of_nonneg (of_decide_eq_true hi)).symm hl hz rfl t m hf hm
 ⟨h.1,fun K hK=>h.2 K fun b m' hm'=>hK b m' (ak.Ph m' hm')⟩
theorem Pz {elem:TypeId} {i:Int} (ht:SlT E.P ty elem 2) (hx:ev E fs x=some (.int .i64 i)) (hi:decide (0≤i)=true) (hl:mj i.toNat=true) (hz:bu E.P elem=some (.agg #[.bool false,.slice none 0 0])) :
  Ox E m0 fs ps (.makeSlice ty x x) (fun b=>.slice (some ⟨b,0,none⟩) i.toNat i.toNat) (fun b=>.arr b 2 i.toNat (List.replicate i.toNat [.bool false,.slice none 0 0]) .own::ps) :=
 Oa (m0:=m0) (ps:=ps) ht hx (Int.toNat_of_nonneg (of_decide_eq_true hi)).symm hl hz rfl
theorem Qq {α β:Type} [DecidableEq α] {kt et b q:Nat} {kE:α→Value} {vE:β→Value} {xs:List (α × β)} {k:α} {v:β} (hu:E.P.underlying ty=some (.map kt et)) (hk:KeyE E.P kt kE) (hx:ev E fs x=some (.map (some b))) (hy:ev E fs y=some (kE k)) (hz:ev E fs z=some (vE v)) (hp:pk ps q=some (.obj b (.map (xs.map (eM kE vE))))) :
  Od E m0 fs ps (.insert ty x y z) undef (cG ps q (.obj b (.map ((bR xs k v).map (eM kE vE))))) :=
 fun t m hf h=>⟨fun b' hb'=>by simp[aE] at hb',fun K hK=>by
  have hg:=(h.get hp).2.2;have hup:cJ E.P ty (.map (some b)) (kE k) (vE v) m=some (m.set b (.map ((bR xs k v).map (eM kE vE)))):=by
   simp only[cJ,hu,hg,hk.ok,if_true,lP hk,bR];cases hfd:cz k xs 0 with
   | none=>simp only[Option.map_none,List.map_append,List.map_cons,List.map_nil]; rfl
   | some p =>
    obtain⟨h1,h2,h3⟩:=q9 k xs 0 p hfd;simp only[Nat.sub_zero] at h3;have hst:gZ (xs.map (eM kE vE)) p.1 (kE k)=true:=by
     simp only[gZ,List.getElem?_map,h3,Option.map_some,eM,hk.plain,hk.same,Bool.and_self]
    simp only[Option.map_some,hst,if_true];rw[nh k v xs p.1 (by omega)]
  unfold aZ;simp only[iD,cM,hf.ev hx,hf.ev hy,hf.ev hz,hup,Option.map_some];exact hK _ (h.write hp rfl rfl rfl rfl ⟨(h.get hp).1,by rw[AMem.next_set]; exact(h.get hp).2.1,by rw[AMem.bD,if_pos rfl]⟩)⟩
end
end Go.Ab.W
end

section
namespace Go.Proofs.YtookeaakpiefjaaGreatDoor
open Go Go.Ab Go.Ab.W
def uf:List Value→List Int→Bool
 | [],[]=>true
 | .int .u8 n::vs,k::ks=>n == k && uf vs ks
 | _,_=>false
theorem rZ:∀{vs:List Value} {ks:List Int},uf vs ks=true→vs=ks.map (.int .u8)
 | [],[],_=>rfl
 | [],_::_,h=>by cases h
 | v::vs,[],h=>by simp[uf] at h
 | v::vs,k::ks,h=>by
  unfold uf at h
  split at h
  ·rename_i e _; cases e
  ·rename_i n vs' k' ks' e1 e2;cases e1; cases e2;simp only[Bool.and_eq_true,beq_iff_eq] at h;rw[h.1,rZ h.2]; rfl
  ·cases h
def yB (m:AMem):Bool :=
 match m.get 0 with
 | some (.cells cs .ro)=>uf cs eU
 | _=>false
theorem Ar {m:AMem} (h:yB m=true):m.get 0=some (.cells (eU.map (.int .u8)) .ro):=by
 unfold yB at h
 split at h
 ·rename_i cs hg; rw[hg,rZ h]
 ·cases h
theorem Ah:∀x c,yH x=some c→c.all aw=true:=by
 intro x c h;unfold yH at h
 split at h
 ·cases h;rw[List.all_map];exact List.all_eq_true.2 fun x _=>rfl
 ·cases h
theorem Ex:∃fuel m',run qI fuel (.call 8 [] Rh)=some (.val (.bool true) m')∧1≤m'.wl:=xF (E:=qI) (F:=wS) (n:=1000) (g:=1) EX AY
def jE (args:List Value) (m:AMem):Option (Value × AMem) :=
 match args with
 | []=>if yB m then some (.bool true,m) else none
 | _=>none
theorem wT {args:List Value} {m m':AMem} {v:Value} (h:jE args m=some (v,m')) {j:aJ} {w:World} {args':List Value} (hm:MR qI j m w) (hl:LR j args args') :
  ir qI.P (qI.cV 8).isSome 8 args'.toArray w (jI qI j m w v m'):=by
 unfold jE at h
 split at h
 ·split at h
  ·rename_i ht;cases h;obtain⟨fuel,m0,h1,h2⟩:=Ex;refine vj (E:=qI) (gs:=yH) FU Ah h1 h2 rfl hm (fun x c hx hg=>?_) hl;have hx:x<1:=hx;have:x=0:=by omega
   subst this;simp only[yH,if_true,Option.some.injEq] at hg;rw[←hg]; exact Ar ht
  ·cases h
 ·cases h
def Gn (f:FuncId):Option Prim:=if f=8 then some ⟨jE⟩ else if f=30 then some ⟨Bn⟩ else K1 f
noncomputable def an:Env:={ P:=Tryz.prog,glob:=1,cV:=Gn}
theorem JG:EnvOk an:=A9 (E:=qI) FU (pr:=Gn) fun f p hp=>by
 unfold Gn at hp
 split at hp
 ·rename_i e;cases hp;subst e;exact .inr fun args m v m' h j w args' hm hl=>wT h hm hl
 ·split at hp
  ·rename_i e;cases hp;subst e;exact .inr fun args m v m' h j w args' hm hl=>Bz h hm hl
  ·exact .inl hp
def Gl (m:AMem):Prop:=m.get 0=some (.cells (eU.map (.int .u8)) .ro)∧0<m.next
theorem Gl.ext {m m':AMem} (h:Gl m) (e:Ext m m'):Gl m':=⟨by rw[e.same 0 h.2]; exact h.1,Nat.lt_of_lt_of_le h.2 e.next⟩
def F8 (_:Nat):Option Bool:=some true
theorem Qc (n:Nat) (r:Bool) (hF:F8 n=some r) (m:AMem) (hG:Gl m):aB an 8 [] m (fun v m'=>∃_:Unit,v = .bool r∧Hp m m' []):=by
 cases hF;refine aB.cV (p:=⟨jE⟩) rfl (v:=.bool true) (m':=m) ?_ ⟨(),rfl,Hp.start m⟩;have ht:yB m=true:=by
  unfold yB;rw[hG.1];exact(by decide +kernel:uf (eU.map (.int .u8)) eU=true)
 show jE [] m=_
 simp only[jE,ht,if_true]
end Go.Proofs.YtookeaakpiefjaaGreatDoor
end

section
namespace Go.Proofs.YtookeaakpiefjaaGreatDoor
set_option maxRecDepth 100000
open Go Go.ChangeShapes Go.WideShapes Go.ChangeAt Go.WideMaps Go.WideElems Go.RowKit Go.Ab Go.Ab.W
theorem Qr:G7 Tryz.prog 5 25=some [.int .u8,.int .u8,.int .u16,.sl 141]:=by kernel_rfl
theorem PR:G7 Tryz.prog 5 141=some [.int .u8,.int .u8]:=by kernel_rfl
theorem O9:Tryz.prog.underlying 26=some (.int .u64):=by kernel_rfl
section
variable {H : Type} {enc : TypeId × Value → H} {W : World} {sp : Nat → Bool} {held : Bool} {v : Value} {d : DataW H} {p : List MemPlace} {base : Nat}
theorem M9:∀(n:Nat) (cs:List Value) (x:DataW H × List MemPlace),DataW.trod enc Tryz.prog W 0 sp held n 141 cs=some x→∃p:Nat × Nat,cs=eP (eN .u8) (eN .u8) p∧p.1<256∧p.2<256:=by
 intro n cs x h;obtain⟨v1,cs,rfl,h1,h⟩:=hY (yr 5 141 _ PR n _ x h);obtain⟨v2,cs,rfl,h2,h⟩:=hY h;obtain rfl:=Al h;obtain⟨a,rfl,ha⟩:=wD h1;obtain⟨b,rfl,hb⟩:=wD h2;exact⟨(a,b),rfl,ha,hb⟩
theorem O3 (hok:Value.okWide Tryz.prog W .any base 25 v) (hs:0<W.heap.size) (h:DataW.Trod enc Tryz.prog W 0 sp held 25 v d p):∃(x1 x2 x3:Nat) (l:List (Nat × Nat)) (a:Option Addr) (c:Nat),
  VR (gO W) (.agg #[.int .u8 ((x1:Nat):Int),.int .u8 ((x2:Nat):Int),.int .u16 ((x3:Nat):Int),.slice a l.length c]) v∧x1<256∧x2<256∧x3<65536∧(∀q ∈ l,q.1<256∧q.2<256)∧l.length≤maxLen∧Rd (eZ W) a c 2 l.length (l.map (eP (eN .u8) (eN .u8))):=by
 obtain⟨cs,rfl,_⟩:=okWide_struct (t:=25) (fs:=Tryz.prog.underlying 25 |>.elim #[] fun u=>match u with | .struct fs=>fs|_=>#[]) (by kernel_rfl) hok
 obtain⟨n,h⟩:=h;obtain⟨v1,r,hr,h1,h⟩:=hY (Bw Qr h);obtain⟨v2,r,rfl,h2,h⟩:=hY h;obtain⟨v3,r,rfl,h3,h⟩:=hY h;obtain⟨v4,r,rfl,h4,h⟩:=hY h;obtain rfl:=Al h;obtain⟨x1,rfl,g1⟩:=wD h1;obtain⟨x2,rfl,g2⟩:=wD h2;obtain⟨x3,rfl,g3⟩:=KK h3;obtain⟨a,c,l,e1,e2,e3,e4⟩:=Nw (f:=eP (eN .u8) (eN .u8)) (w:=2) (by kernel_rfl) (by omega) hs (fun q=>rfl) M9 h4
 refine⟨x1,x2,x3,l,a,c,?_,g1,g2,g3,e3,e4,e2⟩;refine M7 (l:=[.int .u8 ((x1:Nat):Int),.int .u8 ((x2:Nat):Int),.int .u16 ((x3:Nat):Int),.slice a l.length c]) ?_;rw[hr];exact .cons (.int _ _) (.cons (.int _ _) (.cons (.int _ _) (.cons e1 (.nil _))))
theorem Qg (hok:Value.okWide Tryz.prog W .any base 26 v) (h:DataW.Trod enc Tryz.prog W 0 sp held 26 v d p):∃n:Nat,v = .int .u64 ((n:Nat):Int)∧n<2 ^ 64:=by
 obtain⟨k,rfl⟩:=okWide_int O9 hok;obtain⟨n,h⟩:=h;obtain⟨m,e,_,hw⟩:=DataW.trod_int O9 h;exact J2 (enc:=enc) (P:=Tryz.prog) (W:=W) (base:=0) (sp:=sp) (held:=held) ⟨m,by cases e; rfl,hw⟩
end
theorem Ov:laidOutB Tryz.prog=true:=by kernel_rfl
theorem I8:mapsRowed Tryz.prog=true:=by kernel_rfl
theorem K9:sizedB Tryz.prog=true:=by kernel_rfl
theorem NB {W:World} (h:laidMetH Tryz.prog rN W):Gl (eZ W)∧0<W.heap.size:=by
 rw[MakeChecks.laidMetH_plain _ _ _ (by kernel_rfl)] at h
 obtain⟨ps,hL,_⟩:=h;have ht:(Tryz.prog.globals[0]?).map (·.type)=some 182:=by kernel_rfl
 obtain⟨c,ty,fz,h1,h2⟩:=DL (L:=eU) (k:=.u8) (N:=64) (t:=182) (e:=5) Q3 ht (by kernel_rfl) (by kernel_rfl) (by kernel_rfl) (by kernel_rfl) rfl hL
 have hs:0<W.heap.size:=(Array.getElem?_eq_some_iff.1 h1).1;refine⟨⟨?_,hs⟩,hs⟩;rw[nG h1,h2,List.map_map]
 congr 2
theorem Eg {H:Type} {enc:TypeId × Value→H} {f:FuncId} {fn:Func} {s:ChangeSpec} {W:World} {args:Array Value} {ds:List (DataW H)} {before:List MemPlace} {tb:TypeId} {fresh handsOn:Bool} {absArgs:List Value} (hpr:an.cV f=none)
  (hvars:s.vars = []) (hres:fn.resultTypes.toList = [tb]) (hrs:fn.resultTypes.size=1) (htb:Tryz.prog.underlying tb=some .bool) (hpt:∀t ∈ fn.params.toList,t<Tryz.prog.types.size) (hfn:s.fn H ds = { results:=[.lit (.bool true)],args:=ds,vars:=[]})
  (hW:DataW.Whole enc Tryz.prog fn.params.toList s.vars false W args.toList ds [] before) (hs:0<W.heap.size)
  (hl:LR (gO W) absArgs args.toList) (hc:aB an f absArgs (eZ W) (fun v m'=>∃_:Unit,v = .bool true∧Hp (eZ W) m' [])) :
  Calls Tryz.prog f args W fun e W'=>∃v,e = .returned v∧s.post enc Tryz.prog fn false fresh handsOn false W args v W':=by
 obtain⟨v,m',⟨fuel,hrun⟩,_,rfl,hm'⟩:=hc;have hm:MR an (gO W) (eZ W) W:=Mk hs;have hcall:=callsIn_wide.1 (wA JG hrun hpr hm hl);refine hcall.mono fun e W' ⟨v',he,j',sm,hv⟩=>?_;have hv':v' = .bool true:=dG rfl hv;subst hv';have hwl:(eZ W).next≤m'.wl:=by
  have h1:=hm'.ext.wl;have h2:min (eZ W).wl (eZ W).next=(eZ W).next:=Nat.min_self _
  omega
 exact⟨_,he,HH Ov I8 K9 hvars hres hrs htb hpt hfn hW sm.calm (sm.grown hm hwl)⟩
end Go.Proofs.YtookeaakpiefjaaGreatDoor
end

section
namespace Go.Proofs.YtookeaakpiefjaaGreatDoor
open Go Go.Ab Go.Ab.W
def EZ (_:Nat) (x y c:Nat):Option (Nat × Nat):=gd (decide (c≤1)) (some ((x+y+c)%18446744073709551616,(x+y+c)/18446744073709551616))
def JO (_:Nat) (x y c:Nat):Option (Nat × Nat):=gd (decide (c≤1)) (some ((x+18446744073709551616-y-c)%18446744073709551616,if x<y+c then 1 else 0))
theorem uA {V:Nat→Nat→Nat→Value} {x y c:Nat} (hc:c≤1) (m:AMem):ee V [.int .u64 ((x:Nat):Int),.int .u64 ((y:Nat):Int),.int .u64 ((c:Nat):Int)] m=some (V x y c,m):=by
 show(if Nat.ble c 1 then some (V x y c,m) else none)=_
 rw[Nat.ble_eq_true_of_le hc]; rfl
theorem wF (n:Nat) (x y c:Nat) (r:Nat × Nat) (hF:EZ n x y c=some r) (m:AMem) :
  aB an 155 [.int .u64 ((x:Nat):Int),.int .u64 ((y:Nat):Int),.int .u64 ((c:Nat):Int)] m (fun v m'=>∃_:Unit,v = .tuple #[.int .u64 ((r.1:Nat):Int),.int .u64 ((r.2:Nat):Int)]∧Hp m m' []):=by
 obtain⟨hc,hF⟩:=ax hF;have hr:=Option.some.inj hF;subst hr;exact aB.cV (p:=⟨ee zA⟩) rfl (uA (of_decide_eq_true hc) m) ⟨(),rfl,.start m⟩
theorem B2 (n:Nat) (x y c:Nat) (r:Nat × Nat) (hF:JO n x y c=some r) (m:AMem) :
  aB an 148 [.int .u64 ((x:Nat):Int),.int .u64 ((y:Nat):Int),.int .u64 ((c:Nat):Int)] m (fun v m'=>∃_:Unit,v = .tuple #[.int .u64 ((r.1:Nat):Int),.int .u64 ((r.2:Nat):Int)]∧Hp m m' []):=by
 obtain⟨hc,hF⟩:=ax hF;have hr:=Option.some.inj hF;subst hr;exact aB.cV (p:=⟨ee w8⟩) rfl (uA (of_decide_eq_true hc) m) ⟨(),by
  show w8 x y c=_
  unfold w8
  split<;>rfl,.start m⟩
end Go.Proofs.YtookeaakpiefjaaGreatDoor
end

section
namespace Go.Ab
open Go
theorem KV (y w:Nat):∀x,x<2 ^ w→y=2 ^ w-1-x→x &&& y=0:=by
 intro x hx hy;apply Nat.eq_of_testBit_eq;intro i;rw[Nat.testBit_and,hy,show 2 ^ w-1-x=2 ^ w-(x+1) by omega,Nat.testBit_two_pow_sub_succ hx,Nat.zero_testBit]
 by_cases hi:i<w
 ·simp[hi]
 ·simp[hi]
theorem KO (a b:Nat):(2*a) &&& (2*b)=2*(a &&& b):=by
 apply Nat.eq_of_testBit_eq;intro i;rw[Nat.testBit_and];cases i with
 | zero=>simp
 | succ i=>rw[Nat.testBit_succ,Nat.testBit_succ,Nat.testBit_succ,show 2*a/2=a by omega,show 2*b/2=b by omega,show 2*(a &&& b)/2=a &&& b by omega,Nat.testBit_and]
theorem IS (a b:Nat):(2*a+1) &&& (2*b+1)=2*(a &&& b)+1:=by
 apply Nat.eq_of_testBit_eq;intro i;rw[Nat.testBit_and];cases i with
 | zero=>simp
 | succ i=>rw[Nat.testBit_succ,Nat.testBit_succ,Nat.testBit_succ,show(2*a+1)/2=a by omega,show(2*b+1)/2=b by omega,show(2*(a &&& b)+1)/2=a &&& b by omega,Nat.testBit_and]
theorem Df:∀(w x:Nat),0<x→x<2 ^ w→∃k,k<w∧x &&& (2 ^ w-x)=2 ^ k∧∃q,x=2 ^ k*(2*q+1)
 | 0,x,h0,h1=>by simp at h1; omega
 | w+1,x,h0,h1=>by
  rw[Nat.pow_succ] at h1 ⊢;rcases Nat.mod_two_eq_zero_or_one x with h|h
  ·obtain⟨y,rfl⟩:∃y,x=2*y:=⟨x/2,by omega⟩
   obtain⟨k,hk,h2,q,h3⟩:=Df w y (by omega) (by omega)
   refine⟨k+1,by omega,?_,q,?_⟩
   ·rw[show 2 ^ w*2-2*y=2*(2 ^ w-y) by omega,KO,h2,Nat.pow_succ]; omega
   ·rw[h3,Nat.pow_succ,Nat.mul_comm (2 ^ k) 2,Nat.mul_assoc]
  ·obtain⟨y,rfl⟩:∃y,x=2*y+1:=⟨x/2,by omega⟩
   refine⟨0,by omega,?_,y,by simp⟩
   rw[show 2 ^ w*2-(2*y+1)=2*(2 ^ w-1-y)+1 by omega,IS,KV _ w y (by omega) rfl]
def tz (x:Nat):Nat:=if x=0 then 64 else Nat.log2 (x &&& (2 ^ 64-x))
theorem kQ {x:Nat} (h0:0<x) (h1:x<2 ^ 64):tz x<64∧x &&& (2 ^ 64-x)=2 ^ tz x∧∃q,x=2 ^ tz x*(2*q+1):=by
 obtain⟨k,hk,h2,h3⟩:=Df 64 x h0 h1;have:tz x=k:=by unfold tz; rw[if_neg (by omega),h2,Nat.log2_two_pow]
 rw[this]; exact⟨hk,h2,h3⟩
end Go.Ab
end

section
namespace Go.Proofs.YtookeaakpiefjaaGreatDoor
open Go Go.Ab
set_option maxRecDepth 10000
theorem RT:Tryz.prog.underlying 3=some (.int .i64):=by kernel_rfl
theorem RF:Tryz.prog.underlying 5=some (.int .u8):=by kernel_rfl
theorem OY:Tryz.prog.underlying 182=some (.array 64 5):=by kernel_rfl
theorem Rf:known Tryz.prog 5=true:=by kernel_rfl
theorem RK:al Tryz.prog 5=1:=by kernel_rfl
theorem RE:cS Tryz.prog 5=false:=by kernel_rfl
theorem Nj:∀k:Fin 64,(eU.map (Value.int .u8))[(2 ^ k.val*285870213051353865%2 ^ 64) >>> 58]?.map (fun v=>match v with | .int .u8 n=>decide (n=k.val) | _=>false)=some true:=by decide +kernel
theorem NZ (k:Nat) (hk:k<64):(eU.map (Value.int .u8))[(2 ^ k*285870213051353865%2 ^ 64) >>> 58]? = some (.int .u8 (k:Int)):=by
 have:=Nj ⟨k,hk⟩;cases h:(eU.map (Value.int .u8))[(2 ^ k*285870213051353865%2 ^ 64) >>> 58]? with
 | none=>rw[h] at this; cases this
 | some v =>
  rw[h] at this;simp only[Option.map_some,Option.some.injEq] at this
  split at this
  ·rw[of_decide_eq_true this]
  ·cases this
def ua (x:Nat):Nat:=2 ^ 64-x
def sX (x y:Nat):Nat:=x*y%2 ^ 64
theorem KA (x:Nat) (h0:0<x) (h1:x<2 ^ 64):zu .neg (.int .u64 (x:Int))=some (.int .u64 ((ua x:Nat):Int)):=by
 simp only[zu,ua];have:IntKind.u64.wrap (0-(x:Int))=((2 ^ 64-x:Nat):Int):=by
  unfold IntKind.wrap IntKind.bits IntKind.signed;simp only[Bool.false_and,Bool.false_eq_true,if_false];omega
 rw[this]
theorem IQ {ty:TypeId} {P:Program} (x:Nat):aY .mul ty P (.int .u64 (x:Int)) (.int .u64 285870213051353865)=some (.int .u64 ((sX x 285870213051353865:Nat):Int)):=by
 simp only[aY,if_true,sX];have:IntKind.u64.wrap ((x:Int)*285870213051353865)=((x*285870213051353865%2 ^ 64:Nat):Int):=by
  unfold IntKind.wrap IntKind.bits IntKind.signed;simp only[Bool.false_and,Bool.false_eq_true,if_false];omega
 rw[this]
theorem KG {ty:TypeId} {P:Program} (x:Nat):aY .shr ty P (.int .u64 (x:Int)) (.int .u64 58)=some (.int .u64 ((x >>> 58:Nat):Int)):=DM x 58 .u64 (by omega)
theorem I6 {ty:TypeId} {P:Program} (x:Nat) (h0:0<x) (h1:x<2 ^ 64):aY .and ty P (.int .u64 (x:Int)) (.int .u64 ((ua x:Nat):Int))=some (.int .u64 ((2 ^ tz x:Nat):Int)):=by
 rw[uW x (ua x) h1 (by unfold ua; omega)]
 unfold ua;rw[(kQ h0 h1).2.1]
theorem JD (k:Nat) (_:k<64):bB Tryz.prog 182 (ptr 0 0) (.int .u64 ((sX (2 ^ k) 285870213051353865 >>> 58:Nat):Int))=some (ptr 0 (sX (2 ^ k) 285870213051353865 >>> 58)):=by
 have hlt:sX (2 ^ k) 285870213051353865 >>> 58<64:=by
  rw[Nat.shiftRight_eq_div_pow];have:sX (2 ^ k) 285870213051353865<2 ^ 64:=Nat.mod_lt _ (by omega)
  omega
 rw[Hk OY Rf RK hlt];simp
def FE (k:Nat):Nat:=sX (2 ^ k) 285870213051353865
def CT (k:Nat):Nat:=FE k >>> 58
theorem Nv {ty:TypeId} {P:Program} (k:Nat):aY .mul ty P (.int .u64 ((2 ^ k:Nat):Int)) (.int .u64 285870213051353865)=some (.int .u64 ((FE k:Nat):Int)):=IQ _
theorem MX {ty:TypeId} {P:Program} (k:Nat):aY .shr ty P (.int .u64 ((FE k:Nat):Int)) (.int .u64 58)=some (.int .u64 ((CT k:Nat):Int)):=KG _
theorem Ni (k:Nat) (hk:k<64):bB Tryz.prog 182 (ptr 0 0) (.int .u64 ((CT k:Nat):Int))=some (ptr 0 (CT k)):=JD k hk
theorem Gj (n:Nat) (h:n<2 ^ 63):eK Tryz.prog 5 3 (.int .u8 (n:Int))=some (.int .i64 (n:Int)):=by
 simp only[eK,RF,RT];rw[wrap_i64 _ (by omega) (by omega)]
theorem Kx (k:Nat) (hk:k<64) {m:AMem} (hm:m.get 0=some (.cells (eU.map (.int .u8)) .ro)):dc Tryz.prog 5 (ptr 0 (CT k)) m=some (.int .u8 (k:Int)):=vY Rf RE hm (NZ k hk)
theorem HZ (x:Nat) (hx:x<2 ^ 64) (m:AMem) (hm:m.get 0=some (.cells (eU.map (.int .u8)) .ro)):aB an 82 [.int .u64 (x:Int)] m (fun v m'=>v = .int .i64 (tz x:Int)∧m'=m):=by
 refine aB.Ho (N:=14) (rs:=[.tmp 2]) rfl Tryz.func82 rfl rfl rfl ?_;simp only[ofList_cons,ofList_nil]
 (repeat refine aT.seq ?_); refine aT.qh fun K hK=>?_
 refine iU rfl (oh (rl _ _)) (nL rfl) ?_;refine hK _ _ ?_; clear hK K; try simp only[ju]
 (repeat refine aT.seq ?_); refine aT.qh fun K hK=>?_
 refine iU rfl (xp (ig (by repeat first | (apply dM; rfl) | exact e7 _ _ _|assumption))) (nL rfl) ?_
 refine iU rfl (zf (ig (by repeat first | (apply dM; rfl) | exact e7 _ _ _|assumption)) (rl _ _) (wY _ _ _)) (nL rfl) ?_
 refine hK _ _ ?_; clear hK K; try simp only[ju]
 by_cases h0:x=0
 ·refine aT.cond (c:=true) ((ig (by repeat first | (apply dM; rfl) | exact e7 _ _ _|assumption)).trans (by rw[h0]; rfl)) (fun _=>?_) (fun h=>by cases h)
  (repeat refine aT.seq ?_); refine aT.qh fun K hK=>?_
  refine iU rfl (oh (rl _ _)) (nL rfl) ?_;refine hK _ _ ?_; clear hK K; try simp only[ju]
  refine aT.ret ?_; simp only[F9,Ba,bP,tU,e9,Option.map_some,at_set,Nat.reduceEqDiff,reduceIte];rw[h0];exact⟨by trivial,by trivial⟩
 ·have hp:0<x:=by omega
  have hk:=(kQ hp hx).1;refine aT.cond (c:=false) ((ig (by repeat first | (apply dM; rfl) | exact e7 _ _ _|assumption)).trans (by rw[decide_eq_false (by omega)])) (fun h=>by cases h) (fun _=>?_)
  refine aT.skip ?_;rw[ju]
  (repeat refine aT.seq ?_); refine aT.qh fun K hK=>?_
  refine iU rfl (xp (ig (by repeat first | (apply dM; rfl) | exact e7 _ _ _|assumption))) (nL rfl) ?_
  refine iU rfl (xp (ig (by repeat first | (apply dM; rfl) | exact e7 _ _ _|assumption))) (nL rfl) ?_
  refine iU rfl (II (ig (by repeat first | (apply dM; rfl) | exact e7 _ _ _|assumption)) (KA x hp hx)) (nL rfl) ?_
  refine iU rfl (zf (ig (by repeat first | (apply dM; rfl) | exact e7 _ _ _|assumption)) (ig (by repeat first | (apply dM; rfl) | exact e7 _ _ _|assumption)) (I6 x hp hx)) (nL rfl) ?_
  refine iU rfl (zf (ig (by repeat first | (apply dM; rfl) | exact e7 _ _ _|assumption)) (rl _ _) (Nv _)) (nL rfl) ?_
  refine iU rfl (zf (ig (by repeat first | (apply dM; rfl) | exact e7 _ _ _|assumption)) (rl _ _) (MX _)) (nL rfl) ?_
  refine iU rfl (pS rfl (ig (by repeat first | (apply dM; rfl) | exact e7 _ _ _|assumption)) (Ni _ hk)) (nL rfl) ?_
  refine iU rfl (vf (ig (by repeat first | (apply dM; rfl) | exact e7 _ _ _|assumption)) (Kx _ hk hm)) (nL rfl) ?_
  refine iU rfl (Ir (ig (by repeat first | (apply dM; rfl) | exact e7 _ _ _|assumption)) (Gj _ (Nat.lt_trans hk (by decide)))) (nL rfl) ?_
  refine iU rfl (oh (ig (by repeat first | (apply dM; rfl) | exact e7 _ _ _|assumption))) (nL rfl) ?_
  refine hK _ _ ?_; clear hK K; try simp only[ju]
  refine aT.ret ?_; simp only[Ba,bP,tU,e9,Option.map_some,at_set,Nat.reduceEqDiff,reduceIte];exact⟨by trivial,by trivial⟩
end Go.Proofs.YtookeaakpiefjaaGreatDoor
end

section
namespace Go.Proofs.YtookeaakpiefjaaGreatDoor
open Go Go.Ab Go.Ab.W
set_option maxRecDepth 10000
set_option maxHeartbeats 4000000
attribute [local irreducible] Tm.at Trie.set Trie.get AMem.get AMem.set AMem.alloc AMem.ww AMem.kill
def IL (_:Nat) (x:Nat):Option Int:=gd (decide (x<2 ^ 64)) (some (tz x:Int))
theorem vU (n x:Nat) (r:Int) (hF:IL n x=some r) (m:AMem) (hG:Gl m):aB an 82 [.int .u64 ((x:Nat):Int)] m (fun v m'=>∃_:Unit,v = .int .i64 r∧Hp m m' []):=by
 unfold IL at hF;obtain⟨hx,hF⟩:=ax hF;cases hF;exact(HZ x (of_decide_eq_true hx) m hG.1).mono fun v m' h=>⟨(),h.1,by rw[h.2]; exact Hp.start m⟩
end Go.Proofs.YtookeaakpiefjaaGreatDoor
end

section
namespace Go.Proofs.YtookeaakpiefjaaGreatDoor
open Go Go.Ab Go.Ab.W
set_option maxRecDepth 10000
def fW:List Nat:=[0,1,2,2,3,3,3,3,4,4,4,4,4,4,4,4,5,5,5,5,5,5,5,5,5,5,5,5,5,5,5,5,6,6,6,6,6,6,6,6,6,6,6,6,6,6,6,6,6,6,6,6,6,6,6,6,6,6,6,6,6,6,6,6,7,7,7,7,7,7,7,7,7,7,7,7,7,7,7,7,7,7,7,7,7,7,7,7,7,7,7,7,7,7,7,7,7,7,7,7,7,7,7,7,7,7,7,7,7,7,7,7,7,7,7,7,7,7,7,7,7,7,7,7,7,7,7,7,8,8,8,8,8,8,8,8,8,8,8,8,8,8,8,8,8,8,8,8,8,8,8,8,8,8,8,8,8,8,8,8,8,8,8,8,8,8,8,8,8,8,8,8,8,8,8,8,8,8,8,8,8,8,8,8,8,8,8,8,8,8,8,8,8,8,8,8,8,8,8,8,8,8,8,8,8,8,8,8,8,8,8,8,8,8,8,8,8,8,8,8,8,8,8,8,8,8,8,8,8,8,8,8,8,8,8,8,8,8,8,8,8,8,8,8,8,8,8,8,8,8,8,8,8,8,8,8]
def xS (_:Nat) (l1:List (Nat × Nat)) (y2:Int) (v1:Int) (v2:Int):(Bool × Int)→Option ((Bool × Int) ⊕ (Bool)):=fun(v3,v0) =>
ob (
br (decide (v0<(l1.length:Int))) (
some (decide (v0<3))) (
some false)) fun v4 =>
br (v4) (
ob (
gd (cg v0 l1.length) (
ob (l1[v0.toNat]?) fun(x3,x4) =>
gd (decide (y2≠0)) (
gd (cg v0 l1.length) (
gd (decide (y2≠0)) (
br (v3) (
some true) (
br (decide (Int.tmod (IntKind.wrap .i64 ((x3:Nat):Int)) y2=v1)) (
br (decide (Int.tmod (IntKind.wrap .i64 ((x4:Nat):Int)) y2=v2)) (
some true) (
br (decide (Int.tmod (IntKind.wrap .i64 ((x3:Nat):Int)) y2=v2)) (
some (decide (Int.tmod (IntKind.wrap .i64 ((x4:Nat):Int)) y2=v1))) (
some false))) (
br (decide (Int.tmod (IntKind.wrap .i64 ((x3:Nat):Int)) y2=v2)) (
some (decide (Int.tmod (IntKind.wrap .i64 ((x4:Nat):Int)) y2=v1))) (
some false)))))))) fun v5 =>
some (.inl (v5,IntKind.wrap .i64 (v0+1)))) (
some (.inr v3))
def yY (n:Nat) (y2:Int) (v1:Int) (v3:Int) (x3:Nat) (l2:List (Nat × Nat)):(List (Int × Int) × Int × Int)→Option ((List (Int × Int) × Int × Int) ⊕ (List (Int × Int) × Int)):=fun(l1,v2,v0) =>
br (decide (v0<y2)) (
ob (
ob (
br (decide (v0=IntKind.wrap .i64 (v1+v3))) (
some true) (
br (decide (v0=IntKind.wrap .i64 (v1+1))) (
gd (decide (v3≠0)) (
some (!decide (Int.tmod v0 v3=0)))) (
some false))) fun v4 =>
ob (
br (v4) (
ob (
ob (
br (decide (Int.tmod v2 2=1)) (
ob (some (bL .u16 x3 (ui .u64 (Int.tmod (IntKind.wrap .i64 (Int.tdiv v2 2)) 16)))) fun y3 =>
some (decide (uw .u16 (uw .u16 y3 &&& uw .u16 1)=1))) (
some false)) fun v6 =>
br (v6) (
some false) (
some v4)) fun v7 =>
some (IntKind.wrap .i64 (v2+1),v7)) (
some (v2,v4))) fun(v5,v8) =>
ob (
bV (xS n l2 y2 v1 v0) n (v8,0)) fun v9 =>
br (v9) (
gd (mj (l1++[(v1,v0)]).length) (
some ((l1++[(v1,v0)]),v5))) (
some (l1,v5))) fun(l3,v10) =>
some (.inl (l3,v10,IntKind.wrap .i64 (v0+1)))) (
some (.inr (l1,v2)))
def zI (n:Nat) (y2:Int) (x3:Nat) (l2:List (Nat × Nat)):(Int × List (Int × Int) × Int × Int)→Option ((Int × List (Int × Int) × Int × Int) ⊕ (List (Int × Int))):=fun(v1,l1,v2,v0) =>
br (decide (v0<y2)) (
ob (
bV (yY n y2 v0 v1 x3 l2) n (l1,v2,IntKind.wrap .i64 (v0+1))) fun(l3,v3) =>
some (.inl (v1,l3,v3,IntKind.wrap .i64 (v0+1)))) (
some (.inr l1))
def PK (n:Nat) (x1:Nat) (x2:Nat) (x3:Nat) (l1:List (Nat × Nat)):Option (Int × List (Int × Int)) :=
ob (some (IntKind.wrap .i64 ((IntKind.wrap .i64 (1+(IntKind.wrap .i64 ((x1%4:Nat):Int))))*(IntKind.wrap .i64 (1+(IntKind.wrap .i64 ((x2%3:Nat):Int))))))) fun y2 =>
ob (
bV (zI n y2 x3 l1) n (IntKind.wrap .i64 (1+(IntKind.wrap .i64 ((x1%4:Nat):Int))),([]:List (Int × Int)),0,0)) fun l2 =>
some (y2,l2)
def Ee (_:Nat) (x1:Int):Option (Bool) :=
some (!decide (x1=x1))
def FO (n:Nat) (x1:Int) (x2:Int):Option (Int) :=
ob (Ee n x1) fun r4 =>
ob (Ee n x2) fun r6 =>
br (r4) (
br (r6) (
some 0) (
some (-1))) (
br (r6) (
some 1) (
br (decide (x1<x2)) (
some (-1)) (
br (decide (x2<x1)) (
some 1) (
some 0))))
def ly (n:Nat) (l1:List (Int)) (l5:List (Int)):Int→Option ((Int) ⊕ ((Int) ⊕ (Unit))):=fun v10 =>
br (decide (v10<(l1.length:Int))) (
gd (cg v10 l1.length) (
ob (l1[v10.toNat]?) fun x32 =>
br (decide ((l5.length:Int)≤v10)) (
some (.inr (.inl 1))) (
gd (cg v10 l5.length) (
ob (l5[v10.toNat]?) fun x38 =>
ob (FO n x32 x38) fun r41 =>
br (!decide (r41=0)) (
some (.inr (.inl r41))) (
some (.inl (IntKind.wrap .i64 (v10+1)))))))) (
some (.inr (.inr ())))
def HY (n:Nat) (l1:List (Int)) (l5:List (Int)):Option (Int) :=
ob (α:=(Int) ⊕ (Unit)) (
bV (ly n l1 l5) n 0) fun r44=>match r44 with
| .inl v27 =>
some v27
| .inr _ =>
br (decide ((l1.length:Int)<(l5.length:Int))) (
some (-1)) (
some 0)
def nq (n:Nat) (l1:List (Int × Int)) (x1:Int):(Int × Int × Int)→Option ((Int × Int × Int) ⊕ ((Unit) ⊕ (Unit))):=fun(v1,v2,v0) =>
br (decide (v0<(l1.length:Int))) (
gd (cg v0 l1.length) (
ob (l1[v0.toNat]?) fun(x3,x4) =>
ob (
br (decide (x3<0)) (
some true) (
br (decide (x4≤x3)) (
some true) (
br (decide (x1≤x4)) (
some true) (
ob (HY n [v1,v2] [x3,x4]) fun r0 =>
some (decide (0≤r0)))))) fun v3 =>
br (v3) (
some (.inr (.inl ()))) (
some (.inl (x3,x4,IntKind.wrap .i64 (v0+1)))))) (
some (.inr (.inr ())))
def DS (n:Nat) (x1:Int) (l1:List (Int × Int)):Option (Int) :=
ob (
br (decide (x1<1)) (
some true) (
br (decide (64<x1)) (
some true) (
some (decide (200<(l1.length:Int)))))) fun v0 =>
br (v0) (
some 180) (
ob (α:=(Unit) ⊕ (Unit)) (
bV (nq n l1 x1) n (-1,-1,0)) fun r0=>match r0 with
| .inl _ =>
some 180
| .inr _ =>
some 0)
def Bp (_:Nat) (x1:Nat):Option (Int) :=
ob (
br (decide (4294967296≤x1)) (
some (bL .u64 x1 32,32)) (
some (x1,0))) fun(v3,v4) =>
ob (
br (decide (65536≤v3)) (
some (bL .u64 v3 16,IntKind.wrap .i64 (v4+16))) (
some (v3,v4))) fun(v9,v10) =>
ob (
br (decide (256≤v9)) (
some (bL .u64 v9 8,IntKind.wrap .i64 (v10+8))) (
some (v9,v10))) fun(v15,v16) =>
gd (cg ((uw .u8 v15:Nat):Int) 256) (
ob (fW[((uw .u8 v15:Nat):Int).toNat]?) fun y22 =>
some (IntKind.wrap .i64 (v16+(IntKind.wrap .i64 ((y22:Nat):Int)))))
def Ol (n:Nat) (x1:Int) (l2:List (Int × Int)) (x6:Nat):Option (Int) :=
ob (DS n x1 l2) fun r9 =>
br (!decide (r9=0)) (
some r9) (
ob (
br (decide (x6=0)) (
some true) (
ob (Bp n x6) fun r27 =>
some (decide (x1<r27)))) fun v24 =>
br (v24) (
some 2) (
some 0))
def zv (_:Nat):(List (Int) × Int)→Option ((List (Int) × Int) ⊕ (List (Int))):=fun(l12,v13) =>
br (decide (v13<((64:Int).toNat:Int))) (
gd (cg v13 ((64:Int).toNat)) (
ob (l12[v13.toNat]?) fun _ =>
some (.inl ((l12.set v13.toNat v13),IntKind.wrap .i64 (v13+1))))) (
some (.inr l12))
def P6 (n:Nat):Option (List Int) :=
gd (decide ((0:Int)≤64)) (gd (mj ((64:Int).toNat)) (
ob (
bV (zv n) n ((List.replicate (64:Int).toNat (0:Int)),0)) fun l21 =>
some l21))
def J6 (_:Nat) (x1:Nat) (x2:Int) (x3:Int):Option (Bool) :=
gd (decide (0≤x2)) (
br (decide (uw .u64 (uw .u64 (bL .u64 x1 x2.toNat) &&& uw .u64 1)=1)) (
gd (decide (0≤x3)) (
some (decide (uw .u64 (uw .u64 (bL .u64 x1 x3.toNat) &&& uw .u64 1)=1)))) (
some false))
def gI (_:Nat) (l1:List (Int)):Int→Option ((Int) ⊕ (Int)):=fun v7 =>
gd (cg v7 l1.length) (
ob (l1[v7.toNat]?) fun x20 =>
br (!decide (x20=v7)) (
gd (cg v7 l1.length) (
some (.inl x20))) (
some (.inr v7)))
def DY (n:Nat) (l1:List (Int)) (x5:Int):Option (Int) :=
ob (
bV (gI n l1) n x5) fun v16 =>
some v16
def P3 (_:Nat) (x1:Nat):Option (Int) :=
ob (some (uw .u64 ((uw .u64 (uw .u64 (bL .u64 x1 1) &&& uw .u64 6148914691236517205))+(uw .u64 (uw .u64 x1 &&& uw .u64 6148914691236517205))))) fun y2 =>
ob (some (uw .u64 ((uw .u64 (uw .u64 (bL .u64 y2 2) &&& uw .u64 3689348814741910323))+(uw .u64 (uw .u64 y2 &&& uw .u64 3689348814741910323))))) fun y4 =>
ob (some (uw .u64 (uw .u64 (uw .u64 ((bL .u64 y4 4)+y4)) &&& uw .u64 1085102592571150095))) fun y6 =>
ob (some (uw .u64 ((uw .u64 (y6+(bL .u64 y6 8)))+(bL .u64 (uw .u64 (y6+(bL .u64 y6 8))) 16)))) fun y8 =>
ob (some (FX .i64 (IntKind.wrap .i64 ((uw .u64 (y8+(bL .u64 y8 32)):Nat):Int)) 127)) fun y10 =>
some y10
def LL (_:Nat):(List (Nat) × Int)→Option ((List (Nat) × Int) ⊕ (List (Nat))):=fun(l40,v41) =>
br (decide (v41<8)) (
gd (cg v41 8) (
ob (l40[v41.toNat]?) fun _ =>
some (.inl ((l40.set v41.toNat 18446744073709551615),IntKind.wrap .i64 (v41+1))))) (
some (.inr l40))
def M5 (n:Nat) (x1:Int):Option (Nat × Nat × Nat × Nat × Nat × Nat × Nat × Nat) :=
ob (
br (decide (x1<0)) (
ob (
bV (LL n) n (([ui .u64 x1,0,0,0,0,0,0,0]:List (Nat)),1)) fun l49 =>
some l49) (
some ([ui .u64 x1,0,0,0,0,0,0,0]:List (Nat)))) fun l30 =>
ob (P4 l30) fun(x59,x60,x61,x62,x63,x64,x65,x66) =>
some (x59,x60,x61,x62,x63,x64,x65,x66)
def Hz (n:Nat):(List (Nat) × List (Nat) × Nat × Int)→Option ((List (Nat) × List (Nat) × Nat × Int) ⊕ (List (Nat) × Nat)):=fun(l36,l37,v38,v39) =>
br (decide (v39<8)) (
gd (cg v39 8) (
ob (l36[v39.toNat]?) fun x60 =>
gd (cg v39 8) (
ob (l37[v39.toNat]?) fun x63 =>
ob (JO n x60 x63 v38) fun(r66,r67) =>
gd (cg v39 8) (
some (.inl ((l36.set v39.toNat r66),l37,r67,IntKind.wrap .i64 (v39+1))))))) (
some (.inr (l36,v38)))
def KE (n:Nat) (x1:Nat) (x2:Nat) (x3:Nat) (x4:Nat) (x5:Nat) (x6:Nat) (x7:Nat) (x8:Nat) (x9:Nat) (x10:Nat) (x11:Nat) (x12:Nat) (x13:Nat) (x14:Nat) (x15:Nat) (x16:Nat):Option (Nat × Nat × Nat × Nat × Nat × Nat × Nat × Nat × Nat) :=
ob (
bV (Hz n) n (([x1,x2,x3,x4,x5,x6,x7,x8]:List (Nat)),([x9,x10,x11,x12,x13,x14,x15,x16]:List (Nat)),0,0)) fun(l56,v57) =>
ob (P4 l56) fun(x72,x73,x74,x75,x76,x77,x78,x79) =>
some (x72,x73,x74,x75,x76,x77,x78,x79,v57)
def PH (n:Nat) (x1:Nat) (x2:Nat) (x3:Nat) (x4:Nat) (x5:Nat) (x6:Nat) (x7:Nat) (x8:Nat):Option (Bool × Nat × Nat × Nat × Nat × Nat × Nat × Nat × Nat) :=
ob (
br (decide (bL .u64 x8 63=1)) (
ob (KE n 0 0 0 0 0 0 0 0 x1 x2 x3 x4 x5 x6 x7 x8) fun(r34,r35,r36,r37,r38,r39,r40,r41,_) =>
some (decide (bL .u64 x8 63=1),r34,r35,r36,r37,r38,r39,r40,r41)) (
some (decide (bL .u64 x8 63=1),x1,x2,x3,x4,x5,x6,x7,x8))) fun(v23,v24,v25,v26,v27,v28,v29,v30,v31) =>
some (v23,v24,v25,v26,v27,v28,v29,v30,v31)
def eW (_:Nat) (l2:List (Nat)):Int→Option ((Int) ⊕ (Int)):=fun v9 =>
ob (
br (decide (0<v9)) (
gd (cg (IntKind.wrap .i64 (v9-1)) l2.length) (
ob (l2[(IntKind.wrap .i64 (v9-1)).toNat]?) fun x71 =>
some (decide (x71=0)))) (
some false)) fun v66 =>
br (v66) (
some (.inl (IntKind.wrap .i64 (v9-1)))) (
some (.inr v9))
def kO (n:Nat) (x1:Bool) (l2:List (Nat)):Option (Bool × List Nat) :=
ob (
bV (eW n l2) n (l2.length:Int)) fun v43 =>
br (x1) (
gd (okB 0 v43 l2.length) (
some (decide (0<v43),((l2.drop (0:Int).toNat).take ((v43:Int).toNat-(0:Int).toNat))))) (
gd (okB 0 v43 l2.length) (
some (false,((l2.drop (0:Int).toNat).take ((v43:Int).toNat-(0:Int).toNat)))))
def Kz (n:Nat) (x1:Nat) (x2:Nat) (x3:Nat) (x4:Nat) (x5:Nat) (x6:Nat) (x7:Nat) (x8:Nat):Option (Bool × List Nat) :=
ob (PH n x1 x2 x3 x4 x5 x6 x7 x8) fun(r12,r13,r14,r15,r16,r17,r18,r19,r20) =>
gd (mj (([]:List (Nat))++[r13,r14,r15,r16,r17,r18,r19,r20]).length) (
ob (kO n r12 (([]:List (Nat))++[r13,r14,r15,r16,r17,r18,r19,r20])) fun(r26,l27) =>
some (r26,l27))
def uK (n:Nat) (x1:Int):Option (Bool × List Nat) :=
ob (M5 n x1) fun(r4,r5,r6,r7,r8,r9,r10,r11) =>
ob (Kz n r4 r5 r6 r7 r8 r9 r10 r11) fun(r13,l14) =>
some (r13,l14)
def nj (n:Nat) (l1:List (Nat)) (l2:List (Nat)):(List (Nat) × Nat × Nat × Int)→Option ((List (Nat) × Nat × Nat × Int) ⊕ (List (Nat) × Nat × Nat)):=fun(l3,n1,v1,v0) =>
br (decide (v0<(l1.length:Int))) (
gd (cg v0 l1.length) (
ob (l1[v0.toNat]?) fun x3 =>
ob (
br (decide (v0<(l2.length:Int))) (
gd (cg v0 l2.length) (
ob (l2[v0.toNat]?) fun x4 =>
some x4)) (
some 0)) fun v2 =>
ob (EZ n x3 v2 v1) fun(r0,r1) =>
gd (cg v0 n1) (
ob (l3[v0.toNat]?) fun _ =>
some (.inl ((l3.set v0.toNat r0),n1,r1,IntKind.wrap .i64 (v0+1)))))) (
some (.inr (l3,n1,v1)))
def Ik (n:Nat) (l2:List (Nat)) (l3:List (Nat)):Option (List Nat) :=
ob (
br (decide ((l2.length:Int)<(l3.length:Int))) (
some (l3,l2)) (
some (l2,l3))) fun(l1,l5) =>
gd (decide (0≤IntKind.wrap .i64 ((l1.length:Int)+1))) (gd (mj ((IntKind.wrap .i64 ((l1.length:Int)+1)).toNat)) (
ob (
bV (nj n l1 l5) n ((List.replicate (IntKind.wrap .i64 ((l1.length:Int)+1)).toNat (0:Nat)),(IntKind.wrap .i64 ((l1.length:Int)+1)).toNat,0,0)) fun(l4,n1,v0) =>
gd (cg (l1.length:Int) n1) (
ob (l4[(l1.length:Int).toNat]?) fun _ =>
some (l4.set ((l1.length:Int).toNat) v0))))
def kZ (_:Nat) (l1:List (Nat)) (l5:List (Nat)):Int→Option ((Int) ⊕ ((Int) ⊕ (Unit))):=fun v11 =>
br (decide (0≤v11)) (
gd (cg v11 l1.length) (
ob (l1[v11.toNat]?) fun x33 =>
gd (cg v11 l5.length) (
ob (l5[v11.toNat]?) fun x38 =>
br (decide (x33<x38)) (
some (.inr (.inl (-1)))) (
gd (cg v11 l1.length) (
gd (cg v11 l5.length) (
br (decide (x38<x33)) (
some (.inr (.inl 1))) (
some (.inl (IntKind.wrap .i64 (v11-1)))))))))) (
some (.inr (.inr ())))
def DR (n:Nat) (l1:List (Nat)) (l5:List (Nat)):Option (Int) :=
br (!decide ((l1.length:Int)=(l5.length:Int))) (
some (IntKind.wrap .i64 ((l1.length:Int)-(l5.length:Int)))) (
ob (α:=(Int) ⊕ (Unit)) (
bV (kZ n l1 l5) n (IntKind.wrap .i64 ((l1.length:Int)-1))) fun r45=>match r45 with
| .inl v28 =>
some v28
| .inr _ =>
some 0)
def pd (n:Nat) (l1:List (Nat)) (l2:List (Nat)):(List (Nat) × Nat × Int)→Option ((List (Nat) × Nat × Int) ⊕ (List (Nat))):=fun(l3,v1,v0) =>
br (decide (v0<(l1.length:Int))) (
gd (cg v0 l1.length) (
ob (l1[v0.toNat]?) fun x3 =>
ob (
br (decide (v0<(l2.length:Int))) (
gd (cg v0 l2.length) (
ob (l2[v0.toNat]?) fun x4 =>
some x4)) (
some 0)) fun v2 =>
ob (JO n x3 v2 v1) fun(r0,r1) =>
gd (cg v0 ((l1.length:Int).toNat)) (
ob (l3[v0.toNat]?) fun _ =>
some (.inl ((l3.set v0.toNat r0),r1,IntKind.wrap .i64 (v0+1)))))) (
some (.inr l3))
def EC (n:Nat) (l1:List (Nat)) (l2:List (Nat)):Option (List Nat) :=
gd (decide (0≤(l1.length:Int))) (gd (mj ((l1.length:Int).toNat)) (
ob (
bV (pd n l1 l2) n ((List.replicate (l1.length:Int).toNat (0:Nat)),0,0)) fun l3 =>
some l3))
def o9 (n:Nat) (x1:Bool) (l2:List (Nat)) (x7:Bool) (l8:List (Nat)):Option (Bool × List Nat) :=
br ((x1 == x7)) (
ob (Ik n l2 l8) fun l18 =>
ob (kO n x1 l18) fun(r22,l23) =>
some (r22,l23)) (
ob (
ob (DR n l2 l8) fun r39 =>
br (decide (r39<0)) (
some (x7,l8,x1,l2)) (
some (x1,l2,x7,l8))) fun(v30,l31,_,l35) =>
ob (EC n l31 l35) fun l44 =>
ob (kO n v30 l44) fun(r48,l49) =>
some (r48,l49))
def I0 (_:Nat) (x1:Bool) (l2:List (Nat)):Option (Int) :=
br (x1) (
some (-1)) (
br (decide ((l2.length:Int)=0)) (
some 0) (
some 1))
def Gc (_:Nat) (x1:Nat) (x2:Nat):Option (Nat × Nat) :=
ob (some (uw .u64 ((uw .u64 (uw .u64 x1 &&& uw .u64 4294967295))*(uw .u64 (uw .u64 x2 &&& uw .u64 4294967295))))) fun y3 =>
ob (some (uw .u64 ((bL .u64 x1 32)*(uw .u64 (uw .u64 x2 &&& uw .u64 4294967295))))) fun y5 =>
ob (some (uw .u64 (uw .u64 (uw .u64 (y5+(bL .u64 y3 32))) &&& uw .u64 4294967295))) fun y7 =>
ob (some (uw .u64 ((uw .u64 (uw .u64 x1 &&& uw .u64 4294967295))*(bL .u64 x2 32)))) fun y9 =>
ob (some (uw .u64 ((uw .u64 ((bL .u64 x1 32)*(bL .u64 x2 32)))+(bL .u64 (uw .u64 (y5+(bL .u64 y3 32))) 32)))) fun y11 =>
some (uw .u64 (y11+(bL .u64 (uw .u64 (y7+y9)) 32)),uw .u64 (x1*x2))
def oP (n:Nat) (l1:List (Nat)) (x3:Nat) (v1:Int) (n1:Nat):(List (Nat) × Nat × Int)→Option ((List (Nat) × Nat × Int) ⊕ (List (Nat) × Nat)):=fun(l2,v2,v0) =>
br (decide (v0<(l1.length:Int))) (
gd (cg v0 l1.length) (
ob (l1[v0.toNat]?) fun x4 =>
ob (Gc n x3 x4) fun(r0,r1) =>
gd (cg (IntKind.wrap .i64 (v1+v0)) n1) (
ob (l2[(IntKind.wrap .i64 (v1+v0)).toNat]?) fun x5 =>
ob (EZ n x5 r1 0) fun(r2,r3) =>
ob (EZ n r2 v2 0) fun(r4,r5) =>
gd (cg (IntKind.wrap .i64 (v1+v0)) n1) (
some (.inl ((l2.set ((IntKind.wrap .i64 (v1+v0)).toNat) r4),uw .u64 ((uw .u64 (r0+r3))+r5),IntKind.wrap .i64 (v0+1))))))) (
some (.inr (l2,v2)))
def pz (n:Nat) (l2:List (Nat)) (l1:List (Nat)):(List (Nat) × Nat × Int)→Option ((List (Nat) × Nat × Int) ⊕ (List (Nat) × Nat)):=fun(l3,n1,v0) =>
br (decide (v0<(l2.length:Int))) (
gd (cg v0 l2.length) (
ob (l2[v0.toNat]?) fun x3 =>
ob (
bV (oP n l1 x3 v0 n1) n (l3,0,0)) fun(l4,v1) =>
gd (cg (IntKind.wrap .i64 (v0+(l1.length:Int))) n1) (
ob (l4[(IntKind.wrap .i64 (v0+(l1.length:Int))).toNat]?) fun _ =>
some (.inl ((l4.set ((IntKind.wrap .i64 (v0+(l1.length:Int))).toNat) v1),n1,IntKind.wrap .i64 (v0+1)))))) (
some (.inr (l3,n1)))
def H3 (n:Nat) (l1:List (Nat)) (l2:List (Nat)):Option (List Nat) :=
gd (decide (0≤IntKind.wrap .i64 ((l1.length:Int)+(l2.length:Int)))) (gd (mj ((IntKind.wrap .i64 ((l1.length:Int)+(l2.length:Int))).toNat)) (
ob (
bV (pz n l1 l2) n ((List.replicate (IntKind.wrap .i64 ((l1.length:Int)+(l2.length:Int))).toNat (0:Nat)),(IntKind.wrap .i64 ((l1.length:Int)+(l2.length:Int))).toNat,0)) fun(l3,_) =>
some l3))
def wO (n:Nat) (x1:Bool) (l2:List (Nat)) (x7:Bool) (l8:List (Nat)):Option (Bool × List Nat) :=
ob (H3 n l2 l8) fun l17 =>
ob (kO n (!(x1 == x7)) l17) fun(r21,l22) =>
some (r21,l22)
def Bk (n:Nat) (x1:Bool) (l2:List (Nat)):Option (Bool × List Nat) :=
ob (kO n (!x1) l2) fun(r10,l11) =>
some (r10,l11)
def On (n:Nat) (x1:Bool) (l2:List (Nat)) (x7:Bool) (l8:List (Nat)):Option (Bool × List Nat) :=
ob (Bk n x7 l8) fun(r17,l18) =>
ob (o9 n x1 l2 r17 l18) fun(r23,l24) =>
some (r23,l24)
def A2 (n:Nat) (x1:Nat):Option (Int) :=
ob (Bp n x1) fun r3 =>
some (IntKind.wrap .i64 (64-r3))
def rj (_:Nat):(Nat × Nat × Nat × Nat × Nat × Nat × Nat × Nat)→Option ((Nat × Nat × Nat × Nat × Nat × Nat × Nat × Nat) ⊕ (Nat × Nat × Nat × Nat × Nat × Nat × Nat)):=fun(v20,v21,v22,v23,v24,v25,v26,v27) =>
ob (
br (decide (4294967296≤v26)) (
some true) (
some (decide (uw .u64 ((uw .u64 (4294967296*v27))+v24)<uw .u64 (v26*v23))))) fun v63 =>
br (v63) (
br (decide (4294967296≤uw .u64 (v27+v22))) (
some (.inr (v20,v21,v22,v23,v24,v25,cA .u64 v26 1))) (
some (.inl (v20,v21,v22,v23,v24,v25,cA .u64 v26 1,uw .u64 (v27+v22))))) (
some (.inr (v20,v21,v22,v23,v24,v25,v26)))
def fx (_:Nat) (v3:Nat) (v4:Nat) (v2:Nat):(Nat × Nat)→Option ((Nat × Nat) ⊕ (Nat)):=fun(v1,v0) =>
ob (
br (decide (4294967296≤v0)) (
some true) (
some (decide (uw .u64 ((uw .u64 (4294967296*v1))+v3)<uw .u64 (v0*v4))))) fun v5 =>
br (v5) (
br (decide (4294967296≤uw .u64 (v1+v2))) (
some (.inr (cA .u64 v0 1))) (
some (.inl (uw .u64 (v1+v2),cA .u64 v0 1)))) (
some (.inr v0))
def FZ (n:Nat) (x1:Nat) (x2:Nat) (x3:Nat):Option (Nat × Nat) :=
br (decide (x3=0)) (
none) (
br (decide (x3≤x1)) (
none) (
br (decide (x1=0)) (
gd (decide (0<x3)) (
gd (decide (0<x3)) (
some (uw .u64 (x2/x3),x2%x3)))) (
ob (A2 n x3) fun r0 =>
ob (some (uw .u64 (uw .u64 (bY .u64 x1 (ui .u64 r0)) ||| uw .u64 (bL .u64 x2 (cA .u64 64 (ui .u64 r0)))))) fun y2 =>
gd (decide (0<bL .u64 (bY .u64 x3 (ui .u64 r0)) 32)) (
ob (some (uw .u64 ((uw .u64 (y2/(bL .u64 (bY .u64 x3 (ui .u64 r0)) 32)))*(bL .u64 (bY .u64 x3 (ui .u64 r0)) 32)))) fun y4 =>
ob (
bV (rj n) n (bY .u64 x3 (ui .u64 r0),ui .u64 r0,bL .u64 (bY .u64 x3 (ui .u64 r0)) 32,uw .u64 (uw .u64 (bY .u64 x3 (ui .u64 r0)) &&& uw .u64 4294967295),bL .u64 (bY .u64 x2 (ui .u64 r0)) 32,uw .u64 (uw .u64 (bY .u64 x2 (ui .u64 r0)) &&& uw .u64 4294967295),uw .u64 (y2/(bL .u64 (bY .u64 x3 (ui .u64 r0)) 32)),cA .u64 y2 y4)) fun(v1,v5,v0,v6,v7,v2,v3) =>
ob (some (cA .u64 (uw .u64 ((uw .u64 (y2*4294967296))+v7)) (uw .u64 (v3*v1)))) fun y3 =>
gd (decide (0<v0)) (
ob (
bV (fx n v2 v6 v0) n (cA .u64 y3 (uw .u64 ((uw .u64 (y3/v0))*v0)),uw .u64 (y3/v0))) fun v4 =>
ob (some (cA .u64 (uw .u64 ((uw .u64 (y3*4294967296))+v2)) (uw .u64 (v4*v1)))) fun y5 =>
some (uw .u64 ((uw .u64 (v3*4294967296))+v4),bL .u64 y5 v5))))))
def DN (n:Nat) (l1:List (Nat)):Option (Int) :=
br (decide ((l1.length:Int)=0)) (
some 0) (
gd (cg (IntKind.wrap .i64 ((l1.length:Int)-1)) l1.length) (
ob (l1[(IntKind.wrap .i64 ((l1.length:Int)-1)).toNat]?) fun x9 =>
ob (A2 n x9) fun r12 =>
some (IntKind.wrap .i64 ((IntKind.wrap .i64 (64*(l1.length:Int)))-r12))))
def oI (_:Nat) (l2:List (Nat)) (x3:Int):(List (Nat) × Nat × Int)→Option ((List (Nat) × Nat × Int) ⊕ (List (Nat) × Nat)):=fun(l1,n1,v0) =>
br (decide (v0<(l2.length:Int))) (
ob (
gd (cg v0 l2.length) (
ob (l2[v0.toNat]?) fun x4 =>
gd (cg (IntKind.wrap .i64 (v0+(IntKind.wrap .i64 (Int.tdiv x3 64)))) n1) (
ob (l1[(IntKind.wrap .i64 (v0+(IntKind.wrap .i64 (Int.tdiv x3 64)))).toNat]?) fun x5 =>
gd (decide (0≤Int.tmod x3 64)) (
ob (some (uw .u64 (uw .u64 x5 ||| uw .u64 (bY .u64 x4 (Int.tmod x3 64).toNat)))) fun y2 =>
gd (cg (IntKind.wrap .i64 (v0+(IntKind.wrap .i64 (Int.tdiv x3 64)))) n1) (
br (decide (0<Int.tmod x3 64)) (
ob (some (IntKind.wrap .i64 ((IntKind.wrap .i64 (v0+(IntKind.wrap .i64 (Int.tdiv x3 64))))+1))) fun y3 =>
gd (decide (0≤IntKind.wrap .i64 (64-(Int.tmod x3 64)))) (
gd (cg y3 n1) (
ob ((l1.set ((IntKind.wrap .i64 (v0+(IntKind.wrap .i64 (Int.tdiv x3 64)))).toNat) y2)[y3.toNat]?) fun _ =>
some ((l1.set ((IntKind.wrap .i64 (v0+(IntKind.wrap .i64 (Int.tdiv x3 64)))).toNat) y2).set y3.toNat (bL .u64 x4 (IntKind.wrap .i64 (64-(Int.tmod x3 64))).toNat))))) (
some (l1.set ((IntKind.wrap .i64 (v0+(IntKind.wrap .i64 (Int.tdiv x3 64)))).toNat) y2))))))) fun l3 =>
some (.inl (l3,n1,IntKind.wrap .i64 (v0+1)))) (
some (.inr (l1,n1)))
def FW (n:Nat) (l1:List (Nat)) (x3:Int):Option (List Nat) :=
ob (some (IntKind.wrap .i64 ((l1.length:Int)+(IntKind.wrap .i64 (Int.tdiv x3 64))))) fun y2 =>
gd (decide (0≤IntKind.wrap .i64 (y2+1))) (gd (mj ((IntKind.wrap .i64 (y2+1)).toNat)) (
ob (
bV (oI n l1 x3) n ((List.replicate (IntKind.wrap .i64 (y2+1)).toNat (0:Nat)),(IntKind.wrap .i64 (y2+1)).toNat,0)) fun(l2,_) =>
ob (kO n false l2) fun(_,l3) =>
some l3))
def oZ (n:Nat) (l1:List (Nat)) (l6:List (Nat)):(List (Nat) × Nat × Int)→Option ((List (Nat) × Nat × Int) ⊕ (List (Nat) × Nat)):=fun(l37,v38,v39) =>
br (decide (0≤v39)) (
gd (cg v39 l1.length) (
ob (l1[v39.toNat]?) fun x67 =>
gd (cg 0 l6.length) (
ob (l6[(0:Int).toNat]?) fun x72 =>
ob (FZ n v38 x67 x72) fun(r75,r76) =>
gd (cg v39 ((l1.length:Int).toNat)) (
ob (l37[v39.toNat]?) fun _ =>
some (.inl ((l37.set v39.toNat r75),r76,IntKind.wrap .i64 (v39-1))))))) (
some (.inr (l37,v38)))
def jo (n:Nat) (l6:List (Nat)) (l3:List (Nat)):(List (Nat) × List (Nat) × Int)→Option ((List (Nat) × List (Nat) × Int) ⊕ (List (Nat) × List (Nat))):=fun(l1,l2,v0) =>
br (decide (0≤v0)) (
ob (
ob (FW n l6 v0) fun l4 =>
ob (DR n l2 l4) fun r0 =>
br (decide (0≤r0)) (
ob (EC n l2 l4) fun l5 =>
ob (kO n false l5) fun(_,l7) =>
gd (cg (IntKind.wrap .i64 (Int.tdiv v0 64)) ((l3.length:Int).toNat)) (
ob (l1[(IntKind.wrap .i64 (Int.tdiv v0 64)).toNat]?) fun x3 =>
gd (decide (0≤Int.tmod v0 64)) (
ob (some (uw .u64 (uw .u64 x3 ||| uw .u64 (bY .u64 1 (Int.tmod v0 64).toNat)))) fun y2 =>
gd (cg (IntKind.wrap .i64 (Int.tdiv v0 64)) ((l3.length:Int).toNat)) (
some ((l1.set ((IntKind.wrap .i64 (Int.tdiv v0 64)).toNat) y2),l7))))) (
some (l1,l2))) fun(l8,l9) =>
some (.inl (l8,l9,IntKind.wrap .i64 (v0-1)))) (
some (.inr (l1,l2)))
def yw (n:Nat) (l1:List (Nat)) (l6:List (Nat)):Option (List Nat × List Nat) :=
gd (decide (0≤(l1.length:Int))) (gd (mj ((l1.length:Int).toNat)) (
br (decide ((l6.length:Int)=1)) (
ob (
bV (oZ n l1 l6) n ((List.replicate (l1.length:Int).toNat (0:Nat)),0,IntKind.wrap .i64 ((l1.length:Int)-1))) fun(l2,v0) =>
ob (kO n false ([v0])) fun(_,l3) =>
some (l2,l3)) (
ob (DN n l1) fun r0 =>
ob (DN n l6) fun r1 =>
ob (
bV (jo n l6 l1) n ((List.replicate (l1.length:Int).toNat (0:Nat)),l1,IntKind.wrap .i64 (r0-r1))) fun(l4,l5) =>
some (l4,l5))))
def wh (n:Nat) (x1:Bool) (l2:List (Nat)) (x7:Bool) (l8:List (Nat)):Option (Bool × List Nat × Bool × List Nat) :=
ob (yw n l2 l8) fun(l18,l22) =>
ob (kO n (!(x1 == x7)) l18) fun(r27,l28) =>
ob (kO n x1 l22) fun(r33,l34) =>
ob (
br (r33) (
ob (o9 n r33 l34 false l8) fun(r65,l66) =>
ob (o9 n r27 l28 (!x7) ([1])) fun(r73,l74) =>
some (r73,l74,r65,l66)) (
some (r27,l28,r33,l34))) fun(v54,l55,v58,l59) =>
some (v54,l55,v58,l59)
def kP (n:Nat) (l2:List (Int × Int)) (x5:Nat) (l4:List (Int × Bool)):(Int × List (Int) × Nat)→Option ((Int × List (Int) × Nat) ⊕ ((Bool × List (Nat) × List (Int) × Nat) ⊕ (List (Int) × Nat))):=fun(v0,l1,n1) =>
br (decide (v0<(l2.length:Int))) (
gd (cg v0 l2.length) (
ob (l2[v0.toNat]?) fun(x3,x4) =>
ob (α:=(Bool × List (Nat) × List (Int) × Nat) ⊕ (List (Int) × Nat)) (
ob (J6 n x5 x3 x4) fun r2 =>
br (r2) (
ob (α:=(Bool × List (Nat) × List (Int) × Nat) ⊕ (List (Int) × Nat)) (
ob (
ob (some ((aP l4 v0).getD false)) fun y2 =>
br (y2) (
ob (
ob (DY n l1 x3) fun r0 =>
ob (DY n l1 x4) fun r1 =>
gd (cg (ma r0 r1) l1.length) (
ob (l1[(ma r0 r1).toNat]?) fun _ =>
some (!decide (r0=r1),(l1.set ((ma r0 r1).toNat) (mi r0 r1))))) fun(v1,l5) =>
some (l5,l1.length,!v1)) (
some (l1,n1,false))) fun(l3,n2,v2) =>
br (v2) (
ob (uK n 0) fun(r3,l7) =>
some (.inl (r3,l7,l3,n2))) (
some (.inr (l3,n2)))) fun r4=>match r4 with
| .inl (v3,l8,l9,n3) =>
some (.inl (v3,l8,l9,n3))
| .inr (l10,n4) =>
some (.inr (l10,n4))) (
some (.inr (l1,n1)))) fun r5=>match r5 with
| .inl (v4,l11,l12,n5) =>
some (.inr (.inl (v4,l11,l12,n5)))
| .inr (l13,n6) =>
some (.inl (IntKind.wrap .i64 (v0+1),l13,n6)))) (
some (.inr (.inr (l1,n1))))
def yP (_:Nat) (n1:Nat) (l2:List (Int)):(Int × List (Int × Int))→Option ((Int × List (Int × Int)) ⊕ (Int × List (Int × Int))):=fun(v0,l1) =>
gd (cg v0 n1) (
ob (l2[v0.toNat]?) fun x3 =>
br (!decide (x3=v0)) (
gd (cg v0 n1) (
some (.inl (x3,l1)))) (
some (.inr (v0,l1))))
def Hx (_:Nat) (n1:Nat) (l1:List (Int)):Int→Option ((Int) ⊕ (Int)):=fun v0 =>
gd (cg v0 n1) (
ob (l1[v0.toNat]?) fun x3 =>
br (!decide (x3=v0)) (
gd (cg v0 n1) (
some (.inl x3))) (
some (.inr v0)))
def pI (n:Nat) (x3:Nat) (n1:Nat) (l2:List (Int)) (v1:Int):(List (Int × Int) × Int)→Option ((List (Int × Int) × Int) ⊕ (List (Int × Int))):=fun(l1,v0) =>
br (decide (v0<64)) (
ob (
ob (
gd (decide (0≤v0)) (
br (decide (uw .u64 (uw .u64 (bL .u64 x3 v0.toNat) &&& uw .u64 1)=1)) (
ob (
ob (
bV (Hx n n1 l2) n v0) fun v2 =>
some v2) fun v3 =>
br (decide (v3=v0)) (
some (!decide (v0=v1))) (
some false)) (
some false))) fun v4 =>
br (v4) (
ob (some (l1.length)) fun y2 =>
some (bR l1 v0 (y2:Int))) (
some l1)) fun l3 =>
some (.inl (l3,IntKind.wrap .i64 (v0+1)))) (
some (.inr l1))
def rI (_:Nat) (y3:Nat) (l2:List (Int × Int)):(List (List (Bool × List Nat)) × Int)→Option ((List (List (Bool × List Nat)) × Int) ⊕ (List (List (Bool × List Nat)))):=fun(l1,v0) =>
br (decide (v0<((y3:Int).toNat:Int))) (
ob (some (l2.length)) fun y2 =>
gd (decide (0≤(y2:Int))) (gd (mj ((y2:Int).toNat)) (
gd (cg v0 ((y3:Int).toNat)) (
ob (l1[v0.toNat]?) fun _ =>
gd (decide (0<(y2:Int).toNat)) (
some (.inl ((l1.set v0.toNat (List.replicate ((y2:Int).toNat) (false,[]))),IntKind.wrap .i64 (v0+1)))))))) (
some (.inr l1))
def DC (_:Nat) (n1:Nat) (l1:List (Int)):Int→Option ((Int) ⊕ (Int)):=fun v0 =>
gd (cg v0 n1) (
ob (l1[v0.toNat]?) fun x3 =>
br (!decide (x3=v0)) (
gd (cg v0 n1) (
some (.inl x3))) (
some (.inr v0)))
def Dl (_:Nat) (n1:Nat) (l1:List (Int)):Int→Option ((Int) ⊕ (Int)):=fun v0 =>
gd (cg v0 n1) (
ob (l1[v0.toNat]?) fun x3 =>
br (!decide (x3=v0)) (
gd (cg v0 n1) (
some (.inl x3))) (
some (.inr v0)))
def uN (n:Nat) (l11:List (Int × Int)) (x5:Nat) (n1:Nat) (l16:List (Int)) (l17:List (Int × Bool)) (l1:List (Int × Int)) (y2:Nat):(Int × List (List (Bool × List Nat)))→Option ((Int × List (List (Bool × List Nat))) ⊕ (List (List (Bool × List Nat)))):=fun(v2,l2) =>
br (decide (v2<(l11.length:Int))) (
gd (cg v2 l11.length) (
ob (l11[v2.toNat]?) fun(x3,x4) =>
ob (
ob (J6 n x5 x3 x4) fun r0 =>
br (r0) (
ob (
ob (
ob (
bV (DC n n1 l16) n x3) fun v3 =>
some v3) fun v0 =>
ob (
ob (
bV (Dl n n1 l16) n x4) fun v4 =>
some v4) fun v1 =>
ob (
ob (some ((aP l17 v2).getD false)) fun y11 =>
br (y11) (
some true) (
some (decide (v0=v1)))) fun v5 =>
br (v5) (
some l2) (
ob (
ob (some ((aP l1 v0).getD (0:Int),(aP l1 v0).isSome)) fun(y3,y12) =>
ob (some ((aP l1 v0).getD (0:Int),(aP l1 v0).isSome)) fun(y4,y13) =>
ob (
br (y12) (
some y13) (
some false)) fun v6 =>
br (v6) (
gd (cg y3 ((y2:Int).toNat)) (
ob (l2[y3.toNat]?) fun l3 =>
gd (decide (0<l3.length)) (
gd (cg y3 ((y2:Int).toNat)) (
ob (l2[y3.toNat]?) fun l12 =>
gd (decide (0<l12.length)) (
gd (cg y4 l12.length) (
ob (l12[y4.toNat]?) fun(x6,l18) =>
ob (uK n 1) fun(r1,l19) =>
ob (o9 n x6 l18 r1 l19) fun(r2,l20) =>
gd (cg y4 l3.length) (
gd (Nat.blt y4.toNat l3.length) (
some (l2.set y3.toNat (l3.set y4.toNat (r2,l20))))))))))) (
some l2)) fun l4 =>
ob (
ob (some ((aP l1 v1).getD (0:Int),(aP l1 v1).isSome)) fun(y5,y14) =>
ob (some ((aP l1 v1).getD (0:Int),(aP l1 v1).isSome)) fun(y6,y15) =>
ob (
br (y14) (
some y15) (
some false)) fun v7 =>
br (v7) (
gd (cg y5 ((y2:Int).toNat)) (
ob (l4[y5.toNat]?) fun l5 =>
gd (decide (0<l5.length)) (
gd (cg y5 ((y2:Int).toNat)) (
ob (l4[y5.toNat]?) fun l13 =>
gd (decide (0<l13.length)) (
gd (cg y6 l13.length) (
ob (l13[y6.toNat]?) fun(x7,l21) =>
ob (uK n 1) fun(r3,l22) =>
ob (o9 n x7 l21 r3 l22) fun(r4,l23) =>
gd (cg y6 l5.length) (
gd (Nat.blt y6.toNat l5.length) (
some (l4.set y5.toNat (l5.set y6.toNat (r4,l23))))))))))) (
some l4)) fun l7 =>
ob (
ob (some ((aP l1 v0).getD (0:Int),(aP l1 v0).isSome)) fun(y7,y16) =>
ob (some ((aP l1 v1).getD (0:Int),(aP l1 v1).isSome)) fun(y8,y17) =>
ob (
br (y16) (
some y17) (
some false)) fun v8 =>
br (v8) (
gd (cg y7 ((y2:Int).toNat)) (
ob (l7[y7.toNat]?) fun l8 =>
gd (decide (0<l8.length)) (
gd (cg y7 ((y2:Int).toNat)) (
ob (l7[y7.toNat]?) fun l14 =>
gd (decide (0<l14.length)) (
gd (cg y8 l14.length) (
ob (l14[y8.toNat]?) fun(x8,l24) =>
ob (uK n (-1)) fun(r5,l25) =>
ob (o9 n x8 l24 r5 l25) fun(r6,l26) =>
gd (cg y8 l8.length) (
gd (Nat.blt y8.toNat l8.length) (
some (l7.set y7.toNat (l8.set y8.toNat (r6,l26))))))))))) (
some l7)) fun l9 =>
ob (
ob (some ((aP l1 v1).getD (0:Int),(aP l1 v1).isSome)) fun(y9,y18) =>
ob (some ((aP l1 v0).getD (0:Int),(aP l1 v0).isSome)) fun(y10,y19) =>
ob (
br (y18) (
some y19) (
some false)) fun v9 =>
br (v9) (
gd (cg y9 ((y2:Int).toNat)) (
ob (l9[y9.toNat]?) fun l10 =>
gd (decide (0<l10.length)) (
gd (cg y9 ((y2:Int).toNat)) (
ob (l9[y9.toNat]?) fun l15 =>
gd (decide (0<l15.length)) (
gd (cg y10 l15.length) (
ob (l15[y10.toNat]?) fun(x9,l27) =>
ob (uK n (-1)) fun(r7,l28) =>
ob (o9 n x9 l27 r7 l28) fun(r8,l29) =>
gd (cg y10 l10.length) (
gd (Nat.blt y10.toNat l10.length) (
some (l9.set y9.toNat (l10.set y10.toNat (r8,l29))))))))))) (
some l9)) fun l30 =>
some l30)) fun l31 =>
some l31) (
some l2)) fun l32 =>
some (.inl (IntKind.wrap .i64 (v2+1),l32)))) (
some (.inr l2))
def qW (n:Nat) (y2:Nat) (v2:Int) (v1:Int) (x3:Bool) (l7:List Nat) (v3:Bool) (l8:List (Nat)):(List (List (Bool × List Nat)) × Int)→Option ((List (List (Bool × List Nat)) × Int) ⊕ (List (List (Bool × List Nat)))):=fun(l1,v0) =>
br (decide (v0<((y2:Int).toNat:Int))) (
gd (cg v2 ((y2:Int).toNat)) (
ob (l1[v2.toNat]?) fun l3 =>
gd (decide (0<l3.length)) (
gd (cg v0 l3.length) (
ob (l3[v0.toNat]?) fun(x4,l9) =>
gd (cg v1 ((y2:Int).toNat)) (
ob (l1[v1.toNat]?) fun l4 =>
gd (decide (0<l4.length)) (
gd (cg v1 l4.length) (
ob (l4[v1.toNat]?) fun(x5,l10) =>
ob (wO n x4 l9 x5 l10) fun(r0,l11) =>
gd (cg v1 ((y2:Int).toNat)) (
ob (l1[v1.toNat]?) fun l5 =>
gd (decide (0<l5.length)) (
gd (cg v0 l5.length) (
ob (l5[v0.toNat]?) fun(x6,l12) =>
ob (wO n x3 l7 x6 l12) fun(r1,l13) =>
ob (On n r0 l11 r1 l13) fun(r2,l14) =>
gd (cg v2 ((y2:Int).toNat)) (
ob (l1[v2.toNat]?) fun l2 =>
gd (decide (0<l2.length)) (
ob (wh n r2 l14 v3 l8) fun(r3,l15,_,_) =>
gd (cg v0 l2.length) (
gd (Nat.blt v0.toNat l2.length) (
some (.inl ((l1.set v2.toNat (l2.set v0.toNat (r3,l15))),IntKind.wrap .i64 (v0+1))))))))))))))))) (
some (.inr l1))
def px (n:Nat) (y2:Nat) (v1:Int) (v2:Bool) (l3:List (Nat)):(List (List (Bool × List Nat)) × Int)→Option ((List (List (Bool × List Nat)) × Int) ⊕ (List (List (Bool × List Nat)))):=fun(l1,v0) =>
br (decide (v0<((y2:Int).toNat:Int))) (
gd (cg v0 ((y2:Int).toNat)) (
ob (l1[v0.toNat]?) fun l2 =>
gd (decide (0<l2.length)) (
gd (cg v1 l2.length) (
ob (l2[v1.toNat]?) fun(x3,l4) =>
ob (
bV (qW n y2 v0 v1 x3 l4 v2 l3) n (l1,v1)) fun l5 =>
some (.inl (l5,IntKind.wrap .i64 (v0+1))))))) (
some (.inr l1))
def jm (n:Nat) (y2:Nat):(List (List (Bool × List Nat)) × Bool × List (Nat) × Int)→Option ((List (List (Bool × List Nat)) × Bool × List (Nat) × Int) ⊕ ((Bool × List (Nat)) ⊕ (Bool × List (Nat)))):=fun(l3,v1,l4,v0) =>
br (decide (v0<((y2:Int).toNat:Int))) (
gd (cg v0 ((y2:Int).toNat)) (
ob (l3[v0.toNat]?) fun l1 =>
gd (decide (0<l1.length)) (
gd (cg v0 l1.length) (
ob (l1[v0.toNat]?) fun(x3,l7) =>
ob (I0 n x3 l7) fun r0 =>
br (decide (r0=0)) (
ob (uK n 0) fun(r1,l8) =>
some (.inr (.inl (r1,l8)))) (
ob (
bV (px n y2 v0 v1 l4) n (l3,IntKind.wrap .i64 (v0+1))) fun l5 =>
gd (cg v0 ((y2:Int).toNat)) (
ob (l5[v0.toNat]?) fun l2 =>
gd (decide (0<l2.length)) (
gd (cg v0 l2.length) (
ob (l2[v0.toNat]?) fun(x4,l9) =>
some (.inl (l5,x4,l9,IntKind.wrap .i64 (v0+1))))))))))) (
some (.inr (.inr (v1,l4))))
def E7 (n:Nat) (_:Int) (l3:List (Int × Int)) (x3:Nat) (l5:List (Int × Bool)) (l7:List (Int × Bool)):Option (Bool × List Nat) :=
ob (P6 n) fun l4 =>
ob (
some ()) fun _ =>
ob (α:=(Bool × List (Nat) × List (Int) × Nat) ⊕ (List (Int) × Nat)) (
ob (α:=(Bool × List (Nat) × List (Int) × Nat) ⊕ (List (Int) × Nat)) (
bV (kP n l3 x3 l5) n (0,l4,l4.length)) fun r0=>match r0 with
| .inl (v0,l8,l9,n2) =>
some (.inl (v0,l8,l9,n2))
| .inr (l10,n3) =>
some (.inr (l10,n3))) fun r1=>match r1 with
| .inl (v1,l11,_,_) =>
some (v1,l11)
| .inr (l1,n1) =>
ob (IL n x3) fun r2 =>
ob (
ob (
bV (yP n n1 l1) n (r2,([]:List (Int × Int)))) fun(v2,l12) =>
some (v2,l12)) fun(v3,l13) =>
ob (
bV (pI n x3 n1 l1 v3) n (l13,0)) fun l2 =>
ob (some (l2.length)) fun y2 =>
gd (decide (0≤(y2:Int))) (gd (mj ((y2:Int).toNat)) (
ob (
bV (rI n y2 l2) n ((List.replicate (y2:Int).toNat ([]:List (Bool × List Nat))),0)) fun l14 =>
ob (
some ()) fun _ =>
ob (
ob (
bV (uN n l3 x3 n1 l1 l7 l2 y2) n (0,l14)) fun l15 =>
some l15) fun l16 =>
ob (
ob (uK n 1) fun(r3,l17) =>
ob (α:=(Bool × List (Nat)) ⊕ (Bool × List (Nat))) (
bV (jm n y2) n (l16,r3,l17,0)) fun r4=>match r4 with
| .inl (v4,l18) =>
some (v4,l18)
| .inr (v5,l19) =>
some (v5,l19)) fun(v6,l20) =>
some (v6,l20)))
def GO (_:Nat):(List (Nat) × List (Nat) × Int)→Option ((List (Nat) × List (Nat) × Int) ⊕ ((Int) ⊕ (Unit))):=fun(l32,l33,v34) =>
br (decide (0≤v34)) (
gd (cg v34 8) (
ob (l32[v34.toNat]?) fun x52 =>
gd (cg v34 8) (
ob (l33[v34.toNat]?) fun x55 =>
br (!decide (x52=x55)) (
gd (cg v34 8) (
gd (cg v34 8) (
br (decide (x52<x55)) (
some (.inr (.inl (-1)))) (
some (.inr (.inl 1)))))) (
some (.inl (l32,l33,IntKind.wrap .i64 (v34-1))))))) (
some (.inr (.inr ())))
def LW (n:Nat) (x1:Nat) (x2:Nat) (x3:Nat) (x4:Nat) (x5:Nat) (x6:Nat) (x7:Nat) (x8:Nat) (x9:Nat) (x10:Nat) (x11:Nat) (x12:Nat) (x13:Nat) (x14:Nat) (x15:Nat) (x16:Nat):Option (Int) :=
ob (α:=(Int) ⊕ (Unit)) (
bV (GO n) n (([x1,x2,x3,x4,x5,x6,x7,x8]:List (Nat)),([x9,x10,x11,x12,x13,x14,x15,x16]:List (Nat)),7)) fun r62=>match r62 with
| .inl v49 =>
some v49
| .inr _ =>
some 0
def N0 (n:Nat) (x1:Bool) (x2:Nat) (x3:Nat) (x4:Nat) (x5:Nat) (x6:Nat) (x7:Nat) (x8:Nat) (x9:Nat):Option (Nat × Nat × Nat × Nat × Nat × Nat × Nat × Nat × Int) :=
ob (LW n x2 x3 x4 x5 x6 x7 x8 x9 0 0 0 0 0 0 0 9223372036854775808) fun r24 =>
ob (
br (decide (0<r24)) (
some true) (
br (decide (r24=0)) (
some (!x1)) (
some false))) fun v27 =>
br (v27) (
some (0,0,0,0,0,0,0,0,6)) (
ob (
br (x1) (
ob (KE n 0 0 0 0 0 0 0 0 x2 x3 x4 x5 x6 x7 x8 x9) fun(r54,r55,r56,r57,r58,r59,r60,r61,_) =>
some (r54,r55,r56,r57,r58,r59,r60,r61)) (
some (x2,x3,x4,x5,x6,x7,x8,x9))) fun(v44,v45,v46,v47,v48,v49,v50,v51) =>
some (v44,v45,v46,v47,v48,v49,v50,v51,0))
def Ls (n:Nat) (x1:Bool) (l2:List (Nat)):Option (Nat × Nat × Nat × Nat × Nat × Nat × Nat × Nat × Int) :=
br (decide (8<(l2.length:Int))) (
some (0,0,0,0,0,0,0,0,6)) (
gd (decide ((l2:List (Nat)).length≤8)) (
ob (P4 ((l2:List (Nat))++([0,0,0,0,0,0,0,0]:List (Nat)).drop (l2:List (Nat)).length)) fun(x12,x13,x14,x15,x16,x17,x18,x19) =>
ob (N0 n x1 x12 x13 x14 x15 x16 x17 x18 x19) fun(r21,r22,r23,r24,r25,r26,r27,r28,r29) =>
some (r21,r22,r23,r24,r25,r26,r27,r28,r29)))
def LJ (n:Nat) (x1:Int) (l2:List (Int × Int)) (x6:Nat):Option (Nat × Nat × Nat × Nat × Nat × Nat × Nat × Nat × Int) :=
ob (Ol n x1 l2 x6) fun r10 =>
br (!decide (r10=0)) (
some (0,0,0,0,0,0,0,0,r10)) (
ob (E7 n x1 l2 x6 [] []) fun(r13,l14) =>
ob (Ls n r13 l14) fun(r19,r20,r21,r22,r23,r24,r25,r26,r27) =>
some (r19,r20,r21,r22,r23,r24,r25,r26,r27))
def jG (n:Nat):(List (Nat) × List (Nat))→Option ((List (Nat) × List (Nat)) ⊕ (List (Nat))):=fun(l26,l29) =>
br (decide (0<(l29.length:Int))) (
ob (yw n l26 l29) fun(_,l57) =>
some (.inl (l29,l57))) (
some (.inr l26))
def Bi (n:Nat) (_:Bool) (l2:List (Nat)) (_:Bool) (l8:List (Nat)):Option (Bool × List Nat) :=
ob (
bV (jG n) n (l2,l8)) fun l48 =>
some (false,l48)
def KL (n:Nat) (x1:Bool) (l2:List (Nat)) (x7:Bool) (l8:List (Nat)):Option (Bool × List Nat × Bool × List Nat) :=
ob (Bi n x1 l2 x7 l8) fun(r17,l18) =>
ob (wh n x1 l2 r17 l18) fun(r24,l25,_,_) =>
ob (wh n x7 l8 r17 l18) fun(r37,l38,_,_) =>
ob (
br (r37) (
ob (Bk n r24 l25) fun(r72,l73) =>
ob (Bk n r37 l38) fun(r78,l79) =>
some (r72,l73,r78,l79)) (
some (r24,l25,r37,l38))) fun(v62,l63,v66,l67) =>
some (v62,l63,v66,l67)
def Lq (n:Nat) (x1:Bool) (l2:List (Nat)) (x6:Bool) (l7:List (Nat)):Option (Nat × Nat × Nat × Nat × Nat × Nat × Nat × Nat × Nat × Nat × Nat × Nat × Nat × Nat × Nat × Nat × Int) :=
ob (Ls n x1 l2) fun(r14,r15,r16,r17,r18,r19,r20,r21,r22) =>
ob (Ls n x6 l7) fun(r25,r26,r27,r28,r29,r30,r31,r32,r33) =>
ob (
br (!decide (r22=0)) (
some true) (
some (!decide (r33=0)))) fun v42 =>
br (v42) (
some (0,0,0,0,0,0,0,0,0,0,0,0,0,0,0,0,6)) (
some (r14,r15,r16,r17,r18,r19,r20,r21,r25,r26,r27,r28,r29,r30,r31,r32,0))
def Og (n:Nat) (x1:Int) (l1:List (Int × Int)) (x4:Nat) (x3:Int):Option (Nat × Nat × Nat × Nat × Nat × Nat × Nat × Nat × Nat × Nat × Nat × Nat × Nat × Nat × Nat × Nat × Int) :=
ob (Ol n x1 l1 x4) fun r0 =>
br (!decide (r0=0)) (
some (0,0,0,0,0,0,0,0,0,0,0,0,0,0,0,0,r0)) (
ob (
br (decide (x3<0)) (
some true) (
br (decide ((l1.length:Int)≤x3)) (
some true) (
gd (cg x3 l1.length) (
ob (l1[x3.toNat]?) fun(x5,x6) =>
ob (J6 n x4 x5 x6) fun r2 =>
some (!r2))))) fun v0 =>
br (v0) (
some (0,0,0,0,0,0,0,0,0,0,0,0,0,0,0,0,2)) (
ob (E7 n x1 l1 x4 [] []) fun(r1,l2) =>
ob (I0 n r1 l2) fun r3 =>
br (decide (r3=0)) (
some (0,0,0,0,0,0,0,0,0,0,0,0,0,0,0,0,7)) (
ob (E7 n x1 l1 x4 (bR ([]:List (Int × Bool)) x3 true) []) fun(r4,l3) =>
ob (KL n r4 l3 r1 l2) fun(r5,l4,r6,l5) =>
ob (Lq n r5 l4 r6 l5) fun(r7,r8,r9,r10,r11,r12,r13,r14,r15,r16,r17,r18,r19,r20,r21,r22,r23) =>
some (r7,r8,r9,r10,r11,r12,r13,r14,r15,r16,r17,r18,r19,r20,r21,r22,r23))))
def Pd (n:Nat) (x1:Bool) (l2:List (Nat)) (x6:Bool) (l7:List (Nat)):Option (Int) :=
ob (On n x1 l2 x6 l7) fun(r14,l15) =>
ob (I0 n r14 l15) fun r20 =>
some r20
end Go.Proofs.YtookeaakpiefjaaGreatDoor
end

section
namespace Go.Proofs.YtookeaakpiefjaaGreatDoor
open Go Go.Ab Go.Ab.W
set_option maxRecDepth 10000
attribute [local irreducible] Tm.at Trie.set Trie.get AMem.get AMem.set AMem.alloc AMem.ww AMem.kill
end Go.Proofs.YtookeaakpiefjaaGreatDoor
end

section
namespace Go.Proofs.YtookeaakpiefjaaGreatDoor
open Go Go.Ab Go.Ab.W
set_option maxRecDepth 10000
def Qe (n:Nat) (x1:Nat) (x2:Nat) (x3:Nat) (x4:Nat) (x5:Nat) (x6:Nat) (x7:Nat) (x8:Nat):Option (Int) :=
ob (PH n x1 x2 x3 x4 x5 x6 x7 x8) fun(r11,_,_,_,_,_,_,_,_) =>
br (r11) (
some (-1)) (
br ((decide (x1=0) && decide (x2=0) && decide (x3=0) && decide (x4=0) && decide (x5=0) && decide (x6=0) && decide (x7=0) && decide (x8=0))) (
some 0) (
some 1))
def PW (n:Nat) (x1:Nat) (x2:Nat) (x3:Nat) (x4:Nat) (x5:Nat) (x6:Nat) (x7:Nat) (x8:Nat) (x9:Nat) (x10:Nat) (x11:Nat) (x12:Nat) (x13:Nat) (x14:Nat) (x15:Nat) (x16:Nat):Option (Nat × Nat × Nat × Nat × Nat × Nat × Nat × Nat × Nat × Nat × Nat × Nat × Nat × Nat × Nat × Nat × Int) :=
br ((decide (x9=0) && decide (x10=0) && decide (x11=0) && decide (x12=0) && decide (x13=0) && decide (x14=0) && decide (x15=0) && decide (x16=0))) (
some (0,0,0,0,0,0,0,0,0,0,0,0,0,0,0,0,7)) (
ob (Kz n x1 x2 x3 x4 x5 x6 x7 x8) fun(r22,l23) =>
ob (Kz n x9 x10 x11 x12 x13 x14 x15 x16) fun(r28,l29) =>
ob (KL n r22 l23 r28 l29) fun(r34,l35,r39,l40) =>
ob (Lq n r34 l35 r39 l40) fun(r45,r46,r47,r48,r49,r50,r51,r52,r53,r54,r55,r56,r57,r58,r59,r60,r61) =>
some (r45,r46,r47,r48,r49,r50,r51,r52,r53,r54,r55,r56,r57,r58,r59,r60,r61))
def Of (n:Nat) (x1:Int) (l2:List (Int × Int)) (x6:Nat):Option (Int) :=
ob (DS n x1 l2) fun r9 =>
br (!decide (r9=0)) (
some r9) (
ob (Bp n x6) fun r12 =>
br (decide (x1<r12)) (
some 2) (
some 0))
def sx (_:Nat) (l2:List (Int × Int)) (x1:Int):(List (Nat) × Int)→Option ((List (Nat) × Int) ⊕ (List (Nat))):=fun(l32,v33) =>
br (decide (v33<(l2.length:Int))) (
gd (cg v33 l2.length) (
ob (l2[v33.toNat]?) fun(x61,x62) =>
gd (cg x61 x1.toNat) (
ob (l32[x61.toNat]?) fun x66 =>
gd (decide (0≤x62)) (
gd (cg x61 x1.toNat) (
gd (cg x62 x1.toNat) (
ob ((l32.set x61.toNat (uw .u64 (uw .u64 x66 ||| uw .u64 (bY .u64 1 x62.toNat))))[x62.toNat]?) fun x72 =>
gd (decide (0≤x61)) (
gd (cg x62 x1.toNat) (
some (.inl (((l32.set x61.toNat (uw .u64 (uw .u64 x66 ||| uw .u64 (bY .u64 1 x62.toNat)))).set x62.toNat (uw .u64 (uw .u64 x72 ||| uw .u64 (bY .u64 1 x61.toNat)))),IntKind.wrap .i64 (v33+1))))))))))) (
some (.inr l32))
def E5 (n:Nat) (x1:Int) (l2:List (Int × Int)):Option (List Nat) :=
gd (decide (0≤x1)) (gd (mj x1.toNat) (
ob (
bV (sx n l2 x1) n ((List.replicate x1.toNat (0:Nat)),0)) fun l56 =>
some l56))
def tP (n:Nat) (l1:List Nat) (x3:Nat):(Nat × Nat)→Option ((Nat × Nat) ⊕ (Nat)):=fun(v0,v1) =>
br (!decide (v0=0)) (
ob (IL n v0) fun r0 =>
ob (
gd (cg r0 l1.length) (
ob (l1[r0.toNat]?) fun x4 =>
ob (some (uw .u64 (uw .u64 v1 ||| uw .u64 (uw .u64 (uw .u64 x4 &&& uw .u64 x3))))) fun y2 =>
some y2)) fun v2 =>
some (.inl (uw .u64 (uw .u64 v0 &&& uw .u64 (cA .u64 v0 1)),v2))) (
some (.inr v1))
def yb (n:Nat) (l1:List Nat) (x3:Nat):Nat→Option ((Nat) ⊕ (Nat)):=fun v0 =>
ob (
some ()) fun _ =>
ob (
ob (
bV (tP n l1 x3) n (v0,v0)) fun v2 =>
some v2) fun v1 =>
br (decide (v1=v0)) (
some (.inr v0)) (
some (.inl v1))
def yZ (n:Nat) (l2:List Nat) (x3:Nat):(List (Nat) × Nat)→Option ((List (Nat) × Nat) ⊕ (List (Nat))):=fun(l1,v0) =>
br (!decide (v0=0)) (
ob (
bV (yb n l2 x3) n (uw .u64 (uw .u64 v0 &&& uw .u64 (AE .u64 v0)))) fun v1 =>
gd (mj (l1++[v1]).length) (
some (.inl ((l1++[v1]),iJ .u64 v0 v1)))) (
some (.inr l1))
def PN (n:Nat) (x1:Int) (l1:List (Int × Int)) (x3:Nat):Option (List Nat) :=
ob (E5 n x1 l1) fun l2 =>
ob (
bV (yZ n l2 x3) n (([]:List (Nat)),x3)) fun l3 =>
some l3
def Qb (n:Nat) (x1:Int) (l2:List (Int × Int)) (x6:Nat):Option (Bool × Int) :=
ob (Of n x1 l2 x6) fun r9 =>
br (!decide (r9=0)) (
some (false,r9)) (
ob (PN n x1 l2 x6) fun l12 =>
some (decide ((l12.length:Int)=1),0))
def oJ (n:Nat) (x4:Int) (x3:Int) (r1:(List (Int × Int) × List (Int × Int) × List ((Int × Int) × Bool) × Nat)→(Int × Int)→Option (List (Int × Int) × List (Int × Int) × List ((Int × Int) × Bool) × Nat)):(Nat × List (Int × Int) × List (Int × Int) × List ((Int × Int) × Bool) × Nat × Int)→Option ((Nat × List (Int × Int) × List (Int × Int) × List ((Int × Int) × Bool) × Nat × Int) ⊕ (List (Int × Int) × List (Int × Int) × List ((Int × Int) × Bool) × Nat × Int)):=fun(v1,l1,l3,l4,v2,v0) =>
br (!decide (v1=0)) (
ob (IL n v1) fun r0 =>
ob (
br (decide (r0=x4)) (
some (l1,l3,l4,v2,v0)) (
ob (some ((aP l1 r0).getD (0:Int))) fun y4 =>
br (decide (0<y4)) (
ob (some ((aP l3 x3).getD (0:Int))) fun y5 =>
ob (some ((aP l1 r0).getD (0:Int))) fun y6 =>
some (l1,(bR l3 x3 (mi y5 y6)),l4,v2,v0)) (
ob (r1 (l1,l3,l4,v2) (r0,x3)) fun(l5,l2,l7,v3) =>
ob (some ((aP l2 x3).getD (0:Int))) fun y2 =>
ob (some ((aP l2 r0).getD (0:Int))) fun y3 =>
ob (
ob (some ((aP (bR l2 x3 (mi y2 y3)) r0).getD (0:Int))) fun y7 =>
ob (some ((aP l5 x3).getD (0:Int))) fun y8 =>
br (decide (y8<y7)) (
some (bR l7 (mi x3 r0,ma x3 r0) true)) (
some l7)) fun l8 =>
ob (
br (decide (0≤x4)) (
ob (some ((aP (bR l2 x3 (mi y2 y3)) r0).getD (0:Int))) fun y9 =>
ob (some ((aP l5 x3).getD (0:Int))) fun y10 =>
some (decide (y10≤y9))) (
some false)) fun v4 =>
br (v4) (
gd (decide (0≤x3)) (
some (l5,(bR l2 x3 (mi y2 y3)),l8,uw .u64 (uw .u64 v3 ||| uw .u64 (bY .u64 1 x3.toNat)),IntKind.wrap .i64 (v0+1)))) (
some (l5,(bR l2 x3 (mi y2 y3)),l8,v3,IntKind.wrap .i64 (v0+1)))))) fun(l9,l10,l11,v5,v6) =>
some (.inl (uw .u64 (uw .u64 v1 &&& uw .u64 (cA .u64 v1 1)),l9,l10,l11,v5,v6))) (
some (.inr (l1,l3,l4,v2,v0)))
def xM (n:Nat) (r0:(List (Int × Int) × List (Int × Int) × List ((Int × Int) × Bool) × Nat)→(Int × Int)→Option (List (Int × Int) × List (Int × Int) × List ((Int × Int) × Bool) × Nat)) (l2:List Nat) (x5:Nat):(List (Int × Int) × List (Int × Int) × List ((Int × Int) × Bool) × Nat)→(Int × Int)→Option (List (Int × Int) × List (Int × Int) × List ((Int × Int) × Bool) × Nat):=fun(l1,l7,l8,v1) (x3,x4) =>
ob (some (l1.length)) fun y2 =>
ob (some ((aP (bR l1 x3 (IntKind.wrap .i64 ((y2:Int)+1))) x3).getD (0:Int))) fun y3 =>
gd (cg x3 l2.length) (
ob (l2[x3.toNat]?) fun x6 =>
ob (
some ()) fun _ =>
ob (
ob (
bV (oJ n x4 x3 r0) n (uw .u64 (uw .u64 x6 &&& uw .u64 x5),(bR l1 x3 (IntKind.wrap .i64 ((y2:Int)+1))),(bR l7 x3 y3),l8,v1,0)) fun(l9,l10,l11,v2,v3) =>
some (l9,l10,l11,v2,v3)) fun(l3,l4,l5,v0,v4) =>
ob (
br (decide (x4<0)) (
some (decide (1<v4))) (
some false)) fun v5 =>
br (v5) (
gd (decide (0≤x3)) (
some (l3,l4,l5,uw .u64 (uw .u64 v0 ||| uw .u64 (bY .u64 1 x3.toNat))))) (
some (l3,l4,l5,v0)))
def zy (n:Nat) (l16:List Nat) (x6:Nat):Nat→(List (Int × Int) × List (Int × Int) × List ((Int × Int) × Bool) × Nat)→(Int × Int)→Option (List (Int × Int) × List (Int × Int) × List ((Int × Int) × Bool) × Nat)
 | 0=>fun _ _=>none
 | k+1=>xM n (zy n l16 x6 k) l16 x6
def uT (n:Nat) (l4:List Nat) (x3:Nat):(Nat × List ((Int × Int) × Bool) × Nat × List (Int × Int) × List (Int × Int))→Option ((Nat × List ((Int × Int) × Bool) × Nat × List (Int × Int) × List (Int × Int)) ⊕ (List ((Int × Int) × Bool) × Nat × List (Int × Int) × List (Int × Int))):=fun(v0,l2,v1,l1,l3) =>
br (!decide (v0=0)) (
ob (IL n v0) fun r0 =>
ob (
ob (some ((aP l1 r0).getD (0:Int))) fun y2 =>
br (decide (y2=0)) (
ob (zy n l4 x3 n (l1,l3,l2,v1) (r0,-1)) fun(l5,l7,l8,v2) =>
some (l8,v2,l5,l7)) (
some (l2,v1,l1,l3))) fun(l9,v3,l10,l11) =>
some (.inl (uw .u64 (uw .u64 v0 &&& uw .u64 (cA .u64 v0 1)),l9,v3,l10,l11))) (
some (.inr (l2,v1,l1,l3)))
def zt (_:Nat) (l2:List (Int × Int)) (l3:List ((Int × Int) × Bool)):(List (Int × Int) × Int)→Option ((List (Int × Int) × Int) ⊕ (List (Int × Int))):=fun(l1,v0) =>
br (decide (v0<(l2.length:Int))) (
ob (
gd (cg v0 l2.length) (
ob (l2[v0.toNat]?) fun(x3,x4) =>
ob (some ((aP l3 (x3,x4)).getD false)) fun y2 =>
br (y2) (
gd (mj (l1++[(x3,x4)]).length) (
some (l1++[(x3,x4)]))) (
some l1))) fun l4 =>
some (.inl (l4,IntKind.wrap .i64 (v0+1)))) (
some (.inr l1))
def Pu (n:Nat) (x1:Int) (l1:List (Int × Int)) (x3:Nat):Option (List (Int × Int) × Int) :=
ob (Of n x1 l1 x3) fun r0 =>
br (!decide (r0=0)) (
some ([],r0)) (
ob (
ob (E5 n x1 l1) fun l2 =>
ob (
some (([]:List ((Int × Int) × Bool)),([]:List (Int × Int)),([]:List (Int × Int)))) fun(l3,l4,l5) =>
ob (
ob (
bV (uT n l2 x3) n (x3,l3,0,l4,l5)) fun(l7,v0,l8,l9) =>
some (l7,v0,l8,l9)) fun(l10,v1,_,_) =>
some (l10,v1)) fun(l11,_) =>
ob (
bV (zt n l1 l11) n (([]:List (Int × Int)),0)) fun l12 =>
some (l12,0))
def vw (n:Nat) (x1:Nat) (x2:Nat) (x3:Nat) (x4:Nat) (x5:Nat) (x6:Nat) (x7:Nat) (x8:Nat) (x9:Nat) (x10:Nat) (x11:Nat) (x12:Nat) (x13:Nat) (x14:Nat) (x15:Nat) (x16:Nat):Option (Bool × List Nat × Bool × List Nat) :=
ob (Kz n x1 x2 x3 x4 x5 x6 x7 x8) fun(r20,l21) =>
ob (Kz n x9 x10 x11 x12 x13 x14 x15 x16) fun(r26,l27) =>
some (r20,l21,r26,l27)
def G3 (n:Nat) (x1:Nat) (x2:Nat) (x3:Nat) (x4:Nat) (x5:Nat) (x6:Nat) (x7:Nat) (x8:Nat) (x9:Nat) (x10:Nat) (x11:Nat) (x12:Nat) (x13:Nat) (x14:Nat) (x15:Nat) (x16:Nat):Option (Int) :=
ob (uK n 1) fun(r19,l20) =>
ob (vw n x1 x2 x3 x4 x5 x6 x7 x8 x9 x10 x11 x12 x13 x14 x15 x16) fun(r26,l27,r31,l32) =>
ob (
ob (I0 n r31 l32) fun r76 =>
br (decide (r76≤0)) (
some true) (
ob (Bi n r26 l27 r31 l32) fun(r79,l80) =>
ob (Pd n r79 l80 r19 l20) fun r85 =>
some (!decide (r85=0)))) fun v74 =>
br (v74) (
some 20) (
some 0)
def E2 (n:Nat) (x1:Nat) (x2:Nat) (x3:Nat) (x4:Nat) (x5:Nat) (x6:Nat) (x7:Nat) (x8:Nat) (x9:Nat) (x10:Nat) (x11:Nat) (x12:Nat) (x13:Nat) (x14:Nat) (x15:Nat) (x16:Nat):Option (Bool) :=
ob (G3 n x1 x2 x3 x4 x5 x6 x7 x8 x9 x10 x11 x12 x13 x14 x15 x16) fun r19 =>
some (decide (r19=0))
def uV (n:Nat) (l1:List (Nat × Nat × Nat × Nat × Nat × Nat × Nat × Nat × Nat × Nat × Nat × Nat × Nat × Nat × Nat × Nat)):Int→Option ((Int) ⊕ ((Unit) ⊕ (Unit))):=fun v0 =>
br (decide (v0<(l1.length:Int))) (
gd (cg v0 l1.length) (
ob (l1[v0.toNat]?) fun(x3,x4,x5,x6,x7,x8,x9,x10,x11,x12,x13,x14,x15,x16,x17,x18) =>
ob (E2 n x3 x4 x5 x6 x7 x8 x9 x10 x11 x12 x13 x14 x15 x16 x17 x18) fun r0 =>
br (!r0) (
some (.inr (.inl ()))) (
some (.inl (IntKind.wrap .i64 (v0+1)))))) (
some (.inr (.inr ())))
def K7 (n:Nat) (l1:List (Nat × Nat × Nat × Nat × Nat × Nat × Nat × Nat × Nat × Nat × Nat × Nat × Nat × Nat × Nat × Nat)):Option (Bool) :=
ob (
ob (α:=(Unit) ⊕ (Unit)) (
bV (uV n l1) n 0) fun r0=>match r0 with
| .inl _ =>
some false
| .inr _ =>
some true) fun v0 =>
some v0
def Qi (n:Nat) (x1:Bool) (l2:List (Nat)) (_:Bool) (_:List (Nat)) (_:Bool) (_:List (Nat)) (_:Bool) (_:List (Nat)):Option (Int) :=
ob (I0 n x1 l2) fun r24 =>
some r24
def OC (n:Nat) (x1:Nat) (x2:Nat) (x3:Nat) (x4:Nat) (x5:Nat) (x6:Nat) (x7:Nat) (x8:Nat) (x9:Nat) (x10:Nat) (x11:Nat) (x12:Nat) (x13:Nat) (x14:Nat) (x15:Nat) (x16:Nat):Option (Int × Int) :=
ob (α:=Int × Int) (
ob (K7 n ([(x1,x2,x3,x4,x5,x6,x7,x8,x9,x10,x11,x12,x13,x14,x15,x16),(x1,x2,x3,x4,x5,x6,x7,x8,x9,x10,x11,x12,x13,x14,x15,x16)])) fun r54 =>
br (!r54) (
some (0,20)) (
ob (vw n x1 x2 x3 x4 x5 x6 x7 x8 x9 x10 x11 x12 x13 x14 x15 x16) fun(r57,l58,r62,l63) =>
ob (vw n x1 x2 x3 x4 x5 x6 x7 x8 x9 x10 x11 x12 x13 x14 x15 x16) fun(r68,l69,r73,l74) =>
ob (Qi n r57 l58 r62 l63 r68 l69 r73 l74) fun r79 =>
some (r79,0))) fun(v48,v49) =>
some (v48,v49)
def NA (n:Nat) (x1:Int) (x2:Int):Option (Nat × Nat × Nat × Nat × Nat × Nat × Nat × Nat × Nat × Nat × Nat × Nat × Nat × Nat × Nat × Nat × Int) :=
ob (M5 n x1) fun(r5,r6,r7,r8,r9,r10,r11,r12) =>
ob (M5 n x2) fun(r14,r15,r16,r17,r18,r19,r20,r21) =>
ob (PW n r5 r6 r7 r8 r9 r10 r11 r12 r14 r15 r16 r17 r18 r19 r20 r21) fun(r23,r24,r25,r26,r27,r28,r29,r30,r31,r32,r33,r34,r35,r36,r37,r38,r39) =>
some (r23,r24,r25,r26,r27,r28,r29,r30,r31,r32,r33,r34,r35,r36,r37,r38,r39)
def lG (_:Nat) (l1:List (Int × Int)) (x5:Int) (x6:Int):Int→Option ((Int) ⊕ ((Int) ⊕ (Unit))):=fun v9 =>
br (decide (v9<(l1.length:Int))) (
gd (cg v9 l1.length) (
ob (l1[v9.toNat]?) fun(x24,x25) =>
br ((decide (x5=x24) && decide (x6=x25))) (
some (.inr (.inl v9))) (
some (.inl (IntKind.wrap .i64 (v9+1)))))) (
some (.inr (.inr ())))
def ON (n:Nat) (l1:List (Int × Int)) (x5:Int) (x6:Int):Option (Int) :=
ob (α:=(Int) ⊕ (Unit)) (
bV (lG n l1 x5 x6) n 0) fun r29=>match r29 with
| .inl v19 =>
some v19
| .inr _ =>
some (-1)
def LO (n:Nat) (l1:List (Int × Int)) (x5:Int) (x6:Int):Option (Bool) :=
ob (ON n l1 x5 x6) fun r9 =>
some (decide (0≤r9))
def Ju (n:Nat) (x1:Bool) (l2:List (Nat)):Option (Bool × List Nat × Bool × List Nat) :=
ob (uK n 1) fun(r10,l11) =>
some (x1,l2,r10,l11)
def Ix (n:Nat) (x1:Int):Option (Bool × List Nat × Bool × List Nat) :=
ob (uK n x1) fun(r4,l5) =>
ob (Ju n r4 l5) fun(r10,l11,r15,l16) =>
some (r10,l11,r15,l16)
def HF (n:Nat) (x1:Bool) (l2:List (Nat)) (x7:Bool) (l8:List (Nat)) (x13:Bool) (l14:List (Nat)) (x19:Bool) (l20:List (Nat)):Option (Bool × List Nat × Bool × List Nat) :=
ob (wO n x1 l2 x19 l20) fun(r29,l30) =>
ob (wO n x13 l14 x7 l8) fun(r35,l36) =>
ob (o9 n r29 l30 r35 l36) fun(r41,l42) =>
ob (wO n x7 l8 x19 l20) fun(r47,l48) =>
ob (KL n r41 l42 r47 l48) fun(r53,l54,r58,l59) =>
some (r53,l54,r58,l59)
def uD (n:Nat) (l1:List (Nat × Nat × Nat × Nat × Nat × Nat × Nat × Nat × Nat × Nat × Nat × Nat × Nat × Nat × Nat × Nat)):(Bool × List (Nat) × Bool × List (Nat) × Int)→Option ((Bool × List (Nat) × Bool × List (Nat) × Int) ⊕ (Bool × List (Nat) × Bool × List (Nat))):=fun(v1,l2,v2,l3,v0) =>
br (decide (v0<(l1.length:Int))) (
gd (cg v0 l1.length) (
ob (l1[v0.toNat]?) fun(x3,x4,x5,x6,x7,x8,x9,x10,x11,x12,x13,x14,x15,x16,x17,x18) =>
ob (vw n x3 x4 x5 x6 x7 x8 x9 x10 x11 x12 x13 x14 x15 x16 x17 x18) fun(r0,l4,r1,l5) =>
ob (HF n v1 l2 v2 l3 r0 l4 r1 l5) fun(r2,l7,r3,l8) =>
some (.inl (r2,l7,r3,l8,IntKind.wrap .i64 (v0+1))))) (
some (.inr (v1,l2,v2,l3)))
def Pq (n:Nat) (l1:List (Nat × Nat × Nat × Nat × Nat × Nat × Nat × Nat × Nat × Nat × Nat × Nat × Nat × Nat × Nat × Nat)):Option (Nat × Nat × Nat × Nat × Nat × Nat × Nat × Nat × Nat × Nat × Nat × Nat × Nat × Nat × Nat × Nat × Int) :=
br (decide (400<(l1.length:Int))) (
some (0,0,0,0,0,0,0,0,0,0,0,0,0,0,0,0,3)) (
ob (K7 n l1) fun r0 =>
br (!r0) (
some (0,0,0,0,0,0,0,0,0,0,0,0,0,0,0,0,20)) (
ob (Ix n 0) fun(r1,l2,r2,l3) =>
ob (
bV (uD n l1) n (r1,l2,r2,l3,0)) fun(v0,l4,v1,l5) =>
ob (Lq n v0 l4 v1 l5) fun(r3,r4,r5,r6,r7,r8,r9,r10,r11,r12,r13,r14,r15,r16,r17,r18,r19) =>
some (r3,r4,r5,r6,r7,r8,r9,r10,r11,r12,r13,r14,r15,r16,r17,r18,r19)))
def Ec (n:Nat) (l2:List (Int × Int)) (x3:Nat) (r0:Int) (r18:Bool) (l3:List (Int × Int)):(List (Nat × Nat × Nat × Nat × Nat × Nat × Nat × Nat × Nat × Nat × Nat × Nat × Nat × Nat × Nat × Nat) × Int)→Option ((List (Nat × Nat × Nat × Nat × Nat × Nat × Nat × Nat × Nat × Nat × Nat × Nat × Nat × Nat × Nat × Nat) × Int) ⊕ ((Unit) ⊕ (List (Nat × Nat × Nat × Nat × Nat × Nat × Nat × Nat × Nat × Nat × Nat × Nat × Nat × Nat × Nat × Nat)))):=fun(l1,v0) =>
br (decide (v0<(l2.length:Int))) (
ob (α:=(List (Nat × Nat × Nat × Nat × Nat × Nat × Nat × Nat × Nat × Nat × Nat × Nat × Nat × Nat × Nat × Nat)) ⊕ (Unit)) (
gd (cg v0 l2.length) (
ob (l2[v0.toNat]?) fun(x4,x5) =>
ob (
gd (decide (0≤x4)) (
ob (some (bL .u64 (uw .u64 (uw .u64 x3 &&& uw .u64 (cA .u64 (bY .u64 1 r0.toNat) 1))) x4.toNat)) fun y2 =>
br (decide (uw .u64 (uw .u64 y2 &&& uw .u64 1)=0)) (
some true) (
gd (decide (0≤x5)) (
ob (some (bL .u64 (uw .u64 (uw .u64 x3 &&& uw .u64 (cA .u64 (bY .u64 1 r0.toNat) 1))) x5.toNat)) fun y3 =>
some (decide (uw .u64 (uw .u64 y3 &&& uw .u64 1)=0)))))) fun v1 =>
br (v1) (
some (.inl l1)) (
ob (Og n r0 l2 (uw .u64 (uw .u64 x3 &&& uw .u64 (cA .u64 (bY .u64 1 r0.toNat) 1))) v0) fun(r1,r2,r3,r4,r5,r6,r7,r8,r9,r10,r11,r12,r13,r14,r15,r16,r17) =>
br (!r18) (
br (!decide (r17=7)) (
some (.inr ())) (
some (.inl l1))) (
ob (OC n r1 r2 r3 r4 r5 r6 r7 r8 r9 r10 r11 r12 r13 r14 r15 r16) fun(r19,r20) =>
ob (
br (!decide (r17=0)) (
some true) (
br (!decide (r20=0)) (
some true) (
br (!decide (r19=1)) (
some true) (
ob (
ob (NA n 1 1) fun(r21,r22,r23,r24,r25,r26,r27,r28,r29,r30,r31,r32,r33,r34,r35,r36,_) =>
some (r21,r22,r23,r24,r25,r26,r27,r28,r29,r30,r31,r32,r33,r34,r35,r36)) fun(v2,v3,v4,v5,v6,v7,v8,v9,v10,v11,v12,v13,v14,v15,v16,v17) =>
ob (
br ((decide (r1=v2) && decide (r2=v3) && decide (r3=v4) && decide (r4=v5) && decide (r5=v6) && decide (r6=v7) && decide (r7=v8) && decide (r8=v9) && decide (r9=v10) && decide (r10=v11) && decide (r11=v12) && decide (r12=v13) && decide (r13=v14) && decide (r14=v15) && decide (r15=v16) && decide (r16=v17))) (
some (decide (r17=0))) (
some false)) fun v18 =>
ob (LO n l3 x4 x5) fun r37 =>
some (!(v18 == r37)))))) fun v19 =>
br (v19) (
some (.inr ())) (
gd (mj (l1++[(r1,r2,r3,r4,r5,r6,r7,r8,r9,r10,r11,r12,r13,r14,r15,r16)]).length) (
some (.inl (l1++[(r1,r2,r3,r4,r5,r6,r7,r8,r9,r10,r11,r12,r13,r14,r15,r16)])))))))) fun r38=>match r38 with
| .inl l4 =>
some (.inl (l4,IntKind.wrap .i64 (v0+1)))
| .inr _ =>
some (.inr (.inl ()))) (
some (.inr (.inr l1)))
def F7 (n:Nat) (x1:Nat) (x2:Nat) (x4:Nat) (l2:List (Nat × Nat)) (x3:Nat):Option (Bool) :=
ob (F8 n) fun r2 =>
br (!r2) (
some false) (
ob (PK n x1 x2 x4 l2) fun(r0,l1) =>
gd (decide (0≤r0)) (
br (decide (uw .u64 (uw .u64 x3 &&& uw .u64 (cA .u64 (bY .u64 1 r0.toNat) 1))=0)) (
ob (
some ()) fun _ =>
ob (LJ n r0 l1 (uw .u64 (uw .u64 x3 &&& uw .u64 (cA .u64 (bY .u64 1 r0.toNat) 1)))) fun(r3,r4,r5,r6,r7,r8,r9,r10,r11) =>
ob (
br ((decide (r3=0) && decide (r4=0) && decide (r5=0) && decide (r6=0) && decide (r7=0) && decide (r8=0) && decide (r9=0) && decide (r10=0))) (
some (decide (r11=2))) (
some false)) fun v0 =>
some v0) (
ob (Qb n r0 l1 (uw .u64 (uw .u64 x3 &&& uw .u64 (cA .u64 (bY .u64 1 r0.toNat) 1)))) fun(r1,r12) =>
ob (LJ n r0 l1 (uw .u64 (uw .u64 x3 &&& uw .u64 (cA .u64 (bY .u64 1 r0.toNat) 1)))) fun(r13,r14,r15,r16,r17,r18,r19,r20,r21) =>
ob (
br (!decide (r12=0)) (
some true) (
br (!decide (r21=0)) (
some true) (
ob (Qe n r13 r14 r15 r16 r17 r18 r19 r20) fun r22 =>
some (!(r1 == (decide (r22=1))))))) fun v1 =>
br (v1) (
some false) (
ob (Pu n r0 l1 (uw .u64 (uw .u64 x3 &&& uw .u64 (cA .u64 (bY .u64 1 r0.toNat) 1)))) fun(l3,r23) =>
ob (α:=(Unit) ⊕ (List (Nat × Nat × Nat × Nat × Nat × Nat × Nat × Nat × Nat × Nat × Nat × Nat × Nat × Nat × Nat × Nat))) (
bV (Ec n l1 x3 r0 r1 l3) n (([]:List (Nat × Nat × Nat × Nat × Nat × Nat × Nat × Nat × Nat × Nat × Nat × Nat × Nat × Nat × Nat × Nat)),0)) fun r24=>match r24 with
| .inl _ =>
some false
| .inr l4 =>
br (decide (r23=0)) (
br (!r1) (
some true) (
ob (P3 n (uw .u64 (uw .u64 x3 &&& uw .u64 (cA .u64 (bY .u64 1 r0.toNat) 1)))) fun r25 =>
ob (
ob (NA n (IntKind.wrap .i64 (r25-1)) 1) fun(r26,r27,r28,r29,r30,r31,r32,r33,r34,r35,r36,r37,r38,r39,r40,r41,_) =>
some (r26,r27,r28,r29,r30,r31,r32,r33,r34,r35,r36,r37,r38,r39,r40,r41)) fun(v2,v3,v4,v5,v6,v7,v8,v9,v10,v11,v12,v13,v14,v15,v16,v17) =>
ob (Pq n l4) fun(r42,r43,r44,r45,r46,r47,r48,r49,r50,r51,r52,r53,r54,r55,r56,r57,r58) =>
ob (
br ((decide (r42=v2) && decide (r43=v3) && decide (r44=v4) && decide (r45=v5) && decide (r46=v6) && decide (r47=v7) && decide (r48=v8) && decide (r49=v9) && decide (r50=v10) && decide (r51=v11) && decide (r52=v12) && decide (r53=v13) && decide (r54=v14) && decide (r55=v15) && decide (r56=v16) && decide (r57=v17))) (
some (decide (r58=0))) (
some false)) fun v18 =>
some v18)) (
some false)))))
end Go.Proofs.YtookeaakpiefjaaGreatDoor
end

section
namespace Go.Ab.W
open Go Go.Ab
section
variable {P : Program} {ty el : TypeId}
theorem gk {eq:TypeId→Value→Value→Option Bool} {xs ys:Array Value} {t off:Nat} {rest:List (TypeId × Nat)} {x y:Value} {b r:Bool} (h1:dS P t xs off=some x) (h2:dS P t ys off=some y) (h3:eq t x y=some b) (h4:fC eq P xs ys rest=some r):fC eq P xs ys ((t,off)::rest)=some (b && r):=by
 unfold fC;rw[h1,h2]
 dsimp only
 rw[h3];cases b with
 | true=>exact h4
 | false=>rfl
theorem pY {k:IntKind} (he:P.underlying el=some (.int k)) (d:Nat) (x y:Nat):iN P (d+1) el (.int k ((x:Nat):Int)) (.int k ((y:Nat):Int))=some (decide (x=y)):=by
 simp only[iN,he,if_true]
 congr 1
 rw[Bool.eq_iff_iff];simp only[beq_iff_eq,decide_eq_true_eq];omega
theorem BU {k:IntKind} (hu:P.underlying ty=some (.array 8 el)) (hk:known P el=true) (hs:al P el=1) (ha:cS P el=false) (he:P.underlying el=some (.int k)) (d:Nat) (x0 y0 x1 y1 x2 y2 x3 y3 x4 y4 x5 y5 x6 y6 x7 y7:Nat) :
  iN P (d+2) ty (.agg #[.int k ((x0:Nat):Int),.int k ((x1:Nat):Int),.int k ((x2:Nat):Int),.int k ((x3:Nat):Int),.int k ((x4:Nat):Int),.int k ((x5:Nat):Int),.int k ((x6:Nat):Int),.int k ((x7:Nat):Int)])
   (.agg #[.int k ((y0:Nat):Int),.int k ((y1:Nat):Int),.int k ((y2:Nat):Int),.int k ((y3:Nat):Int),.int k ((y4:Nat):Int),.int k ((y5:Nat):Int),.int k ((y6:Nat):Int),.int k ((y7:Nat):Int)]) =
   some (decide (x0=y0) && decide (x1=y1) && decide (x2=y2) && decide (x3=y3) && decide (x4=y4) && decide (x5=y5) && decide (x6=y6) && decide (x7=y7)):=by
 have hp:∀(cs:Array Value) (i:Nat) (v:Value),cs[i]? = some v→dS P el cs i=some v:=fun cs i v h=>by
  unfold dS;rw[hk,ha,h]; rfl
 show iN P ((d+1)+1) ty _ _=_
 unfold iN;simp only[hu,hk,if_true,hs]
 show fC _ P _ _ [(el,0),(el,1),(el,2),(el,3),(el,4),(el,5),(el,6),(el,7)]=_
 simp only[Bool.and_assoc];rw[gk (hp _ 0 _ rfl) (hp _ 0 _ rfl) (pY he d x0 y0) (gk (hp _ 1 _ rfl) (hp _ 1 _ rfl) (pY he d x1 y1) (gk (hp _ 2 _ rfl) (hp _ 2 _ rfl) (pY he d x2 y2) (gk (hp _ 3 _ rfl) (hp _ 3 _ rfl) (pY he d x3 y3) (gk (hp _ 4 _ rfl) (hp _ 4 _ rfl) (pY he d x4 y4) (gk (hp _ 5 _ rfl) (hp _ 5 _ rfl) (pY he d x5 y5) (gk (hp _ 6 _ rfl) (hp _ 6 _ rfl) (pY he d x6 y6) (gk (hp _ 7 _ rfl) (hp _ 7 _ rfl) (pY he d x7 y7) rfl)))))))];simp only[Bool.and_true]
theorem PJ {k:IntKind} (hu:P.underlying ty=some (.array 8 el)) (hk:known P el=true) (hs:al P el=1) (ha:cS P el=false) (he:P.underlying el=some (.int k)) (x0 y0 x1 y1 x2 y2 x3 y3 x4 y4 x5 y5 x6 y6 x7 y7:Nat) :
  iN P Op.maxDepth ty (.agg #[.int k ((x0:Nat):Int),.int k ((x1:Nat):Int),.int k ((x2:Nat):Int),.int k ((x3:Nat):Int),.int k ((x4:Nat):Int),.int k ((x5:Nat):Int),.int k ((x6:Nat):Int),.int k ((x7:Nat):Int)])
   (.agg #[.int k ((y0:Nat):Int),.int k ((y1:Nat):Int),.int k ((y2:Nat):Int),.int k ((y3:Nat):Int),.int k ((y4:Nat):Int),.int k ((y5:Nat):Int),.int k ((y6:Nat):Int),.int k ((y7:Nat):Int)]) =
   some (decide (x0=y0) && decide (x1=y1) && decide (x2=y2) && decide (x3=y3) && decide (x4=y4) && decide (x5=y5) && decide (x6=y6) && decide (x7=y7)) :=
 BU hu hk hs ha he 9998 x0 y0 x1 y1 x2 y2 x3 y3 x4 y4 x5 y5 x6 y6 x7 y7
theorem P7 {k : IntKind} {w : TypeId} {fs : Array _} (hu2 : P.underlying ty = some (.struct fs)) (hst : (P.stoodInHeld ty || fs.any (·.name == "_")) = false) (hm : fs.toList.map (fun f => (f.type, f.offset)) = [(w, 0), (w, 8)])
  (hkw:known P w=true) (haw:cS P w=true) (hsw:al P w=8)
  (hu:P.underlying w=some (.array 8 el)) (hk:known P el=true) (hs:al P el=1) (ha:cS P el=false) (he:P.underlying el=some (.int k)) (x0 y0 x1 y1 x2 y2 x3 y3 x4 y4 x5 y5 x6 y6 x7 y7 x8 y8 x9 y9 x10 y10 x11 y11 x12 y12 x13 y13 x14 y14 x15 y15:Nat) :
  iN P Op.maxDepth ty (.agg #[.int k ((x0:Nat):Int),.int k ((x1:Nat):Int),.int k ((x2:Nat):Int),.int k ((x3:Nat):Int),.int k ((x4:Nat):Int),.int k ((x5:Nat):Int),.int k ((x6:Nat):Int),.int k ((x7:Nat):Int),.int k ((x8:Nat):Int),.int k ((x9:Nat):Int),.int k ((x10:Nat):Int),.int k ((x11:Nat):Int),.int k ((x12:Nat):Int),.int k ((x13:Nat):Int),.int k ((x14:Nat):Int),.int k ((x15:Nat):Int)]) (.agg #[.int k ((y0:Nat):Int),.int k ((y1:Nat):Int),.int k ((y2:Nat):Int),.int k ((y3:Nat):Int),.int k ((y4:Nat):Int),.int k ((y5:Nat):Int),.int k ((y6:Nat):Int),.int k ((y7:Nat):Int),.int k ((y8:Nat):Int),.int k ((y9:Nat):Int),.int k ((y10:Nat):Int),.int k ((y11:Nat):Int),.int k ((y12:Nat):Int),.int k ((y13:Nat):Int),.int k ((y14:Nat):Int),.int k ((y15:Nat):Int)])=some (decide (x0=y0) && decide (x1=y1) && decide (x2=y2) && decide (x3=y3) && decide (x4=y4) && decide (x5=y5) && decide (x6=y6) && decide (x7=y7) && decide (x8=y8) && decide (x9=y9) && decide (x10=y10) && decide (x11=y11) && decide (x12=y12) && decide (x13=y13) && decide (x14=y14) && decide (x15=y15)):=by
 have hp0:∀a0 a1 a2 a3 a4 a5 a6 a7 b0 b1 b2 b3 b4 b5 b6 b7:Value,dS P w #[a0,a1,a2,a3,a4,a5,a6,a7,b0,b1,b2,b3,b4,b5,b6,b7] 0=some (.agg #[a0,a1,a2,a3,a4,a5,a6,a7]):=fun _ _ _ _ _ _ _ _ _ _ _ _ _ _ _ _=>by
  unfold dS;rw[hkw,haw,hsw]; rfl
 have hp8:∀a0 a1 a2 a3 a4 a5 a6 a7 b0 b1 b2 b3 b4 b5 b6 b7:Value,dS P w #[a0,a1,a2,a3,a4,a5,a6,a7,b0,b1,b2,b3,b4,b5,b6,b7] 8=some (.agg #[b0,b1,b2,b3,b4,b5,b6,b7]):=fun _ _ _ _ _ _ _ _ _ _ _ _ _ _ _ _=>by
  unfold dS;rw[hkw,haw,hsw]; rfl
 show iN P (9999+1) ty _ _=_
 unfold iN;simp only[hu2,hst,Bool.false_eq_true,if_false,hm];rw[gk (hp0 ..) (hp0 ..) (BU hu hk hs ha he 9997 x0 y0 x1 y1 x2 y2 x3 y3 x4 y4 x5 y5 x6 y6 x7 y7) (gk (hp8 ..) (hp8 ..) (BU hu hk hs ha he 9997 x8 y8 x9 y9 x10 y10 x11 y11 x12 y12 x13 y13 x14 y14 x15 y15) rfl)];simp only[Bool.and_true,Bool.and_assoc]
def Pf (P:Program) (ty w:TypeId):Bool:=match P.underlying ty with
 | some (.struct fs) => !(P.stoodInHeld ty || fs.any (·.name == "_")) && (fs.toList.map (fun f => (f.type, f.offset)) == [(w, 0), (w, 8)]) && known P w && cS P w && (al P w == 8)
 | _=>false
theorem Mr {k:IntKind} {w:TypeId} (h:Pf P ty w=true)
  (hu:P.underlying w=some (.array 8 el)) (hk:known P el=true) (hs:al P el=1) (ha:cS P el=false) (he:P.underlying el=some (.int k)) (x0 y0 x1 y1 x2 y2 x3 y3 x4 y4 x5 y5 x6 y6 x7 y7 x8 y8 x9 y9 x10 y10 x11 y11 x12 y12 x13 y13 x14 y14 x15 y15:Nat) :
  iN P Op.maxDepth ty (.agg #[.int k ((x0:Nat):Int),.int k ((x1:Nat):Int),.int k ((x2:Nat):Int),.int k ((x3:Nat):Int),.int k ((x4:Nat):Int),.int k ((x5:Nat):Int),.int k ((x6:Nat):Int),.int k ((x7:Nat):Int),.int k ((x8:Nat):Int),.int k ((x9:Nat):Int),.int k ((x10:Nat):Int),.int k ((x11:Nat):Int),.int k ((x12:Nat):Int),.int k ((x13:Nat):Int),.int k ((x14:Nat):Int),.int k ((x15:Nat):Int)]) (.agg #[.int k ((y0:Nat):Int),.int k ((y1:Nat):Int),.int k ((y2:Nat):Int),.int k ((y3:Nat):Int),.int k ((y4:Nat):Int),.int k ((y5:Nat):Int),.int k ((y6:Nat):Int),.int k ((y7:Nat):Int),.int k ((y8:Nat):Int),.int k ((y9:Nat):Int),.int k ((y10:Nat):Int),.int k ((y11:Nat):Int),.int k ((y12:Nat):Int),.int k ((y13:Nat):Int),.int k ((y14:Nat):Int),.int k ((y15:Nat):Int)])=some (decide (x0=y0) && decide (x1=y1) && decide (x2=y2) && decide (x3=y3) && decide (x4=y4) && decide (x5=y5) && decide (x6=y6) && decide (x7=y7) && decide (x8=y8) && decide (x9=y9) && decide (x10=y10) && decide (x11=y11) && decide (x12=y12) && decide (x13=y13) && decide (x14=y14) && decide (x15=y15)):=by
 unfold Pf at h
 split at h
 ·rename_i fs hf;simp only[Bool.and_eq_true,Bool.not_eq_true',beq_iff_eq] at h;exact P7 hf h.1.1.1.1 h.1.1.1.2 h.1.1.2 h.1.2 h.2 hu hk hs ha he x0 y0 x1 y1 x2 y2 x3 y3 x4 y4 x5 y5 x6 y6 x7 y7 x8 y8 x9 y9 x10 y10 x11 y11 x12 y12 x13 y13 x14 y14 x15 y15
 ·cases h
end
section
variable {E : Env} {n : Nat} {m0 : AMem} {fs : Fs} {ps : List Pc} {x : Operand} {v : Value} {ty : TypeId}
end
class TyC (P:Program) (ty:TypeId) (ag:outParam Bool) (sz:outParam Nat):Prop where
 t:TyI P ty ag sz
class FaC (P:Program) (ty:TypeId) (f:Nat) (off:outParam Nat):Prop where
 t:∀b o:Nat,aH P ty (ptr b o) f=some (ptr b (o+off))
class SlC (P:Program) (ty:TypeId) (el:outParam TypeId) (w:outParam Nat):Prop where
 t:SlT P ty el w
class ArC (P:Program) (ty:TypeId) (el:outParam TypeId) (len w:outParam Nat):Prop where
 t:ArT P ty el len w
class UsC (P:Program) (ty:TypeId) (el:outParam TypeId):Prop where
 t:P.underlying ty=some (.slice el)
section
variable {E : Env} {n : Nat} {m0 : AMem} {fs : Fs} {ps ps' : List Pc} {ops : Array Oper} {os : List Oper} {K : Tm → AMem → Prop} {dr : Bool}
variable {ty : TypeId} {p : String} {af : Array Edge} {d : Option Nat} {o : Op} {g : Option (Nat × Bool)} {v : Value}
theorem Wo.Re {j:Nat} {b:Bool} (hg:qp ops fs (some (j,b)) true) (k:Wo dr E n ops K (⟨d,o,ty,p,af,none⟩::os) m0 fs ps):Wo dr E n ops K (⟨d,o,ty,p,af,some (j,b)⟩::os) m0 fs ps:=by
 cases dr with
 | false =>
  intro t m hf hm;have h:=k t m hf hm;simp only[jO,hg t _ _ _ _ _ hf,if_true];simp only[jO,gn t _ _ _ _ _ hf,if_true] at h;exact h
 | true =>
  intro t m w hf hm hw;have h:=k t m w hf hm hw;simp only[gU,hg t _ _ _ _ _ hf,if_true];simp only[gU,gn t _ _ _ _ _ hf,if_true] at h;exact h
end
section
variable {k : IntKind} {P : Program} {ty : TypeId}
theorem N7 (_:k.signed=true) (a b:Int):aY .add ty P (.int k a) (.int k b)=some (.int k (k.wrap (a+b))):=lM _ _ _
theorem Mu (_:k.signed=true) (a b:Int):aY .sub ty P (.int k a) (.int k b)=some (.int k (k.wrap (a-b))):=qu _ _ _
theorem N6 (_:k.signed=true) (a b:Int):aY .lss ty P (.int k a) (.int k b)=some (.bool (decide (a<b))):=wN _ _ _
theorem M6 (_:k.signed=true) (a b:Int):aY .gtr ty P (.int k a) (.int k b)=some (.bool (decide (b<a))):=oo _ _ _
theorem No (_:k.signed=true) (a b:Int):aY .geq ty P (.int k a) (.int k b)=some (.bool (decide (b≤a))):=xc _ _ _
theorem Ml (_:k.signed=true) (a b:Int):aY .eql ty P (.int k a) (.int k b)=some (.bool (decide (a=b))):=wY _ _ _
theorem MU (_:k.signed=true) (a b:Int):aY .neq ty P (.int k a) (.int k b)=some (.bool (!decide (a=b))):=sC _ _
theorem Nt (_:k.signed=false) (a b:Nat):aY .lss ty P (.int k (a:Int)) (.int k (b:Int))=some (.bool (decide (a<b))):=M4 _ _
theorem Mj (_:k.signed=false) (a b:Nat):aY .leq ty P (.int k (a:Int)) (.int k (b:Int))=some (.bool (decide (a≤b))):=NY _ _
theorem MW (_:k.signed=false) (a b:Nat):aY .gtr ty P (.int k (a:Int)) (.int k (b:Int))=some (.bool (decide (b<a))):=NG _ _
theorem Ms (_:k.signed=false) (a b:Nat):aY .geq ty P (.int k (a:Int)) (.int k (b:Int))=some (.bool (decide (b≤a))):=Nf _ _
theorem MY (_:k.signed=false) (a b:Nat):aY .eql ty P (.int k (a:Int)) (.int k (b:Int))=some (.bool (decide (a=b))):=Be _ _
theorem N1 (_:k.signed=false) (a b:Nat):aY .neq ty P (.int k (a:Int)) (.int k (b:Int))=some (.bool (!decide (a=b))):=NV _ _
end
section
variable {E : Env} {n : Nat} {m0 : AMem} {fs : Fs} {ps ps' : List Pc} {ops : Array Oper} {os : List Oper} {K : Tm → AMem → Prop} {dr : Bool}
variable {ty ty' oty : TypeId} {p : String} {af : Array Edge} {d : Nat} {dd : Option Nat} {o : Op} {a b r v : Value} {x y c : Operand}
theorem Wo.kN (k:Wo dr E n ops K (⟨dd,o,ty,p,af,none⟩::os) m0 fs ps):Wo dr E n ops K (⟨dd,o,ty,p,af,none⟩::os) m0 fs ps:=k
theorem Wo.kG {g:Nat × Bool} (k:Wo dr E n ops K (⟨dd,o,ty,p,af,some g⟩::os) m0 fs ps):Wo dr E n ops K (⟨dd,o,ty,p,af,some g⟩::os) m0 fs ps:=k
def Has (ps:List Pc) (q:Pc):Prop:=∃k,pk ps k=some q
theorem Has.z {q:Pc}:Has (q::ps) q:=⟨0,rfl⟩
theorem Has.s {q q':Pc} (h:Has ps q):Has (q'::ps) q:=by obtain⟨k,h⟩:=h; exact⟨k+1,h⟩
theorem Wo.RO (h:ev E fs x=some v) (hd:Nat.blt d n=true) (k:Wo dr E n ops K os m0 ((d,v)::fs) ps):Wo dr E n ops K (⟨some d,.move x,ty,p,af,none⟩::os) m0 fs ps:=Wo.od (bC h) hd k
theorem Wo.RC (h:ev E fs x=some v) (hd:Nat.blt d n=true) (k:Wo dr E n ops K os m0 ((d,v)::fs) ps):Wo dr E n ops K (⟨some d,.assign x,ty,p,af,none⟩::os) m0 fs ps:=Wo.od (nr h) hd k
theorem Wo.RA {op:BinOp} (h:ev E fs x=some a) (h':ev E fs y=some b) (hr:aY op oty E.P a b=some r) (hd:Nat.blt d n=true) (k:Wo dr E n ops K os m0 ((d,r)::fs) ps):Wo dr E n ops K (⟨some d,.binOp op oty x y ty',ty,p,af,none⟩::os) m0 fs ps:=Wo.od (aN h h' hr) hd k
theorem Wo.RI {f:Nat} (h:ev E fs x=some a) (hr:aH E.P oty a f=some r) (hd:Nat.blt d n=true) (k:Wo dr E n ops K os m0 ((d,r)::fs) ps):Wo dr E n ops K (⟨some d,.fieldAddr oty x f,ty,p,af,none⟩::os) m0 fs ps:=Wo.od (fa h hr) hd k
def IK (ps:List Pc) (q q':Pc) (ps':List Pc):Prop:=∃k,pk ps k=some q∧cG ps k q'=ps'
theorem IK.z {q q':Pc}:IK (q::ps) q q' (q'::ps):=⟨0,rfl,rfl⟩
theorem IK.s {q q' r:Pc} (h:IK ps q q' ps'):IK (r::ps) q q' (r::ps'):=by obtain⟨k,h,h'⟩:=h; exact⟨k+1,h,by rw[←h']; rfl⟩
theorem Wo.RJ {b:Bool} (hc:ev E fs c=some (.bool b)) (hb:b=true) (h:ev E fs x=some v) (hd:Nat.blt d n=true) (k:Wo dr E n ops K os m0 ((d,v)::fs) ps):Wo dr E n ops K (⟨some d,.pick c x y,ty,p,af,none⟩::os) m0 fs ps:=Wo.od (Eo hc hb h) hd k
theorem Wo.Ru {b:Bool} (hc:ev E fs c=some (.bool b)) (hb:b=false) (h:ev E fs y=some v) (hd:Nat.blt d n=true) (k:Wo dr E n ops K os m0 ((d,v)::fs) ps):Wo dr E n ops K (⟨some d,.pick c x y,ty,p,af,none⟩::os) m0 fs ps:=Wo.od (Eu hc hb h) hd k
theorem Wo.Rr (hc:ev E fs c=some (.bool true)) (h:ev E fs x=some v) (hd:Nat.blt d n=true) (k:Wo dr E n ops K os m0 ((d,v)::fs) ps):Wo dr E n ops K (⟨some d,.pick c x y,ty,p,af,none⟩::os) m0 fs ps:=Wo.od (HK hc h) hd k
theorem Wo.Rw (hc:ev E fs c=some (.bool false)) (h:ev E fs y=some v) (hd:Nat.blt d n=true) (k:Wo dr E n ops K os m0 ((d,v)::fs) ps):Wo dr E n ops K (⟨some d,.pick c x y,ty,p,af,none⟩::os) m0 fs ps:=Wo.od (OW hc h) hd k
theorem Wo.RH {i:Nat} {vs:Array Value} (h:ev E fs x=some (.tuple vs)) (hr:vs[i]? = some r) (hd:Nat.blt d n=true) (k:Wo dr E n ops K os m0 ((d,r)::fs) ps):Wo dr E n ops K (⟨some d,.extract x i,ty,p,af,none⟩::os) m0 fs ps:=Wo.od (wj h hr) hd k
theorem Wo.RR {b:Bool} (h:ev E fs x=some (.bool b)) (hd:Nat.blt d n=true) (k:Wo dr E n ops K os m0 ((d,.bool (!b))::fs) ps):Wo dr E n ops K (⟨some d,.unOp .not oty x,ty,p,af,none⟩::os) m0 fs ps:=Wo.od (II h rfl) hd k
theorem Wo.RM {el:TypeId} {len w b o i:Nat} {kd:IntKind} (ht:ArT E.P oty el len w) (h:ev E fs x=some (ptr b o)) (h':ev E fs y=some (.int kd (i:Int))) (hi:i<len) (hd:Nat.blt d n=true) (k:Wo dr E n ops K os m0 ((d,ptr b (o+i*w))::fs) ps):Wo dr E n ops K (⟨some d,.indexAddr oty x y,ty,p,af,none⟩::os) m0 fs ps:=Wo.od (Aw h h' (Ed ht hi)) hd k
theorem Wo.Qs {elem:TypeId} {b o w l cap:Nat} {i:Int} {kd:IntKind} (ht:SlT E.P oty elem w) (hx:ev E fs x=some (.slice (some ⟨b,o,none⟩) l cap)) (hy:ev E fs y=some (.int kd i)) (hi:0≤i∧i.toNat<l) (hd:Nat.blt d n=true) (k:Wo dr E n ops K os m0 ((d,ptr b (o+i.toNat*w+0))::fs) ps):Wo dr E n ops K (⟨some d,.indexAddr oty x y,ty,p,af,none⟩::os) m0 fs ps:=Wo.od (Lu ht hx hy hi) hd k
theorem Wo.QU {elem:TypeId} {b w l cap:Nat} {i:Int} {kd:IntKind} (ht:SlT E.P oty elem w) (hx:ev E fs x=some (.slice (some ⟨b,0,none⟩) l cap)) (hy:ev E fs y=some (.int kd i)) (hi:0≤i∧i.toNat<l) (hd:Nat.blt d n=true) (k:Wo dr E n ops K os m0 ((d,ptr b (i.toNat*w+0))::fs) ps):Wo dr E n ops K (⟨some d,.indexAddr oty x y,ty,p,af,none⟩::os) m0 fs ps:=Wo.od (dQ ht hx hy hi) hd k
def yj (ps:List Pc) (a:Option Addr):Prop:=∃k q,pk ps k=some q∧(gE a=q.qG∨a=none)
theorem yj.z {q:Pc} {a:Option Addr} (h:gE a=q.qG):yj (q::ps) a:=⟨0,q,rfl,.inl h⟩
theorem yj.s {q:Pc} {a:Option Addr} (h:yj ps a):yj (q::ps) a:=by obtain⟨k,r,h⟩:=h; exact⟨k+1,r,h⟩
theorem Wo.RG {l cap:Nat} {a:Option Addr} {ars:Array Operand} {elem:TypeId} (hu:E.P.underlying oty=some (.slice elem)) (ha:gT E fs ars.toList=some [.slice a l cap]) (hp:yj ps a) (hd:Nat.blt d n=true) (k:Wo dr E n ops K os m0 ((d,.int .i64 (l:Int))::fs) ps):Wo dr E n ops K (⟨some d,.call ⟨.builtin .len,ars,#[oty]⟩,ty,p,af,none⟩::os) m0 fs ps:=by
 obtain⟨_,_,hp,hb⟩:=hp;exact Wo.od (Ku hu ha hp hb) hd k
theorem Wo.zT {j:Nat} {q:Bool} (hd:(ops[j]?).bind (·.dst)=some d) (h:lk fs d=some (.bool q)) (hq:q=true) (k:Wo dr E n ops K (⟨dd,o,ty,p,af,none⟩::os) m0 fs ps):Wo dr E n ops K (⟨dd,o,ty,p,af,some (j,true)⟩::os) m0 fs ps:=Wo.Re (gg hd h (oQ hq)) k
theorem Wo.zF {j:Nat} {q:Bool} (hd:(ops[j]?).bind (·.dst)=some d) (h:lk fs d=some (.bool q)) (hq:q=false) (k:Wo dr E n ops K (⟨dd,o,ty,p,af,none⟩::os) m0 fs ps):Wo dr E n ops K (⟨dd,o,ty,p,af,some (j,false)⟩::os) m0 fs ps:=Wo.Re (gg hd h (gH hq)) k
theorem Wo.Rx {j d':Nat} {q:Bool} (hd:(ops[j]?).bind (·.dst)=some d') (h:lk fs d'=some (.bool q)) (hq:q=false) (hd':Nat.blt d n=true) (k:Wo dr E n ops K os m0 ((d,undef)::fs) ps):Wo dr E n ops K (⟨some d,o,ty,p,af,some (j,true)⟩::os) m0 fs ps:=Wo.s (gg hd h (Rs hq)) hd' k
theorem Wo.RV {j d':Nat} {q:Bool} (hd:(ops[j]?).bind (·.dst)=some d') (h:lk fs d'=some (.bool q)) (hq:q=true) (hd':Nat.blt d n=true) (k:Wo dr E n ops K os m0 ((d,undef)::fs) ps):Wo dr E n ops K (⟨some d,o,ty,p,af,some (j,false)⟩::os) m0 fs ps:=Wo.s (gg hd h (pR hq)) hd' k
theorem Wo.Rv {j d':Nat} {q:Bool} (hd:(ops[j]?).bind (·.dst)=some d') (h:lk fs d'=some undef) (hd':Nat.blt d n=true) (k:Wo dr E n ops K os m0 ((d,undef)::fs) ps):Wo dr E n ops K (⟨some d,o,ty,p,af,some (j,q)⟩::os) m0 fs ps:=Wo.s (gu hd h) hd' k
end
structure Bx (Q:Prop):Prop where
 v:Q
theorem wz {P Q:Prop} (k:Q) (h:Bx Q→P:=by
  intro h
  repeat first
   | refine Wk.seq ?_
   | refine Wk.region ?_
   | (apply Wk.kX; exact rfl; first|assumption|exact rfl)
   | (apply Wk.LA; exact rfl; first|assumption|exact rfl)
   | refine Wk.skip ?_
   | refine Wk.ret ?_
   | refine Wk.exit ?_
   | refine Wk.block ?_
   | (apply Wk.draw; kernel_rfl)
  repeat first
   | ((first|refine Wo.kN ?_ | (refine Wo.kG ?_; first | (apply Wo.zT; exact rfl; exact rfl; first|assumption|with_reducible exact rfl) | (apply Wo.zF; exact rfl; exact rfl; first|assumption|with_reducible exact rfl))); first
    | (apply Wo.RO; exact rfl; exact rfl)
    | (apply Wo.RC; exact rfl; exact rfl)
    | (apply Wo.RA; exact rfl; exact rfl; (first | (apply N7; exact rfl) | (apply N6; exact rfl) | (apply Mu; exact rfl) | (apply Ml; exact rfl) | (apply MU; exact rfl) | (apply No; exact rfl) | (apply M6; exact rfl) | (apply sb_leq; exact rfl) | (apply MY; exact rfl) | (apply N1; exact rfl) | (apply Nt; exact rfl) | (apply Mj; exact rfl) | (apply Ms; exact rfl) | (apply MW; exact rfl) | (apply lC; exact rfl) | (apply zg; exact rfl) | (apply oK; exact rfl) | (apply xd; exact rfl) | (apply KP; exact rfl)); exact rfl)
    | (apply Wo.RI; exact rfl; exact FaC.t _ _; exact rfl)
    | (apply Wo.zld; exact TyC.t; exact rfl; (repeat first|exact Has.z|refine Has.s ?_); exact rfl; exact rfl)
    | (apply Wo.zldr; exact TyC.t; exact rfl; (repeat first|exact Has.z|refine Has.s ?_); exact aR (by assumption); exact rfl; exact rfl; exact rfl)
    | (apply Wo.zlda; exact TyC.t; exact rfl; (repeat first|exact Has.z|refine Has.s ?_); exact aR (by assumption); exact rfl; exact rfl; exact rfl)
    | (apply Wo.zst; exact TyC.t; exact rfl; exact rfl; (repeat first|exact IK.z|apply IK.s); exact rfl; exact rfl)
    | (apply Wo.RJ; exact rfl; assumption; exact rfl; exact rfl)
    | (apply Wo.Ru; exact rfl; assumption; exact rfl; exact rfl)
    | (apply Wo.Rr; exact rfl; exact rfl; exact rfl)
    | (apply Wo.Rw; exact rfl; exact rfl; exact rfl)
    | (apply Wo.RH; exact rfl; exact rfl; exact rfl)
    | (apply Wo.RR; exact rfl; exact rfl)
    | (apply Wo.RM; exact ArC.t; exact rfl; exact rfl; decide; exact rfl)
    | (apply Wo.QU; exact SlC.t; exact rfl; exact rfl; assumption; exact rfl)
    | (apply Wo.Qs; exact SlC.t; exact rfl; exact rfl; assumption; exact rfl)
    | (apply Wo.RG; exact UsC.t; exact rfl; (repeat first|exact yj.z rfl|refine yj.s ?_); exact rfl))
   | (refine Wo.kG ?_; first
    | (apply Wo.Rx; exact rfl; exact rfl; (first|assumption|with_reducible exact rfl); exact rfl)
    | (apply Wo.RV; exact rfl; exact rfl; (first|assumption|with_reducible exact rfl); exact rfl)
    | (apply Wo.Rv; exact rfl; exact rfl; exact rfl))
  try refine Wo.nil ?_
  repeat first
   | refine At.tn ?_
   | refine At.te ?_
   | refine At.tr ?_
   | refine At.bn ?_
   | refine At.be ?_
   | refine At.br ?_
   | refine At.bx rfl ?_
  exact h.v):P:=h ⟨k⟩
theorem aq {P Q:Prop} (k:Q) (h:Bx Q→P:=by intro h; refine wz ?_; refine wz ?_; exact h.v):P:=h ⟨k⟩
theorem gG {P Q:Prop} (k:Q) (h:Bx Q→P:=by intro h; refine wz ?_; refine wz ?_; refine wz ?_; exact h.v):P:=h ⟨k⟩
theorem Rk {P Q:Prop} (k:Q) (h:Bx Q→P:=by intro h; refine wz ?_; refine wz ?_; refine wz ?_; refine wz ?_; exact h.v):P:=h ⟨k⟩
section
variable {E : Env} {n : Nat} {m0 : AMem} {fs : Fs} {ps : List Pc} {fn : FuncId} {ro : Option Nat} {c : Code} {Q : AExit → Tm → AMem → Prop}
def Wl (E:Env) (n:Nat) (fn:FuncId) (ro:Option Nat) (c:Code) (Q:AExit→Tm→AMem→Prop) (m0:AMem) (fs:Fs) (ps:List Pc):Prop:=∀t m,Fr t fs→Hp m0 m ps→mF E n fn ro c Q t m
theorem Wl.round (h:Wk E n fn ro c (mz (mF E n fn ro c Q) Q) m0 fs ps):Wl E n fn ro c Q m0 fs ps:=fun t m hf hm=>.round (h t m hf hm)
end
theorem cQ {β:Type} {i:Int} {n:Nat} {k:Option β} {r:β} (h:gd (cg i n) k=some r):(0≤i∧i.toNat<n)∧k=some r:=⟨zo (ax h).1,(ax h).2⟩
section
variable {E : Env} {n : Nat} {m0 : AMem} {fs fs' : Fs} {ps ps' : List Pc} {ops : Array Oper} {os : List Oper} {K : Tm → AMem → Prop} {dr : Bool} {fn : FuncId} {ro : Option Nat} {c : Code} {Q : AExit → Tm → AMem → Prop}
variable {ty oty : TypeId} {p : String} {af : Array Edge} {d : Nat} {g : Option (Nat × Bool)} {x : Operand} {v : Value}
theorem ae {γ:Type} {G:γ→En} {e:AExit} (g:γ) (ks:List Nat) (he:e=(G g).e:=by rfl) (hs:sub fs (G g).fs:=by repeat first|exact sn|refine sc rfl ?_) (hn:jL ks=true:=by rfl) (hp:az ps ks=some (G g).ps:=by rfl):At (o6 m0 G) e m0 fs ps:=At.en g he hs (ak.az ks hn hp)
theorem ar {α:Type} {V:α→Value} {N:α→List Pc} {rs:List ResultVar} {vs:List Value} (x:α) (ks:List Nat) (hr:Res1 E fs ps rs vs:=by repeat first|exact .nil | (apply Res1.tmp; exact rfl) | (apply Res1.zc; exact TyC.t; exact rfl; (repeat first|exact Has.z|refine Has.s ?_); exact rfl)) (hv:e9 vs=V x:=by rfl) (hn:jL ks=true:=by rfl) (hp:az ps ks=some (N x):=by rfl):At (rY E rs fun v m=>∃x,v=V x∧Hp m0 m (N x)) .ret m0 fs ps:=.ret hr fun _ hm=>⟨x,hv,hm.az ks hn hp⟩
def ap {ρ:Type} {δ:ρ→Type} (X:(r:ρ)→δ r→En) (r:ρ):δ r→En:=X r
theorem lo {σ ρ γ:Type} {δ:ρ→Type} {body:σ→Option (σ ⊕ ρ)} {X:(r:ρ)→δ r→En} {N:Nat} {s:σ} {r:ρ} (h:bV body N s=some r) (g:γ) (ks:List Nat) (I:σ→γ→En)
  (hb:∀s g r,body s=some r→Wk E n fn ro c (match r with | .inl s'=>o6 m0 (I s') | .inr r=>o6 m0 (X r)) m0 (I s g).fs (I s g).ps)
  (hs:sub fs (I s g).fs:=by repeat first|exact sn|refine sc rfl ?_) (hd:jL ks=true:=by rfl) (hp:az ps ks=some (I s g).ps:=by rfl)
  (hn:∀s g,(I s g).e = .normal:=by exact fun _ _=>rfl) (hx:∀r g,(X r g).e≠.normal:=by intro r d; first | (intro e; cases e; done) | (rcases r with r|r<;>first | (intro e; cases e; done) | (rcases r with r|r<;>first | (intro e; cases e; done) | (rcases r with r|r<;>intro e<;>cases e)))):Wk E n fn ro (.loop c) (o6 m0 (ap X r)) m0 fs ps:=.qa hs (ak.az ks hd hp) (Wk.loop body I X hb hn hx N s r h g)
theorem ct {ρ γ:Type} (F:ρ→γ→En) (r:ρ) (h:Wk E n fn ro c (o6 m0 (ap F r)) m0 fs ps) (k:∀g,At Q (F r g).e m0 (F r g).fs (F r g).ps):Wk E n fn ro c Q m0 fs ps:=.cut h k
theorem wb (k:∀b,Wo dr E n ops K os m0 ((d,ptr b 0)::fs) (.obj b (.cells v.cells.toList .own)::ps)) (h:ev E fs x=some v:=by rfl) (hd:Nat.blt d n=true:=by rfl):Wo dr E n ops K (⟨some d,.box oty x,ty,p,af,none⟩::os) m0 fs ps:=Wo.x (QD h) gn hd k
theorem wa {z:Value} (hz:bu E.P oty=some z) (k:∀b,Wo dr E n ops K os m0 ((d,ptr b 0)::fs) (.obj b (.cells z.cells.toList .own)::ps)) (hp:bw z=true:=by rfl) (hd:Nat.blt d n=true:=by rfl):Wo dr E n ops K (⟨some d,.alloc oty,ty,p,af,none⟩::os) m0 fs ps:=Wo.x (Pm hz hp) gn hd k
theorem cw {f:FuncId} {F:Func} {args:List Value} {rs:List ResultVar} {N:Nat} {R:Value→AMem→Prop} {m:AMem} (hf:E.P.funcs[f]? = some F) (hm:Hp m0 m ps) (h:Wk E N f none c (rY E rs R) m0 (zL args 0 []) ps) (hp:E.cV f=none:=by rfl) (hb:F.body=some c:=by rfl) (hrs:F.results.toList=rs:=by rfl) (hN:max args.length F.ntmps=N:=by rfl):aB E f args m R:=bN hp hf hb hrs hN hm h
variable {m : AMem} {a : Option Addr} {cap w l : Nat} {es : List (List Value)}
theorem Hp.q (h:Hp m0 m ps) (k:Nat) {p:Pc} (hp:pk ps k=some p:=by rfl) (hi:IsRd p a cap w l es:=by first|exact .rd _ _ _ _ _|exact .sl _ _ _ _|exact .arr _ _ _ _ _):Rd m a cap w l es:=h.rd hp hi
theorem Hp.no (h:Hp m0 m ps) (k:Nat) (hp:pk ps k=some (.rd a cap w l es):=by rfl):∀b,gE a=some b→¬wG ps b:=h.PI hp
theorem Hp.i (h:Hp m0 m ps) (hr:Rd m a cap w l es) (ho:(ps.all Pc.J8)=true:=by rfl):Hp m0 m (.rd a cap w l es::ps):=h.eG ho hr
variable {α : Type} {V : α → Value} {N : α → List Pc} {R : α → Pc} {f : Operand} {q : FuncId} {ars : Array Operand} {ts : Array TypeId} {args : List Value} {prs : List (Nat × Nat)} {ss : List Nk}
theorem wc (hg:qp ops fs g true) (hc:∀m,Hp m0 m ps→aB E q args m (fun v m'=>∃x,v=V x∧Hp m m' (N x))) (k:∀x,Wo dr E n ops K os m0 ((d,V x)::fs) (N x++ps)) (hf:ev E fs f=some (.func (.func q) #[] #[]):=by rfl) (ha:gT E fs ars.toList=some args:=by rfl) (ho:∀x,vZ (N x)=true:=by exact fun _=>rfl) (hd:Nat.blt d n=true:=by rfl):Wo dr E n ops K (⟨some d,.call ⟨.value f,ars,ts⟩,ty,p,af,g⟩::os) m0 fs ps:=Wo.x (QE hf ha hc ho) hg hd k
theorem wv (hg:qp ops fs g true) (hc:∀m,Hp m0 m ps→aB E q args m (fun v m'=>∃x,v=V x∧Hp m m' [R x,.gen (oE (wG ps))])) (k:∀x,Wo dr E n ops K os m0 ((d,V x)::fs) (R x::ps)) (hf:ev E fs f=some (.func (.func q) #[] #[]):=by rfl) (ha:gT E fs ars.toList=some args:=by rfl) (ho:∀x,nH [R x]=true:=by exact fun _=>rfl) (hd:Nat.blt d n=true:=by rfl):Wo dr E n ops K (⟨some d,.call ⟨.value f,ars,ts⟩,ty,p,af,g⟩::os) m0 fs ps:=Wo.x (pT (N:=fun x=>[R x]) hf ha hc ho) hg hd k
theorem nc (hg:qp ops fs g true) (hc:∀m,Hp m0 m ps→aB E q args m (fun v m'=>∃x,v=V x∧Hp m m' (N x))) (k:∀x,Wn E n ops prs K os (.call::ss) m0 ((d,V x)::fs) (N x++ps)) (hf:ev E fs f=some (.func (.func q) #[] #[]):=by rfl) (ha:gT E fs ars.toList=some args:=by rfl) (ho:∀x,vZ (N x)=true:=by exact fun _=>rfl) (hd:Nat.blt d n=true:=by rfl):Wn E n ops prs K (⟨some d,.call ⟨.value f,ars,ts⟩,ty,p,af,g⟩::os) ss m0 fs ps:=Wn.c (Qt hf ha hc ho) hg hd k
theorem nv (hg:qp ops fs g true) (hc:∀m,Hp m0 m ps→aB E q args m (fun v m'=>∃x,v=V x∧Hp m m' [R x,.gen (oE (wG ps))])) (k:∀x,Wn E n ops prs K os (.call::ss) m0 ((d,V x)::fs) (R x::ps)) (hf:ev E fs f=some (.func (.func q) #[] #[]):=by rfl) (ha:gT E fs ars.toList=some args:=by rfl) (ho:∀x,nH [R x]=true:=by exact fun _=>rfl) (hd:Nat.blt d n=true:=by rfl):Wn E n ops prs K (⟨some d,.call ⟨.value f,ars,ts⟩,ty,p,af,g⟩::os) ss m0 fs ps:=Wn.c (nF (N:=fun x=>[R x]) hf ha hc ho) hg hd k
end
end Go.Ab.W
end
