/- A part of the proof. -/
import Derived.Test.YthmekkhpddehjaaGreatRs3
import Derived.HandedShaped
section
namespace Go.Proofs.YthmekkhpddehjaaGreat
set_option maxRecDepth 100000
open Go Go.ChangeShapes Go.WideShapes Go.ChangeAt Go.WideMaps Go.WideElems Go.RowKit Go.Ab Go.Ab.W
theorem bounds_i8 {n:Int} (h:(Lit.int .i8 n).wf=true) : -128≤n∧n≤127:=by
 have h':(decide ((-128:Int)≤n) && decide (n≤127))=true:=h
 simpa using h'
section
variable {H : Type} {enc : TypeId × Value → H} {W : World} {sp : Nat → Bool} {held : Bool} {v : Value} {d : DataW H} {p : List MemPlace} {base : Nat}
theorem AJ {P:Program} {base:Nat} {v:Value} (h:lK enc P W base sp held (.int .i8) v):∃n:Int,v = .int .i8 n∧-128≤n∧n≤127:=by
 obtain⟨n,rfl,hw⟩:=h;exact⟨n,rfl,bounds_i8 hw⟩
end
theorem Hd:laidOutB Tryz.prog=true:=by kernel_rfl
theorem Cn:mapsRowed Tryz.prog=true:=by kernel_rfl
theorem Dx:sizedB Tryz.prog=true:=by kernel_rfl
theorem yI {H:Type} {enc:TypeId × Value→H} {f:FuncId} {fn:Func} {s:ChangeSpec} {W:World} {args:Array Value} {ds:List (DataW H)} {before:List MemPlace} {tb:TypeId} {fresh handsOn:Bool} {absArgs:List Value} (hpr:aK.cy f=none)
  (hvars:s.vars = []) (hres:fn.resultTypes.toList = [tb]) (hrs:fn.resultTypes.size=1) (htb:Tryz.prog.underlying tb=some .bool) (hpt:∀t ∈ fn.params.toList,t<Tryz.prog.types.size) (hfn:s.fn H ds = { results:=[.lit (.bool true)],args:=ds,vars:=[]})
  (hW:DataW.Whole enc Tryz.prog fn.params.toList s.vars false W args.toList ds [] before)
  (hl:LR (dN W) absArgs args.toList) (hc:aR aK f absArgs (dY W) (fun v m'=>∃_:Unit,v = .bool true∧Hp (dY W) m' [])) :
  Calls Tryz.prog f args W fun e W'=>∃v,e = .returned v∧s.post enc Tryz.prog fn false fresh handsOn false W args v W':=by
 obtain⟨v,m',⟨fuel,hrun⟩,_,rfl,hm'⟩:=hc;have hm:MR aK (dN W) (dY W) W:=E2 (Nat.zero_le _);have hcall:=callsIn_wide.1 (ru Cf hrun hpr hm hl);refine hcall.mono fun e W' ⟨v',he,j',sm,hv⟩=>?_;have hv':v' = .bool true:=dy rfl hv;subst hv';have hwl:(dY W).next≤m'.wl:=by
  have h1:=hm'.ext.wl;have h2:min (dY W).wl (dY W).next=(dY W).next:=Nat.min_self _
  omega
 exact⟨_,he,zr Hd Cn Dx hvars hres hrs htb hpt hfn hW sm.calm (sm.grown hm hwl)⟩
theorem zU {W:World} (h:W.ShapedOpen Tryz.prog):0<W.heap.size:=by
 unfold World.ShapedOpen at h;obtain⟨_,h2⟩:=h;have e:((begin Tryz.prog (fun _ _=>0) default).world).heap.size=Tryz.prog.globals.size+5:=by
  unfold begin; simp only[Array.size_push,Array.size_mapIdx]
 obtain⟨o,o0,h3,_⟩:=h2 Tryz.prog.globals.size (Nat.le_refl _) (by rw[e]; omega)
 exact Nat.lt_of_le_of_lt (Nat.zero_le _) (Array.getElem?_eq_some_iff.1 h3).1
theorem Gn:wX Tryz.prog 5 33=some [.int .i64,.int .i64]:=by kernel_rfl
theorem Ie:wX Tryz.prog 5 30=some [.int .i8,.int .i8]:=by kernel_rfl
theorem Ik:wX Tryz.prog 5 28=some [.sl 5,.int .i16,.int .i16,.int .u8,.bool,.bool]:=by kernel_rfl
theorem Ig:wX Tryz.prog 5 69=some [.int .u8,.int .u8,.int .u8,.int .i64,.int .i64,.int .u8,.int .u8,.int .u8,.int .i64,.int .i64]:=by kernel_rfl
theorem II:wX Tryz.prog 5 5=some [.int .u8]:=by kernel_rfl
theorem H5:Tryz.prog.underlying 34=some (.slice 33):=by kernel_rfl
theorem Ij:Tryz.prog.underlying 30=some (.array 2 29):=by kernel_rfl
theorem Ia:Tryz.prog.underlying 69=some (.array 2 68):=by kernel_rfl
theorem bounds_i16 {n:Int} (h:(Lit.int .i16 n).wf=true) : -32768≤n∧n≤32767:=by
 have h':(decide ((-32768:Int)≤n) && decide (n≤32767))=true:=h
 simpa using h'
abbrev zD (p:Int × Int):Prop:=(-9223372036854775808≤p.1∧p.1≤9223372036854775807)∧(-9223372036854775808≤p.2∧p.2≤9223372036854775807)
section
variable {H : Type} {enc : TypeId × Value → H} {W : World} {sp : Nat → Bool} {held : Bool} {v : Value} {d : DataW H} {p : List MemPlace} {base : Nat}
theorem xi {P:Program} {base:Nat} {v:Value} (h:lK enc P W base sp held (.int .i16) v):∃n:Int,v = .int .i16 n∧-32768≤n∧n≤32767:=by
 obtain⟨n,rfl,hw⟩:=h;exact⟨n,rfl,bounds_i16 hw⟩
theorem s4 {P:Program} {base:Nat} {v:Value} (h:lK enc P W base sp held .bool v):∃b,v = .bool b:=h
theorem Hx:∀(n:Nat) (cs:List Value) (x:DataW H × List MemPlace),DataW.trod enc Tryz.prog W 0 sp held n 33 cs=some x→∃p:Int × Int,cs=eP (eI .i64) (eI .i64) p∧zD p:=by
 intro n cs x h;obtain⟨v1,cs,rfl,h1,h⟩:=bm (lj 5 33 _ Gn n _ x h);obtain⟨v2,cs,rfl,h2,h⟩:=bm h;obtain rfl:=gY h;obtain⟨a,rfl,ha⟩:=gr h1;obtain⟨b,rfl,hb⟩:=gr h2;exact⟨(a,b),rfl,ha,hb⟩
theorem Ic:∀(n:Nat) (cs:List Value) (x:DataW H × List MemPlace),DataW.trod enc Tryz.prog W 0 sp held n 5 cs=some x→∃p:Nat,cs=eN .u8 p∧p<256:=by
 intro n cs x h;obtain⟨v1,cs,rfl,h1,h⟩:=bm (lj 5 5 _ II n _ x h);obtain rfl:=gY h;obtain⟨a,rfl,ha⟩:=jk h1;exact⟨a,rfl,ha⟩
theorem Hf (hok:Value.okWide Tryz.prog W .any base 34 v) (hs:0<W.heap.size) (h:DataW.Trod enc Tryz.prog W 0 sp held 34 v d p):∃(l:List (Int × Int)) (a:Option Addr) (c:Nat),
  VR (dN W) (.slice a l.length c) v∧(∀q ∈ l,zD q)∧l.length≤maxLen∧Rd (dY W) a c 2 l.length (l.map (eP (eI .i64) (eI .i64))):=by
 obtain⟨a0,n0,c0,rfl⟩:=okWide_slice H5 hok;obtain⟨n,h⟩:=h;have h1:=lj 5 34 [.sl 33] (by kernel_rfl) n _ _ h
 obtain⟨v1,r,hr,h1,_⟩:=bm h1;cases hr;obtain⟨a,c,l,e1,e2,e3,e4⟩:=Aw (f:=eP (eI .i64) (eI .i64)) (w:=2) (by kernel_rfl) (by omega) hs (fun q=>rfl) Hx h1
 exact⟨l,a,c,e1,e3,e4,e2⟩
theorem Hr (hok:Value.okWide Tryz.prog W .any base 28 v) (hs:0<W.heap.size) (h:DataW.Trod enc Tryz.prog W 0 sp held 28 v d p):∃(l:List Nat) (a:Option Addr) (c:Nat) (x1 x2:Int) (x3:Nat) (x4 x5:Bool),
  VR (dN W) (.agg #[.slice a l.length c,.int .i16 x1,.int .i16 x2,.int .u8 ((x3:Nat):Int),.bool x4,.bool x5]) v∧(∀q ∈ l,q<256)∧(-32768≤x1∧x1≤32767)∧(-32768≤x2∧x2≤32767)∧x3<256∧Rd (dY W) a c 1 l.length (l.map (eN .u8)):=by
 obtain⟨cs,rfl,_⟩:=okWide_struct (t:=28) (fs:=Tryz.prog.underlying 28 |>.elim #[] fun u=>match u with | .struct fs=>fs|_=>#[]) (by kernel_rfl) hok
 obtain⟨n,h⟩:=h;obtain⟨v1,r,hr,h1,h⟩:=bm (ic Ik h);obtain⟨v2,r,rfl,h2,h⟩:=bm h;obtain⟨v3,r,rfl,h3,h⟩:=bm h;obtain⟨v4,r,rfl,h4,h⟩:=bm h;obtain⟨v5,r,rfl,h5,h⟩:=bm h;obtain⟨v6,r,rfl,h6,h⟩:=bm h;obtain rfl:=gY h;obtain⟨a,c,l,e1,e2,e3,e4⟩:=Aw (f:=eN .u8) (w:=1) (by kernel_rfl) (by omega) hs (fun q=>rfl) Ic h1
 obtain⟨x1,rfl,g1⟩:=xi h2;obtain⟨x2,rfl,g2⟩:=xi h3;obtain⟨x3,rfl,g3⟩:=jk h4;obtain⟨x4,rfl⟩:=s4 h5;obtain⟨x5,rfl⟩:=s4 h6;refine⟨l,a,c,x1,x2,x3,x4,x5,?_,e3,g1,g2,g3,e2⟩;refine rp (l:=[.slice a l.length c,.int .i16 x1,.int .i16 x2,.int .u8 ((x3:Nat):Int),.bool x4,.bool x5]) ?_;rw[hr];exact .cons e1 (LR.plain rfl)
theorem GY (hok:Value.okWide Tryz.prog W .any base 69 v) (h:DataW.Trod enc Tryz.prog W 0 sp held 69 v d p):∃(x1 x2 x3:Nat) (x4 x5:Int) (x6 x7 x8:Nat) (x9 x10:Int),
  VR (dN W) (.agg #[.int .u8 ((x1:Nat):Int),.int .u8 ((x2:Nat):Int),.int .u8 ((x3:Nat):Int),.int .i64 x4,.int .i64 x5,.int .u8 ((x6:Nat):Int),.int .u8 ((x7:Nat):Int),.int .u8 ((x8:Nat):Int),.int .i64 x9,.int .i64 x10]) v ∧
   (x2<256∧x3<256∧zD (x4,x5))∧(x7<256∧x8<256∧zD (x9,x10)):=by
 obtain⟨cs,rfl,_⟩:=lL Ia hok;obtain⟨n,h⟩:=h;obtain⟨v1,r,hr,h1,h⟩:=bm (ic Ig h);obtain⟨v2,r,rfl,h2,h⟩:=bm h;obtain⟨v3,r,rfl,h3,h⟩:=bm h;obtain⟨v4,r,rfl,h4,h⟩:=bm h;obtain⟨v5,r,rfl,h5,h⟩:=bm h;obtain⟨v6,r,rfl,h6,h⟩:=bm h;obtain⟨v7,r,rfl,h7,h⟩:=bm h;obtain⟨v8,r,rfl,h8,h⟩:=bm h;obtain⟨v9,r,rfl,h9,h⟩:=bm h;obtain⟨v10,r,rfl,h10,h⟩:=bm h;obtain rfl:=gY h;obtain⟨x1,rfl,_⟩:=jk h1;obtain⟨x2,rfl,g2⟩:=jk h2;obtain⟨x3,rfl,g3⟩:=jk h3;obtain⟨x4,rfl,g4⟩:=gr h4;obtain⟨x5,rfl,g5⟩:=gr h5;obtain⟨x6,rfl,_⟩:=jk h6;obtain⟨x7,rfl,g7⟩:=jk h7;obtain⟨x8,rfl,g8⟩:=jk h8;obtain⟨x9,rfl,g9⟩:=gr h9;obtain⟨x10,rfl,g10⟩:=gr h10;refine⟨x1,x2,x3,x4,x5,x6,x7,x8,x9,x10,?_,⟨g2,g3,g4,g5⟩,⟨g7,g8,g9,g10⟩⟩;refine rp (l:=[.int .u8 ((x1:Nat):Int),.int .u8 ((x2:Nat):Int),.int .u8 ((x3:Nat):Int),.int .i64 x4,.int .i64 x5,.int .u8 ((x6:Nat):Int),.int .u8 ((x7:Nat):Int),.int .u8 ((x8:Nat):Int),.int .i64 x9,.int .i64 x10]) ?_;rw[hr];exact LR.plain rfl
theorem Hu (hok:Value.okWide Tryz.prog W .any base 33 v) (h:DataW.Trod enc Tryz.prog W 0 sp held 33 v d p):∃(x1 x2:Int),VR (dN W) (.agg #[.int .i64 x1,.int .i64 x2]) v∧zD (x1,x2):=by
 obtain⟨cs,rfl,_⟩:=okWide_struct (t:=33) (fs:=Tryz.prog.underlying 33 |>.elim #[] fun u=>match u with | .struct fs=>fs|_=>#[]) (by kernel_rfl) hok
 obtain⟨n,h⟩:=h;obtain⟨v1,r,hr,h1,h⟩:=bm (ic Gn h);obtain⟨v2,r,rfl,h2,h⟩:=bm h;obtain rfl:=gY h;obtain⟨x1,rfl,g1⟩:=gr h1;obtain⟨x2,rfl,g2⟩:=gr h2;refine⟨x1,x2,?_,g1,g2⟩;refine rp (l:=[.int .i64 x1,.int .i64 x2]) ?_;rw[hr];exact LR.plain rfl
theorem Gp (hok:Value.okWide Tryz.prog W .any base 30 v) (h:DataW.Trod enc Tryz.prog W 0 sp held 30 v d p):∃(x1 x2:Int),VR (dN W) (.agg #[.int .i8 x1,.int .i8 x2]) v∧(-128≤x1∧x1≤127)∧(-128≤x2∧x2≤127):=by
 obtain⟨cs,rfl,_⟩:=lL Ij hok;obtain⟨n,h⟩:=h;obtain⟨v1,r,hr,h1,h⟩:=bm (ic Ie h);obtain⟨v2,r,rfl,h2,h⟩:=bm h;obtain rfl:=gY h;obtain⟨x1,rfl,g1⟩:=AJ h1;obtain⟨x2,rfl,g2⟩:=AJ h2;refine⟨x1,x2,?_,g1,g2⟩;refine rp (l:=[.int .i8 x1,.int .i8 x2]) ?_;rw[hr];exact LR.plain rfl
end
end Go.Proofs.YthmekkhpddehjaaGreat
end

section
namespace Go.Proofs.YthmekkhpddehjaaGreat
open Go Go.Ab Go.Ab.W
set_option maxRecDepth 10000
def F9 (_:Nat) (x1:Int) (x2:Int):Option (Bool) :=
ob (some (ma (ma (ma x1 (IntKind.wrap .i64 (0-x1))) x2) (IntKind.wrap .i64 (0-x2)))) fun y4 =>
br (decide (1000000<y4)) (
some true) (
some (decide (mi x1 x2 < -1000000)))
def zE (_:Nat) (x1:Int):Option (Bool) :=
some (!decide (x1=x1))
def Ew (n:Nat) (x1:Int) (x2:Int):Option (Int) :=
ob (zE n x1) fun r4 =>
ob (zE n x2) fun r6 =>
br (r4) (
br (r6) (
some 0) (
some (-1))) (
br (r6) (
some 1) (
br (decide (x1<x2)) (
some (-1)) (
br (decide (x2<x1)) (
some 1) (
some 0))))
def zk (n:Nat) (x1:Int) (x2:Int) (x3:Int) (x4:Int) (x5:Int) (x6:Int):Option (Int) :=
ob (some (IntKind.wrap .i64 ((IntKind.wrap .i64 (x3-x1))*(IntKind.wrap .i64 (x6-x2))))) fun y10 =>
ob (some (IntKind.wrap .i64 ((IntKind.wrap .i64 (x4-x2))*(IntKind.wrap .i64 (x5-x1))))) fun y12 =>
ob (Ew n y10 y12) fun r15 =>
some r15
def nh (_:Nat) (l1:List (Int)):Int→Option ((Int) ⊕ ((Int) ⊕ (Unit))):=fun v6 =>
br (decide (v6<(l1.length:Int))) (
gd (dq v6 l1.length) (
ob (l1[v6.toNat]?) fun x20 =>
br (!decide (x20=0)) (
some (.inr (.inl x20))) (
some (.inl (IntKind.wrap .i64 (v6+1)))))) (
some (.inr (.inr ())))
def Hm (n:Nat) (l1:List (Int)):Option (Int) :=
ob (α:=(Int) ⊕ (Unit)) (
dn (nh n l1) n 0) fun r24=>match r24 with
| .inl v15 =>
some v15
| .inr _ =>
some 0
def C8 (n:Nat) (x1:Int) (x2:Int) (x3:Int) (x4:Int):Option (Int) :=
ob (Ew n x1 x3) fun r8 =>
ob (Ew n x2 x4) fun r10 =>
ob (Hm n ([r8,r10])) fun r13 =>
some r13
def wZ (n:Nat) (_:Int) (x2:Int) (x3:Int) (x4:Int) (x5:Int) (x6:Int) (x7:Int):Option (Bool) :=
ob (zk n x2 x3 x4 x5 x6 x7) fun r11 =>
br (!decide (r11=0)) (
some false) (
ob (
ob (C8 n x2 x3 x4 x5) fun r23 =>
br (decide (0<r23)) (
some (x4,x5,x2,x3)) (
some (x2,x3,x4,x5))) fun(v18,v19,v20,v21) =>
ob (C8 n v18 v19 x6 x7) fun r28 =>
br (decide (r28≤0)) (
ob (C8 n x6 x7 v20 v21) fun r31 =>
some (decide (r31≤0))) (
some false))
def mS (n:Nat) (x2:Int) (x10:Int) (x11:Int) (x5:Int) (x7:Int) (x8:Int) (x9:Int) (x12:Int) (x1:Int) (x6:Int):(List ((Int × Int) × Bool) × Int)→Option ((List ((Int × Int) × Bool) × Int) ⊕ (List ((Int × Int) × Bool))):=fun(l1,v0) =>
br (decide (v0<4)) (
ob (
gd (dq v0 4) (
ob ([(x2,x10),(x11,x5),(x7,x8),(x9,x12)][v0.toNat]?) fun(x3,x4) =>
ob (
ob (wZ n x1 x2 x10 x11 x5 x3 x4) fun r0 =>
br (r0) (
ob (wZ n x6 x7 x8 x9 x12 x3 x4) fun r1 =>
some r1) (
some false)) fun v1 =>
br (v1) (
some (vY l1 (x3,x4) true)) (
some l1))) fun l2 =>
some (.inl (l2,IntKind.wrap .i64 (v0+1)))) (
some (.inr l1))
def Hw (n:Nat) (x1:Int) (x2:Int) (x3:Int) (x4:Int) (x5:Int) (x6:Int) (x7:Int) (x8:Int) (x9:Int) (x10:Int):Option (Int) :=
ob (zk n x2 x3 x4 x5 x7 x8) fun r0 =>
ob (zk n x2 x3 x4 x5 x9 x10) fun r1 =>
ob (zk n x7 x8 x9 x10 x2 x3) fun r2 =>
ob (zk n x7 x8 x9 x10 x4 x5) fun r3 =>
ob (
dn (mS n x2 x3 x4 x5 x7 x8 x9 x10 x1 x6) n (([]:List ((Int × Int) × Bool)),0)) fun l1 =>
ob (some (l1.length)) fun y0 =>
br (decide (1<(y0:Int))) (
some 3) (
ob (some (l1.length)) fun y1 =>
br (decide ((y1:Int)=1)) (
some 1) (
ob (
br (decide (IntKind.wrap .i64 (r0*r1)<0)) (
some (decide (IntKind.wrap .i64 (r2*r3)<0))) (
some false)) fun v0 =>
br (v0) (
some 2) (
some 0)))
def FZ (_:Nat) (l1:List (Nat)) (_:Int) (_:Int) (_:Nat) (_:Bool) (_:Bool) (x10:Int):Option (Int) :=
br (decide ((l1.length:Int)=0)) (
some (Int.tmod x10 3)) (
gd (decide ((l1.length:Int)≠0)) (
gd (dq (Int.tmod x10 (l1.length:Int)) l1.length) (
ob (l1[(Int.tmod x10 (l1.length:Int)).toNat]?) fun x17 =>
some (IntKind.wrap .i64 ((x17:Nat):Int)))))
def ql (n:Nat) (l3:List (Nat)) (x5:Int) (x6:Int) (x7:Nat) (x8:Bool) (x9:Bool):(List (Int × Int) × List (Int × Int) × Int)→Option ((List (Int × Int) × List (Int × Int) × Int) ⊕ (List (Int × Int))):=fun(l1,l2,v0) =>
br (decide (v0<12)) (
ob (
ob (FZ n l3 x5 x6 x7 x8 x9 v0) fun r0 =>
ob (
br (decide (Int.tmod r0 6=0)) (
some (!decide (Int.tmod v0 3=0))) (
some false)) fun v1 =>
br (v1) (
some l1) (
gd (dq v0 12) (
ob (l2[v0.toNat]?) fun(x3,x4) =>
ob (some (IntKind.wrap .i64 (x3*(IntKind.wrap .i64 (1+(Int.tmod (Int.tmod r0 6) 5)))))) fun y0 =>
gd (dq v0 12) (
ob (some (IntKind.wrap .i64 (x4*(IntKind.wrap .i64 (1+(Int.tmod (Int.tmod r0 6) 5)))))) fun y1 =>
gd (lim (l1++[(y0,y1)]).length) (
some (l1++[(y0,y1)])))))) fun l4 =>
some (.inl (l4,l2,IntKind.wrap .i64 (v0+1)))) (
some (.inr l1))
def oI (_:Nat) (v1:Int) (r0:Int):(List (Int × Int) × Nat × Int)→Option ((List (Int × Int) × Nat × Int) ⊕ (List (Int × Int) × Nat)):=fun(l1,n0,v0) =>
br (decide (v1≤v0)) (
ob (
gd (dq (IntKind.wrap .i64 ((n0:Int)-1)) n0) (
ob (l1[(IntKind.wrap .i64 ((n0:Int)-1)).toNat]?) fun(x3,x4) =>
br (!(decide (x3=v0) && decide (x4=IntKind.wrap .i64 (1+(Int.tmod r0 5))))) (
gd (lim (l1++[(v0,IntKind.wrap .i64 (1+(Int.tmod r0 5)))]).length) (
some ((l1++[(v0,IntKind.wrap .i64 (1+(Int.tmod r0 5)))]),(l1++[(v0,IntKind.wrap .i64 (1+(Int.tmod r0 5)))]).length))) (
some (l1,n0)))) fun(l2,n1) =>
some (.inl (l2,n1,IntKind.wrap .i64 (v0-1)))) (
some (.inr (l1,n0)))
def ue (n:Nat) (l2:List (Nat)) (x5:Int) (x6:Int) (x7:Nat) (x8:Bool) (x9:Bool):(List (Int × Int) × Nat × Int)→Option ((List (Int × Int) × Nat × Int) ⊕ (List (Int × Int) × Nat)):=fun(l1,n0,v0) =>
br (decide (0≤v0)) (
ob (FZ n l2 x5 x6 x7 x8 x9 (IntKind.wrap .i64 (v0+1))) fun r0 =>
ob (
dn (oI n v0 r0) n (l1,n0,IntKind.wrap .i64 (v0+1))) fun(l3,n1) =>
some (.inl (l3,n1,IntKind.wrap .i64 (v0-1)))) (
some (.inr (l1,n0)))
def HF (n:Nat) (l1:List (Nat)) (x5:Int) (x6:Int) (x7:Nat) (x8:Bool) (x9:Bool):Option (List (Int × Int)) :=
br (!x8) (
ob (
dn (ql n l1 x5 x6 x7 x8 x9) n (([]:List (Int × Int)),([(2,0),(2,1),(1,2),(0,2),(-1,2),(-2,1),(-2,0),(-2,-1),(-1,-2),(0,-2),(1,-2),(2,-1)]:List (Int × Int)),0)) fun l2 =>
some l2) (
ob (FZ n l1 x5 x6 x7 x8 x9 0) fun r0 =>
ob (
dn (ue n l1 x5 x6 x7 x8 x9) n ([(0,0),(IntKind.wrap .i64 (1+(Int.tmod r0 6)),0)],2,IntKind.wrap .i64 ((IntKind.wrap .i64 (1+(Int.tmod r0 6)))-1))) fun(l3,_) =>
some l3)
def Gb (_:Nat) (x1:Int) (x2:Int):Option (Bool) :=
br (decide (x1 < -1000000)) (
some true) (
br (decide (1000000<x1)) (
some true) (
br (decide (x2 < -1000000)) (
some true) (
some (decide (1000000<x2)))))
def zm (_:Nat) (l1:List (Int × Int)) (x5:Int):Option (Int × Int) :=
gd (decide ((l1.length:Int)≠0)) (
gd (dq (Int.tmod x5 (l1.length:Int)) l1.length) (
ob (l1[(Int.tmod x5 (l1.length:Int)).toNat]?) fun(x11,x12) =>
some (x11,x12)))
def zl (_:Nat) (x1:Int) (x2:Int) (x3:Int) (x4:Int) (x5:Int) (x6:Int):Option (Int) :=
ob (some (IntKind.wrap .i64 ((IntKind.wrap .i64 (x3-x1))*(IntKind.wrap .i64 (x6-x2))))) fun y10 =>
ob (some (IntKind.wrap .i64 ((IntKind.wrap .i64 (x4-x2))*(IntKind.wrap .i64 (x5-x1))))) fun y12 =>
some (IntKind.wrap .i64 (y10-y12))
def HE (_:Nat) (x1:Int) (x2:Int) (x3:Int) (x4:Int) (x5:Int) (x6:Int):Option (Int) :=
ob (some (IntKind.wrap .i64 ((IntKind.wrap .i64 (x3-x1))*(IntKind.wrap .i64 (x5-x3))))) fun y10 =>
ob (some (IntKind.wrap .i64 ((IntKind.wrap .i64 (x4-x2))*(IntKind.wrap .i64 (x6-x4))))) fun y12 =>
some (IntKind.wrap .i64 (y10+y12))
def DI (_:Nat) (x1:Int):Option (Int) :=
br (decide (0<x1)) (
some 1) (
br (decide (x1<0)) (
some (-1)) (
some 0))
def Di (n:Nat) (x1:Int) (x2:Int) (x3:Int) (x4:Int) (x5:Int) (x6:Int):Option (Bool) :=
ob (zl n x1 x2 x3 x4 x5 x6) fun r11 =>
br (!decide (r11=0)) (
some false) (
br (decide (mi x1 x3≤x5)) (
br (decide (x5≤ma x1 x3)) (
br (decide (mi x2 x4≤x6)) (
some (decide (x6≤ma x2 x4))) (
some false)) (
some false)) (
some false))
def G7 (n:Nat) (x1:Int) (x2:Int) (x3:Int) (x4:Int) (x5:Int) (x6:Int) (x7:Int) (x8:Int):Option (Int) :=
ob (zl n x1 x2 x3 x4 x5 x6) fun r2 =>
ob (DI n r2) fun r0 =>
ob (zl n x1 x2 x3 x4 x7 x8) fun r3 =>
ob (DI n r3) fun r1 =>
ob (zl n x5 x6 x7 x8 x1 x2) fun r4 =>
ob (DI n r4) fun r5 =>
ob (zl n x5 x6 x7 x8 x3 x4) fun r6 =>
ob (DI n r6) fun r7 =>
ob (
br (decide (r0=0)) (
some (decide (r1=0))) (
some false)) fun v1 =>
br (v1) (
ob (some (IntKind.wrap .i64 ((ma (mi x1 x3) (mi x5 x7))-(mi (ma x1 x3) (ma x5 x7))))) fun y0 =>
ob (
br (decide (x1=x3)) (
ob (some (IntKind.wrap .i64 ((ma (mi x2 x4) (mi x6 x8))-(mi (ma x2 x4) (ma x6 x8))))) fun y1 =>
some y1) (
some y0)) fun v0 =>
br (decide (0<v0)) (
some 0) (
br (decide (v0=0)) (
some 1) (
some 3))) (
ob (
br (decide (IntKind.wrap .i64 (r0*r1)<0)) (
some (decide (IntKind.wrap .i64 (r5*r7)<0))) (
some false)) fun v2 =>
br (v2) (
some 2) (
ob (
ob (Di n x1 x2 x3 x4 x5 x6) fun r8 =>
br (r8) (
some true) (
ob (Di n x1 x2 x3 x4 x7 x8) fun r9 =>
br (r9) (
some true) (
ob (Di n x5 x6 x7 x8 x1 x2) fun r10 =>
br (r10) (
some true) (
ob (Di n x5 x6 x7 x8 x3 x4) fun r11 =>
some r11)))) fun v3 =>
br (v3) (
some 1) (
some 0)))
def tv (n:Nat) (l1:List (Int × Int)):Int→Option ((Int) ⊕ ((Int) ⊕ (Unit))):=fun v18 =>
br (decide (v18<(l1.length:Int))) (
gd (dq v18 l1.length) (
ob (l1[v18.toNat]?) fun(x35,x36) =>
ob (Gb n x35 x36) fun r39 =>
br (r39) (
some (.inr (.inl v18))) (
some (.inl (IntKind.wrap .i64 (v18+1)))))) (
some (.inr (.inr ())))
def tB (n:Nat) (l1:List (Int × Int)):Int→Option ((Int) ⊕ ((Int) ⊕ (Unit))):=fun v44 =>
br (decide (v44<(l1.length:Int))) (
gd (dq v44 l1.length) (
ob (l1[v44.toNat]?) fun(x62,x63) =>
ob (zm n l1 (IntKind.wrap .i64 (v44+1))) fun(r66,r67) =>
br ((decide (x62=r66) && decide (x63=r67))) (
some (.inr (.inl v44))) (
some (.inl (IntKind.wrap .i64 (v44+1)))))) (
some (.inr (.inr ())))
def tI (n:Nat) (l1:List (Int × Int)):Int→Option ((Int) ⊕ ((Int) ⊕ (Unit))):=fun v0 =>
br (decide (v0<(l1.length:Int))) (
ob (zm n l1 (IntKind.wrap .i64 ((IntKind.wrap .i64 (v0+(l1.length:Int)))-1))) fun(r0,r1) =>
gd (dq v0 l1.length) (
ob (l1[v0.toNat]?) fun(x3,x4) =>
ob (zm n l1 (IntKind.wrap .i64 (v0+1))) fun(r2,r3) =>
ob (
ob (zl n r0 r1 x3 x4 r2 r3) fun r4 =>
br (decide (r4=0)) (
ob (HE n r0 r1 x3 x4 r2 r3) fun r5 =>
some (decide (r5<0))) (
some false)) fun v1 =>
br (v1) (
some (.inr (.inl v0))) (
some (.inl (IntKind.wrap .i64 (v0+1)))))) (
some (.inr (.inr ())))
def uK (n:Nat) (v1:Int) (l1:List (Int × Int)):Int→Option ((Int) ⊕ ((Unit) ⊕ (Unit))):=fun v0 =>
br (decide (IntKind.wrap .i64 (v0+1)<v1)) (
ob (α:=(Unit) ⊕ (Unit)) (
ob (
br (decide (v0=0)) (
some (decide (v1=IntKind.wrap .i64 ((l1.length:Int)-1)))) (
some false)) fun v2 =>
br (v2) (
some (.inl ())) (
gd (dq v0 l1.length) (
ob (l1[v0.toNat]?) fun(x3,x4) =>
gd (dq (IntKind.wrap .i64 (v0+1)) l1.length) (
ob (l1[(IntKind.wrap .i64 (v0+1)).toNat]?) fun(x10,x11) =>
gd (dq v1 l1.length) (
ob (l1[v1.toNat]?) fun(x12,x13) =>
ob (zm n l1 (IntKind.wrap .i64 (v1+1))) fun(r0,r1) =>
ob (G7 n x3 x4 x10 x11 x12 x13 r0 r1) fun r2 =>
br (!decide (r2=0)) (
some (.inr ())) (
some (.inl ()))))))) fun r3=>match r3 with
| .inl _ =>
some (.inl (IntKind.wrap .i64 (v0+1)))
| .inr _ =>
some (.inr (.inl ()))) (
some (.inr (.inr ())))
def uS (n:Nat) (l1:List (Int × Int)):Int→Option ((Int) ⊕ ((Int) ⊕ (Unit))):=fun v0 =>
br (decide (v0<(l1.length:Int))) (
ob (α:=(Unit) ⊕ (Unit)) (
dn (uK n v0 l1) n 0) fun r0=>match r0 with
| .inl _ =>
some (.inr (.inl v0))
| .inr _ =>
some (.inl (IntKind.wrap .i64 (v0+1)))) (
some (.inr (.inr ())))
def G3 (n:Nat) (l1:List (Int × Int)):Option (Int × Int) :=
ob (
br (decide ((l1.length:Int)<3)) (
some true) (
some (decide (40<(l1.length:Int))))) fun v0 =>
br (v0) (
some (1,0)) (
ob (α:=(Int) ⊕ (Unit)) (
dn (tv n l1) n 0) fun r0=>match r0 with
| .inl v1 =>
some (2,v1)
| .inr _ =>
ob (α:=(Int) ⊕ (Unit)) (
dn (tB n l1) n 0) fun r1=>match r1 with
| .inl v2 =>
some (3,v2)
| .inr _ =>
ob (α:=(Int) ⊕ (Unit)) (
dn (tI n l1) n 0) fun r2=>match r2 with
| .inl v3 =>
some (4,v3)
| .inr _ =>
ob (α:=(Int) ⊕ (Unit)) (
dn (uS n l1) n 0) fun r3=>match r3 with
| .inl v4 =>
some (5,v4)
| .inr _ =>
some (0,0))
def DJ (n:Nat) (l1:List (Int × Int)):Option (Int) :=
ob (G3 n l1) fun(r6,_) =>
br (decide (0<r6)) (
some 140) (
some 0)
def tD (_:Nat) (l1:List (Int × Int)):(List (Int × Int) × Nat × Int)→Option ((List (Int × Int) × Nat × Int) ⊕ (List (Int × Int) × Nat)):=fun(l25,n27,v28) =>
br (decide (0<v28)) (
gd (dq v28 l1.length) (
ob (l1[v28.toNat]?) fun(x46,x47) =>
gd (lim (l25++[(x46,x47)]).length) (
some (.inl ((l25++[(x46,x47)]),(l25++[(x46,x47)]).length,IntKind.wrap .i64 (v28-1)))))) (
some (.inr (l25,n27)))
def DY (n:Nat) (l1:List (Int × Int)):Option (List (Int × Int) × Int) :=
ob (DJ n l1) fun r6 =>
br (!decide (r6=0)) (
some ([],r6)) (
gd (dq 0 l1.length) (
ob (l1[(0:Int).toNat]?) fun(x11,x12) =>
ob (
dn (tD n l1) n ([(x11,x12)],1,IntKind.wrap .i64 ((l1.length:Int)-1))) fun(l41,_) =>
some (l41,0)))
def qz (_:Nat) (l12:List (Int × Int)) (x5:Int) (x6:Int):(List (Int × Int) × Int × Int)→Option ((List (Int × Int) × Int × Int) ⊕ (List (Int × Int))):=fun(l33,v34,v35) =>
br (decide (v35<(l12.length:Int))) (
gd (dq v35 l12.length) (
ob (l33[v35.toNat]?) fun(x60,x61) =>
ob (some (IntKind.wrap .i64 ((IntKind.wrap .i64 (x60*v34))+(IntKind.wrap .i64 x5)))) fun y63 =>
gd (dq v35 l12.length) (
ob (some (IntKind.wrap .i64 ((IntKind.wrap .i64 (x61*v34))+(IntKind.wrap .i64 x6)))) fun y66 =>
gd (dq v35 l12.length) (
some (.inl ((l33.set v35.toNat (y63,y66)),v34,IntKind.wrap .i64 (v35+1))))))) (
some (.inr l33))
def GD (n:Nat) (l1:List (Nat)) (x5:Int) (x6:Int) (x7:Nat) (x8:Bool) (x9:Bool):Option (List (Int × Int)) :=
ob (HF n l1 x5 x6 x7 x8 x9) fun l12 =>
ob (
dn (qz n l12 x5 x6) n (l12,IntKind.wrap .i64 (1+(IntKind.wrap .i64 ((x7:Nat):Int))),0)) fun l54 =>
ob (
br (x9) (
ob (DY n l54) fun(l83,_) =>
some (l83,l83.length)) (
some (l54,l12.length))) fun(l78,_) =>
some l78
def uP (_:Nat) (x3:Nat):(List (Int × Int))→Option ((List (Int × Int)) ⊕ (List (Int × Int))):=fun l1 =>
br (decide ((l1.length:Int)<IntKind.wrap .i64 (39+(IntKind.wrap .i64 ((x3%3:Nat):Int))))) (
gd (lim (l1++[(IntKind.wrap .i64 (3*(l1.length:Int)),IntKind.wrap .i64 ((l1.length:Int)*(l1.length:Int)))]).length) (
some (.inl (l1++[(IntKind.wrap .i64 (3*(l1.length:Int)),IntKind.wrap .i64 ((l1.length:Int)*(l1.length:Int)))])))) (
some (.inr l1))
def Ga (n:Nat) (x1:Nat) (x2:Nat) (x10:Nat) (x3:Int) (x5:Int) (l1:List (Int × Int)):Option (List (Int × Int)) :=
gd (okB 0 (mi (l1.length:Int) (50:Int)) l1.length) (
gd (lim (([]:List (Int × Int))++((l1.drop (0:Int).toNat).take ((mi (l1.length:Int) (50:Int):Int).toNat-(0:Int).toNat))).length) (
br (decide (((([]:List (Int × Int))++((l1.drop (0:Int).toNat).take ((mi (l1.length:Int) (50:Int):Int).toNat-(0:Int).toNat))).length:Int)=0)) (
some (([]:List (Int × Int))++((l1.drop (0:Int).toNat).take ((mi (l1.length:Int) (50:Int):Int).toNat-(0:Int).toNat)))) (
gd (decide (((([]:List (Int × Int))++((l1.drop (0:Int).toNat).take ((mi (l1.length:Int) (50:Int):Int).toNat-(0:Int).toNat))).length:Int)≠0)) (
ob (some (Int.tmod (IntKind.wrap .i64 ((x2:Nat):Int)) ((([]:List (Int × Int))++((l1.drop (0:Int).toNat).take ((mi (l1.length:Int) (50:Int):Int).toNat-(0:Int).toNat))).length:Int))) fun y0 =>
gd (decide (((([]:List (Int × Int))++((l1.drop (0:Int).toNat).take ((mi (l1.length:Int) (50:Int):Int).toNat-(0:Int).toNat))).length:Int)≠0)) (
ob (some (Int.tmod (IntKind.wrap .i64 ((x10:Nat):Int)) ((([]:List (Int × Int))++((l1.drop (0:Int).toNat).take ((mi (l1.length:Int) (50:Int):Int).toNat-(0:Int).toNat))).length:Int))) fun y1 =>
ob (
br (decide (x1%9=0)) (
gd (dq y0 ((([]:List (Int × Int))++((l1.drop (0:Int).toNat).take ((mi (l1.length:Int) (50:Int):Int).toNat-(0:Int).toNat))).length)) (
ob ((([]:List (Int × Int))++((l1.drop (0:Int).toNat).take ((mi (l1.length:Int) (50:Int):Int).toNat-(0:Int).toNat)))[y0.toNat]?) fun(_,_) =>
some (((([]:List (Int × Int))++((l1.drop (0:Int).toNat).take ((mi (l1.length:Int) (50:Int):Int).toNat-(0:Int).toNat))).set y0.toNat (x3,x5)),(([]:List (Int × Int))++((l1.drop (0:Int).toNat).take ((mi (l1.length:Int) (50:Int):Int).toNat-(0:Int).toNat))).length))) (
br (decide (x1%9=1)) (
gd (dq y1 ((([]:List (Int × Int))++((l1.drop (0:Int).toNat).take ((mi (l1.length:Int) (50:Int):Int).toNat-(0:Int).toNat))).length)) (
ob ((([]:List (Int × Int))++((l1.drop (0:Int).toNat).take ((mi (l1.length:Int) (50:Int):Int).toNat-(0:Int).toNat)))[y1.toNat]?) fun(x13,x14) =>
gd (dq y0 ((([]:List (Int × Int))++((l1.drop (0:Int).toNat).take ((mi (l1.length:Int) (50:Int):Int).toNat-(0:Int).toNat))).length)) (
ob ((([]:List (Int × Int))++((l1.drop (0:Int).toNat).take ((mi (l1.length:Int) (50:Int):Int).toNat-(0:Int).toNat)))[y0.toNat]?) fun(_,_) =>
some (((([]:List (Int × Int))++((l1.drop (0:Int).toNat).take ((mi (l1.length:Int) (50:Int):Int).toNat-(0:Int).toNat))).set y0.toNat (x13,x14)),(([]:List (Int × Int))++((l1.drop (0:Int).toNat).take ((mi (l1.length:Int) (50:Int):Int).toNat-(0:Int).toNat))).length)))) (
br (decide (x1%9=2)) (
gd (dq y1 ((([]:List (Int × Int))++((l1.drop (0:Int).toNat).take ((mi (l1.length:Int) (50:Int):Int).toNat-(0:Int).toNat))).length)) (
ob ((([]:List (Int × Int))++((l1.drop (0:Int).toNat).take ((mi (l1.length:Int) (50:Int):Int).toNat-(0:Int).toNat)))[y1.toNat]?) fun(x11,x12) =>
gd (dq y0 ((([]:List (Int × Int))++((l1.drop (0:Int).toNat).take ((mi (l1.length:Int) (50:Int):Int).toNat-(0:Int).toNat))).length)) (
ob ((([]:List (Int × Int))++((l1.drop (0:Int).toNat).take ((mi (l1.length:Int) (50:Int):Int).toNat-(0:Int).toNat)))[y0.toNat]?) fun(x15,x16) =>
gd (dq y0 ((([]:List (Int × Int))++((l1.drop (0:Int).toNat).take ((mi (l1.length:Int) (50:Int):Int).toNat-(0:Int).toNat))).length)) (
gd (dq y1 ((([]:List (Int × Int))++((l1.drop (0:Int).toNat).take ((mi (l1.length:Int) (50:Int):Int).toNat-(0:Int).toNat))).length)) (
ob (((([]:List (Int × Int))++((l1.drop (0:Int).toNat).take ((mi (l1.length:Int) (50:Int):Int).toNat-(0:Int).toNat))).set y0.toNat (x11,x12))[y1.toNat]?) fun(_,_) =>
some ((((([]:List (Int × Int))++((l1.drop (0:Int).toNat).take ((mi (l1.length:Int) (50:Int):Int).toNat-(0:Int).toNat))).set y0.toNat (x11,x12)).set y1.toNat (x15,x16)),(([]:List (Int × Int))++((l1.drop (0:Int).toNat).take ((mi (l1.length:Int) (50:Int):Int).toNat-(0:Int).toNat))).length)))))) (
br (decide (x1%9=3)) (
gd (okB 0 y0 ((([]:List (Int × Int))++((l1.drop (0:Int).toNat).take ((mi (l1.length:Int) (50:Int):Int).toNat-(0:Int).toNat))).length)) (
some ((((([]:List (Int × Int))++((l1.drop (0:Int).toNat).take ((mi (l1.length:Int) (50:Int):Int).toNat-(0:Int).toNat))).drop (0:Int).toNat).take ((y0:Int).toNat-(0:Int).toNat)),(((([]:List (Int × Int))++((l1.drop (0:Int).toNat).take ((mi (l1.length:Int) (50:Int):Int).toNat-(0:Int).toNat))).drop (0:Int).toNat).take ((y0:Int).toNat-(0:Int).toNat)).length))) (
br (decide (x1%9=4)) (
gd (lim ((([]:List (Int × Int))++((l1.drop (0:Int).toNat).take ((mi (l1.length:Int) (50:Int):Int).toNat-(0:Int).toNat)))++[(x3,x5)]).length) (
some (((([]:List (Int × Int))++((l1.drop (0:Int).toNat).take ((mi (l1.length:Int) (50:Int):Int).toNat-(0:Int).toNat)))++[(x3,x5)]),((([]:List (Int × Int))++((l1.drop (0:Int).toNat).take ((mi (l1.length:Int) (50:Int):Int).toNat-(0:Int).toNat)))++[(x3,x5)]).length))) (
br (decide (x1%9=5)) (
gd (dq y0 ((([]:List (Int × Int))++((l1.drop (0:Int).toNat).take ((mi (l1.length:Int) (50:Int):Int).toNat-(0:Int).toNat))).length)) (
ob ((([]:List (Int × Int))++((l1.drop (0:Int).toNat).take ((mi (l1.length:Int) (50:Int):Int).toNat-(0:Int).toNat)))[y0.toNat]?) fun(x17,x18) =>
gd (decide (((([]:List (Int × Int))++((l1.drop (0:Int).toNat).take ((mi (l1.length:Int) (50:Int):Int).toNat-(0:Int).toNat))).length:Int)≠0)) (
ob (some (Int.tmod (IntKind.wrap .i64 (y0+1)) ((([]:List (Int × Int))++((l1.drop (0:Int).toNat).take ((mi (l1.length:Int) (50:Int):Int).toNat-(0:Int).toNat))).length:Int))) fun y4 =>
gd (dq y4 ((([]:List (Int × Int))++((l1.drop (0:Int).toNat).take ((mi (l1.length:Int) (50:Int):Int).toNat-(0:Int).toNat))).length)) (
ob ((([]:List (Int × Int))++((l1.drop (0:Int).toNat).take ((mi (l1.length:Int) (50:Int):Int).toNat-(0:Int).toNat)))[y4.toNat]?) fun(x19,x20) =>
ob (some (IntKind.wrap .i64 ((IntKind.wrap .i64 (Int.tdiv x17 2))+(IntKind.wrap .i64 (Int.tdiv x19 2))))) fun y2 =>
ob (some (IntKind.wrap .i64 ((IntKind.wrap .i64 (Int.tdiv x18 2))+(IntKind.wrap .i64 (Int.tdiv x20 2))))) fun y3 =>
gd (okB 0 (IntKind.wrap .i64 (y0+1)) ((([]:List (Int × Int))++((l1.drop (0:Int).toNat).take ((mi (l1.length:Int) (50:Int):Int).toNat-(0:Int).toNat))).length)) (
gd (lim (([]:List (Int × Int))++(((([]:List (Int × Int))++((l1.drop (0:Int).toNat).take ((mi (l1.length:Int) (50:Int):Int).toNat-(0:Int).toNat))).drop (0:Int).toNat).take ((IntKind.wrap .i64 (y0+1):Int).toNat-(0:Int).toNat))).length) (
gd (lim ((([]:List (Int × Int))++(((([]:List (Int × Int))++((l1.drop (0:Int).toNat).take ((mi (l1.length:Int) (50:Int):Int).toNat-(0:Int).toNat))).drop (0:Int).toNat).take ((IntKind.wrap .i64 (y0+1):Int).toNat-(0:Int).toNat)))++[(y2,y3)]).length) (
gd (okB (IntKind.wrap .i64 (y0+1)) ((([]:List (Int × Int))++((l1.drop (0:Int).toNat).take ((mi (l1.length:Int) (50:Int):Int).toNat-(0:Int).toNat))).length:Int) ((([]:List (Int × Int))++((l1.drop (0:Int).toNat).take ((mi (l1.length:Int) (50:Int):Int).toNat-(0:Int).toNat))).length)) (
gd (lim (((([]:List (Int × Int))++(((([]:List (Int × Int))++((l1.drop (0:Int).toNat).take ((mi (l1.length:Int) (50:Int):Int).toNat-(0:Int).toNat))).drop (0:Int).toNat).take ((IntKind.wrap .i64 (y0+1):Int).toNat-(0:Int).toNat)))++[(y2,y3)])++(((([]:List (Int × Int))++((l1.drop (0:Int).toNat).take ((mi (l1.length:Int) (50:Int):Int).toNat-(0:Int).toNat))).drop (IntKind.wrap .i64 (y0+1):Int).toNat).take ((((([]:List (Int × Int))++((l1.drop (0:Int).toNat).take ((mi (l1.length:Int) (50:Int):Int).toNat-(0:Int).toNat))).length:Int):Int).toNat-(IntKind.wrap .i64 (y0+1):Int).toNat))).length) (
some ((((([]:List (Int × Int))++(((([]:List (Int × Int))++((l1.drop (0:Int).toNat).take ((mi (l1.length:Int) (50:Int):Int).toNat-(0:Int).toNat))).drop (0:Int).toNat).take ((IntKind.wrap .i64 (y0+1):Int).toNat-(0:Int).toNat)))++[(y2,y3)])++(((([]:List (Int × Int))++((l1.drop (0:Int).toNat).take ((mi (l1.length:Int) (50:Int):Int).toNat-(0:Int).toNat))).drop (IntKind.wrap .i64 (y0+1):Int).toNat).take ((((([]:List (Int × Int))++((l1.drop (0:Int).toNat).take ((mi (l1.length:Int) (50:Int):Int).toNat-(0:Int).toNat))).length:Int):Int).toNat-(IntKind.wrap .i64 (y0+1):Int).toNat))),(((([]:List (Int × Int))++(((([]:List (Int × Int))++((l1.drop (0:Int).toNat).take ((mi (l1.length:Int) (50:Int):Int).toNat-(0:Int).toNat))).drop (0:Int).toNat).take ((IntKind.wrap .i64 (y0+1):Int).toNat-(0:Int).toNat)))++[(y2,y3)])++(((([]:List (Int × Int))++((l1.drop (0:Int).toNat).take ((mi (l1.length:Int) (50:Int):Int).toNat-(0:Int).toNat))).drop (IntKind.wrap .i64 (y0+1):Int).toNat).take ((((([]:List (Int × Int))++((l1.drop (0:Int).toNat).take ((mi (l1.length:Int) (50:Int):Int).toNat-(0:Int).toNat))).length:Int):Int).toNat-(IntKind.wrap .i64 (y0+1):Int).toNat))).length)))))))))) (
br (decide (x1%9=6)) (
ob (
dn (uP n x10) n (([]:List (Int × Int))++((l1.drop (0:Int).toNat).take ((mi (l1.length:Int) (50:Int):Int).toNat-(0:Int).toNat)))) fun l2 =>
some (l2,l2.length)) (
br (decide (x1%9=7)) (
gd (dq y0 ((([]:List (Int × Int))++((l1.drop (0:Int).toNat).take ((mi (l1.length:Int) (50:Int):Int).toNat-(0:Int).toNat))).length)) (
ob ((([]:List (Int × Int))++((l1.drop (0:Int).toNat).take ((mi (l1.length:Int) (50:Int):Int).toNat-(0:Int).toNat)))[y0.toNat]?) fun(x21,x4) =>
gd (dq y0 ((([]:List (Int × Int))++((l1.drop (0:Int).toNat).take ((mi (l1.length:Int) (50:Int):Int).toNat-(0:Int).toNat))).length)) (
gd (dq y0 ((([]:List (Int × Int))++((l1.drop (0:Int).toNat).take ((mi (l1.length:Int) (50:Int):Int).toNat-(0:Int).toNat))).length)) (
gd (dq y0 ((([]:List (Int × Int))++((l1.drop (0:Int).toNat).take ((mi (l1.length:Int) (50:Int):Int).toNat-(0:Int).toNat))).length)) (
ob (((([]:List (Int × Int))++((l1.drop (0:Int).toNat).take ((mi (l1.length:Int) (50:Int):Int).toNat-(0:Int).toNat))).set y0.toNat (x4,x4))[y0.toNat]?) fun(x22,_) =>
some ((((([]:List (Int × Int))++((l1.drop (0:Int).toNat).take ((mi (l1.length:Int) (50:Int):Int).toNat-(0:Int).toNat))).set y0.toNat (x4,x4)).set y0.toNat (x22,x21)),(([]:List (Int × Int))++((l1.drop (0:Int).toNat).take ((mi (l1.length:Int) (50:Int):Int).toNat-(0:Int).toNat))).length)))))) (
some ((([]:List (Int × Int))++((l1.drop (0:Int).toNat).take ((mi (l1.length:Int) (50:Int):Int).toNat-(0:Int).toNat))),(([]:List (Int × Int))++((l1.drop (0:Int).toNat).take ((mi (l1.length:Int) (50:Int):Int).toNat-(0:Int).toNat))).length)))))))))) fun(l3,_) =>
some l3)))))
def Gl (_:Nat) (l1:List (Int × Int)):Option (List (Int × Int)) :=
gd (okB 0 (mi (l1.length:Int) (50:Int)) l1.length) (
some ((l1.drop (0:Int).toNat).take ((mi (l1.length:Int) (50:Int):Int).toNat-(0:Int).toNat)))
def Gf (n:Nat) (l1:List (Int × Int)) (l6:List (Nat)) (x11:Int) (x12:Int) (x13:Nat) (x14:Bool) (x15:Bool) (x16:Nat) (x17:Nat) (x18:Nat) (x19:Int) (x20:Int) (x21:Nat) (x22:Nat) (x23:Nat) (x24:Int) (x25:Int):Option (List (Int × Int) × List (Int × Int) × List (Int × Int) × List (Int × Int)) :=
ob (GD n l6 x11 x12 x13 x14 x15) fun l30 =>
ob (Ga n x16 x17 x18 x19 x20 l30) fun l34 =>
ob (Ga n x21 x22 x23 x24 x25 l34) fun l39 =>
ob (Gl n l1) fun l44 =>
some (l30,l34,l39,l44)
def uj (n:Nat) (l1:List (Int × Int)):Int→Option ((Int) ⊕ ((Int) ⊕ (Unit))):=fun v49 =>
br (decide (v49<(l1.length:Int))) (
gd (dq v49 l1.length) (
ob (l1[v49.toNat]?) fun(x66,x67) =>
ob (F9 n x66 x67) fun r70 =>
br (r70) (
some (.inr (.inl v49))) (
some (.inl (IntKind.wrap .i64 (v49+1)))))) (
some (.inr (.inr ())))
def tl (_:Nat) (l1:List (Int × Int)):Int→Option ((Int) ⊕ ((Int) ⊕ (Unit))):=fun v0 =>
br (decide (v0<(l1.length:Int))) (
gd (dq v0 l1.length) (
ob (l1[v0.toNat]?) fun(x3,x4) =>
gd (decide ((l1.length:Int)≠0)) (
gd (dq (Int.tmod (IntKind.wrap .i64 (v0+1)) (l1.length:Int)) l1.length) (
ob (l1[(Int.tmod (IntKind.wrap .i64 (v0+1)) (l1.length:Int)).toNat]?) fun(x10,x11) =>
ob (α:=(Unit) ⊕ (Unit)) (
br ((decide (x3=x10) && decide (x4=x11))) (
some (.inl ())) (
some (.inr ()))) fun r0=>match r0 with
| .inl _ =>
some (.inr (.inl v0))
| .inr _ =>
some (.inl (IntKind.wrap .i64 (v0+1))))))) (
some (.inr (.inr ())))
def tu (n:Nat) (l1:List (Int × Int)):Int→Option ((Int) ⊕ ((Int) ⊕ (Unit))):=fun v0 =>
br (decide (v0<(l1.length:Int))) (
gd (dq v0 l1.length) (
ob (l1[v0.toNat]?) fun(x3,x4) =>
gd (decide ((l1.length:Int)≠0)) (
gd (dq (Int.tmod (IntKind.wrap .i64 (v0+1)) (l1.length:Int)) l1.length) (
ob (l1[(Int.tmod (IntKind.wrap .i64 (v0+1)) (l1.length:Int)).toNat]?) fun(x10,x11) =>
ob (α:=(Unit) ⊕ (Unit)) (
gd (decide ((l1.length:Int)≠0)) (
ob (some (Int.tmod (IntKind.wrap .i64 ((IntKind.wrap .i64 (v0+(l1.length:Int)))-1)) (l1.length:Int))) fun y0 =>
gd (dq y0 l1.length) (
ob (l1[y0.toNat]?) fun(x12,x13) =>
ob (
ob (zk n x12 x13 x3 x4 x10 x11) fun r0 =>
br (decide (r0=0)) (
ob (some (IntKind.wrap .i64 ((IntKind.wrap .i64 (x3-x12))*(IntKind.wrap .i64 (x10-x3))))) fun y1 =>
ob (some (IntKind.wrap .i64 ((IntKind.wrap .i64 (x4-x13))*(IntKind.wrap .i64 (x11-x4))))) fun y2 =>
some (decide (IntKind.wrap .i64 (y1+y2)<0))) (
some false)) fun v1 =>
br (v1) (
some (.inl ())) (
some (.inr ()))))) fun r1=>match r1 with
| .inl _ =>
some (.inr (.inl v0))
| .inr _ =>
some (.inl (IntKind.wrap .i64 (v0+1))))))) (
some (.inr (.inr ())))
def sW (n:Nat) (l1:List (Int × Int)) (v1:Int) (x3:Int) (x4:Int) (x10:Int) (x11:Int):Int→Option ((Int) ⊕ ((Unit) ⊕ ((Unit) ⊕ (Unit)))):=fun v0 =>
br (decide (v0<(l1.length:Int))) (
gd (dq v0 l1.length) (
ob (l1[v0.toNat]?) fun(x12,x13) =>
gd (decide ((l1.length:Int)≠0)) (
gd (dq (Int.tmod (IntKind.wrap .i64 (v0+1)) (l1.length:Int)) l1.length) (
ob (l1[(Int.tmod (IntKind.wrap .i64 (v0+1)) (l1.length:Int)).toNat]?) fun(x14,x15) =>
ob (α:=(Unit) ⊕ ((Unit) ⊕ (Unit))) (
br (decide (IntKind.wrap .i64 (v1-1)≤v0)) (
some (.inl ())) (
ob (
br (decide (v0=0)) (
some (decide (v1=IntKind.wrap .i64 ((l1.length:Int)-1)))) (
some false)) fun v2 =>
br (v2) (
some (.inr (.inl ()))) (
ob (Hw n v1 x3 x4 x10 x11 v0 x12 x13 x14 x15) fun r0 =>
br (!decide (r0=0)) (
some (.inr (.inr ()))) (
some (.inr (.inl ())))))) fun r1=>match r1 with
| .inl _ =>
some (.inr (.inl ()))
| .inr (.inl _) =>
some (.inl (IntKind.wrap .i64 (v0+1)))
| .inr (.inr _) =>
some (.inr (.inr (.inl ()))))))) (
some (.inr (.inr (.inr ()))))
def uo (n:Nat) (l1:List (Int × Int)):Int→Option ((Int) ⊕ ((Int) ⊕ (Unit))):=fun v0 =>
br (decide (v0<(l1.length:Int))) (
gd (dq v0 l1.length) (
ob (l1[v0.toNat]?) fun(x3,x4) =>
gd (decide ((l1.length:Int)≠0)) (
gd (dq (Int.tmod (IntKind.wrap .i64 (v0+1)) (l1.length:Int)) l1.length) (
ob (l1[(Int.tmod (IntKind.wrap .i64 (v0+1)) (l1.length:Int)).toNat]?) fun(x10,x11) =>
ob (α:=(Unit) ⊕ (Unit)) (
ob (
some ()) fun _ =>
ob (α:=(Unit) ⊕ ((Unit) ⊕ (Unit))) (
ob (α:=(Unit) ⊕ ((Unit) ⊕ (Unit))) (
dn (sW n l1 v0 x3 x4 x10 x11) n 0) fun r0=>match r0 with
| .inl _ =>
some (.inl ())
| .inr (.inl _) =>
some (.inr (.inl ()))
| .inr (.inr _) =>
some (.inr (.inr ()))) fun r1=>match r1 with
| .inl _ =>
some (.inl ())
| .inr (.inl _) =>
some (.inr ())
| .inr (.inr _) =>
some (.inl ())) fun r2=>match r2 with
| .inl _ =>
some (.inl (IntKind.wrap .i64 (v0+1)))
| .inr _ =>
some (.inr (.inl v0)))))) (
some (.inr (.inr ())))
def Gr (n:Nat) (l1:List (Int × Int)):Option (Int × Int) :=
ob (
br (decide ((l1.length:Int)<3)) (
some true) (
some (decide (40<(l1.length:Int))))) fun v1 =>
br (v1) (
some (1,0)) (
ob (
ob (α:=(Int) ⊕ (Unit)) (
dn (uj n l1) n 0) fun r0=>match r0 with
| .inl v2 =>
some v2
| .inr _ =>
some (-1)) fun v0 =>
br (decide (0≤v0)) (
some (2,v0)) (
ob (
some ()) fun _ =>
ob (α:=(Int) ⊕ (Unit)) (
ob (α:=(Int) ⊕ (Unit)) (
dn (tl n l1) n 0) fun r1=>match r1 with
| .inl v3 =>
some (.inl v3)
| .inr _ =>
some (.inr ())) fun r2=>match r2 with
| .inl v4 =>
some (3,v4)
| .inr _ =>
ob (
some ()) fun _ =>
ob (α:=(Int) ⊕ (Unit)) (
ob (α:=(Int) ⊕ (Unit)) (
dn (tu n l1) n 0) fun r3=>match r3 with
| .inl v5 =>
some (.inl v5)
| .inr _ =>
some (.inr ())) fun r4=>match r4 with
| .inl v6 =>
some (4,v6)
| .inr _ =>
ob (
some ()) fun _ =>
ob (α:=(Int) ⊕ (Unit)) (
ob (α:=(Int) ⊕ (Unit)) (
dn (uo n l1) n 0) fun r5=>match r5 with
| .inl v7 =>
some (.inl v7)
| .inr _ =>
some (.inr ())) fun r6=>match r6 with
| .inl v8 =>
some (5,v8)
| .inr _ =>
some (0,0)))
def DM (n:Nat) (l1:List (Int × Int)):Option (Int) :=
ob (Gr n l1) fun(r6,_) =>
br (decide (0<r6)) (
some 140) (
some 0)
def sP (_:Nat) (l1:List (Int × Int)) (l5:List (Int × Int)):Int→Option ((Int) ⊕ ((Unit) ⊕ (Unit))):=fun v11 =>
br (decide (v11<(l1.length:Int))) (
gd (dq v11 l1.length) (
ob (l1[v11.toNat]?) fun(x31,x32) =>
gd (dq v11 l5.length) (
ob (l5[v11.toNat]?) fun(x37,x38) =>
br (!(decide (x31=x37) && decide (x32=x38))) (
some (.inr (.inl ()))) (
some (.inl (IntKind.wrap .i64 (v11+1))))))) (
some (.inr (.inr ())))
def Fh (n:Nat) (l1:List (Int × Int)) (l5:List (Int × Int)):Option (Bool) :=
br (!decide ((l1.length:Int)=(l5.length:Int))) (
some false) (
ob (α:=(Unit) ⊕ (Unit)) (
dn (sP n l1 l5) n 0) fun r42=>match r42 with
| .inl _ =>
some false
| .inr _ =>
some true)
end Go.Proofs.YthmekkhpddehjaaGreat
end

section
namespace Go.Proofs.YthmekkhpddehjaaGreat
open Go Go.Ab Go.Ab.W
set_option maxRecDepth 10000
set_option maxHeartbeats 4000000
attribute [local irreducible] Tm.at Trie.set Trie.get AMem.get AMem.set AMem.alloc AMem.ww AMem.kill
def HH (_:Nat) (l:List (Int × Int)):Option (List (Int × Int)):=gd (lim l.length) (some l)
theorem GU {P:Program} {ty e l c l' c':Nat} (hu:P.underlying ty=some (.slice e)):bF .eql ty P (.slice none l c) (.slice none l' c')=some (.bool true):=by
 simp only[bF,Op.maxDepth,jz,hu,Option.map_some,Option.isNone_none]
theorem Hn {P:Program} {ty e l c l' c':Nat} {A:Addr} (hu:P.underlying ty=some (.slice e)):bF .eql ty P (.slice (some A) l c) (.slice none l' c')=some (.bool false):=by
 simp only[bF,Op.maxDepth,jz,hu,Option.map_some]
theorem Fc:aK.P.underlying 34=some (.slice 33):=by kernel_rfl
theorem Fj:SlT aK.P 34 33 2:=SlT.of (by kernel_rfl)
theorem Ib:bL aK.P 33=some (.agg #[.int .i64 0,.int .i64 0]):=by kernel_rfl
theorem Rd.Dz {m:AMem} {cap w n:Nat} {es:List (List Value)} (h:Rd m none cap w n es):n=0:=by
 rcases h.2.2 with⟨_,h⟩|⟨_,_,h,_⟩|⟨_,_,h,_⟩
 ·exact h
 ·cases h
 ·cases h
theorem Ex (n:Nat) (l:List (Int × Int)) (a:Option Addr) (c:Nat) (r:List (Int × Int)) (hF:HH n l=some r) (m:AMem) (h:Rd m a c 2 l.length (l.map (eP (eI .i64) (eI .i64)))):aR aK 71 [.slice a l.length c] m (fun v m'=>∃x:Option Addr × Nat,v = .slice x.1 x.2 x.2∧Hp m m' [.sl x.1 2 x.2 (r.map (eP (eI .i64) (eI .i64)))]):=by
 unfold HH at hF;obtain⟨hl,hF⟩:=al hF;cases hF;cases a with
 | none =>
  have h0:=Rd.Dz h;have:l = []:=List.length_eq_zero_iff.1 h0;subst this;refine aH (m0:=m) (ps:=[]) (N:=8) (rs:=[.tmp 2]) rfl Tryz.func71 rfl rfl rfl (Hp.start m) ?_;refine Wk.seq ?_;refine Wk.region ?_;refine Wo.od (ai rfl) rfl ?_;refine Wo.nil ?_;refine At.tn ?_;refine Wk.seq ?_;refine Wk.seq ?_;refine Wk.region ?_;refine Wo.od (aa rfl) rfl ?_;refine Wo.od (ak rfl rfl (GU Fc)) rfl ?_;refine Wo.nil ?_;refine At.tn ?_;refine Wk.aD rfl rfl ?_;refine Wk.seq ?_;refine Wk.region ?_;refine Wo.od (ai rfl) rfl ?_;refine Wo.nil ?_;refine At.tn ?_;refine Wk.ret ?_;refine At.tr ?_;exact At.ret (.tmp rfl .nil) fun m' hm=>⟨(none,0),rfl,(ae.nil 2 rfl) m' hm⟩
 | some A =>
  refine aH (m0:=m) (ps:=[.rd (some A) c 2 l.length (l.map (eP (eI .i64) (eI .i64)))]) (N:=8) (rs:=[.tmp 2]) rfl Tryz.func71 rfl rfl rfl ((Hp.start m).nC rfl h) ?_;refine Wk.seq ?_;refine Wk.region ?_;refine Wo.od (ai rfl) rfl ?_;refine Wo.nil ?_;refine At.tn ?_;refine Wk.seq ?_;refine Wk.seq ?_;refine Wk.region ?_;refine Wo.od (aa rfl) rfl ?_;refine Wo.od (ak rfl rfl (Hn Fc)) rfl ?_;refine Wo.nil ?_;refine At.tn ?_;refine Wk.aC rfl rfl ?_;refine Wk.skip ?_;refine At.tn ?_;refine Wk.seq ?_;refine Wk.region ?_;refine Wo.x (nD (es:=([]:List (Int × Int)).map (eP (eI .i64) (eI .i64))) Fj rfl (nA Fj Ib rfl rfl) rfl rfl) gn rfl fun b=>?_;refine Wo.od (aa rfl) rfl ?_;refine Wo.iN (ae.close (k:=0) rfl) ?_;refine Wo.x (kj (k:=0) (k2:=1) (xs:=([]:List (Int × Int))) (ys:=l) (Ae (pO .i64) (pO .i64)) Fj ⟨_,Fc⟩ rfl rfl rfl (.rd _ _ _ _ _) hl) gn rfl fun a2=>?_;refine Wo.od (ai rfl) rfl ?_;refine Wo.nil ?_;refine At.tn ?_;refine Wk.ret ?_;exact At.ret (.tmp rfl .nil) fun m' hm=>⟨(a2,l.length),rfl,(ae.U [0] rfl rfl) m' hm⟩
end Go.Proofs.YthmekkhpddehjaaGreat
end

section
namespace Go.Ab.W
open Go Go.Ab
attribute [local irreducible] Tm.at Trie.set Trie.get AMem.get AMem.set AMem.alloc AMem.ww AMem.kill
section
variable {E : Env} {n : Nat} {m0 m : AMem} {fs : Fs} {ps : List Pc} {x y : Operand} {ty : TypeId}
theorem He {elem b w l k L o:Nat} {es:List (List Value)} {tg:Tag} {lx:Option Operand} {kd:IntKind} (ht:SlT E.P ty elem w) (hx:ev E fs x=some (.slice (some ⟨b,0,none⟩) l l)) (e1:xw E fs lx=some (some (.int kd (L:Int)))) (hp:pk ps k=some (.arr b w l es tg)) (h:L<l) (ho:L*w=o) :
  Od E m0 fs ps (.slice ty x lx none none) (.slice (some ⟨b,o,none⟩) (l-L) (l-L)) ps :=
 fun t m hf hm=>⟨fun b' hb'=>by
  have:eE (.slice (some ⟨b,0,none⟩) l l)=some b:=rfl;simp only[aI,hf.ev hx,Option.bind_some,this] at hb';cases hb'; exact(hm.get hp).2.1,fun K hK=>by
  obtain⟨_,_,hg,_,_,htg,_⟩:=hm.get hp;have hb:dH l l (some (.int kd (L:Int))) none none=some (L,l,l):=mK (by omega) (Nat.le_refl _) (.inr ⟨kd,rfl⟩) (.inl ⟨rfl,rfl⟩)
  have hs:cb E.P ty (.slice (some ⟨b,0,none⟩) l l) (some (.int kd (L:Int))) none none m=some (.slice (some ⟨b,o,none⟩) (l-L) (l-L)):=by
   subst ho;rcases htg with rfl|rfl
   ·simp only[cb,ht.und,ht.known,if_true,hg,hb,ht.size,Nat.zero_add];rw[if_neg (by omega)]
   ·simp only[cb,ht.und,ht.known,if_true,hg,hb,ht.size,Nat.zero_add];rw[if_neg (by simp),if_neg (by omega)]
  rw[Go.Ab.xZ (hf.ev hx) (hf.xw e1) (hf.xw rfl) (hf.xw rfl) hs]; exact hK m hm⟩
theorem xS {elem:TypeId} {b w l cap L o:Nat} {i:Int} {kd:IntKind} (ht:SlT E.P ty elem w) (ho:L*w=o) (hx:ev E fs x=some (.slice (some ⟨b,o,none⟩) l cap)) (hy:ev E fs y=some (.int kd i)) (hi:0≤i∧i.toNat<l):Od E m0 fs ps (.indexAddr ty x y) (ptr b ((L+i.toNat)*w+0)) ps:=by
 have:=bC (m0:=m0) (ps:=ps) ht hx hy hi;subst ho;rwa[←Nat.add_mul] at this
variable {α : Type} {f : α → List Value} {elem : TypeId} {k cap w l : Nat} {a : Option Addr} {es : List (List Value)} {xs : List α}
end
section
variable {E : Env} {n : Nat} {m0 : AMem} {fs : Fs} {ps : List Pc} {ops : Array Oper} {os : List Oper} {K : Tm → AMem → Prop} {dr : Bool}
end
end Go.Ab.W
end

section
namespace Go.Proofs.YthmekkhpddehjaaGreat
open Go Go.Ab Go.Ab.W
set_option maxRecDepth 10000
def qt (_:Nat) (l1:List (Int × Int)):(Int × Int)→Option ((Int × Int) ⊕ (Int)):=fun(v0,v1) =>
br (decide (v0<(l1.length:Int))) (
gd (dq v0 l1.length) (
ob (l1[v0.toNat]?) fun(x10,x11) =>
gd (decide ((l1.length:Int)≠0)) (
gd (dq (Int.tmod (IntKind.wrap .i64 (v0+1)) (l1.length:Int)) l1.length) (
ob (l1[(Int.tmod (IntKind.wrap .i64 (v0+1)) (l1.length:Int)).toNat]?) fun(x12,x13) =>
ob (
gd (dq 0 l1.length) (
ob (l1[(0:Int).toNat]?) fun(x3,x4) =>
gd (dq 0 l1.length) (
ob (some (IntKind.wrap .i64 ((IntKind.wrap .i64 (x10-x3))*(IntKind.wrap .i64 (x13-x4))))) fun y0 =>
gd (dq 0 l1.length) (
gd (dq 0 l1.length) (
ob (some (IntKind.wrap .i64 ((IntKind.wrap .i64 (x11-x4))*(IntKind.wrap .i64 (x12-x3))))) fun y1 =>
some (IntKind.wrap .i64 ((IntKind.wrap .i64 (v1+y0))-y1))))))) fun v2 =>
some (.inl (IntKind.wrap .i64 (v0+1),v2)))))) (
some (.inr v1))
def Ht (n:Nat) (l1:List (Int × Int)):Option (Int × Int) :=
ob (DM n l1) fun r0 =>
br (!decide (r0=0)) (
some (0,r0)) (
ob (
some ()) fun _ =>
ob (
ob (
dn (qt n l1) n (0,0)) fun v0 =>
some v0) fun v1 =>
some (v1,0))
def qg (n:Nat) (l1:List (Int × Int)):(Int × Int)→Option ((Int × Int) ⊕ (Int)):=fun(v7,v8) =>
br (decide (v8<(l1.length:Int))) (
gd (dq v8 l1.length) (
ob (l1[v8.toNat]?) fun(x30,x31) =>
ob (zm n l1 (IntKind.wrap .i64 (v8+1))) fun(r34,r35) =>
ob (some (IntKind.wrap .i64 ((IntKind.wrap .i64 (v7+(IntKind.wrap .i64 (x30*r35))))-(IntKind.wrap .i64 (x31*r34))))) fun y38 =>
some (.inl (y38,IntKind.wrap .i64 (v8+1))))) (
some (.inr v7))
def HO (n:Nat) (l1:List (Int × Int)):Option (Int) :=
ob (
dn (qg n l1) n (0,0)) fun v25 =>
some v25
def Gg (n:Nat) (l1:List (Int × Int)):Option (Int × Int) :=
ob (DJ n l1) fun r6 =>
br (!decide (r6=0)) (
some (0,r6)) (
ob (HO n l1) fun r9 =>
some (r9,0))
def qC (n:Nat) (l1:List (Int × Int)):(Int × List (Bool))→Option ((Int × List (Bool)) ⊕ (List (Bool))):=fun(v0,l2) =>
br (decide (v0<(l1.length:Int))) (
gd (dq v0 l1.length) (
ob (l1[v0.toNat]?) fun(x3,x4) =>
gd (decide ((l1.length:Int)≠0)) (
gd (dq (Int.tmod (IntKind.wrap .i64 (v0+1)) (l1.length:Int)) l1.length) (
ob (l1[(Int.tmod (IntKind.wrap .i64 (v0+1)) (l1.length:Int)).toNat]?) fun(x10,x11) =>
ob (
gd (decide ((l1.length:Int)≠0)) (
gd (dq (Int.tmod (IntKind.wrap .i64 (v0+2)) (l1.length:Int)) l1.length) (
ob (l1[(Int.tmod (IntKind.wrap .i64 (v0+2)) (l1.length:Int)).toNat]?) fun(x12,x13) =>
ob (zk n x3 x4 x10 x11 x12 x13) fun r0 =>
gd (dq (IntKind.wrap .i64 (1+r0)) 3) (
ob (l2[(IntKind.wrap .i64 (1+r0)).toNat]?) fun _ =>
some (l2.set ((IntKind.wrap .i64 (1+r0)).toNat) true))))) fun l3 =>
some (.inl (IntKind.wrap .i64 (v0+1),l3)))))) (
some (.inr l2))
def GK (n:Nat) (l1:List (Int × Int)):Option (Bool × Int) :=
ob (DM n l1) fun r0 =>
br (!decide (r0=0)) (
some (false,r0)) (
ob (
some ()) fun _ =>
ob (
ob (
dn (qC n l1) n (0,([false,false,false]:List (Bool)))) fun l2 =>
some l2) fun l3 =>
ob (Ih l3) fun(x3,_,x4) =>
some (!(x3 == x4),0))
def qD (n:Nat) (l1:List (Int × Int)):(Bool × Bool × Int)→Option ((Bool × Bool × Int) ⊕ (Bool × Bool)):=fun(v1,v2,v0) =>
br (decide (v0<(l1.length:Int))) (
ob (
gd (dq v0 l1.length) (
ob (l1[v0.toNat]?) fun(x3,x4) =>
ob (zm n l1 (IntKind.wrap .i64 (v0+1))) fun(r1,r2) =>
ob (zm n l1 (IntKind.wrap .i64 (v0+2))) fun(r3,r4) =>
ob (zl n x3 x4 r1 r2 r3 r4) fun r0 =>
ob (
br (v1) (
some true) (
some (decide (0<r0)))) fun v3 =>
br (v2) (
some (v3,true)) (
some (v3,decide (r0<0))))) fun(v4,v5) =>
some (.inl (v4,v5,IntKind.wrap .i64 (v0+1)))) (
some (.inr (v1,v2)))
def Hq (n:Nat) (l1:List (Int × Int)):Option (Bool × Int) :=
ob (DJ n l1) fun r6 =>
br (!decide (r6=0)) (
some (false,r6)) (
ob (
dn (qD n l1) n (false,false,0)) fun(v62,v63) =>
some (!(v62 == v63),0))
def qv (_:Nat) (l2:List (Int × Int)):(List (Int × Int) × Int × Int)→Option ((List (Int × Int) × Int × Int) ⊕ (List (Int × Int))):=fun(l1,v0,v1) =>
br (decide (v0<v1)) (
gd (dq v1 (l2.length-1:Nat)) (
ob (l1[(1+v1.toNat)]?) fun(x3,x4) =>
gd (dq v0 (l2.length-1:Nat)) (
ob (l1[(1+v0.toNat)]?) fun(x10,x11) =>
gd (dq v0 (l2.length-1:Nat)) (
gd (dq v1 (l2.length-1:Nat)) (
ob ((l1.set (1+v0.toNat) (x3,x4))[(1+v1.toNat)]?) fun(_,_) =>
some (.inl (((l1.set (1+v0.toNat) (x3,x4)).set (1+v1.toNat) (x10,x11)),IntKind.wrap .i64 (v0+1),IntKind.wrap .i64 (v1-1)))))))) (
some (.inr l1))
def GZ (n:Nat) (l2:List (Int × Int)):Option (List (Int × Int) × Int) :=
ob (DM n l2) fun r0 =>
br (!decide (r0=0)) (
some ([],r0)) (
ob (HH n l2) fun l1 =>
gd (decide (1<l1.length)) (
ob (
ob (
dn (qv n l1) n (l1,0,IntKind.wrap .i64 (((l1.length-1:Nat):Int)-1))) fun l3 =>
some l3) fun l4 =>
some (l4,0)))
def pD (n:Nat) (l1:List (Int × Int)) (x5:Int) (x6:Int):(Int × Int)→Option ((Int × Int) ⊕ ((Int) ⊕ (Int))):=fun(v0,v1) =>
br (decide (v0<(l1.length:Int))) (
gd (dq v0 l1.length) (
ob (l1[v0.toNat]?) fun(x10,x3) =>
gd (decide ((l1.length:Int)≠0)) (
gd (dq (Int.tmod (IntKind.wrap .i64 (v0+1)) (l1.length:Int)) l1.length) (
ob (l1[(Int.tmod (IntKind.wrap .i64 (v0+1)) (l1.length:Int)).toNat]?) fun(x11,x4) =>
ob (α:=(Unit) ⊕ (Int)) (
ob (wZ n v0 x10 x3 x11 x4 x5 x6) fun r1 =>
br (r1) (
some (.inl ())) (
ob (zk n x10 x3 x11 x4 x5 x6) fun r0 =>
ob (
br (decide (x3≤x6)) (
br (decide (x6<x4)) (
some (decide (0<r0))) (
some false)) (
some false)) fun v2 =>
br (v2) (
some (.inr (IntKind.wrap .i64 (v1+1)))) (
ob (
br (decide (x6<x3)) (
br (decide (x4≤x6)) (
some (decide (r0<0))) (
some false)) (
some false)) fun v3 =>
br (v3) (
some (.inr (IntKind.wrap .i64 (v1-1)))) (
some (.inr v1))))) fun r2=>match r2 with
| .inl _ =>
some (.inr (.inl v1))
| .inr v4 =>
some (.inl (IntKind.wrap .i64 (v0+1),v4)))))) (
some (.inr (.inr v1)))
def G6 (n:Nat) (l1:List (Int × Int)) (x5:Int) (x6:Int):Option (Int × Int) :=
ob (DM n l1) fun r0 =>
br (!decide (r0=0)) (
some (0,r0)) (
ob (F9 n x5 x6) fun r1 =>
br (r1) (
some (0,2)) (
ob (
some ()) fun _ =>
ob (α:=(Int) ⊕ (Int)) (
ob (α:=(Int) ⊕ (Int)) (
dn (pD n l1 x5 x6) n (0,0)) fun r2=>match r2 with
| .inl v0 =>
some (.inl v0)
| .inr v1 =>
some (.inr v1)) fun r3=>match r3 with
| .inl _ =>
some (1,0)
| .inr v2 =>
br (!decide (v2=0)) (
some (2,0)) (
some (0,0))))
def oK (n:Nat) (l1:List (Int × Int)) (x5:Int) (x6:Int):(Bool × Int)→Option ((Bool × Int) ⊕ ((Unit) ⊕ (Bool))):=fun(v1,v0) =>
br (decide (v0<(l1.length:Int))) (
ob (α:=(Unit) ⊕ (Bool)) (
gd (dq v0 l1.length) (
ob (l1[v0.toNat]?) fun(x4,x3) =>
ob (zm n l1 (IntKind.wrap .i64 (v0+1))) fun(r1,r0) =>
ob (Di n x4 x3 r1 r0 x5 x6) fun r2 =>
br (r2) (
some (.inl ())) (
ob (
br (!((decide (x6<x3)) == (decide (x6<r0)))) (
ob (zl n x4 x3 r1 r0 x5 x6) fun r3 =>
some ((decide (0<r3)) == (decide (x3<r0)))) (
some false)) fun v2 =>
br (v2) (
some (.inr (!v1))) (
some (.inr v1))))) fun r4=>match r4 with
| .inl _ =>
some (.inr (.inl ()))
| .inr v3 =>
some (.inl (v3,IntKind.wrap .i64 (v0+1)))) (
some (.inr (.inr v1)))
def HQ (n:Nat) (l1:List (Int × Int)) (x5:Int) (x6:Int):Option (Int) :=
ob (α:=(Unit) ⊕ (Bool)) (
dn (oK n l1 x5 x6) n (false,0)) fun r0=>match r0 with
| .inl _ =>
some 1
| .inr v0 =>
br (v0) (
some 2) (
some 0)
def Hc (n:Nat) (l1:List (Int × Int)) (x5:Int) (x6:Int):Option (Int × Int) :=
ob (DJ n l1) fun r9 =>
br (!decide (r9=0)) (
some (0,r9)) (
ob (Gb n x5 x6) fun r12 =>
br (r12) (
some (0,2)) (
ob (HQ n l1 x5 x6) fun r15 =>
some (r15,0)))
def Aa (n:Nat) (x10:Int) (x11:Int) (x9:Int) (x12:Int) (x13:Int) (x14:Int) (v1:Int) (v2:Int) (l1:List (Int × Int)):Int→Option ((Int) ⊕ ((Unit) ⊕ (Unit))):=fun v0 =>
br (decide (v0<3)) (
gd (dq v0 3) (
ob ([(x10,x11),(IntKind.wrap .i64 ((IntKind.wrap .i64 x9)+(IntKind.wrap .i64 x12)),IntKind.wrap .i64 ((IntKind.wrap .i64 x13)+(IntKind.wrap .i64 x14))),(v1,v2)][v0.toNat]?) fun(x3,x4) =>
ob (G6 n l1 x3 x4) fun(r0,r1) =>
ob (Hc n l1 x3 x4) fun(r2,r3) =>
ob (
br (!decide (r0=r2)) (
some true) (
some (!decide (r1=r3)))) fun v3 =>
br (v3) (
some (.inr (.inl ()))) (
some (.inl (IntKind.wrap .i64 (v0+1)))))) (
some (.inr (.inr ())))
def AH (n:Nat) (l2:List (Int × Int)) (l3:List (Int × Int)) (l4:List (Int × Int)) (l5:List (Int × Int)) (x3:Nat) (x4:Int) (x10:Int) (x9:Int) (x11:Int) (x12:Int) (x13:Int):Int→Option ((Int) ⊕ ((Unit) ⊕ (Unit))):=fun v0 =>
br (decide (v0<4)) (
gd (dq v0 4) (
ob ([l2,l3,l4,l5][v0.toNat]?) fun l1 =>
ob (Ht n l1) fun(r0,r1) =>
ob (Gg n l1) fun(r2,r3) =>
ob (GK n l1) fun(r4,r5) =>
ob (Hq n l1) fun(r6,r7) =>
ob (GZ n l1) fun(l6,r8) =>
ob (DY n l1) fun(l7,r9) =>
ob (
br (!decide (r0=r2)) (
some true) (
br (!decide (r1=r3)) (
some true) (
br (!(r4 == r6)) (
some true) (
br (!decide (r5=r7)) (
some true) (
br (!decide (r8=r9)) (
some true) (
ob (Fh n l6 l7) fun r10 =>
some (!r10))))))) fun v1 =>
br (v1) (
some (.inr (.inl ()))) (
ob (
br (decide (1<(l1.length:Int))) (
gd (decide ((l1.length:Int)≠0)) (
gd (dq (Int.tmod (IntKind.wrap .i64 ((x3:Nat):Int)) (l1.length:Int)) l1.length) (
ob (l1[(Int.tmod (IntKind.wrap .i64 ((x3:Nat):Int)) (l1.length:Int)).toNat]?) fun(x14,x15) =>
gd (dq 0 l1.length) (
ob (l1[(0:Int).toNat]?) fun(x16,x17) =>
ob (some (IntKind.wrap .i64 ((IntKind.wrap .i64 (Int.tdiv x14 2))+(IntKind.wrap .i64 (Int.tdiv x16 2))))) fun y0 =>
gd (dq 0 l1.length) (
ob (some (IntKind.wrap .i64 ((IntKind.wrap .i64 (Int.tdiv x15 2))+(IntKind.wrap .i64 (Int.tdiv x17 2))))) fun y1 =>
some (y0,y1)))))) (
some (0,0))) fun(v2,v3) =>
ob (α:=(Unit) ⊕ (Unit)) (
dn (Aa n x4 x10 x9 x11 x12 x13 v2 v3 l1) n 0) fun r11=>match r11 with
| .inl _ =>
some (.inr (.inl ()))
| .inr _ =>
some (.inl (IntKind.wrap .i64 (v0+1)))))) (
some (.inr (.inr ())))
def F8 (n:Nat) (l1:List (Int × Int)) (l2:List (Nat)) (x9:Int) (x3:Int) (x10:Nat) (x11:Bool) (x12:Bool) (x13:Nat) (x4:Nat) (x14:Nat) (x15:Int) (x16:Int) (x17:Nat) (x18:Nat) (x19:Nat) (x20:Int) (x21:Int) (x22:Int) (x23:Int) (x24:Int) (x25:Int):Option (Bool) :=
ob (Gf n l1 l2 x9 x3 x10 x11 x12 x13 x4 x14 x15 x16 x17 x18 x19 x20 x21) fun(l3,l4,l5,l6) =>
ob (α:=(Unit) ⊕ (Unit)) (
dn (AH n l3 l4 l5 l6 x4 x22 x23 x9 x24 x3 x25) n 0) fun r0=>match r0 with
| .inl _ =>
some false
| .inr _ =>
ob (Ir n) fun r1 =>
some r1
end Go.Proofs.YthmekkhpddehjaaGreat
end

section
namespace Go.Proofs.YthmekkhpddehjaaGreat
open Go Go.Ab Go.Ab.W
set_option maxRecDepth 10000
set_option maxHeartbeats 4000000
attribute [local irreducible] Tm.at Trie.set Trie.get AMem.get AMem.set AMem.alloc AMem.ww AMem.kill
theorem zh:TyI aK.P 28 true 6:=⟨by kernel_rfl,by kernel_rfl,by kernel_rfl⟩
theorem Io:TyI aK.P 69 true 10:=⟨by kernel_rfl,by kernel_rfl,by kernel_rfl⟩
theorem z70:bL aK.P 70=some (.agg #[.slice none 0 0,.slice none 0 0,.slice none 0 0,.slice none 0 0]):=by kernel_rfl
theorem Eb:∀b o,aM aK.P 28 (ptr b o) 3=some (ptr b (o+4)):=fun _ _=>by kernel_rfl
theorem HD:TyI aK.P 4 false 1:=⟨by kernel_rfl,by kernel_rfl,by kernel_rfl⟩
theorem z33:bL aK.P 33=some (.agg #[.int .i64 0,.int .i64 0]):=by kernel_rfl
theorem gb:BdT aK.P 33 (.agg #[.int .i64 0,.int .i64 0]) [(0,1),(1,1)]:=.mk' (by kernel_rfl) (by kernel_rfl)
theorem Gu:bL aK.P 112=some (.agg #[.int .i64 0,.int .i64 0,.int .i64 0,.int .i64 0,.int .i64 0,.int .i64 0,.int .i64 0,.int .i64 0,.int .i64 0,.int .i64 0,.int .i64 0,.int .i64 0,.int .i64 0,.int .i64 0,.int .i64 0,.int .i64 0,.int .i64 0,.int .i64 0,.int .i64 0,.int .i64 0,.int .i64 0,.int .i64 0,.int .i64 0,.int .i64 0]):=by kernel_rfl
theorem Gi:BdT aK.P 112 (.agg #[.int .i64 0,.int .i64 0,.int .i64 0,.int .i64 0,.int .i64 0,.int .i64 0,.int .i64 0,.int .i64 0,.int .i64 0,.int .i64 0,.int .i64 0,.int .i64 0,.int .i64 0,.int .i64 0,.int .i64 0,.int .i64 0,.int .i64 0,.int .i64 0,.int .i64 0,.int .i64 0,.int .i64 0,.int .i64 0,.int .i64 0,.int .i64 0]) [(0,2),(2,2),(4,2),(6,2),(8,2),(10,2),(12,2),(14,2),(16,2),(18,2),(20,2),(22,2)]:=.mk' (by kernel_rfl) (by kernel_rfl)
theorem Gv:TyI aK.P 112 true 24:=⟨by kernel_rfl,by kernel_rfl,by kernel_rfl⟩
theorem wH:∀b o,aM aK.P 28 (ptr b o) 0=some (ptr b (o+0)):=fun _ _=>by kernel_rfl
theorem EU:TyI aK.P 24 false 1:=⟨by kernel_rfl,by kernel_rfl,by kernel_rfl⟩
theorem Ip:aK.P.underlying 24=some (.slice 5):=by kernel_rfl
theorem IP:SlT aK.P 24 5 1:=SlT.of (by kernel_rfl)
theorem Ej:TyI aK.P 5 false 1:=⟨by kernel_rfl,by kernel_rfl,by kernel_rfl⟩
theorem u5:aK.P.underlying 5=some (.int .u8):=by kernel_rfl
theorem u3:aK.P.underlying 3=some (.int .i64):=by kernel_rfl
theorem DV:ArT aK.P 112 33 12 2:=⟨by kernel_rfl,by kernel_rfl,by kernel_rfl⟩
theorem aQ:∀b o,aM aK.P 33 (ptr b o) 0=some (ptr b (o+0)):=fun _ _=>by kernel_rfl
theorem bg:TyI aK.P 3 false 1:=⟨by kernel_rfl,by kernel_rfl,by kernel_rfl⟩
theorem aF:∀b o,aM aK.P 33 (ptr b o) 1=some (ptr b (o+1)):=fun _ _=>by kernel_rfl
theorem fP:aK.P.underlying 34=some (.slice 33):=by kernel_rfl
theorem ct:SlT aK.P 34 33 2:=SlT.of (by kernel_rfl)
theorem az:TyI aK.P 33 true 2:=⟨by kernel_rfl,by kernel_rfl,by kernel_rfl⟩
theorem D3:AU aK.P 33 3 3 .i64 .i64=true:=by kernel_rfl
theorem B8:∀(x0 y0:Int) (x1 y1:Int),jz aK.P Op.maxDepth 33 (.agg #[.int .i64 x0,.int .i64 x1]) (.agg #[.int .i64 y0,.int .i64 y1])=some (decide (x0=y0) && decide (x1=y1)):=fun x0 y0 x1 y1=>DG D3 x0 y0 x1 y1
theorem Cy:aK.P.eqGuardType aK.P.depth 33=false:=by kernel_rfl
theorem FA:∀b o,aM aK.P 28 (ptr b o) 2=some (ptr b (o+3)):=fun _ _=>by kernel_rfl
theorem ra:∀b o,aM aK.P 28 (ptr b o) 1=some (ptr b (o+1)):=fun _ _=>by kernel_rfl
theorem C7:ArT aK.P 26 25 2 1:=⟨by kernel_rfl,by kernel_rfl,by kernel_rfl⟩
theorem CO:TyI aK.P 25 false 1:=⟨by kernel_rfl,by kernel_rfl,by kernel_rfl⟩
theorem HN:aK.P.underlying 25=some (.int .i16):=by kernel_rfl
theorem Eh:∀b o,aM aK.P 28 (ptr b o) 4=some (ptr b (o+5)):=fun _ _=>by kernel_rfl
theorem EE:ArT aK.P 69 68 2 5:=⟨by kernel_rfl,by kernel_rfl,by kernel_rfl⟩
theorem Hi:TyI aK.P 68 true 5:=⟨by kernel_rfl,by kernel_rfl,by kernel_rfl⟩
theorem zG:∀b o,aM aK.P 68 (ptr b o) 1=some (ptr b (o+1)):=fun _ _=>by kernel_rfl
theorem Au:∀b o,aM aK.P 68 (ptr b o) 2=some (ptr b (o+2)):=fun _ _=>by kernel_rfl
theorem EY:∀b o,aM aK.P 68 (ptr b o) 0=some (ptr b (o+0)):=fun _ _=>by kernel_rfl
theorem Ad:∀b o,aM aK.P 68 (ptr b o) 3=some (ptr b (o+3)):=fun _ _=>by kernel_rfl
theorem HV:BdT aK.P 70 (.agg #[.slice none 0 0,.slice none 0 0,.slice none 0 0,.slice none 0 0]) [(0,1),(1,1),(2,1),(3,1)]:=.mk' (by kernel_rfl) (by kernel_rfl)
theorem Gt:TyI aK.P 70 true 4:=⟨by kernel_rfl,by kernel_rfl,by kernel_rfl⟩
theorem Cs:ArT aK.P 70 34 4 1:=⟨by kernel_rfl,by kernel_rfl,by kernel_rfl⟩
theorem cY:TyI aK.P 34 false 1:=⟨by kernel_rfl,by kernel_rfl,by kernel_rfl⟩
theorem z3:bL aK.P 3=some (.int .i64 0):=by kernel_rfl
theorem xu:bL aK.P 96=some (.agg #[.int .i64 0,.int .i64 0,.int .i64 0,.int .i64 0,.int .i64 0]):=by kernel_rfl
theorem u7:BdT aK.P 96 (.agg #[.int .i64 0,.int .i64 0,.int .i64 0,.int .i64 0,.int .i64 0]) [(0,1),(1,2),(3,2)]:=.mk' (by kernel_rfl) (by kernel_rfl)
theorem nk:TyI aK.P 96 true 5:=⟨by kernel_rfl,by kernel_rfl,by kernel_rfl⟩
theorem cA:∀b o,aM aK.P 96 (ptr b o) 1=some (ptr b (o+1)):=fun _ _=>by kernel_rfl
theorem de:∀b o,aM aK.P 96 (ptr b o) 2=some (ptr b (o+3)):=fun _ _=>by kernel_rfl
theorem iB:∀b o,aM aK.P 96 (ptr b o) 0=some (ptr b (o+0)):=fun _ _=>by kernel_rfl
theorem z41:bL aK.P 41=some (.agg #[.int .i64 0,.int .i64 0,.int .i64 0,.int .i64 0,.int .i64 0,.int .i64 0,.int .i64 0,.int .i64 0]):=by kernel_rfl
theorem HW:BdT aK.P 41 (.agg #[.int .i64 0,.int .i64 0,.int .i64 0,.int .i64 0,.int .i64 0,.int .i64 0,.int .i64 0,.int .i64 0]) [(0,2),(2,2),(4,2),(6,2)]:=.mk' (by kernel_rfl) (by kernel_rfl)
theorem CE:ArT aK.P 41 33 4 2:=⟨by kernel_rfl,by kernel_rfl,by kernel_rfl⟩
theorem HT:aK.P.underlying 102=some (.slice 3):=by kernel_rfl
theorem Ez:SlT aK.P 102 3 1:=SlT.of (by kernel_rfl)
theorem D9:aK.P.underlying 119=some (.map 33 4):=by kernel_rfl
theorem Gh:bL aK.P 107=some (.agg #[.bool false,.bool false,.bool false]):=by kernel_rfl
theorem Gw:BdT aK.P 107 (.agg #[.bool false,.bool false,.bool false]) [(0,1),(1,1),(2,1)]:=.mk' (by kernel_rfl) (by kernel_rfl)
theorem GP:TyI aK.P 107 true 3:=⟨by kernel_rfl,by kernel_rfl,by kernel_rfl⟩
theorem AE:ArT aK.P 107 4 3 1:=⟨by kernel_rfl,by kernel_rfl,by kernel_rfl⟩
theorem u4:aK.P.underlying 4=some (.bool):=by kernel_rfl
theorem GI:ArT aK.P 30 29 2 1:=⟨by kernel_rfl,by kernel_rfl,by kernel_rfl⟩
theorem GW:TyI aK.P 29 false 1:=⟨by kernel_rfl,by kernel_rfl,by kernel_rfl⟩
theorem Iu:aK.P.underlying 29=some (.int .i8):=by kernel_rfl
theorem IB:bL aK.P 75=some (.agg #[.int .i64 0,.int .i64 0,.int .i64 0,.int .i64 0,.int .i64 0,.int .i64 0]):=by kernel_rfl
theorem H3:BdT aK.P 75 (.agg #[.int .i64 0,.int .i64 0,.int .i64 0,.int .i64 0,.int .i64 0,.int .i64 0]) [(0,2),(2,2),(4,2)]:=.mk' (by kernel_rfl) (by kernel_rfl)
theorem G5:TyI aK.P 75 true 6:=⟨by kernel_rfl,by kernel_rfl,by kernel_rfl⟩
theorem Cb:ArT aK.P 75 33 3 2:=⟨by kernel_rfl,by kernel_rfl,by kernel_rfl⟩
theorem IJ:bL aK.P 37=some (.int .i64 0):=by kernel_rfl
theorem pS:TyI aK.P 37 false 1:=⟨by kernel_rfl,by kernel_rfl,by kernel_rfl⟩
theorem wm (n:Nat) (l1:List (Nat)) (x5:Int) (x6:Int) (x7:Nat) (x8:Bool) (x9:Bool) (x10:Int) (a2:Option Addr) (c3:Nat) (r:Int) (hF:FZ n l1 x5 x6 x7 x8 x9 x10=some r) (m:AMem) (h4:Rd m a2 c3 1 l1.length (l1.map (eN .u8))) :
  aR aK 78 [.agg #[.slice a2 l1.length c3,.int .i16 x5,.int .i16 x6,.int .u8 ((x7:Nat):Int),.bool x8,.bool x9],.int .i64 x10] m (fun v m'=>∃_:Unit,v = .int .i64 r∧Hp m m' []):=by
 unfold FZ at hF;refine aH (m0:=m) (ps:=[.rd a2 c3 1 l1.length (l1.map (eN .u8))]) (N:=21) (rs:=[.tmp 4]) rfl Tryz.func78 rfl rfl rfl ((Hp.start m).nC rfl h4)<|Wk.seq<|Wk.region<|Wo.x (cd rfl) gn rfl fun b11=>?_;refine Wo.od (ai rfl) rfl<|Wo.nil<|At.tn<|Wk.seq<|Wk.seq<|Wk.region<|Wo.od (ay (r:=ptr b11 0) rfl (wH _ _)) rfl<|Wo.od (aj (k:=0) EU rfl rfl rfl) rfl<|Wo.od (da (k:=1) Ip rfl rfl (.inl rfl)) rfl<|Wo.od (ak rfl rfl (dh _ _ _)) rfl<|Wo.nil<|At.tn ?_;rcases ah hF with⟨h12,hF⟩|⟨h12,hF⟩
 ·refine Wk.aD rfl h12<|Wk.seq<|Wk.region<|Wo.od (aa rfl) rfl<|Wo.od (ak rfl rfl (cC _ _ (by decide))) rfl<|Wo.od (ai rfl) rfl<|Wo.nil<|At.tn<|Wk.ret<|At.tr ?_
  cases hF;exact At.ret (.tmp rfl .nil) fun m' hm=>⟨(),rfl,(ae.U [] rfl rfl) m' hm⟩
 ·refine Wk.aC rfl h12<|Wk.skip<|At.tn<|Wk.seq<|Wk.draw (by kernel_rfl)<|Wo.od (ay (r:=ptr b11 0) rfl (wH _ _)) rfl<|Wo.od (aj (k:=0) EU rfl rfl rfl) rfl<|Wo.od (aa rfl) rfl<|Wo.od (ay (r:=ptr b11 0) rfl (wH _ _)) rfl<|Wo.od (aj (k:=0) EU rfl rfl rfl) rfl<|Wo.od (da (k:=1) Ip rfl rfl (.inl rfl)) rfl ?_
  obtain⟨h13,hF⟩:=al hF;refine Wo.od (ak rfl rfl (cC _ _ h13)) rfl ?_;obtain⟨h14,hF⟩:=al hF;replace h14:=av h14;refine Wo.dL (k:=1) rfl (bP h14) ?_;rintro b15 o16 rfl;refine Wo.og (bC IP rfl rfl h14) gn rfl ?_;obtain⟨x17,h18,hF⟩:=J hF;refine Wo.od (bI (k:=0) Ej rfl rfl (aO h18) rfl rfl) rfl<|Wo.od (nB rfl (nj (by rw[u5]; rfl) u3)) rfl<|Wo.od (ai rfl) rfl<|Wo.nil<|At.tn<|Wk.ret ?_
  cases hF;exact At.ret (.tmp rfl .nil) fun m' hm=>⟨(),rfl,(ae.U [] rfl rfl) m' hm⟩
theorem EM (n:Nat) (l1:List (Nat)) (x5:Int) (x6:Int) (x7:Nat) (x8:Bool) (x9:Bool) (a0:Option Addr) (c0:Nat) (r:List (Int × Int)) (hF:HF n l1 x5 x6 x7 x8 x9=some r) (m:AMem) (h14:Rd m a0 c0 1 l1.length (l1.map (eN .u8))) :
  aR aK 46 [.agg #[.slice a0 l1.length c0,.int .i16 x5,.int .i16 x6,.int .u8 ((x7:Nat):Int),.bool x8,.bool x9]] m (fun v m'=>∃x:Option Addr × Nat,v = .slice x.1 x.2 x.2∧Hp m m' [.sl x.1 2 x.2 (r.map (eP (eI .i64) (eI .i64)))]):=by
 unfold HF at hF;refine aH (m0:=m) (ps:=[.rd a0 c0 1 l1.length (l1.map (eN .u8))]) (N:=107) (rs:=[.tmp 2]) rfl Tryz.func46 rfl rfl rfl ((Hp.start m).nC rfl h14)<|Wk.seq<|Wk.region<|Wo.x (cd rfl) gn rfl fun b0=>?_;refine Wo.od (ai rfl) rfl<|Wo.nil<|At.tn<|Wk.seq<|Wk.region<|Wo.od (ai rfl) rfl<|Wo.nil<|At.tn<|Wk.seq<|Wk.seq<|Wk.region<|Wo.od (ay (r:=ptr b0 4) rfl (Eb _ _)) rfl<|Wo.od (aj (k:=0) HD rfl rfl rfl) rfl<|Wo.od (gV rfl rfl) rfl<|Wo.nil<|At.tn ?_;rcases ah hF with⟨h2,hF⟩|⟨h2,hF⟩
 ·refine Wk.aD rfl h2<|Wk.seq<|Wk.region<|Wo.od (dK rfl z33 rfl (dI gb rfl rfl rfl)) rfl<|Wo.od (dK rfl z33 rfl (dI gb rfl rfl rfl)) rfl<|Wo.od (dK rfl z33 rfl (dI gb rfl rfl rfl)) rfl<|Wo.od (dK rfl z33 rfl (dI gb rfl rfl rfl)) rfl<|Wo.od (dK rfl z33 rfl (dI gb rfl rfl rfl)) rfl<|Wo.od (dK rfl z33 rfl (dI gb rfl rfl rfl)) rfl<|Wo.od (dK rfl z33 rfl (dI gb rfl rfl rfl)) rfl<|Wo.od (dK rfl z33 rfl (dI gb rfl rfl rfl)) rfl<|Wo.od (dK rfl z33 rfl (dI gb rfl rfl rfl)) rfl ?_;refine Wo.od (dK rfl z33 rfl (dI gb rfl rfl rfl)) rfl<|Wo.od (dK rfl z33 rfl (dI gb rfl rfl rfl)) rfl<|Wo.od (dK rfl z33 rfl (dI gb rfl rfl rfl)) rfl<|Wo.od (dK rfl Gu rfl (dI Gi rfl rfl rfl)) rfl<|Wo.x (cL Gu rfl) gn rfl fun b3=>?_;refine Wo.o0 (bB (k:=0) Gv rfl rfl rfl rfl rfl)<|Wo.nil<|At.tn<|Wk.seq<|Wk.seq<|Wk.region<|Wo.od (ai rfl) rfl<|Wo.nil<|At.tn<|Wk.block ?_;obtain⟨l2,h3,hF⟩:=J hF;refine Wk.cut (G:=(fun(r:List (Int × Int)) (g:Option Addr)=>match r,g with|l2,a1=>⟨(.exit 0),[(3,.slice a1 l2.length l2.length)],[.sl a1 2 l2.length (l2.map (eP (eI .i64) (eI .i64)))]⟩) l2) ?_ ?_
  ·refine Wk.ep (fs':=[(1,ptr b0 0),(3,.slice none ([]:List (Int × Int)).length ([]:List (Int × Int)).length),(4,ptr b3 0),(5,.int .i64 0)]) (ps':=[.obj b0 (.cells [.slice a0 l1.length c0,.int .i16 x5,.int .i16 x6,.int .u8 ((x7:Nat):Int),.bool x8,.bool x9] .own),.rd a0 c0 1 l1.length (l1.map (eN .u8)),.sl none 2 ([]:List (Int × Int)).length (([]:List (Int × Int)).map (eP (eI .i64) (eI .i64))),.arr b3 2 12 (([(2,0),(2,1),(1,2),(0,2),(-1,2),(-2,1),(-2,0),(-2,-1),(-1,-2),(0,-2),(1,-2),(2,-1)]:List (Int × Int)).map (eP (eI .i64) (eI .i64))) .own]) (sc rfl (sc rfl (sc rfl (sc rfl sn)))) (ae.trans (ae.nil 2 rfl) (ae.trans (ae.DZ (k:=1) (xs:=([(2,0),(2,1),(1,2),(0,2),(-1,2),(-2,1),(-2,0),(-2,-1),(-1,-2),(0,-2),(1,-2),(2,-1)]:List (Int × Int))) (f:=eP (eI .i64) (eI .i64)) (l:=12) (w:=2) rfl rfl rfl (Ae (pO .i64) (pO .i64)) rfl) (ae.U [2,3,0,1] rfl rfl))) ?_;refine Wk.loop (σ:=List (Int × Int) × List (Int × Int) × Int) (ρ:=List (Int × Int)) (γ:=Option Addr) (δ:=fun _=>Option Addr) _ (fun(s:List (Int × Int) × List (Int × Int) × Int) (g:Option Addr)=>match s,g with | (l3,l5,v1),a2=>⟨.normal,[(1,ptr b0 0),(3,.slice a2 l3.length l3.length),(4,ptr b3 0),(5,.int .i64 v1)],[.obj b0 (.cells [.slice a0 l1.length c0,.int .i16 x5,.int .i16 x6,.int .u8 ((x7:Nat):Int),.bool x8,.bool x9] .own),.rd a0 c0 1 l1.length (l1.map (eN .u8)),.sl a2 2 l3.length (l3.map (eP (eI .i64) (eI .i64))),.arr b3 2 12 (l5.map (eP (eI .i64) (eI .i64))) .own]⟩) (fun(r:List (Int × Int)) (g:Option Addr)=>match r,g with|l2,a1=>⟨(.exit 0),[(3,.slice a1 l2.length l2.length)],[.sl a1 2 l2.length (l2.map (eP (eI .i64) (eI .i64)))]⟩) ?_ (fun _ _=>rfl) (fun r d=>by intro e; cases e) _ _ _ h3 none
   clear hF h3;rintro⟨l3,l5,v1⟩ a2 r hF;unfold ql at hF;refine Wk.seq<|Wk.seq<|Wk.region<|Wo.od (aa rfl) rfl<|Wo.od (ak rfl rfl (aS _ _ _)) rfl<|Wo.nil<|At.tn ?_;rcases ah hF with⟨h4,hF⟩|⟨h4,hF⟩
   ·refine Wk.aD rfl h4<|Wk.skip<|At.tn<|Wk.seq ?_;obtain⟨l4,h15,hF⟩:=J hF;refine Wk.cut (G:=(fun(r:List (Int × Int)) (g:Option Addr)=>match r,g with|l4,a6=>⟨.normal,[(1,ptr b0 0),(3,.slice a6 l4.length l4.length),(4,ptr b3 0),(5,.int .i64 v1)],[.obj b0 (.cells [.slice a0 l1.length c0,.int .i16 x5,.int .i16 x6,.int .u8 ((x7:Nat):Int),.bool x8,.bool x9] .own),.rd a0 c0 1 l1.length (l1.map (eN .u8)),.sl a6 2 l4.length (l4.map (eP (eI .i64) (eI .i64))),.arr b3 2 12 (l5.map (eP (eI .i64) (eI .i64))) .own]⟩) l4) ?_ ?_
    ·clear hF;revert l4;intro r hF;refine Wk.block<|Wk.seq<|Wk.region<|Wo.od (aj (k:=0) zh rfl rfl rfl) rfl<|Wo.od (aa rfl) rfl ?_;obtain⟨r5,h16,hF⟩:=J hF;refine Wo.x (bR rfl rfl (fun m hm=>wm n l1 x5 x6 x7 x8 x9 v1 a0 c0 _ h16 m (hm.rd (k:=1) rfl (.rd _ _ _ _ _))) fun _=>rfl) gn rfl ?_;rintro⟨⟩;refine Wo.od (ak rfl rfl (cC _ _ (by decide))) rfl<|Wo.od (ai rfl) rfl<|Wo.nil<|At.tn<|Wk.seq<|Wk.seq ?_
     obtain⟨v3,h17,hF⟩:=J hF;refine Wk.cut (G:=(fun(r:Bool) (g:Unit)=>match r,g with|v3,_=>⟨.normal,[(1,ptr b0 0),(3,.slice a2 l3.length l3.length),(4,ptr b3 0),(5,.int .i64 v1),(6,.int .i64 (Int.tmod r5 6)),(42,.bool v3)],[.obj b0 (.cells [.slice a0 l1.length c0,.int .i16 x5,.int .i16 x6,.int .u8 ((x7:Nat):Int),.bool x8,.bool x9] .own),.rd a0 c0 1 l1.length (l1.map (eN .u8)),.sl a2 2 l3.length (l3.map (eP (eI .i64) (eI .i64))),.arr b3 2 12 (l5.map (eP (eI .i64) (eI .i64))) .own]⟩) v3) ?_ ?_
     ·clear hF;revert v3;intro r hF;refine Wk.region<|Wo.od (aa rfl) rfl<|Wo.od (ak rfl rfl (dh _ _ _)) rfl<|Wo.od (aa rfl) rfl ?_;rcases ah hF with⟨h0,hF⟩|⟨h0,hF⟩
      ·refine Wo.og (aa rfl) (gg rfl rfl (bO h0)) rfl<|Wo.og (ak rfl rfl (cC _ _ (by decide))) (gg rfl rfl (bO h0)) rfl<|Wo.og (ak rfl rfl (cj _ _)) (gg rfl rfl (bO h0)) rfl<|Wo.od (dG rfl h0 rfl) rfl<|Wo.nil ?_
       cases hF;exact At.en () rfl (sc rfl (sc rfl (sc rfl (sc rfl (sc rfl (sc rfl sn)))))) (ae.U [0,1,2,3] rfl rfl)
      ·refine Wo.s (gg rfl rfl (bM h0)) rfl<|Wo.s (gg rfl rfl (bM h0)) rfl<|Wo.s (gg rfl rfl (bM h0)) rfl<|Wo.od (dC rfl h0 rfl) rfl<|Wo.nil ?_;cases hF;exact At.en () rfl (sc rfl (sc rfl (sc rfl (sc rfl (sc rfl (sc rfl sn)))))) (ae.U [0,1,2,3] rfl rfl)
     ·clear h17;rintro⟨⟩;refine At.tn ?_;rcases ah hF with⟨h5,hF⟩|⟨h5,hF⟩
      ·refine Wk.aD rfl h5<|Wk.exit<|At.te<|At.be ?_;have hr:=Option.some.inj hF;subst r;exact At.en a2 rfl (sc rfl (sc rfl (sc rfl (sc rfl sn)))) (ae.U [0,1,2,3] rfl rfl)
      ·refine Wk.aC rfl h5<|Wk.skip<|At.tn<|Wk.draw (by kernel_rfl)<|Wo.od (aa rfl) rfl<|Wo.od (aa rfl) rfl ?_
       obtain⟨h6,hF⟩:=al hF;replace h6:=av h6;refine Wo.og (Bv DV rfl rfl h6) gn rfl<|Wo.od (ay (r:=ptr b3 (v1.toNat*2+0)) rfl (aQ _ _)) rfl ?_;obtain⟨⟨x3,x4⟩,h13,hF⟩:=J hF;refine Wo.od (gz (k:=3) bg rfl rfl (aO h13) rfl rfl) rfl<|Wo.od (aa rfl) rfl<|Wo.od (ak rfl rfl (cC _ _ (by decide))) rfl<|Wo.od (ak rfl rfl (aB _ _ _)) rfl ?_
       obtain⟨y0,h18,hF⟩:=J hF;refine Wo.od (ak rfl rfl ((bQ _ _ _).trans (cI h18))) rfl<|Wo.od (aa rfl) rfl ?_;obtain⟨h7,hF⟩:=al hF;replace h7:=av h7;refine Wo.og (Bv DV rfl rfl h7) gn rfl<|Wo.od (ay (r:=ptr b3 (v1.toNat*2+1)) rfl (aF _ _)) rfl<|Wo.od (gz (k:=3) bg rfl rfl (aO h13) rfl rfl) rfl<|Wo.od (aa rfl) rfl<|Wo.od (ak rfl rfl (cC _ _ (by decide))) rfl<|Wo.od (ak rfl rfl (aB _ _ _)) rfl ?_
       obtain⟨y1,h19,hF⟩:=J hF;refine Wo.od (ak rfl rfl ((bQ _ _ _).trans (cI h19))) rfl<|Wo.od (dK rfl z33 rfl (dI gb rfl rfl rfl)) rfl<|Wo.x (nD (es:=([(y0,y1)]:List (Int × Int)).map (eP (eI .i64) (eI .i64))) ct rfl (nA ct z33 rfl rfl) rfl rfl) gn rfl fun b6=>?_;obtain⟨h20,hF⟩:=al hF;refine Wo.x (kj (k:=3) (k2:=0) (xs:=(l3:List (Int × Int))) (ys:=([(y0,y1)]:List (Int × Int))) (Ae (pO .i64) (pO .i64)) ct ⟨_,fP⟩ rfl rfl rfl (.arr _ _ _ _ _) h20) gn rfl fun a9=>?_;refine Wo.od (ai rfl) rfl<|Wo.nil<|At.bn ?_;cases hF;exact At.en a9 rfl (sc rfl (sc rfl (sc rfl (sc rfl sn)))) (ae.U [1,2,3,4] rfl rfl)
    ·clear h15;rintro a6;refine At.tn<|Wk.region<|Wo.od (aa rfl) rfl<|Wo.od (ak rfl rfl (aB _ _ _)) rfl<|Wo.od (ai rfl) rfl<|Wo.nil ?_;cases hF;exact At.en a6 rfl (sc rfl (sc rfl (sc rfl (sc rfl sn)))) (ae.U [0,1,2,3] rfl rfl)
   ·refine Wk.aC rfl h4<|Wk.exit<|At.te ?_;cases hF;exact At.en a2 rfl (sc rfl sn) (ae.U [2] rfl rfl)
  ·clear h3;rintro a1;refine At.be<|At.tn<|Wk.seq<|Wk.region<|Wo.od (aa rfl) rfl<|Wo.od (ai rfl) rfl<|Wo.nil<|At.tn<|Wk.ret<|At.tr ?_;have hr:=Option.some.inj hF;subst r;exact At.ret (.tmp rfl .nil) fun m' hm=>⟨(a1,l2.length),rfl,(ae.U [0] rfl rfl) m' hm⟩
 ·refine Wk.aC rfl h2<|Wk.skip<|At.tn<|Wk.seq<|Wk.region<|Wo.od (aj (k:=0) zh rfl rfl rfl) rfl ?_;obtain⟨r1,h21,hF⟩:=J hF;refine Wo.x (bR rfl rfl (fun m hm=>wm n l1 x5 x6 x7 x8 x9 0 a0 c0 _ h21 m (hm.rd (k:=1) rfl (.rd _ _ _ _ _))) fun _=>rfl) gn rfl ?_;rintro⟨⟩;refine Wo.od (ak rfl rfl (cC _ _ (by decide))) rfl<|Wo.od (ak rfl rfl (aB _ _ _)) rfl<|Wo.od (ai rfl) rfl<|Wo.nil<|At.tn<|Wk.seq<|Wk.region<|Wo.od (dK rfl z33 rfl (dI gb rfl rfl rfl)) rfl<|Wo.od (aa rfl) rfl<|Wo.od (dK rfl z33 rfl (dI gb rfl rfl rfl)) rfl<|Wo.x (nD (es:=([(0,0),(IntKind.wrap .i64 (1+(Int.tmod r1 6)),0)]:List (Int × Int)).map (eP (eI .i64) (eI .i64))) ct rfl (nA ct z33 rfl rfl) rfl rfl) gn rfl fun b4=>?_
  refine Wo.od (ai rfl) rfl<|Wo.nil<|At.tn<|Wk.seq<|Wk.seq<|Wk.region<|Wo.od (aa rfl) rfl<|Wo.od (ak rfl rfl (aV _ _ _)) rfl<|Wo.od (ai rfl) rfl<|Wo.nil<|At.tn<|Wk.block ?_;obtain⟨r3,h8,hF⟩:=J hF;refine Wk.cut (G:=(fun(r:List (Int × Int) × Nat) (g:Option Addr)=>match r,g with | (l6,n0),a3=>⟨(.exit 2),[(3,.slice a3 n0 n0)],[.sl a3 2 n0 (l6.map (eP (eI .i64) (eI .i64)))]⟩) r3) ?_ ?_
  ·refine Wk.ep (fs':=[(1,ptr b0 0),(3,.slice (some ⟨b4,0,none⟩) 2 2),(8,.int .i64 (IntKind.wrap .i64 ((IntKind.wrap .i64 (1+(Int.tmod r1 6)))-1)))]) (ps':=[.obj b0 (.cells [.slice a0 l1.length c0,.int .i16 x5,.int .i16 x6,.int .u8 ((x7:Nat):Int),.bool x8,.bool x9] .own),.rd a0 c0 1 l1.length (l1.map (eN .u8)),.sl (some ⟨b4,0,none⟩) 2 2 (([(0,0),(IntKind.wrap .i64 (1+(Int.tmod r1 6)),0)]).map (eP (eI .i64) (eI .i64)))]) (sc rfl (sc rfl (sc rfl sn))) (ae.trans (ae.close (k:=0) rfl) (ae.U [1,2,0] rfl rfl)) ?_;refine Wk.loop (σ:=List (Int × Int) × Nat × Int) (ρ:=List (Int × Int) × Nat) (γ:=Option Addr) (δ:=fun _=>Option Addr) _ (fun(s:List (Int × Int) × Nat × Int) (g:Option Addr)=>match s,g with | (l8,n2,v0),a4=>⟨.normal,[(1,ptr b0 0),(3,.slice a4 n2 n2),(8,.int .i64 v0)],[.obj b0 (.cells [.slice a0 l1.length c0,.int .i16 x5,.int .i16 x6,.int .u8 ((x7:Nat):Int),.bool x8,.bool x9] .own),.rd a0 c0 1 l1.length (l1.map (eN .u8)),.sl a4 2 n2 (l8.map (eP (eI .i64) (eI .i64)))]⟩) (fun(r:List (Int × Int) × Nat) (g:Option Addr)=>match r,g with | (l6,n0),a3=>⟨(.exit 2),[(3,.slice a3 n0 n0)],[.sl a3 2 n0 (l6.map (eP (eI .i64) (eI .i64)))]⟩) ?_ (fun _ _=>rfl) (fun r d=>by intro e; cases e) _ _ _ h8 (some ⟨b4,0,none⟩)
   clear hF h8;rintro⟨l8,n2,v0⟩ a4 r hF;unfold ue at hF;refine Wk.seq<|Wk.seq<|Wk.region<|Wo.od (aa rfl) rfl<|Wo.od (ak rfl rfl (lF _ _ _)) rfl<|Wo.nil<|At.tn ?_;rcases ah hF with⟨h9,hF⟩|⟨h9,hF⟩
   ·refine Wk.aD rfl h9<|Wk.skip<|At.tn<|Wk.seq<|Wk.block<|Wk.seq<|Wk.region<|Wo.od (aj (k:=0) zh rfl rfl rfl) rfl<|Wo.od (aa rfl) rfl<|Wo.od (ak rfl rfl (aB _ _ _)) rfl ?_;obtain⟨r0,h22,hF⟩:=J hF;refine Wo.x (bR rfl rfl (fun m hm=>wm n l1 x5 x6 x7 x8 x9 (IntKind.wrap .i64 (v0+1)) a0 c0 _ h22 m (hm.rd (k:=1) rfl (.rd _ _ _ _ _))) fun _=>rfl) gn rfl ?_;rintro⟨⟩;refine Wo.od (ak rfl rfl (cC _ _ (by decide))) rfl<|Wo.od (ak rfl rfl (aB _ _ _)) rfl<|Wo.od (ai rfl) rfl<|Wo.nil<|At.tn<|Wk.seq<|Wk.region<|Wo.od (aa rfl) rfl<|Wo.od (ak rfl rfl (aB _ _ _)) rfl<|Wo.od (ai rfl) rfl<|Wo.nil<|At.tn<|Wk.block ?_
    obtain⟨r4,h10,hF⟩:=J hF;refine Wk.cut (G:=(fun(r:List (Int × Int) × Nat) (g:Option Addr)=>match r,g with | (l7,n1),a5=>⟨(.exit 4),[(1,ptr b0 0),(3,.slice a5 n1 n1),(8,.int .i64 v0)],[.obj b0 (.cells [.slice a0 l1.length c0,.int .i16 x5,.int .i16 x6,.int .u8 ((x7:Nat):Int),.bool x8,.bool x9] .own),.rd a0 c0 1 l1.length (l1.map (eN .u8)),.sl a5 2 n1 (l7.map (eP (eI .i64) (eI .i64)))]⟩) r4) ?_ ?_
    ·refine Wk.ep (fs':=[(1,ptr b0 0),(3,.slice a4 n2 n2),(8,.int .i64 v0),(9,.int .i64 (IntKind.wrap .i64 (1+(Int.tmod r0 5)))),(10,.int .i64 (IntKind.wrap .i64 (v0+1)))]) (ps':=[.obj b0 (.cells [.slice a0 l1.length c0,.int .i16 x5,.int .i16 x6,.int .u8 ((x7:Nat):Int),.bool x8,.bool x9] .own),.rd a0 c0 1 l1.length (l1.map (eN .u8)),.sl a4 2 n2 (l8.map (eP (eI .i64) (eI .i64)))]) (sc rfl (sc rfl (sc rfl (sc rfl (sc rfl sn))))) (ae.U [0,1,2] rfl rfl) ?_;refine Wk.loop (σ:=List (Int × Int) × Nat × Int) (ρ:=List (Int × Int) × Nat) (γ:=Option Addr) (δ:=fun _=>Option Addr) _ (fun(s:List (Int × Int) × Nat × Int) (g:Option Addr)=>match s,g with | (l9,n4,v2),a7=>⟨.normal,[(1,ptr b0 0),(3,.slice a7 n4 n4),(8,.int .i64 v0),(9,.int .i64 (IntKind.wrap .i64 (1+(Int.tmod r0 5)))),(10,.int .i64 v2)],[.obj b0 (.cells [.slice a0 l1.length c0,.int .i16 x5,.int .i16 x6,.int .u8 ((x7:Nat):Int),.bool x8,.bool x9] .own),.rd a0 c0 1 l1.length (l1.map (eN .u8)),.sl a7 2 n4 (l9.map (eP (eI .i64) (eI .i64)))]⟩) (fun(r:List (Int × Int) × Nat) (g:Option Addr)=>match r,g with | (l7,n1),a5=>⟨(.exit 4),[(1,ptr b0 0),(3,.slice a5 n1 n1),(8,.int .i64 v0)],[.obj b0 (.cells [.slice a0 l1.length c0,.int .i16 x5,.int .i16 x6,.int .u8 ((x7:Nat):Int),.bool x8,.bool x9] .own),.rd a0 c0 1 l1.length (l1.map (eN .u8)),.sl a5 2 n1 (l7.map (eP (eI .i64) (eI .i64)))]⟩) ?_ (fun _ _=>rfl) (fun r d=>by intro e; cases e) _ _ _ h10 a4
     clear hF h10;rintro⟨l9,n4,v2⟩ a7 r hF;unfold oI at hF;refine Wk.seq<|Wk.seq<|Wk.region<|Wo.od (aa rfl) rfl<|Wo.od (aa rfl) rfl<|Wo.od (ak rfl rfl (lF _ _ _)) rfl<|Wo.nil<|At.tn ?_;rcases ah hF with⟨h11,hF⟩|⟨h11,hF⟩
     ·refine Wk.aD rfl h11<|Wk.skip<|At.tn<|Wk.seq ?_;obtain⟨r2,h23,hF⟩:=J hF;refine Wk.cut (G:=(fun(r:List (Int × Int) × Nat) (g:Option Addr)=>match r,g with | (l10,n8),a8=>⟨.normal,[(1,ptr b0 0),(3,.slice a8 n8 n8),(8,.int .i64 v0),(9,.int .i64 (IntKind.wrap .i64 (1+(Int.tmod r0 5)))),(10,.int .i64 v2)],[.obj b0 (.cells [.slice a0 l1.length c0,.int .i16 x5,.int .i16 x6,.int .u8 ((x7:Nat):Int),.bool x8,.bool x9] .own),.rd a0 c0 1 l1.length (l1.map (eN .u8)),.sl a8 2 n8 (l10.map (eP (eI .i64) (eI .i64)))]⟩) r2) ?_ ?_
      ·clear hF;revert r2;intro r hF;refine Wk.block<|Wk.seq<|Wk.region<|Wo.od (aa rfl) rfl<|Wo.od (aa rfl) rfl<|Wo.od (dK rfl z33 rfl (dI gb rfl rfl rfl)) rfl<|Wo.x (cL z33 rfl) gn rfl fun b7=>?_;refine Wo.o0 (bB (k:=0) az rfl rfl rfl rfl rfl)<|Wo.nil<|At.tn<|Wk.seq<|Wk.draw (by kernel_rfl)<|Wo.od (aa rfl) rfl<|Wo.od (aa rfl) rfl<|Wo.od (da (k:=3) fP rfl rfl (.inl rfl)) rfl<|Wo.od (ak rfl rfl (aV _ _ _)) rfl ?_
       obtain⟨h1,hF⟩:=al hF;replace h1:=av h1;refine Wo.open (k:=3) rfl (bP h1) ?_;rintro b5 t0 rfl h26;refine Wo.og (fc ct rfl rfl h1) gn rfl ?_;obtain⟨⟨x10,x11⟩,h24,hF⟩:=J hF;refine Wo.od (gz (k:=3) az rfl rfl (aO h24) rfl rfl) rfl<|Wo.od (aj (k:=0) az rfl rfl rfl) rfl<|Wo.od (ak rfl rfl (D7 Cy (B8 _ _ _ _))) rfl<|Wo.nil<|At.tn ?_;rcases ah hF with⟨h12,hF⟩|⟨h12,hF⟩
       ·refine Wk.aD rfl h12<|Wk.region<|Wo.od (aa rfl) rfl<|Wo.od (aj (k:=0) az rfl rfl rfl) rfl<|Wo.x (nD (es:=([(v2,IntKind.wrap .i64 (1+(Int.tmod r0 5)))]:List (Int × Int)).map (eP (eI .i64) (eI .i64))) ct rfl (nA ct z33 rfl rfl) rfl rfl) gn rfl fun b8=>?_;obtain⟨h25,hF⟩:=al hF;refine Wo.iN (ae.close (k:=4) rfl)<|Wo.x (kj (k:=4) (k2:=0) (xs:=(l9:List (Int × Int))) (ys:=([(v2,IntKind.wrap .i64 (1+(Int.tmod r0 5)))]:List (Int × Int))) (Ae (pO .i64) (pO .i64)) ct ⟨_,fP⟩ rfl rfl rfl (.arr _ _ _ _ _) h25) gn rfl fun a10=>?_;refine Wo.od (ai rfl) rfl<|Wo.nil<|At.bn ?_;cases hF;exact At.en a10 rfl (sc rfl (sc rfl (sc rfl (sc rfl (sc rfl sn))))) (ae.U [2,3,4] rfl rfl)
       ·refine Wk.aC rfl h12<|Wk.skip<|At.bn ?_;cases hF;exact At.en (some ⟨b5,0,none⟩) rfl (sc rfl (sc rfl (sc rfl (sc rfl (sc rfl sn))))) (ae.trans (ae.close (k:=3) rfl) (ae.U [1,2,3] rfl rfl))
      ·clear h23;obtain⟨l10,n8⟩:=r2;rintro a8;refine At.tn<|Wk.region<|Wo.od (aa rfl) rfl<|Wo.od (ak rfl rfl (aV _ _ _)) rfl<|Wo.od (ai rfl) rfl<|Wo.nil ?_;cases hF;exact At.en a8 rfl (sc rfl (sc rfl (sc rfl (sc rfl (sc rfl sn))))) (ae.U [0,1,2] rfl rfl)
     ·refine Wk.aC rfl h11<|Wk.exit<|At.te ?_;cases hF;exact At.en a7 rfl (sc rfl (sc rfl (sc rfl sn))) (ae.U [0,1,2] rfl rfl)
    ·clear h10;obtain⟨l7,n1⟩:=r4;rintro a5;refine At.be<|At.bn<|At.tn<|Wk.region<|Wo.od (aa rfl) rfl<|Wo.od (ak rfl rfl (aV _ _ _)) rfl<|Wo.od (ai rfl) rfl<|Wo.nil ?_;cases hF;exact At.en a5 rfl (sc rfl (sc rfl (sc rfl sn))) (ae.U [0,1,2] rfl rfl)
   ·refine Wk.aC rfl h9<|Wk.exit<|At.te ?_;cases hF;exact At.en a4 rfl (sc rfl sn) (ae.U [2] rfl rfl)
  ·clear h8;obtain⟨l6,n0⟩:=r3;rintro a3;refine At.be<|At.tn<|Wk.seq<|Wk.region<|Wo.od (aa rfl) rfl<|Wo.od (ai rfl) rfl<|Wo.nil<|At.tn<|Wk.ret ?_;have hr:=Option.some.inj hF;subst r;exact At.ret (.tmp rfl .nil) fun m' hm=>⟨(a3,n0),rfl,(ae.U [0] rfl rfl) m' hm⟩
theorem Bz (n:Nat) (x1:Int) (x2:Int)  (r:Bool) (hF:Gb n x1 x2=some r) (m:AMem)  :
  aR aK 57 [.agg #[.int .i64 x1,.int .i64 x2]] m (fun v m'=>∃_:Unit,v = .bool r∧Hp m m' []):=by
 unfold Gb at hF;refine aH (m0:=m) (ps:=[]) (N:=21) (rs:=[.tmp 2]) rfl Tryz.func57 rfl rfl rfl (Hp.start m)<|Wk.seq<|Wk.region<|Wo.x (cd rfl) gn rfl fun b3=>?_;refine Wo.od (ai rfl) rfl<|Wo.nil<|At.tn<|Wk.seq<|Wk.region<|Wo.od (ay (r:=ptr b3 0) rfl (aQ _ _)) rfl<|Wo.od (aj (k:=0) bg rfl rfl rfl) rfl<|Wo.od (ak rfl rfl (aS _ _ _)) rfl<|Wo.od (aa rfl) rfl ?_;rcases ah hF with⟨h4,hF⟩|⟨h4,hF⟩
 ·refine Wo.s (gg rfl rfl (eU h4)) rfl<|Wo.s (gg rfl rfl (eU h4)) rfl<|Wo.s (gg rfl rfl (eU h4)) rfl<|Wo.od (dG rfl h4 rfl) rfl<|Wo.od (aa rfl) rfl<|Wo.s (gg rfl rfl rfl) rfl<|Wo.s (gg rfl rfl rfl) rfl<|Wo.s (gg rfl rfl rfl) rfl<|Wo.od (iY rfl rfl) rfl<|Wo.od (aa rfl) rfl ?_;refine Wo.s (gg rfl rfl rfl) rfl<|Wo.s (gg rfl rfl rfl) rfl<|Wo.s (gg rfl rfl rfl) rfl<|Wo.od (iY rfl rfl) rfl<|Wo.od (ai rfl) rfl<|Wo.nil<|At.tn<|Wk.ret ?_;cases hF;exact At.ret (.tmp rfl .nil) fun m' hm=>⟨(),rfl,(ae.U [] rfl rfl) m' hm⟩
 ·refine Wo.og (ay (r:=ptr b3 0) rfl (aQ _ _)) (gg rfl rfl (eX h4)) rfl<|Wo.og (aj (k:=0) bg rfl rfl rfl) (gg rfl rfl (eX h4)) rfl<|Wo.og (ak rfl rfl (bJ _ _ _)) (gg rfl rfl (eX h4)) rfl<|Wo.od (dC rfl h4 rfl) rfl<|Wo.od (aa rfl) rfl ?_;rcases ah hF with⟨h5,hF⟩|⟨h5,hF⟩
  ·refine Wo.s (gg rfl rfl (eU h5)) rfl<|Wo.s (gg rfl rfl (eU h5)) rfl<|Wo.s (gg rfl rfl (eU h5)) rfl<|Wo.od (dG rfl h5 rfl) rfl<|Wo.od (aa rfl) rfl<|Wo.s (gg rfl rfl rfl) rfl<|Wo.s (gg rfl rfl rfl) rfl<|Wo.s (gg rfl rfl rfl) rfl<|Wo.od (iY rfl rfl) rfl<|Wo.od (ai rfl) rfl ?_;refine Wo.nil<|At.tn<|Wk.ret ?_;cases hF;exact At.ret (.tmp rfl .nil) fun m' hm=>⟨(),rfl,(ae.U [] rfl rfl) m' hm⟩
  ·refine Wo.og (ay (r:=ptr b3 1) rfl (aF _ _)) (gg rfl rfl (eX h5)) rfl<|Wo.og (aj (k:=0) bg rfl rfl rfl) (gg rfl rfl (eX h5)) rfl<|Wo.og (ak rfl rfl (aS _ _ _)) (gg rfl rfl (eX h5)) rfl<|Wo.od (dC rfl h5 rfl) rfl<|Wo.od (aa rfl) rfl ?_;rcases ah hF with⟨h6,hF⟩|⟨h6,hF⟩
   ·refine Wo.s (gg rfl rfl (eU h6)) rfl<|Wo.s (gg rfl rfl (eU h6)) rfl<|Wo.s (gg rfl rfl (eU h6)) rfl<|Wo.od (dG rfl h6 rfl) rfl<|Wo.od (ai rfl) rfl<|Wo.nil<|At.tn<|Wk.ret ?_;cases hF;exact At.ret (.tmp rfl .nil) fun m' hm=>⟨(),rfl,(ae.U [] rfl rfl) m' hm⟩
   ·refine Wo.og (ay (r:=ptr b3 1) rfl (aF _ _)) (gg rfl rfl (eX h6)) rfl<|Wo.og (aj (k:=0) bg rfl rfl rfl) (gg rfl rfl (eX h6)) rfl<|Wo.og (ak rfl rfl (bJ _ _ _)) (gg rfl rfl (eX h6)) rfl<|Wo.od (dC rfl h6 rfl) rfl<|Wo.od (ai rfl) rfl<|Wo.nil<|At.tn<|Wk.ret ?_;cases hF;exact At.ret (.tmp rfl .nil) fun m' hm=>⟨(),rfl,(ae.U [] rfl rfl) m' hm⟩
theorem jb (n:Nat) (l1:List (Int × Int)) (x5:Int) (a2:Option Addr) (c3:Nat) (r:Int × Int) (hF:zm n l1 x5=some r) (m:AMem) (h4:Rd m a2 c3 2 l1.length (l1.map (eP (eI .i64) (eI .i64)))) :
  aR aK 70 [.slice a2 l1.length c3,.int .i64 x5] m (fun v m'=>∃_:Unit,v = .agg #[.int .i64 r.1,.int .i64 r.2]∧Hp m m' []):=by
 unfold zm at hF;refine aH (m0:=m) (ps:=[.rd a2 c3 2 l1.length (l1.map (eP (eI .i64) (eI .i64)))]) (N:=12) (rs:=[.cell 4 33]) rfl Tryz.func70 rfl rfl rfl ((Hp.start m).nC rfl h4)<|Wk.seq<|Wk.region<|Wo.x (cL z33 rfl) gn rfl fun b6=>?_;refine Wo.nil<|At.tn<|Wk.seq<|Wk.region<|Wo.od (aa rfl) rfl<|Wo.od (aa rfl) rfl<|Wo.od (aa rfl) rfl<|Wo.od (da (k:=1) fP rfl rfl (.inl rfl)) rfl ?_;obtain⟨h7,hF⟩:=al hF;refine Wo.od (ak rfl rfl (cC _ _ h7)) rfl ?_;obtain⟨h8,hF⟩:=al hF;replace h8:=av h8;refine Wo.dL (k:=1) rfl (bP h8) ?_;rintro b9 o10 rfl;refine Wo.og (bC ct rfl rfl h8) gn rfl ?_;obtain⟨⟨x11,x12⟩,h13,hF⟩:=J hF;refine Wo.od (bI (k:=0) az rfl rfl (aO h13) rfl rfl) rfl<|Wo.o0 (bB (k:=1) az rfl rfl rfl rfl rfl)<|Wo.nil<|At.tn<|Wk.ret ?_;cases hF;exact At.ret (.cell (k:=1) az rfl rfl rfl .nil) fun m' hm=>⟨(),rfl,(ae.U [] rfl rfl) m' hm⟩
theorem iS (n:Nat) (x1:Int) (x2:Int) (x3:Int) (x4:Int) (x5:Int) (x6:Int)  (r:Int) (hF:zl n x1 x2 x3 x4 x5 x6=some r) (m:AMem)  :
  aR aK 59 [.agg #[.int .i64 x1,.int .i64 x2],.agg #[.int .i64 x3,.int .i64 x4],.agg #[.int .i64 x5,.int .i64 x6]] m (fun v m'=>∃_:Unit,v = .int .i64 r∧Hp m m' []):=by
 unfold zl at hF;refine aH (m0:=m) (ps:=[]) (N:=30) (rs:=[.tmp 6]) rfl Tryz.func59 rfl rfl rfl (Hp.start m)<|Wk.seq<|Wk.region<|Wo.x (cd rfl) gn rfl fun b7=>?_;refine Wo.x (cd rfl) gn rfl fun b8=>?_;refine Wo.x (cd rfl) gn rfl fun b9=>?_;refine Wo.od (ai rfl) rfl<|Wo.nil<|At.tn<|Wk.seq<|Wk.region<|Wo.od (ay (r:=ptr b8 0) rfl (aQ _ _)) rfl<|Wo.od (aj (k:=1) bg rfl rfl rfl) rfl<|Wo.od (ay (r:=ptr b7 0) rfl (aQ _ _)) rfl<|Wo.od (aj (k:=2) bg rfl rfl rfl) rfl<|Wo.od (ak rfl rfl (aV _ _ _)) rfl<|Wo.od (ay (r:=ptr b9 1) rfl (aF _ _)) rfl<|Wo.od (aj (k:=0) bg rfl rfl rfl) rfl<|Wo.od (ay (r:=ptr b7 1) rfl (aF _ _)) rfl<|Wo.od (aj (k:=2) bg rfl rfl rfl) rfl ?_;refine Wo.od (ak rfl rfl (aV _ _ _)) rfl ?_;obtain⟨y10,h11,hF⟩:=J hF;refine Wo.od (ak rfl rfl ((bQ _ _ _).trans (cI h11))) rfl<|Wo.od (ay (r:=ptr b8 1) rfl (aF _ _)) rfl<|Wo.od (aj (k:=1) bg rfl rfl rfl) rfl<|Wo.od (ay (r:=ptr b7 1) rfl (aF _ _)) rfl<|Wo.od (aj (k:=2) bg rfl rfl rfl) rfl<|Wo.od (ak rfl rfl (aV _ _ _)) rfl<|Wo.od (ay (r:=ptr b9 0) rfl (aQ _ _)) rfl<|Wo.od (aj (k:=0) bg rfl rfl rfl) rfl<|Wo.od (ay (r:=ptr b7 0) rfl (aQ _ _)) rfl<|Wo.od (aj (k:=2) bg rfl rfl rfl) rfl ?_;refine Wo.od (ak rfl rfl (aV _ _ _)) rfl ?_;obtain⟨y12,h13,hF⟩:=J hF;refine Wo.od (ak rfl rfl ((bQ _ _ _).trans (cI h13))) rfl<|Wo.od (ak rfl rfl (aV _ _ _)) rfl<|Wo.od (ai rfl) rfl<|Wo.nil<|At.tn<|Wk.ret ?_;cases hF;exact At.ret (.tmp rfl .nil) fun m' hm=>⟨(),rfl,(ae.U [] rfl rfl) m' hm⟩
theorem EO (n:Nat) (x1:Int) (x2:Int) (x3:Int) (x4:Int) (x5:Int) (x6:Int)  (r:Int) (hF:HE n x1 x2 x3 x4 x5 x6=some r) (m:AMem)  :
  aR aK 60 [.agg #[.int .i64 x1,.int .i64 x2],.agg #[.int .i64 x3,.int .i64 x4],.agg #[.int .i64 x5,.int .i64 x6]] m (fun v m'=>∃_:Unit,v = .int .i64 r∧Hp m m' []):=by
 unfold HE at hF;refine aH (m0:=m) (ps:=[]) (N:=30) (rs:=[.tmp 6]) rfl Tryz.func60 rfl rfl rfl (Hp.start m)<|Wk.seq<|Wk.region<|Wo.x (cd rfl) gn rfl fun b7=>?_;refine Wo.x (cd rfl) gn rfl fun b8=>?_;refine Wo.x (cd rfl) gn rfl fun b9=>?_;refine Wo.od (ai rfl) rfl<|Wo.nil<|At.tn<|Wk.seq<|Wk.region<|Wo.od (ay (r:=ptr b8 0) rfl (aQ _ _)) rfl<|Wo.od (aj (k:=1) bg rfl rfl rfl) rfl<|Wo.od (ay (r:=ptr b7 0) rfl (aQ _ _)) rfl<|Wo.od (aj (k:=2) bg rfl rfl rfl) rfl<|Wo.od (ak rfl rfl (aV _ _ _)) rfl<|Wo.od (ay (r:=ptr b9 0) rfl (aQ _ _)) rfl<|Wo.od (aj (k:=0) bg rfl rfl rfl) rfl<|Wo.od (ay (r:=ptr b8 0) rfl (aQ _ _)) rfl<|Wo.od (aj (k:=1) bg rfl rfl rfl) rfl ?_;refine Wo.od (ak rfl rfl (aV _ _ _)) rfl ?_;obtain⟨y10,h11,hF⟩:=J hF;refine Wo.od (ak rfl rfl ((bQ _ _ _).trans (cI h11))) rfl<|Wo.od (ay (r:=ptr b8 1) rfl (aF _ _)) rfl<|Wo.od (aj (k:=1) bg rfl rfl rfl) rfl<|Wo.od (ay (r:=ptr b7 1) rfl (aF _ _)) rfl<|Wo.od (aj (k:=2) bg rfl rfl rfl) rfl<|Wo.od (ak rfl rfl (aV _ _ _)) rfl<|Wo.od (ay (r:=ptr b9 1) rfl (aF _ _)) rfl<|Wo.od (aj (k:=0) bg rfl rfl rfl) rfl<|Wo.od (ay (r:=ptr b8 1) rfl (aF _ _)) rfl<|Wo.od (aj (k:=1) bg rfl rfl rfl) rfl ?_;refine Wo.od (ak rfl rfl (aV _ _ _)) rfl ?_;obtain⟨y12,h13,hF⟩:=J hF;refine Wo.od (ak rfl rfl ((bQ _ _ _).trans (cI h13))) rfl<|Wo.od (ak rfl rfl (aB _ _ _)) rfl<|Wo.od (ai rfl) rfl<|Wo.nil<|At.tn<|Wk.ret ?_;cases hF;exact At.ret (.tmp rfl .nil) fun m' hm=>⟨(),rfl,(ae.U [] rfl rfl) m' hm⟩
theorem sA (n:Nat) (x1:Int)  (r:Int) (hF:DI n x1=some r) (m:AMem)  :
  aR aK 84 [.int .i64 x1] m (fun v m'=>∃_:Unit,v = .int .i64 r∧Hp m m' []):=by
 unfold DI at hF;refine aH (m0:=m) (ps:=[]) (N:=7) (rs:=[.tmp 2]) rfl Tryz.func84 rfl rfl rfl (Hp.start m)<|Wk.seq<|Wk.region<|Wo.od (ai rfl) rfl<|Wo.nil<|At.tn<|Wk.seq<|Wk.seq<|Wk.region<|Wo.od (aa rfl) rfl<|Wo.od (ak rfl rfl (bJ _ _ _)) rfl<|Wo.nil<|At.tn ?_;rcases ah hF with⟨h2,hF⟩|⟨h2,hF⟩
 ·refine Wk.aD rfl h2<|Wk.seq<|Wk.region<|Wo.od (ai rfl) rfl<|Wo.nil<|At.tn<|Wk.ret<|At.tr ?_;cases hF;exact At.ret (.tmp rfl .nil) fun m' hm=>⟨(),rfl,(ae.U [] rfl rfl) m' hm⟩
 ·refine Wk.aC rfl h2<|Wk.skip<|At.tn<|Wk.seq<|Wk.seq<|Wk.region<|Wo.od (aa rfl) rfl<|Wo.od (ak rfl rfl (aS _ _ _)) rfl<|Wo.nil<|At.tn ?_;rcases ah hF with⟨h3,hF⟩|⟨h3,hF⟩
  ·refine Wk.aD rfl h3<|Wk.seq<|Wk.region<|Wo.od (ai rfl) rfl<|Wo.nil<|At.tn<|Wk.ret<|At.tr ?_;cases hF;exact At.ret (.tmp rfl .nil) fun m' hm=>⟨(),rfl,(ae.U [] rfl rfl) m' hm⟩
  ·refine Wk.aC rfl h3<|Wk.skip<|At.tn<|Wk.seq<|Wk.region<|Wo.od (ai rfl) rfl<|Wo.nil<|At.tn<|Wk.ret ?_;cases hF;exact At.ret (.tmp rfl .nil) fun m' hm=>⟨(),rfl,(ae.U [] rfl rfl) m' hm⟩
theorem oO (n:Nat) (x1:Int) (x2:Int) (x3:Int) (x4:Int) (x5:Int) (x6:Int)  (r:Bool) (hF:Di n x1 x2 x3 x4 x5 x6=some r) (m:AMem)  :
  aR aK 85 [.agg #[.int .i64 x1,.int .i64 x2],.agg #[.int .i64 x3,.int .i64 x4],.agg #[.int .i64 x5,.int .i64 x6]] m (fun v m'=>∃_:Unit,v = .bool r∧Hp m m' []):=by
 unfold Di at hF;refine aH (m0:=m) (ps:=[]) (N:=50) (rs:=[.tmp 6]) rfl Tryz.func85 rfl rfl rfl (Hp.start m)<|Wk.seq<|Wk.region<|Wo.x (cd rfl) gn rfl fun b7=>?_;refine Wo.x (cd rfl) gn rfl fun b8=>?_;refine Wo.x (cd rfl) gn rfl fun b9=>?_;refine Wo.od (ai rfl) rfl<|Wo.nil<|At.tn<|Wk.seq<|Wk.seq<|Wk.region<|Wo.od (aj (k:=2) az rfl rfl rfl) rfl<|Wo.od (aj (k:=1) az rfl rfl rfl) rfl<|Wo.od (aj (k:=0) az rfl rfl rfl) rfl ?_;obtain⟨r11,h10,hF⟩:=J hF;refine Wo.x (bR rfl rfl (fun m hm=>iS n x1 x2 x3 x4 x5 x6  _ h10 m) fun _=>rfl) gn rfl ?_;rintro⟨⟩;refine Wo.od (ak rfl rfl (cj _ _)) rfl<|Wo.nil<|At.tn ?_;rcases ah hF with⟨h12,hF⟩|⟨h12,hF⟩
 ·refine Wk.aD rfl h12<|Wk.seq<|Wk.region<|Wo.od (ai rfl) rfl<|Wo.nil<|At.tn<|Wk.ret<|At.tr ?_;cases hF;exact At.ret (.tmp rfl .nil) fun m' hm=>⟨(),rfl,(ae.U [] rfl rfl) m' hm⟩
 ·refine Wk.aC rfl h12<|Wk.skip<|At.tn<|Wk.seq<|Wk.region<|Wo.od (ay (r:=ptr b7 0) rfl (aQ _ _)) rfl<|Wo.od (aj (k:=2) bg rfl rfl rfl) rfl<|Wo.od (ay (r:=ptr b8 0) rfl (aQ _ _)) rfl<|Wo.od (aj (k:=1) bg rfl rfl rfl) rfl<|Wo.od (gP rfl rfl (iX _ _)) rfl<|Wo.od (ay (r:=ptr b9 0) rfl (aQ _ _)) rfl<|Wo.od (aj (k:=0) bg rfl rfl rfl) rfl<|Wo.od (ak rfl rfl (fy _ _ _)) rfl<|Wo.od (aa rfl) rfl ?_;rcases ah hF with⟨h13,hF⟩|⟨h13,hF⟩
  ·refine Wo.og (ay (r:=ptr b9 0) rfl (aQ _ _)) (gg rfl rfl (bO h13)) rfl<|Wo.og (aj (k:=0) bg rfl rfl rfl) (gg rfl rfl (bO h13)) rfl<|Wo.og (ay (r:=ptr b7 0) rfl (aQ _ _)) (gg rfl rfl (bO h13)) rfl<|Wo.og (aj (k:=2) bg rfl rfl rfl) (gg rfl rfl (bO h13)) rfl<|Wo.og (ay (r:=ptr b8 0) rfl (aQ _ _)) (gg rfl rfl (bO h13)) rfl<|Wo.og (aj (k:=1) bg rfl rfl rfl) (gg rfl rfl (bO h13)) rfl<|Wo.og (gP rfl rfl (mO _ _)) (gg rfl rfl (bO h13)) rfl<|Wo.og (ak rfl rfl (fy _ _ _)) (gg rfl rfl (bO h13)) rfl<|Wo.od (dG rfl h13 rfl) rfl<|Wo.od (aa rfl) rfl ?_;rcases ah hF with⟨h14,hF⟩|⟨h14,hF⟩
   ·refine Wo.og (ay (r:=ptr b7 1) rfl (aF _ _)) (gg rfl rfl (bO h14)) rfl<|Wo.og (aj (k:=2) bg rfl rfl rfl) (gg rfl rfl (bO h14)) rfl<|Wo.og (ay (r:=ptr b8 1) rfl (aF _ _)) (gg rfl rfl (bO h14)) rfl<|Wo.og (aj (k:=1) bg rfl rfl rfl) (gg rfl rfl (bO h14)) rfl<|Wo.og (gP rfl rfl (iX _ _)) (gg rfl rfl (bO h14)) rfl<|Wo.og (ay (r:=ptr b9 1) rfl (aF _ _)) (gg rfl rfl (bO h14)) rfl<|Wo.og (aj (k:=0) bg rfl rfl rfl) (gg rfl rfl (bO h14)) rfl<|Wo.og (ak rfl rfl (fy _ _ _)) (gg rfl rfl (bO h14)) rfl<|Wo.od (dG rfl h14 rfl) rfl<|Wo.od (aa rfl) rfl ?_;rcases ah hF with⟨h15,hF⟩|⟨h15,hF⟩
    ·refine Wo.og (ay (r:=ptr b9 1) rfl (aF _ _)) (gg rfl rfl (bO h15)) rfl<|Wo.og (aj (k:=0) bg rfl rfl rfl) (gg rfl rfl (bO h15)) rfl<|Wo.og (ay (r:=ptr b7 1) rfl (aF _ _)) (gg rfl rfl (bO h15)) rfl<|Wo.og (aj (k:=2) bg rfl rfl rfl) (gg rfl rfl (bO h15)) rfl<|Wo.og (ay (r:=ptr b8 1) rfl (aF _ _)) (gg rfl rfl (bO h15)) rfl<|Wo.og (aj (k:=1) bg rfl rfl rfl) (gg rfl rfl (bO h15)) rfl<|Wo.og (gP rfl rfl (mO _ _)) (gg rfl rfl (bO h15)) rfl<|Wo.og (ak rfl rfl (fy _ _ _)) (gg rfl rfl (bO h15)) rfl<|Wo.od (dG rfl h15 rfl) rfl<|Wo.od (ai rfl) rfl ?_;refine Wo.nil<|At.tn<|Wk.ret ?_;cases hF;exact At.ret (.tmp rfl .nil) fun m' hm=>⟨(),rfl,(ae.U [] rfl rfl) m' hm⟩
    ·refine Wo.s (gg rfl rfl (bM h15)) rfl<|Wo.s (gg rfl rfl (bM h15)) rfl<|Wo.s (gg rfl rfl (bM h15)) rfl<|Wo.s (gg rfl rfl (bM h15)) rfl<|Wo.s (gg rfl rfl (bM h15)) rfl<|Wo.s (gg rfl rfl (bM h15)) rfl<|Wo.s (gg rfl rfl (bM h15)) rfl<|Wo.s (gg rfl rfl (bM h15)) rfl<|Wo.od (dC rfl h15 rfl) rfl<|Wo.od (ai rfl) rfl ?_;refine Wo.nil<|At.tn<|Wk.ret ?_;cases hF;exact At.ret (.tmp rfl .nil) fun m' hm=>⟨(),rfl,(ae.U [] rfl rfl) m' hm⟩
   ·refine Wo.s (gg rfl rfl (bM h14)) rfl<|Wo.s (gg rfl rfl (bM h14)) rfl<|Wo.s (gg rfl rfl (bM h14)) rfl<|Wo.s (gg rfl rfl (bM h14)) rfl<|Wo.s (gg rfl rfl (bM h14)) rfl<|Wo.s (gg rfl rfl (bM h14)) rfl<|Wo.s (gg rfl rfl (bM h14)) rfl<|Wo.s (gg rfl rfl (bM h14)) rfl<|Wo.od (dC rfl h14 rfl) rfl<|Wo.od (aa rfl) rfl ?_;refine Wo.s (gg rfl rfl rfl) rfl<|Wo.s (gg rfl rfl rfl) rfl<|Wo.s (gg rfl rfl rfl) rfl<|Wo.s (gg rfl rfl rfl) rfl<|Wo.s (gg rfl rfl rfl) rfl<|Wo.s (gg rfl rfl rfl) rfl<|Wo.s (gg rfl rfl rfl) rfl<|Wo.s (gg rfl rfl rfl) rfl<|Wo.od (yr rfl rfl) rfl<|Wo.od (ai rfl) rfl ?_;refine Wo.nil<|At.tn<|Wk.ret ?_;cases hF;exact At.ret (.tmp rfl .nil) fun m' hm=>⟨(),rfl,(ae.U [] rfl rfl) m' hm⟩
  ·refine Wo.s (gg rfl rfl (bM h13)) rfl<|Wo.s (gg rfl rfl (bM h13)) rfl<|Wo.s (gg rfl rfl (bM h13)) rfl<|Wo.s (gg rfl rfl (bM h13)) rfl<|Wo.s (gg rfl rfl (bM h13)) rfl<|Wo.s (gg rfl rfl (bM h13)) rfl<|Wo.s (gg rfl rfl (bM h13)) rfl<|Wo.s (gg rfl rfl (bM h13)) rfl<|Wo.od (dC rfl h13 rfl) rfl<|Wo.od (aa rfl) rfl ?_;refine Wo.s (gg rfl rfl rfl) rfl<|Wo.s (gg rfl rfl rfl) rfl<|Wo.s (gg rfl rfl rfl) rfl<|Wo.s (gg rfl rfl rfl) rfl<|Wo.s (gg rfl rfl rfl) rfl<|Wo.s (gg rfl rfl rfl) rfl<|Wo.s (gg rfl rfl rfl) rfl<|Wo.s (gg rfl rfl rfl) rfl<|Wo.od (yr rfl rfl) rfl<|Wo.od (aa rfl) rfl ?_;refine Wo.s (gg rfl rfl rfl) rfl<|Wo.s (gg rfl rfl rfl) rfl<|Wo.s (gg rfl rfl rfl) rfl<|Wo.s (gg rfl rfl rfl) rfl<|Wo.s (gg rfl rfl rfl) rfl<|Wo.s (gg rfl rfl rfl) rfl<|Wo.s (gg rfl rfl rfl) rfl<|Wo.s (gg rfl rfl rfl) rfl<|Wo.od (yr rfl rfl) rfl<|Wo.od (ai rfl) rfl ?_;refine Wo.nil<|At.tn<|Wk.ret ?_;cases hF;exact At.ret (.tmp rfl .nil) fun m' hm=>⟨(),rfl,(ae.U [] rfl rfl) m' hm⟩
theorem FW (n:Nat) (x1:Int) (x2:Int) (x3:Int) (x4:Int) (x5:Int) (x6:Int) (x7:Int) (x8:Int)  (r:Int) (hF:G7 n x1 x2 x3 x4 x5 x6 x7 x8=some r) (m:AMem)  :
  aR aK 62 [.agg #[.int .i64 x1,.int .i64 x2],.agg #[.int .i64 x3,.int .i64 x4],.agg #[.int .i64 x5,.int .i64 x6],.agg #[.int .i64 x7,.int .i64 x8]] m (fun v m'=>∃_:Unit,v = .int .i64 r∧Hp m m' []):=by
 unfold G7 at hF;refine aH (m0:=m) (ps:=[]) (N:=127) (rs:=[.tmp 8]) rfl Tryz.func62 rfl rfl rfl (Hp.start m)<|Wk.seq<|Wk.region<|Wo.x (cd rfl) gn rfl fun b0=>?_;refine Wo.x (cd rfl) gn rfl fun b3=>?_;refine Wo.x (cd rfl) gn rfl fun b4=>?_;refine Wo.x (cd rfl) gn rfl fun b5=>?_;refine Wo.od (ai rfl) rfl<|Wo.nil<|At.tn<|Wk.seq<|Wk.eH (prs:=[(3,5),(4,5),(3,6),(4,6),(3,7),(4,7)]) (by kernel_rfl)<|Wn.od (aj (k:=3) az rfl rfl rfl) rfl<|Wn.od (aj (k:=2) az rfl rfl rfl) rfl<|Wn.od (aj (k:=1) az rfl rfl rfl) rfl ?_
 obtain⟨r0,h11,hF⟩:=J hF;refine Wn.c (eT rfl rfl (fun m hm=>iS n x1 x2 x3 x4 x5 x6  _ h11 m) fun _=>rfl) gn rfl ?_;rintro⟨⟩;obtain⟨r1,h12,hF⟩:=J hF;refine Wn.c (eT rfl rfl (fun m hm=>sA n r0  _ h12 m) fun _=>rfl) gn rfl ?_;rintro⟨⟩;refine Wn.od (aj (k:=3) az rfl rfl rfl) rfl<|Wn.od (aj (k:=2) az rfl rfl rfl) rfl<|Wn.od (aj (k:=0) az rfl rfl rfl) rfl ?_;obtain⟨r2,h13,hF⟩:=J hF;refine Wn.c (eT rfl rfl (fun m hm=>iS n x1 x2 x3 x4 x7 x8  _ h13 m) fun _=>rfl) gn rfl ?_;rintro⟨⟩;obtain⟨r3,h14,hF⟩:=J hF;refine Wn.c (eT rfl rfl (fun m hm=>sA n r2  _ h14 m) fun _=>rfl) gn rfl ?_;rintro⟨⟩;refine Wn.od (ai rfl) rfl<|Wn.od (ai rfl) rfl<|Wn.nil (fun m hm=>eG.all rfl)<|At.tn<|Wk.seq<|Wk.eH (prs:=[(3,5),(4,5),(3,6),(4,6),(3,7),(4,7)]) (by kernel_rfl)<|Wn.od (aj (k:=1) az rfl rfl rfl) rfl<|Wn.od (aj (k:=0) az rfl rfl rfl) rfl<|Wn.od (aj (k:=3) az rfl rfl rfl) rfl ?_
 obtain⟨r4,h15,hF⟩:=J hF;refine Wn.c (eT rfl rfl (fun m hm=>iS n x5 x6 x7 x8 x1 x2  _ h15 m) fun _=>rfl) gn rfl ?_;rintro⟨⟩;obtain⟨r5,h16,hF⟩:=J hF;refine Wn.c (eT rfl rfl (fun m hm=>sA n r4  _ h16 m) fun _=>rfl) gn rfl ?_;rintro⟨⟩;refine Wn.od (aj (k:=1) az rfl rfl rfl) rfl<|Wn.od (aj (k:=0) az rfl rfl rfl) rfl<|Wn.od (aj (k:=2) az rfl rfl rfl) rfl ?_;obtain⟨r6,h17,hF⟩:=J hF;refine Wn.c (eT rfl rfl (fun m hm=>iS n x5 x6 x7 x8 x3 x4  _ h17 m) fun _=>rfl) gn rfl ?_;rintro⟨⟩;obtain⟨r7,h18,hF⟩:=J hF;refine Wn.c (eT rfl rfl (fun m hm=>sA n r6  _ h18 m) fun _=>rfl) gn rfl ?_;rintro⟨⟩;refine Wn.od (ai rfl) rfl<|Wn.od (ai rfl) rfl<|Wn.nil (fun m hm=>eG.all rfl)<|At.tn<|Wk.seq<|Wk.seq ?_;obtain⟨v0,h19,hF⟩:=J hF;refine Wk.cut (G:=(fun(r:Bool) (g:Unit)=>match r,g with|v0,_=>⟨.normal,[(4,ptr b0 0),(5,ptr b3 0),(6,ptr b4 0),(7,ptr b5 0),(9,.int .i64 r1),(10,.int .i64 r3),(11,.int .i64 r5),(12,.int .i64 r7),(39,.bool v0)],[.obj b0 (.cells [.int .i64 x1,.int .i64 x2] .own),.obj b3 (.cells [.int .i64 x3,.int .i64 x4] .own),.obj b4 (.cells [.int .i64 x5,.int .i64 x6] .own),.obj b5 (.cells [.int .i64 x7,.int .i64 x8] .own)]⟩) v0) ?_ ?_
 ·clear hF;revert v0;intro r hF;refine Wk.region<|Wo.od (aa rfl) rfl<|Wo.od (ak rfl rfl (dh _ _ _)) rfl<|Wo.od (aa rfl) rfl ?_;rcases ah hF with⟨h4,hF⟩|⟨h4,hF⟩
  ·refine Wo.og (aa rfl) (gg rfl rfl (bO h4)) rfl<|Wo.og (ak rfl rfl (dh _ _ _)) (gg rfl rfl (bO h4)) rfl<|Wo.od (dG rfl h4 rfl) rfl<|Wo.nil ?_;cases hF;exact At.en () rfl (sc rfl (sc rfl (sc rfl (sc rfl (sc rfl (sc rfl (sc rfl (sc rfl (sc rfl sn))))))))) (ae.U [3,2,1,0] rfl rfl)
  ·refine Wo.s (gg rfl rfl (bM h4)) rfl<|Wo.s (gg rfl rfl (bM h4)) rfl<|Wo.od (dC rfl h4 rfl) rfl<|Wo.nil ?_;cases hF;exact At.en () rfl (sc rfl (sc rfl (sc rfl (sc rfl (sc rfl (sc rfl (sc rfl (sc rfl (sc rfl sn))))))))) (ae.U [3,2,1,0] rfl rfl)
 ·clear h19;rintro⟨⟩;refine At.tn ?_;rcases ah hF with⟨h5,hF⟩|⟨h5,hF⟩
  ·refine Wk.aD rfl h5<|Wk.seq<|Wk.region<|Wo.od (ay (r:=ptr b0 0) rfl (aQ _ _)) rfl<|Wo.od (aj (k:=0) bg rfl rfl rfl) rfl<|Wo.od (ay (r:=ptr b3 0) rfl (aQ _ _)) rfl<|Wo.od (aj (k:=1) bg rfl rfl rfl) rfl<|Wo.od (gP rfl rfl (iX _ _)) rfl<|Wo.od (ay (r:=ptr b4 0) rfl (aQ _ _)) rfl<|Wo.od (aj (k:=2) bg rfl rfl rfl) rfl<|Wo.od (ay (r:=ptr b5 0) rfl (aQ _ _)) rfl<|Wo.od (aj (k:=3) bg rfl rfl rfl) rfl ?_;refine Wo.od (gP rfl rfl (iX _ _)) rfl<|Wo.od (gP rfl rfl (mO _ _)) rfl<|Wo.od (ay (r:=ptr b0 0) rfl (aQ _ _)) rfl<|Wo.od (aj (k:=0) bg rfl rfl rfl) rfl<|Wo.od (ay (r:=ptr b3 0) rfl (aQ _ _)) rfl<|Wo.od (aj (k:=1) bg rfl rfl rfl) rfl<|Wo.od (gP rfl rfl (mO _ _)) rfl<|Wo.od (ay (r:=ptr b4 0) rfl (aQ _ _)) rfl<|Wo.od (aj (k:=2) bg rfl rfl rfl) rfl<|Wo.od (ay (r:=ptr b5 0) rfl (aQ _ _)) rfl ?_;refine Wo.od (aj (k:=3) bg rfl rfl rfl) rfl<|Wo.od (gP rfl rfl (mO _ _)) rfl<|Wo.od (gP rfl rfl (iX _ _)) rfl ?_;obtain⟨y0,h20,hF⟩:=J hF;refine Wo.od (ak rfl rfl ((aV _ _ _).trans (cI h20))) rfl<|Wo.od (ai rfl) rfl<|Wo.nil<|At.tn<|Wk.seq ?_;obtain⟨v1,h21,hF⟩:=J hF;refine Wk.cut (G:=(fun(r:Int) (g:Unit)=>match r,g with|v1,_=>⟨.normal,[(13,.int .i64 v1)],[]⟩) v1) ?_ ?_
   ·clear hF;revert v1;intro r hF;refine Wk.seq<|Wk.region<|Wo.od (ay (r:=ptr b0 0) rfl (aQ _ _)) rfl<|Wo.od (aj (k:=0) bg rfl rfl rfl) rfl<|Wo.od (ay (r:=ptr b3 0) rfl (aQ _ _)) rfl<|Wo.od (aj (k:=1) bg rfl rfl rfl) rfl<|Wo.od (ak rfl rfl (dh _ _ _)) rfl<|Wo.nil<|At.tn ?_;rcases ah hF with⟨h6,hF⟩|⟨h6,hF⟩
    ·refine Wk.aD rfl h6<|Wk.region<|Wo.od (ay (r:=ptr b0 1) rfl (aF _ _)) rfl<|Wo.od (aj (k:=0) bg rfl rfl rfl) rfl<|Wo.od (ay (r:=ptr b3 1) rfl (aF _ _)) rfl<|Wo.od (aj (k:=1) bg rfl rfl rfl) rfl<|Wo.od (gP rfl rfl (iX _ _)) rfl<|Wo.od (ay (r:=ptr b4 1) rfl (aF _ _)) rfl<|Wo.od (aj (k:=2) bg rfl rfl rfl) rfl<|Wo.od (ay (r:=ptr b5 1) rfl (aF _ _)) rfl<|Wo.od (aj (k:=3) bg rfl rfl rfl) rfl ?_;refine Wo.od (gP rfl rfl (iX _ _)) rfl<|Wo.od (gP rfl rfl (mO _ _)) rfl<|Wo.od (ay (r:=ptr b0 1) rfl (aF _ _)) rfl<|Wo.od (aj (k:=0) bg rfl rfl rfl) rfl<|Wo.od (ay (r:=ptr b3 1) rfl (aF _ _)) rfl<|Wo.od (aj (k:=1) bg rfl rfl rfl) rfl<|Wo.od (gP rfl rfl (mO _ _)) rfl<|Wo.od (ay (r:=ptr b4 1) rfl (aF _ _)) rfl<|Wo.od (aj (k:=2) bg rfl rfl rfl) rfl<|Wo.od (ay (r:=ptr b5 1) rfl (aF _ _)) rfl ?_;refine Wo.od (aj (k:=3) bg rfl rfl rfl) rfl<|Wo.od (gP rfl rfl (mO _ _)) rfl<|Wo.od (gP rfl rfl (iX _ _)) rfl ?_;obtain⟨y1,h22,hF⟩:=J hF;refine Wo.od (ak rfl rfl ((aV _ _ _).trans (cI h22))) rfl<|Wo.od (ai rfl) rfl<|Wo.nil ?_;have hr:=Option.some.inj hF;subst r;exact At.en () rfl (sc rfl sn) (ae.U [] rfl rfl)
    ·refine Wk.aC rfl h6<|Wk.skip ?_;have hr:=Option.some.inj hF;subst r;exact At.en () rfl (sc rfl sn) (ae.U [] rfl rfl)
   ·clear h21;rintro⟨⟩;refine At.tn<|Wk.seq<|Wk.seq<|Wk.region<|Wo.od (aa rfl) rfl<|Wo.od (ak rfl rfl (bJ _ _ _)) rfl<|Wo.nil<|At.tn ?_;rcases ah hF with⟨h7,hF⟩|⟨h7,hF⟩
    ·refine Wk.aD rfl h7<|Wk.seq<|Wk.region<|Wo.od (ai rfl) rfl<|Wo.nil<|At.tn<|Wk.ret<|At.tr<|At.tr ?_;cases hF;exact At.ret (.tmp rfl .nil) fun m' hm=>⟨(),rfl,(ae.U [] rfl rfl) m' hm⟩
    ·refine Wk.aC rfl h7<|Wk.skip<|At.tn<|Wk.seq<|Wk.seq<|Wk.region<|Wo.od (aa rfl) rfl<|Wo.od (ak rfl rfl (dh _ _ _)) rfl<|Wo.nil<|At.tn ?_;rcases ah hF with⟨h8,hF⟩|⟨h8,hF⟩
     ·refine Wk.aD rfl h8<|Wk.seq<|Wk.region<|Wo.od (ai rfl) rfl<|Wo.nil<|At.tn<|Wk.ret<|At.tr<|At.tr ?_;cases hF;exact At.ret (.tmp rfl .nil) fun m' hm=>⟨(),rfl,(ae.U [] rfl rfl) m' hm⟩
     ·refine Wk.aC rfl h8<|Wk.skip<|At.tn<|Wk.seq<|Wk.region<|Wo.od (ai rfl) rfl<|Wo.nil<|At.tn<|Wk.ret<|At.tr ?_;cases hF;exact At.ret (.tmp rfl .nil) fun m' hm=>⟨(),rfl,(ae.U [] rfl rfl) m' hm⟩
  ·refine Wk.aC rfl h5<|Wk.skip<|At.tn<|Wk.seq<|Wk.seq ?_;obtain⟨v2,h23,hF⟩:=J hF;refine Wk.cut (G:=(fun(r:Bool) (g:Unit)=>match r,g with|v2,_=>⟨.normal,[(4,ptr b0 0),(5,ptr b3 0),(6,ptr b4 0),(7,ptr b5 0),(104,.bool v2)],[.obj b0 (.cells [.int .i64 x1,.int .i64 x2] .own),.obj b3 (.cells [.int .i64 x3,.int .i64 x4] .own),.obj b4 (.cells [.int .i64 x5,.int .i64 x6] .own),.obj b5 (.cells [.int .i64 x7,.int .i64 x8] .own)]⟩) v2) ?_ ?_
   ·clear hF;revert v2;intro r hF;refine Wk.region<|Wo.od (aa rfl) rfl<|Wo.od (aa rfl) rfl<|Wo.od (ak rfl rfl (bQ _ _ _)) rfl<|Wo.od (ak rfl rfl (aS _ _ _)) rfl<|Wo.od (aa rfl) rfl ?_;rcases ah hF with⟨h0,hF⟩|⟨h0,hF⟩
    ·refine Wo.og (aa rfl) (gg rfl rfl (bO h0)) rfl<|Wo.og (aa rfl) (gg rfl rfl (bO h0)) rfl<|Wo.og (ak rfl rfl (bQ _ _ _)) (gg rfl rfl (bO h0)) rfl<|Wo.og (ak rfl rfl (aS _ _ _)) (gg rfl rfl (bO h0)) rfl<|Wo.od (dG rfl h0 rfl) rfl<|Wo.nil ?_;cases hF;exact At.en () rfl (sc rfl (sc rfl (sc rfl (sc rfl (sc rfl sn))))) (ae.U [0,1,2,3] rfl rfl)
    ·refine Wo.s (gg rfl rfl (bM h0)) rfl<|Wo.s (gg rfl rfl (bM h0)) rfl<|Wo.s (gg rfl rfl (bM h0)) rfl<|Wo.s (gg rfl rfl (bM h0)) rfl<|Wo.od (dC rfl h0 rfl) rfl<|Wo.nil ?_;cases hF;exact At.en () rfl (sc rfl (sc rfl (sc rfl (sc rfl (sc rfl sn))))) (ae.U [0,1,2,3] rfl rfl)
   ·clear h23;rintro⟨⟩;refine At.tn ?_;rcases ah hF with⟨h9,hF⟩|⟨h9,hF⟩
    ·refine Wk.aD rfl h9<|Wk.seq<|Wk.region<|Wo.od (ai rfl) rfl<|Wo.nil<|At.tn<|Wk.ret<|At.tr ?_;cases hF;exact At.ret (.tmp rfl .nil) fun m' hm=>⟨(),rfl,(ae.U [] rfl rfl) m' hm⟩
    ·refine Wk.aC rfl h9<|Wk.skip<|At.tn<|Wk.seq<|Wk.seq ?_;obtain⟨v3,h24,hF⟩:=J hF;refine Wk.cut (G:=(fun(r:Bool) (g:Unit)=>match r,g with|v3,_=>⟨.normal,[(126,.bool v3)],[]⟩) v3) ?_ ?_
     ·clear hF;revert v3;intro r hF;refine Wk.region<|Wo.od (aj (k:=0) az rfl rfl rfl) rfl<|Wo.od (aj (k:=1) az rfl rfl rfl) rfl<|Wo.od (aj (k:=2) az rfl rfl rfl) rfl ?_;obtain⟨r8,h25,hF⟩:=J hF;refine Wo.x (bR rfl rfl (fun m hm=>oO n x1 x2 x3 x4 x5 x6  _ h25 m) fun _=>rfl) gn rfl ?_;rintro⟨⟩;refine Wo.od (aa rfl) rfl ?_;rcases ah hF with⟨h1,hF⟩|⟨h1,hF⟩
      ·refine Wo.s (gg rfl rfl (eU h1)) rfl<|Wo.s (gg rfl rfl (eU h1)) rfl<|Wo.s (gg rfl rfl (eU h1)) rfl<|Wo.s (gg rfl rfl (eU h1)) rfl<|Wo.od (dG rfl h1 rfl) rfl<|Wo.od (aa rfl) rfl<|Wo.s (gg rfl rfl rfl) rfl<|Wo.s (gg rfl rfl rfl) rfl<|Wo.s (gg rfl rfl rfl) rfl<|Wo.s (gg rfl rfl rfl) rfl ?_;refine Wo.od (iY rfl rfl) rfl<|Wo.od (aa rfl) rfl<|Wo.s (gg rfl rfl rfl) rfl<|Wo.s (gg rfl rfl rfl) rfl<|Wo.s (gg rfl rfl rfl) rfl<|Wo.s (gg rfl rfl rfl) rfl<|Wo.od (iY rfl rfl) rfl<|Wo.nil ?_;cases hF;exact At.en () rfl (sc rfl sn) (ae.U [] rfl rfl)
      ·refine Wo.og (aj (k:=0) az rfl rfl rfl) (gg rfl rfl (eX h1)) rfl<|Wo.og (aj (k:=1) az rfl rfl rfl) (gg rfl rfl (eX h1)) rfl<|Wo.og (aj (k:=3) az rfl rfl rfl) (gg rfl rfl (eX h1)) rfl ?_;obtain⟨r9,h26,hF⟩:=J hF;refine Wo.x (bR rfl rfl (fun m hm=>oO n x1 x2 x3 x4 x7 x8  _ h26 m) fun _=>rfl) (gg rfl rfl (eX h1)) rfl ?_;rintro⟨⟩;refine Wo.od (dC rfl h1 rfl) rfl<|Wo.od (aa rfl) rfl ?_;rcases ah hF with⟨h2,hF⟩|⟨h2,hF⟩
       ·refine Wo.s (gg rfl rfl (eU h2)) rfl<|Wo.s (gg rfl rfl (eU h2)) rfl<|Wo.s (gg rfl rfl (eU h2)) rfl<|Wo.s (gg rfl rfl (eU h2)) rfl<|Wo.od (dG rfl h2 rfl) rfl<|Wo.od (aa rfl) rfl<|Wo.s (gg rfl rfl rfl) rfl<|Wo.s (gg rfl rfl rfl) rfl<|Wo.s (gg rfl rfl rfl) rfl<|Wo.s (gg rfl rfl rfl) rfl ?_;refine Wo.od (iY rfl rfl) rfl<|Wo.nil ?_;cases hF;exact At.en () rfl (sc rfl sn) (ae.U [] rfl rfl)
       ·refine Wo.og (aj (k:=2) az rfl rfl rfl) (gg rfl rfl (eX h2)) rfl<|Wo.og (aj (k:=3) az rfl rfl rfl) (gg rfl rfl (eX h2)) rfl<|Wo.og (aj (k:=0) az rfl rfl rfl) (gg rfl rfl (eX h2)) rfl ?_;obtain⟨r10,h27,hF⟩:=J hF;refine Wo.x (bR rfl rfl (fun m hm=>oO n x5 x6 x7 x8 x1 x2  _ h27 m) fun _=>rfl) (gg rfl rfl (eX h2)) rfl ?_;rintro⟨⟩;refine Wo.od (dC rfl h2 rfl) rfl<|Wo.od (aa rfl) rfl ?_;rcases ah hF with⟨h3,hF⟩|⟨h3,hF⟩
        ·refine Wo.s (gg rfl rfl (eU h3)) rfl<|Wo.s (gg rfl rfl (eU h3)) rfl<|Wo.s (gg rfl rfl (eU h3)) rfl<|Wo.s (gg rfl rfl (eU h3)) rfl<|Wo.od (dG rfl h3 rfl) rfl<|Wo.nil ?_;cases hF;exact At.en () rfl (sc rfl sn) (ae.U [] rfl rfl)
        ·refine Wo.og (aj (k:=2) az rfl rfl rfl) (gg rfl rfl (eX h3)) rfl<|Wo.og (aj (k:=3) az rfl rfl rfl) (gg rfl rfl (eX h3)) rfl<|Wo.og (aj (k:=1) az rfl rfl rfl) (gg rfl rfl (eX h3)) rfl ?_;obtain⟨r11,h28,hF⟩:=J hF;refine Wo.x (bR rfl rfl (fun m hm=>oO n x5 x6 x7 x8 x3 x4  _ h28 m) fun _=>rfl) (gg rfl rfl (eX h3)) rfl ?_;rintro⟨⟩;refine Wo.od (dC rfl h3 rfl) rfl<|Wo.nil ?_;have hr:=Option.some.inj hF;subst r;exact At.en () rfl (sc rfl sn) (ae.U [] rfl rfl)
     ·clear h24;rintro⟨⟩;refine At.tn ?_;rcases ah hF with⟨h10,hF⟩|⟨h10,hF⟩
      ·refine Wk.aD rfl h10<|Wk.seq<|Wk.region<|Wo.od (ai rfl) rfl<|Wo.nil<|At.tn<|Wk.ret<|At.tr ?_;cases hF;exact At.ret (.tmp rfl .nil) fun m' hm=>⟨(),rfl,(ae.U [] rfl rfl) m' hm⟩
      ·refine Wk.aC rfl h10<|Wk.skip<|At.tn<|Wk.seq<|Wk.region<|Wo.od (ai rfl) rfl<|Wo.nil<|At.tn<|Wk.ret ?_;cases hF;exact At.ret (.tmp rfl .nil) fun m' hm=>⟨(),rfl,(ae.U [] rfl rfl) m' hm⟩
theorem Eo (n:Nat) (l1:List (Int × Int)) (a0:Option Addr) (c0:Nat) (r:Int × Int) (hF:G3 n l1=some r) (m:AMem) (h25:Rd m a0 c0 2 l1.length (l1.map (eP (eI .i64) (eI .i64)))) :
  aR aK 42 [.slice a0 l1.length c0] m (fun v m'=>∃_:Unit,v = .tuple #[.int .i64 r.1,.int .i64 r.2]∧Hp m m' []):=by
 unfold G3 at hF;refine aH (m0:=m) (ps:=[.rd a0 c0 2 l1.length (l1.map (eP (eI .i64) (eI .i64)))]) (N:=118) (rs:=[.tmp 2,.tmp 3]) rfl Tryz.func42 rfl rfl rfl ((Hp.start m).nC rfl h25)<|Wk.seq<|Wk.region<|Wo.od (ai rfl) rfl<|Wo.od (ai rfl) rfl<|Wo.nil<|At.tn<|Wk.seq<|Wk.region<|Wo.od (aa rfl) rfl<|Wo.od (da (k:=0) fP rfl rfl (.inl rfl)) rfl<|Wo.od (ai rfl) rfl<|Wo.nil<|At.tn<|Wk.seq<|Wk.seq ?_;obtain⟨v2,h26,hF⟩:=J hF;refine Wk.cut (G:=(fun(r:Bool) (g:Unit)=>match r,g with|v2,_=>⟨.normal,[(0,.slice a0 l1.length c0),(4,.int .i64 (l1.length:Int)),(20,.bool v2)],[.rd a0 c0 2 l1.length (l1.map (eP (eI .i64) (eI .i64)))]⟩) v2) ?_ ?_
 ·clear hF;revert v2;intro r hF;refine Wk.region<|Wo.od (aa rfl) rfl<|Wo.od (ak rfl rfl (aS _ _ _)) rfl<|Wo.od (aa rfl) rfl ?_;rcases ah hF with⟨h2,hF⟩|⟨h2,hF⟩
  ·refine Wo.s (gg rfl rfl (eU h2)) rfl<|Wo.s (gg rfl rfl (eU h2)) rfl<|Wo.od (dG rfl h2 rfl) rfl<|Wo.nil ?_;cases hF;exact At.en () rfl (sc rfl (sc rfl (sc rfl sn))) (ae.U [0] rfl rfl)
  ·refine Wo.og (aa rfl) (gg rfl rfl (eX h2)) rfl<|Wo.og (ak rfl rfl (bJ _ _ _)) (gg rfl rfl (eX h2)) rfl<|Wo.od (dC rfl h2 rfl) rfl<|Wo.nil ?_;cases hF;exact At.en () rfl (sc rfl (sc rfl (sc rfl sn))) (ae.U [0] rfl rfl)
 ·clear h26;rintro⟨⟩;refine At.tn ?_;rcases ah hF with⟨h7,hF⟩|⟨h7,hF⟩
  ·refine Wk.aD rfl h7<|Wk.seq<|Wk.region<|Wo.od (ai rfl) rfl<|Wo.od (ai rfl) rfl<|Wo.nil<|At.tn<|Wk.ret<|At.tr ?_;cases hF;exact At.ret (.tmp rfl (.tmp rfl .nil)) fun m' hm=>⟨(),rfl,(ae.U [] rfl rfl) m' hm⟩
  ·refine Wk.aC rfl h7<|Wk.skip<|At.tn<|Wk.seq<|Wk.seq<|Wk.region<|Wo.od (ai rfl) rfl<|Wo.nil<|At.tn<|Wk.block ?_;obtain⟨r1,h8,hF⟩:=J hF;refine Wk.cut (G:=(fun(r:(Int) ⊕ (Unit)) (g:Unit)=>match r,g with | .inl v3,_=>⟨.ret,[(2,.int .i64 2),(3,.int .i64 v3)],[]⟩ | .inr _,_=>⟨(.exit 0),[(0,.slice a0 l1.length c0),(4,.int .i64 (l1.length:Int))],[.rd a0 c0 2 l1.length (l1.map (eP (eI .i64) (eI .i64)))]⟩) r1) ?_ ?_
   ·refine Wk.ep (fs':=[(0,.slice a0 l1.length c0),(4,.int .i64 (l1.length:Int)),(5,.int .i64 0)]) (ps':=[.rd a0 c0 2 l1.length (l1.map (eP (eI .i64) (eI .i64)))]) (sc rfl (sc rfl (sc rfl sn))) (ae.U [0] rfl rfl) ?_;refine Wk.loop (σ:=Int) (ρ:=(Int) ⊕ (Unit)) (γ:=Unit) (δ:=fun _=>Unit) _ (fun(s:Int) (g:Unit)=>match s,g with|v11,_=>⟨.normal,[(0,.slice a0 l1.length c0),(4,.int .i64 (l1.length:Int)),(5,.int .i64 v11)],[.rd a0 c0 2 l1.length (l1.map (eP (eI .i64) (eI .i64)))]⟩) (fun(r:(Int) ⊕ (Unit)) (g:Unit)=>match r,g with | .inl v3,_=>⟨.ret,[(2,.int .i64 2),(3,.int .i64 v3)],[]⟩ | .inr _,_=>⟨(.exit 0),[(0,.slice a0 l1.length c0),(4,.int .i64 (l1.length:Int))],[.rd a0 c0 2 l1.length (l1.map (eP (eI .i64) (eI .i64)))]⟩) ?_ (fun _ _=>rfl) (fun r d=>by rcases r with _|_<;>(intro e; cases e)) _ _ _ h8 ()
    clear hF h8;rintro v11 ⟨⟩ r hF;unfold tv at hF;refine Wk.seq<|Wk.seq<|Wk.region<|Wo.od (aa rfl) rfl<|Wo.od (aa rfl) rfl<|Wo.od (ak rfl rfl (aS _ _ _)) rfl<|Wo.nil<|At.tn ?_;rcases ah hF with⟨h9,hF⟩|⟨h9,hF⟩
    ·refine Wk.aD rfl h9<|Wk.skip<|At.tn<|Wk.seq<|Wk.block<|Wk.seq<|Wk.region<|Wo.od (aa rfl) rfl<|Wo.od (aa rfl) rfl ?_;obtain⟨h3,hF⟩:=al hF;replace h3:=av h3;refine Wo.dL (k:=0) rfl (bP h3) ?_;rintro b5 o4 rfl;refine Wo.og (bC ct rfl rfl h3) gn rfl ?_;obtain⟨⟨x10,x11⟩,h27,hF⟩:=J hF;refine Wo.od (bI (k:=0) az rfl rfl (aO h27) rfl rfl) rfl ?_;obtain⟨r12,h28,hF⟩:=J hF;refine Wo.x (bR rfl rfl (fun m hm=>Bz n x10 x11  _ h28 m) fun _=>rfl) gn rfl ?_;rintro⟨⟩;refine Wo.nil<|At.tn ?_;rcases ah hF with⟨h10,hF⟩|⟨h10,hF⟩
     ·refine Wk.aD rfl h10<|Wk.seq<|Wk.region<|Wo.od (aa rfl) rfl<|Wo.od (ai rfl) rfl<|Wo.od (ai rfl) rfl<|Wo.nil<|At.tn<|Wk.ret<|At.br<|At.tr ?_;cases hF;exact At.en () rfl (sc rfl (sc rfl sn)) (ae.U [] rfl rfl)
     ·refine Wk.aC rfl h10<|Wk.skip<|At.bn<|At.tn<|Wk.region<|Wo.od (aa rfl) rfl<|Wo.od (ak rfl rfl (aB _ _ _)) rfl<|Wo.od (ai rfl) rfl<|Wo.nil ?_;cases hF;exact At.en () rfl (sc rfl (sc rfl (sc rfl sn))) (ae.U [1] rfl rfl)
    ·refine Wk.aC rfl h9<|Wk.exit<|At.te ?_;cases hF;exact At.en () rfl (sc rfl (sc rfl sn)) (ae.U [0] rfl rfl)
   ·clear h8;rcases r1 with v3|_
    ·rintro⟨⟩;refine At.br<|At.tr ?_;cases hF;exact At.ret (.tmp rfl (.tmp rfl .nil)) fun m' hm=>⟨(),rfl,(ae.U [] rfl rfl) m' hm⟩
    ·rintro⟨⟩;refine At.be<|At.tn<|Wk.seq<|Wk.seq<|Wk.region<|Wo.od (ai rfl) rfl<|Wo.nil<|At.tn<|Wk.block ?_;obtain⟨r2,h11,hF⟩:=J hF;refine Wk.cut (G:=(fun(r:(Int) ⊕ (Unit)) (g:Unit)=>match r,g with | .inl v4,_=>⟨.ret,[(2,.int .i64 3),(3,.int .i64 v4)],[]⟩ | .inr _,_=>⟨(.exit 2),[(0,.slice a0 l1.length c0),(4,.int .i64 (l1.length:Int))],[.rd a0 c0 2 l1.length (l1.map (eP (eI .i64) (eI .i64)))]⟩) r2) ?_ ?_
     ·refine Wk.ep (fs':=[(0,.slice a0 l1.length c0),(4,.int .i64 (l1.length:Int)),(6,.int .i64 0)]) (ps':=[.rd a0 c0 2 l1.length (l1.map (eP (eI .i64) (eI .i64)))]) (sc rfl (sc rfl (sc rfl sn))) (ae.U [0] rfl rfl) ?_;refine Wk.loop (σ:=Int) (ρ:=(Int) ⊕ (Unit)) (γ:=Unit) (δ:=fun _=>Unit) _ (fun(s:Int) (g:Unit)=>match s,g with|v10,_=>⟨.normal,[(0,.slice a0 l1.length c0),(4,.int .i64 (l1.length:Int)),(6,.int .i64 v10)],[.rd a0 c0 2 l1.length (l1.map (eP (eI .i64) (eI .i64)))]⟩) (fun(r:(Int) ⊕ (Unit)) (g:Unit)=>match r,g with | .inl v4,_=>⟨.ret,[(2,.int .i64 3),(3,.int .i64 v4)],[]⟩ | .inr _,_=>⟨(.exit 2),[(0,.slice a0 l1.length c0),(4,.int .i64 (l1.length:Int))],[.rd a0 c0 2 l1.length (l1.map (eP (eI .i64) (eI .i64)))]⟩) ?_ (fun _ _=>rfl) (fun r d=>by rcases r with _|_<;>(intro e; cases e)) _ _ _ h11 ()
      clear hF h11;rintro v10 ⟨⟩ r hF;unfold tB at hF;refine Wk.seq<|Wk.seq<|Wk.region<|Wo.od (aa rfl) rfl<|Wo.od (aa rfl) rfl<|Wo.od (ak rfl rfl (aS _ _ _)) rfl<|Wo.nil<|At.tn ?_;rcases ah hF with⟨h12,hF⟩|⟨h12,hF⟩
      ·refine Wk.aD rfl h12<|Wk.skip<|At.tn<|Wk.seq<|Wk.block<|Wk.seq<|Wk.eH (prs:=[(3,7)]) (by kernel_rfl)<|Wn.od (aa rfl) rfl<|Wn.od (aa rfl) rfl ?_
       obtain⟨h4,hF⟩:=al hF;replace h4:=av h4;refine Wn.dL (k:=0) rfl (bP h4) ?_;rintro b3 o2 rfl;refine Wn.og (bC ct rfl rfl h4) gn rfl ?_;obtain⟨⟨x18,x19⟩,h29,hF⟩:=J hF;refine Wn.od (bI (k:=0) az rfl rfl (aO h29) rfl rfl) rfl<|Wn.od (aa rfl) rfl<|Wn.od (aa rfl) rfl<|Wn.od (ak rfl rfl (aB _ _ _)) rfl ?_;obtain⟨⟨r13,r14⟩,h30,hF⟩:=J hF;refine Wn.c (eT rfl rfl (fun m hm=>jb n l1 (IntKind.wrap .i64 (v10+1)) (some ⟨b3,o2,none⟩) c0 _ h30 m (hm.rd (k:=1) rfl (.rd _ _ _ _ _))) fun _=>rfl) gn rfl ?_;rintro⟨⟩;refine Wn.od (ak rfl rfl (DR Cy (B8 _ _ _ _))) rfl<|Wn.nil (fun m hm=>eG.all rfl)<|At.tn ?_;rcases ah hF with⟨h13,hF⟩|⟨h13,hF⟩
       ·refine Wk.aD rfl h13<|Wk.seq<|Wk.region<|Wo.od (aa rfl) rfl<|Wo.od (ai rfl) rfl<|Wo.od (ai rfl) rfl<|Wo.nil<|At.tn<|Wk.ret<|At.br<|At.tr ?_;cases hF;exact At.en () rfl (sc rfl (sc rfl sn)) (ae.U [] rfl rfl)
       ·refine Wk.aC rfl h13<|Wk.skip<|At.bn<|At.tn<|Wk.region<|Wo.od (aa rfl) rfl<|Wo.od (ak rfl rfl (aB _ _ _)) rfl<|Wo.od (ai rfl) rfl<|Wo.nil ?_;cases hF;exact At.en () rfl (sc rfl (sc rfl (sc rfl sn))) (ae.U [1] rfl rfl)
      ·refine Wk.aC rfl h12<|Wk.exit<|At.te ?_;cases hF;exact At.en () rfl (sc rfl (sc rfl sn)) (ae.U [0] rfl rfl)
     ·clear h11;rcases r2 with v4|_
      ·rintro⟨⟩;refine At.br<|At.tr ?_;cases hF;exact At.ret (.tmp rfl (.tmp rfl .nil)) fun m' hm=>⟨(),rfl,(ae.U [] rfl rfl) m' hm⟩
      ·rintro⟨⟩;refine At.be<|At.tn<|Wk.seq<|Wk.seq<|Wk.region<|Wo.od (ai rfl) rfl<|Wo.nil<|At.tn<|Wk.block ?_;obtain⟨r3,h14,hF⟩:=J hF;refine Wk.cut (G:=(fun(r:(Int) ⊕ (Unit)) (g:Unit)=>match r,g with | .inl v5,_=>⟨.ret,[(2,.int .i64 4),(3,.int .i64 v5)],[]⟩ | .inr _,_=>⟨(.exit 4),[(0,.slice a0 l1.length c0),(4,.int .i64 (l1.length:Int))],[.rd a0 c0 2 l1.length (l1.map (eP (eI .i64) (eI .i64)))]⟩) r3) ?_ ?_
       ·refine Wk.ep (fs':=[(0,.slice a0 l1.length c0),(4,.int .i64 (l1.length:Int)),(7,.int .i64 0)]) (ps':=[.rd a0 c0 2 l1.length (l1.map (eP (eI .i64) (eI .i64)))]) (sc rfl (sc rfl (sc rfl sn))) (ae.U [0] rfl rfl) ?_;refine Wk.loop (σ:=Int) (ρ:=(Int) ⊕ (Unit)) (γ:=Unit) (δ:=fun _=>Unit) _ (fun(s:Int) (g:Unit)=>match s,g with|v1,_=>⟨.normal,[(0,.slice a0 l1.length c0),(4,.int .i64 (l1.length:Int)),(7,.int .i64 v1)],[.rd a0 c0 2 l1.length (l1.map (eP (eI .i64) (eI .i64)))]⟩) (fun(r:(Int) ⊕ (Unit)) (g:Unit)=>match r,g with | .inl v5,_=>⟨.ret,[(2,.int .i64 4),(3,.int .i64 v5)],[]⟩ | .inr _,_=>⟨(.exit 4),[(0,.slice a0 l1.length c0),(4,.int .i64 (l1.length:Int))],[.rd a0 c0 2 l1.length (l1.map (eP (eI .i64) (eI .i64)))]⟩) ?_ (fun _ _=>rfl) (fun r d=>by rcases r with _|_<;>(intro e; cases e)) _ _ _ h14 ()
        clear hF h14;rintro v1 ⟨⟩ r hF;unfold tI at hF;refine Wk.seq<|Wk.seq<|Wk.region<|Wo.od (aa rfl) rfl<|Wo.od (aa rfl) rfl<|Wo.od (ak rfl rfl (aS _ _ _)) rfl<|Wo.nil<|At.tn ?_;rcases ah hF with⟨h15,hF⟩|⟨h15,hF⟩
        ·refine Wk.aD rfl h15<|Wk.skip<|At.tn<|Wk.seq<|Wk.block<|Wk.seq<|Wk.eH (prs:=[(5,9),(9,13),(9,17)]) (by kernel_rfl)<|Wn.od (aa rfl) rfl<|Wn.od (aa rfl) rfl<|Wn.od (aa rfl) rfl<|Wn.od (ak rfl rfl (aB _ _ _)) rfl<|Wn.od (ak rfl rfl (aV _ _ _)) rfl ?_
         obtain⟨⟨r4,r5⟩,h31,hF⟩:=J hF;refine Wn.c (eT rfl rfl (fun m hm=>jb n l1 (IntKind.wrap .i64 ((IntKind.wrap .i64 (v1+(l1.length:Int)))-1)) a0 c0 _ h31 m (hm.rd (k:=0) rfl (.rd _ _ _ _ _))) fun _=>rfl) gn rfl ?_;rintro⟨⟩;refine Wn.od (aa rfl) rfl<|Wn.od (aa rfl) rfl ?_;obtain⟨h5,hF⟩:=al hF;replace h5:=av h5;refine Wn.dL (k:=0) rfl (bP h5) ?_;rintro b0 o1 rfl;refine Wn.og (bC ct rfl rfl h5) gn rfl ?_;obtain⟨⟨x3,x4⟩,h32,hF⟩:=J hF;refine Wn.FV rfl (bI (k:=0) az rfl rfl (aO h32) rfl rfl) rfl<|Wn.od (aa rfl) rfl<|Wn.od (aa rfl) rfl<|Wn.od (ak rfl rfl (aB _ _ _)) rfl ?_;obtain⟨⟨r6,r7⟩,h33,hF⟩:=J hF;refine Wn.c (eT rfl rfl (fun m hm=>jb n l1 (IntKind.wrap .i64 (v1+1)) (some ⟨b0,o1,none⟩) c0 _ h33 m (hm.rd (k:=1) rfl (.rd _ _ _ _ _))) fun _=>rfl) gn rfl ?_;rintro⟨⟩;refine Wn.x (cL z33 rfl) gn rfl fun b6=>?_;refine Wn.x (cL z33 rfl) gn rfl fun b7=>?_;refine Wn.x (cL z33 rfl) gn rfl fun b8=>?_;refine Wn.Gc rfl (bB (k:=2) az rfl rfl rfl rfl rfl)<|Wn.o0 (bB (k:=1) az rfl rfl rfl rfl rfl)<|Wn.o0 (bB (k:=0) az rfl rfl rfl rfl rfl)<|Wn.nil (fun m hm=>(eG.step rfl (eG.step rfl (eG.rw rfl rfl rfl (hm.ne (i:=2) (j:=3) rfl rfl rfl rfl (by decide) rfl).symm eG.nil))))<|At.tn<|Wk.seq ?_
         obtain⟨v6,h34,hF⟩:=J hF;refine Wk.cut (G:=(fun(r:Bool) (g:Unit)=>match r,g with|v6,_=>⟨.normal,[(0,.slice (some ⟨b0,o1,none⟩) l1.length c0),(4,.int .i64 (l1.length:Int)),(7,.int .i64 v1),(77,.bool v6)],[.ro b0 o1 2 l1.length (l1.map (eP (eI .i64) (eI .i64))),.rd (some ⟨b0,o1,none⟩) c0 2 l1.length (l1.map (eP (eI .i64) (eI .i64)))]⟩) v6) ?_ ?_
         ·clear hF;revert v6;intro r hF;refine Wk.region<|Wo.od (aj (k:=2) az rfl rfl rfl) rfl<|Wo.od (aj (k:=1) az rfl rfl rfl) rfl<|Wo.od (aj (k:=0) az rfl rfl rfl) rfl ?_;obtain⟨r15,h35,hF⟩:=J hF;refine Wo.x (bR rfl rfl (fun m hm=>iS n r4 r5 x3 x4 r6 r7  _ h35 m) fun _=>rfl) gn rfl ?_;rintro⟨⟩;refine Wo.od (ak rfl rfl (dh _ _ _)) rfl<|Wo.od (aa rfl) rfl ?_;rcases ah hF with⟨h0,hF⟩|⟨h0,hF⟩
          ·refine Wo.og (aj (k:=2) az rfl rfl rfl) (gg rfl rfl (bO h0)) rfl<|Wo.og (aj (k:=1) az rfl rfl rfl) (gg rfl rfl (bO h0)) rfl<|Wo.og (aj (k:=0) az rfl rfl rfl) (gg rfl rfl (bO h0)) rfl ?_;obtain⟨r16,h36,hF⟩:=J hF;refine Wo.x (bR rfl rfl (fun m hm=>EO n r4 r5 x3 x4 r6 r7  _ h36 m) fun _=>rfl) (gg rfl rfl (bO h0)) rfl ?_;rintro⟨⟩;refine Wo.og (ak rfl rfl (aS _ _ _)) (gg rfl rfl (bO h0)) rfl<|Wo.od (dG rfl h0 rfl) rfl<|Wo.nil ?_;cases hF;exact At.en () rfl (sc rfl (sc rfl (sc rfl (sc rfl sn)))) (ae.U [3,4] rfl rfl)
          ·refine Wo.s (gg rfl rfl (bM h0)) rfl<|Wo.s (gg rfl rfl (bM h0)) rfl<|Wo.s (gg rfl rfl (bM h0)) rfl<|Wo.s (gg rfl rfl (bM h0)) rfl<|Wo.s (gg rfl rfl (bM h0)) rfl<|Wo.od (dC rfl h0 rfl) rfl<|Wo.nil ?_;cases hF;exact At.en () rfl (sc rfl (sc rfl (sc rfl (sc rfl sn)))) (ae.U [3,4] rfl rfl)
         ·clear h34;rintro⟨⟩;refine At.tn ?_;rcases ah hF with⟨h16,hF⟩|⟨h16,hF⟩
          ·refine Wk.aD rfl h16<|Wk.seq<|Wk.region<|Wo.od (aa rfl) rfl<|Wo.od (ai rfl) rfl<|Wo.od (ai rfl) rfl<|Wo.nil<|At.tn<|Wk.ret<|At.br<|At.tr ?_;cases hF;exact At.en () rfl (sc rfl (sc rfl sn)) (ae.U [] rfl rfl)
          ·refine Wk.aC rfl h16<|Wk.skip<|At.bn<|At.tn<|Wk.region<|Wo.od (aa rfl) rfl<|Wo.od (ak rfl rfl (aB _ _ _)) rfl<|Wo.od (ai rfl) rfl<|Wo.nil ?_;cases hF;exact At.en () rfl (sc rfl (sc rfl (sc rfl sn))) (ae.U [1] rfl rfl)
        ·refine Wk.aC rfl h15<|Wk.exit<|At.te ?_;cases hF;exact At.en () rfl (sc rfl (sc rfl sn)) (ae.U [0] rfl rfl)
       ·clear h14;rcases r3 with v5|_
        ·rintro⟨⟩;refine At.br<|At.tr ?_;cases hF;exact At.ret (.tmp rfl (.tmp rfl .nil)) fun m' hm=>⟨(),rfl,(ae.U [] rfl rfl) m' hm⟩
        ·rintro⟨⟩;refine At.be<|At.tn<|Wk.seq<|Wk.seq<|Wk.region<|Wo.od (ai rfl) rfl<|Wo.nil<|At.tn<|Wk.block ?_;obtain⟨r8,h17,hF⟩:=J hF;refine Wk.cut (G:=(fun(r:(Int) ⊕ (Unit)) (g:Unit)=>match r,g with | .inl v7,_=>⟨.ret,[(2,.int .i64 5),(3,.int .i64 v7)],[]⟩ | .inr _,_=>⟨(.exit 6),[],[]⟩) r8) ?_ ?_
         ·refine Wk.ep (fs':=[(0,.slice a0 l1.length c0),(4,.int .i64 (l1.length:Int)),(11,.int .i64 0)]) (ps':=[.rd a0 c0 2 l1.length (l1.map (eP (eI .i64) (eI .i64)))]) (sc rfl (sc rfl (sc rfl sn))) (ae.U [0] rfl rfl) ?_;refine Wk.loop (σ:=Int) (ρ:=(Int) ⊕ (Unit)) (γ:=Unit) (δ:=fun _=>Unit) _ (fun(s:Int) (g:Unit)=>match s,g with|v0,_=>⟨.normal,[(0,.slice a0 l1.length c0),(4,.int .i64 (l1.length:Int)),(11,.int .i64 v0)],[.rd a0 c0 2 l1.length (l1.map (eP (eI .i64) (eI .i64)))]⟩) (fun(r:(Int) ⊕ (Unit)) (g:Unit)=>match r,g with | .inl v7,_=>⟨.ret,[(2,.int .i64 5),(3,.int .i64 v7)],[]⟩ | .inr _,_=>⟨(.exit 6),[],[]⟩) ?_ (fun _ _=>rfl) (fun r d=>by rcases r with _|_<;>(intro e; cases e)) _ _ _ h17 ()
          clear hF h17;rintro v0 ⟨⟩ r hF;unfold uS at hF;refine Wk.seq<|Wk.seq<|Wk.region<|Wo.od (aa rfl) rfl<|Wo.od (aa rfl) rfl<|Wo.od (ak rfl rfl (aS _ _ _)) rfl<|Wo.nil<|At.tn ?_;rcases ah hF with⟨h18,hF⟩|⟨h18,hF⟩
          ·refine Wk.aD rfl h18<|Wk.skip<|At.tn<|Wk.seq<|Wk.block<|Wk.seq<|Wk.region<|Wo.od (ai rfl) rfl<|Wo.nil<|At.tn<|Wk.block ?_;obtain⟨r9,h19,hF⟩:=J hF;refine Wk.cut (G:=(fun(r:(Unit) ⊕ (Unit)) (g:Unit)=>match r,g with | .inl _,_=>⟨.ret,[(2,.int .i64 5),(3,.int .i64 v0)],[]⟩ | .inr _,_=>⟨(.exit 8),[(0,.slice a0 l1.length c0),(4,.int .i64 (l1.length:Int)),(11,.int .i64 v0)],[.rd a0 c0 2 l1.length (l1.map (eP (eI .i64) (eI .i64)))]⟩) r9) ?_ ?_
           ·refine Wk.ep (fs':=[(0,.slice a0 l1.length c0),(4,.int .i64 (l1.length:Int)),(11,.int .i64 v0),(12,.int .i64 0)]) (ps':=[.rd a0 c0 2 l1.length (l1.map (eP (eI .i64) (eI .i64)))]) (sc rfl (sc rfl (sc rfl (sc rfl sn)))) (ae.U [0] rfl rfl) ?_;refine Wk.loop (σ:=Int) (ρ:=(Unit) ⊕ (Unit)) (γ:=Unit) (δ:=fun _=>Unit) _ (fun(s:Int) (g:Unit)=>match s,g with|v8,_=>⟨.normal,[(0,.slice a0 l1.length c0),(4,.int .i64 (l1.length:Int)),(11,.int .i64 v0),(12,.int .i64 v8)],[.rd a0 c0 2 l1.length (l1.map (eP (eI .i64) (eI .i64)))]⟩) (fun(r:(Unit) ⊕ (Unit)) (g:Unit)=>match r,g with | .inl _,_=>⟨.ret,[(2,.int .i64 5),(3,.int .i64 v0)],[]⟩ | .inr _,_=>⟨(.exit 8),[(0,.slice a0 l1.length c0),(4,.int .i64 (l1.length:Int)),(11,.int .i64 v0)],[.rd a0 c0 2 l1.length (l1.map (eP (eI .i64) (eI .i64)))]⟩) ?_ (fun _ _=>rfl) (fun r d=>by rcases r with _|_<;>(intro e; cases e)) _ _ _ h19 ()
            clear hF h19;rintro v8 ⟨⟩ r hF;unfold uK at hF;refine Wk.seq<|Wk.seq<|Wk.region<|Wo.od (aa rfl) rfl<|Wo.od (ak rfl rfl (aB _ _ _)) rfl<|Wo.od (aa rfl) rfl<|Wo.od (ak rfl rfl (aS _ _ _)) rfl<|Wo.nil<|At.tn ?_;rcases ah hF with⟨h20,hF⟩|⟨h20,hF⟩
            ·refine Wk.aD rfl h20<|Wk.skip<|At.tn<|Wk.seq ?_;obtain⟨r0,h37,hF⟩:=J hF;refine Wk.cut (G:=(fun(r:(Unit) ⊕ (Unit)) (g:Unit)=>match r,g with | .inl _,_=>⟨.normal,[(0,.slice a0 l1.length c0),(4,.int .i64 (l1.length:Int)),(11,.int .i64 v0),(12,.int .i64 v8)],[.rd a0 c0 2 l1.length (l1.map (eP (eI .i64) (eI .i64)))]⟩ | .inr _,_=>⟨.ret,[(2,.int .i64 5),(3,.int .i64 v0)],[]⟩) r0) ?_ ?_
             ·clear hF;revert r0;intro r hF;refine Wk.block<|Wk.seq<|Wk.seq ?_;obtain⟨v9,h38,hF⟩:=J hF;refine Wk.cut (G:=(fun(r:Bool) (g:Unit)=>match r,g with|v9,_=>⟨.normal,[(0,.slice a0 l1.length c0),(4,.int .i64 (l1.length:Int)),(11,.int .i64 v0),(12,.int .i64 v8),(97,.bool v9)],[.rd a0 c0 2 l1.length (l1.map (eP (eI .i64) (eI .i64)))]⟩) v9) ?_ ?_
              ·clear hF;revert v9;intro r hF;refine Wk.region<|Wo.od (aa rfl) rfl<|Wo.od (ak rfl rfl (dh _ _ _)) rfl<|Wo.od (aa rfl) rfl ?_;rcases ah hF with⟨h1,hF⟩|⟨h1,hF⟩
               ·refine Wo.og (aa rfl) (gg rfl rfl (bO h1)) rfl<|Wo.og (aa rfl) (gg rfl rfl (bO h1)) rfl<|Wo.og (ak rfl rfl (aV _ _ _)) (gg rfl rfl (bO h1)) rfl<|Wo.og (ak rfl rfl (dh _ _ _)) (gg rfl rfl (bO h1)) rfl<|Wo.od (dG rfl h1 rfl) rfl<|Wo.nil ?_;cases hF;exact At.en () rfl (sc rfl (sc rfl (sc rfl (sc rfl (sc rfl sn))))) (ae.U [0] rfl rfl)
               ·refine Wo.s (gg rfl rfl (bM h1)) rfl<|Wo.s (gg rfl rfl (bM h1)) rfl<|Wo.s (gg rfl rfl (bM h1)) rfl<|Wo.s (gg rfl rfl (bM h1)) rfl<|Wo.od (dC rfl h1 rfl) rfl<|Wo.nil ?_;cases hF;exact At.en () rfl (sc rfl (sc rfl (sc rfl (sc rfl (sc rfl sn))))) (ae.U [0] rfl rfl)
              ·clear h38;rintro⟨⟩;refine At.tn ?_;rcases ah hF with⟨h21,hF⟩|⟨h21,hF⟩
               ·refine Wk.aD rfl h21<|Wk.exit<|At.te<|At.be ?_;cases hF;exact At.en () rfl (sc rfl (sc rfl (sc rfl (sc rfl sn)))) (ae.U [0] rfl rfl)
               ·refine Wk.aC rfl h21<|Wk.skip<|At.tn<|Wk.seq<|Wk.eH (prs:=[(3,16),(8,16),(12,16)]) (by kernel_rfl)<|Wn.od (aa rfl) rfl<|Wn.od (aa rfl) rfl ?_
                obtain⟨h6,hF⟩:=al hF;replace h6:=av h6;refine Wn.dL (k:=0) rfl (bP h6) ?_;rintro b4 o3 rfl;refine Wn.og (bC ct rfl rfl h6) gn rfl ?_;obtain⟨⟨x12,x13⟩,h39,hF⟩:=J hF;refine Wn.od (bI (k:=0) az rfl rfl (aO h39) rfl rfl) rfl<|Wn.od (aa rfl) rfl<|Wn.od (aa rfl) rfl<|Wn.od (ak rfl rfl (aB _ _ _)) rfl ?_;obtain⟨h22,hF⟩:=al hF;replace h22:=av h22;refine Wn.og (bC ct rfl rfl h22) gn rfl ?_;obtain⟨⟨x14,x15⟩,h40,hF⟩:=J hF;refine Wn.od (bI (k:=0) az rfl rfl (aO h40) rfl rfl) rfl<|Wn.od (aa rfl) rfl<|Wn.od (aa rfl) rfl ?_;obtain⟨h23,hF⟩:=al hF;replace h23:=av h23;refine Wn.og (bC ct rfl rfl h23) gn rfl ?_;obtain⟨⟨x16,x17⟩,h41,hF⟩:=J hF;refine Wn.od (bI (k:=0) az rfl rfl (aO h41) rfl rfl) rfl<|Wn.od (aa rfl) rfl<|Wn.od (aa rfl) rfl<|Wn.od (ak rfl rfl (aB _ _ _)) rfl ?_;obtain⟨⟨r10,r11⟩,h42,hF⟩:=J hF;refine Wn.c (eT rfl rfl (fun m hm=>jb n l1 (IntKind.wrap .i64 (v0+1)) (some ⟨b4,o3,none⟩) c0 _ h42 m (hm.rd (k:=1) rfl (.rd _ _ _ _ _))) fun _=>rfl) gn rfl ?_;rintro⟨⟩;obtain⟨r17,h43,hF⟩:=J hF;refine Wn.c (eT rfl rfl (fun m hm=>FW n x12 x13 x14 x15 x16 x17 r10 r11  _ h43 m) fun _=>rfl) gn rfl ?_;rintro⟨⟩;refine Wn.od (ak rfl rfl (cj _ _)) rfl<|Wn.nil (fun m hm=>eG.all rfl)<|At.tn ?_;rcases ah hF with⟨h24,hF⟩|⟨h24,hF⟩
                ·refine Wk.aD rfl h24<|Wk.seq<|Wk.region<|Wo.od (aa rfl) rfl<|Wo.od (ai rfl) rfl<|Wo.od (ai rfl) rfl<|Wo.nil<|At.tn<|Wk.ret<|At.br ?_;cases hF;exact At.en () rfl (sc rfl (sc rfl sn)) (ae.U [] rfl rfl)
                ·refine Wk.aC rfl h24<|Wk.skip<|At.bn ?_;cases hF;exact At.en () rfl (sc rfl (sc rfl (sc rfl (sc rfl sn)))) (ae.U [1] rfl rfl)
             ·clear h37;rcases r0 with _|_
              ·rintro⟨⟩;refine At.tn<|Wk.region<|Wo.od (aa rfl) rfl<|Wo.od (ak rfl rfl (aB _ _ _)) rfl<|Wo.od (ai rfl) rfl<|Wo.nil ?_;cases hF;exact At.en () rfl (sc rfl (sc rfl (sc rfl (sc rfl sn)))) (ae.U [0] rfl rfl)
              ·rintro⟨⟩;refine At.tr ?_;cases hF;exact At.en () rfl (sc rfl (sc rfl sn)) (ae.U [] rfl rfl)
            ·refine Wk.aC rfl h20<|Wk.exit<|At.te ?_;cases hF;exact At.en () rfl (sc rfl (sc rfl (sc rfl sn))) (ae.U [0] rfl rfl)
           ·clear h19;rcases r9 with _|_
            ·rintro⟨⟩;refine At.br<|At.br<|At.tr ?_;cases hF;exact At.en () rfl (sc rfl (sc rfl sn)) (ae.U [] rfl rfl)
            ·rintro⟨⟩;refine At.be<|At.bn<|At.tn<|Wk.region<|Wo.od (aa rfl) rfl<|Wo.od (ak rfl rfl (aB _ _ _)) rfl<|Wo.od (ai rfl) rfl<|Wo.nil ?_;cases hF;exact At.en () rfl (sc rfl (sc rfl (sc rfl sn))) (ae.U [0] rfl rfl)
          ·refine Wk.aC rfl h18<|Wk.exit<|At.te ?_;cases hF;exact At.en () rfl sn (ae.U [] rfl rfl)
         ·clear h17;rcases r8 with v7|_
          ·rintro⟨⟩;refine At.br<|At.tr ?_;cases hF;exact At.ret (.tmp rfl (.tmp rfl .nil)) fun m' hm=>⟨(),rfl,(ae.U [] rfl rfl) m' hm⟩
          ·rintro⟨⟩;refine At.be<|At.tn<|Wk.seq<|Wk.region<|Wo.od (ai rfl) rfl<|Wo.od (ai rfl) rfl<|Wo.nil<|At.tn<|Wk.ret ?_;cases hF;exact At.ret (.tmp rfl (.tmp rfl .nil)) fun m' hm=>⟨(),rfl,(ae.U [] rfl rfl) m' hm⟩
theorem rN (n:Nat) (l1:List (Int × Int)) (a2:Option Addr) (c3:Nat) (r:Int) (hF:DJ n l1=some r) (m:AMem) (h4:Rd m a2 c3 2 l1.length (l1.map (eP (eI .i64) (eI .i64)))) :
  aR aK 44 [.slice a2 l1.length c3] m (fun v m'=>∃_:Unit,v = .int .i64 r∧Hp m m' []):=by
 unfold DJ at hF;refine aH (m0:=m) (ps:=[.rd a2 c3 2 l1.length (l1.map (eP (eI .i64) (eI .i64)))]) (N:=12) (rs:=[.tmp 2]) rfl Tryz.func44 rfl rfl rfl ((Hp.start m).nC rfl h4)<|Wk.seq<|Wk.region<|Wo.od (ai rfl) rfl<|Wo.nil<|At.tn<|Wk.seq<|Wk.region<|Wo.od (aa rfl) rfl ?_;obtain⟨⟨r6,r7⟩,h5,hF⟩:=J hF;refine Wo.x (bR rfl rfl (fun m hm=>Eo n l1 a2 c3 _ h5 m (hm.rd (k:=0) rfl (.rd _ _ _ _ _))) fun _=>rfl) gn rfl ?_;rintro⟨⟩;refine Wo.od (aa rfl) rfl<|Wo.od (gh rfl rfl) rfl<|Wo.od (gh rfl rfl) rfl<|Wo.od (ai rfl) rfl<|Wo.od (ai rfl) rfl<|Wo.nil<|At.tn<|Wk.seq<|Wk.seq<|Wk.region<|Wo.od (aa rfl) rfl<|Wo.od (ak rfl rfl (bJ _ _ _)) rfl<|Wo.nil<|At.tn ?_;rcases ah hF with⟨h8,hF⟩|⟨h8,hF⟩
 ·refine Wk.aD rfl h8<|Wk.seq<|Wk.region<|Wo.od (ai rfl) rfl<|Wo.nil<|At.tn<|Wk.ret<|At.tr ?_;cases hF;exact At.ret (.tmp rfl .nil) fun m' hm=>⟨(),rfl,(ae.U [] rfl rfl) m' hm⟩
 ·refine Wk.aC rfl h8<|Wk.skip<|At.tn<|Wk.seq<|Wk.region<|Wo.od (ai rfl) rfl<|Wo.nil<|At.tn<|Wk.ret ?_;cases hF;exact At.ret (.tmp rfl .nil) fun m' hm=>⟨(),rfl,(ae.U [] rfl rfl) m' hm⟩
theorem Bj (n:Nat) (l1:List (Int × Int)) (a2:Option Addr) (c3:Nat) (r:List (Int × Int) × Int) (hF:DY n l1=some r) (m:AMem) (h4:Rd m a2 c3 2 l1.length (l1.map (eP (eI .i64) (eI .i64)))) :
  aR aK 37 [.slice a2 l1.length c3] m (fun v m'=>∃x:Option Addr × Nat,v = .tuple #[.slice x.1 x.2 x.2,.int .i64 r.2]∧Hp m m' [.sl x.1 2 x.2 (r.1.map (eP (eI .i64) (eI .i64)))]):=by
 unfold DY at hF;refine aH (m0:=m) (ps:=[.rd a2 c3 2 l1.length (l1.map (eP (eI .i64) (eI .i64)))]) (N:=31) (rs:=[.tmp 2,.tmp 3]) rfl Tryz.func37 rfl rfl rfl ((Hp.start m).nC rfl h4)<|Wk.seq<|Wk.region<|Wo.od (ai rfl) rfl<|Wo.od (ai rfl) rfl<|Wo.nil<|At.tn<|Wk.seq<|Wk.seq<|Wk.region<|Wo.od (aa rfl) rfl ?_;obtain⟨r6,h5,hF⟩:=J hF;refine Wo.x (bR rfl rfl (fun m hm=>rN n l1 a2 c3 _ h5 m (hm.rd (k:=0) rfl (.rd _ _ _ _ _))) fun _=>rfl) gn rfl ?_;rintro⟨⟩;refine Wo.od (ai rfl) rfl<|Wo.nil<|At.tn<|Wk.seq<|Wk.region<|Wo.od (aa rfl) rfl<|Wo.od (ak rfl rfl (cj _ _)) rfl<|Wo.nil<|At.tn ?_;rcases ah hF with⟨h7,hF⟩|⟨h7,hF⟩
 ·refine Wk.aD rfl h7<|Wk.seq<|Wk.region<|Wo.od (aa rfl) rfl<|Wo.od (ai rfl) rfl<|Wo.od (ai rfl) rfl<|Wo.nil<|At.tn<|Wk.ret<|At.tr ?_;cases hF;exact At.ret (.tmp rfl (.tmp rfl .nil)) fun m' hm=>⟨(none,0),rfl,(ae.trans (ae.nil 2 rfl) (ae.U [0] rfl rfl)) m' hm⟩
 ·refine Wk.aC rfl h7<|Wk.skip<|At.tn<|Wk.seq<|Wk.region<|Wo.od (aa rfl) rfl ?_;obtain⟨h8,hF⟩:=al hF;replace h8:=av h8;refine Wo.dL (k:=0) rfl (bP h8) ?_;rintro b9 o10 rfl;refine Wo.og (bC ct rfl rfl h8) gn rfl ?_;obtain⟨⟨x11,x12⟩,h13,hF⟩:=J hF;refine Wo.od (bI (k:=0) az rfl rfl (aO h13) rfl rfl) rfl<|Wo.x (nD (es:=([(x11,x12)]:List (Int × Int)).map (eP (eI .i64) (eI .i64))) ct rfl (nA ct z33 rfl rfl) rfl rfl) gn rfl fun b14=>?_;refine Wo.od (ai rfl) rfl<|Wo.nil<|At.tn<|Wk.seq<|Wk.seq<|Wk.region<|Wo.od (aa rfl) rfl<|Wo.od (da (k:=1) fP rfl rfl (.inl rfl)) rfl<|Wo.od (ak rfl rfl (aV _ _ _)) rfl<|Wo.od (ai rfl) rfl<|Wo.nil<|At.tn<|Wk.block ?_;obtain⟨r53,h52,hF⟩:=J hF;refine Wk.cut (G:=(fun(r:List (Int × Int) × Nat) (g:Option Addr)=>match r,g with | (l41,n43),a42=>⟨(.exit 0),[(5,.slice a42 n43 n43)],[.sl a42 2 n43 (l41.map (eP (eI .i64) (eI .i64)))]⟩) r53) ?_ ?_
  ·refine Wk.ep (fs':=[(0,.slice (some ⟨b9,o10,none⟩) l1.length c3),(5,.slice (some ⟨b14,0,none⟩) 1 1),(6,.int .i64 (IntKind.wrap .i64 ((l1.length:Int)-1)))]) (ps':=[.ro b9 o10 2 l1.length (l1.map (eP (eI .i64) (eI .i64))),.rd (some ⟨b9,o10,none⟩) c3 2 l1.length (l1.map (eP (eI .i64) (eI .i64))),.sl (some ⟨b14,0,none⟩) 2 1 (([(x11,x12)]).map (eP (eI .i64) (eI .i64)))]) (sc rfl (sc rfl (sc rfl sn))) (ae.trans (ae.close (k:=0) rfl) (ae.U [1,2,0] rfl rfl)) ?_;refine Wk.loop (σ:=List (Int × Int) × Nat × Int) (ρ:=List (Int × Int) × Nat) (γ:=Option Addr) (δ:=fun _=>Option Addr) _ (fun(s:List (Int × Int) × Nat × Int) (g:Option Addr)=>match s,g with | (l25,n27,v28),a26=>⟨.normal,[(0,.slice (some ⟨b9,o10,none⟩) l1.length c3),(5,.slice a26 n27 n27),(6,.int .i64 v28)],[.ro b9 o10 2 l1.length (l1.map (eP (eI .i64) (eI .i64))),.rd (some ⟨b9,o10,none⟩) c3 2 l1.length (l1.map (eP (eI .i64) (eI .i64))),.sl a26 2 n27 (l25.map (eP (eI .i64) (eI .i64)))]⟩) (fun(r:List (Int × Int) × Nat) (g:Option Addr)=>match r,g with | (l41,n43),a42=>⟨(.exit 0),[(5,.slice a42 n43 n43)],[.sl a42 2 n43 (l41.map (eP (eI .i64) (eI .i64)))]⟩) ?_ (fun _ _=>rfl) (fun r d=>by intro e; cases e) _ _ _ h52 (some ⟨b14,0,none⟩)
   clear hF h52;rintro⟨l25,n27,v28⟩ a26 r hF;unfold tD at hF;refine Wk.seq<|Wk.seq<|Wk.region<|Wo.od (aa rfl) rfl<|Wo.od (ak rfl rfl (bJ _ _ _)) rfl<|Wo.nil<|At.tn ?_;rcases ah hF with⟨h44,hF⟩|⟨h44,hF⟩
   ·refine Wk.aD rfl h44<|Wk.skip<|At.tn<|Wk.seq<|Wk.block<|Wk.region<|Wo.od (aa rfl) rfl<|Wo.od (aa rfl) rfl<|Wo.od (aa rfl) rfl ?_;obtain⟨h45,hF⟩:=al hF;replace h45:=av h45;refine Wo.og (bC ct rfl rfl h45) gn rfl ?_;obtain⟨⟨x46,x47⟩,h48,hF⟩:=J hF;refine Wo.od (bI (k:=0) az rfl rfl (aO h48) rfl rfl) rfl<|Wo.x (nD (es:=([(x46,x47)]:List (Int × Int)).map (eP (eI .i64) (eI .i64))) ct rfl (nA ct z33 rfl rfl) rfl rfl) gn rfl fun b49=>?_;obtain⟨h50,hF⟩:=al hF;refine Wo.x (kj (k:=3) (k2:=0) (xs:=(l25:List (Int × Int))) (ys:=([(x46,x47)]:List (Int × Int))) (Ae (pO .i64) (pO .i64)) ct ⟨_,fP⟩ rfl rfl rfl (.arr _ _ _ _ _) h50) gn rfl fun a51=>?_;refine Wo.od (ai rfl) rfl<|Wo.nil<|At.bn<|At.tn<|Wk.region<|Wo.od (aa rfl) rfl<|Wo.od (ak rfl rfl (aV _ _ _)) rfl<|Wo.od (ai rfl) rfl<|Wo.nil ?_;cases hF;exact At.en a51 rfl (sc rfl (sc rfl (sc rfl sn))) (ae.U [1,2,3] rfl rfl)
   ·refine Wk.aC rfl h44<|Wk.exit<|At.te ?_;cases hF;exact At.en a26 rfl (sc rfl sn) (ae.U [2] rfl rfl)
  ·clear h52;obtain⟨l41,n43⟩:=r53;rintro a42;refine At.be<|At.tn<|Wk.seq<|Wk.region<|Wo.od (aa rfl) rfl<|Wo.od (ai rfl) rfl<|Wo.od (ai rfl) rfl<|Wo.nil<|At.tn<|Wk.ret ?_;cases hF;exact At.ret (.tmp rfl (.tmp rfl .nil)) fun m' hm=>⟨(a42,n43),rfl,(ae.U [0] rfl rfl) m' hm⟩
theorem E9 (n:Nat) (l1:List (Nat)) (x5:Int) (x6:Int) (x7:Nat) (x8:Bool) (x9:Bool) (a0:Option Addr) (c0:Nat) (r:List (Int × Int)) (hF:GD n l1 x5 x6 x7 x8 x9=some r) (m:AMem) (h7:Rd m a0 c0 1 l1.length (l1.map (eN .u8))) :
  aR aK 12 [.agg #[.slice a0 l1.length c0,.int .i16 x5,.int .i16 x6,.int .u8 ((x7:Nat):Int),.bool x8,.bool x9]] m (fun v m'=>∃x:Option Addr × Nat,v = .slice x.1 x.2 x.2∧Hp m m' [.sl x.1 2 x.2 (r.map (eP (eI .i64) (eI .i64)))]):=by
 unfold GD at hF;refine aH (m0:=m) (ps:=[.rd a0 c0 1 l1.length (l1.map (eN .u8))]) (N:=54) (rs:=[.tmp 2]) rfl Tryz.func12 rfl rfl rfl ((Hp.start m).nC rfl h7)<|Wk.seq<|Wk.region<|Wo.x (cd rfl) gn rfl fun b0=>?_;refine Wo.od (ai rfl) rfl<|Wo.nil<|At.tn<|Wk.seq<|Wk.region<|Wo.od (aj (k:=0) zh rfl rfl rfl) rfl ?_;obtain⟨l2,h8,hF⟩:=J hF;refine Wo.x (bR rfl rfl (fun m hm=>EM n l1 x5 x6 x7 x8 x9 a0 c0 _ h8 m (hm.rd (k:=1) rfl (.rd _ _ _ _ _))) fun _=>rfl) gn rfl ?_;rintro⟨a1,n1⟩;refine Wo.len (k:=0) (xs:=l2) rfl ?_;rintro rfl;refine Wo.od (ai rfl) rfl<|Wo.nil<|At.tn<|Wk.seq<|Wk.region<|Wo.od (ay (r:=ptr b0 3) rfl (FA _ _)) rfl<|Wo.od (aj (k:=1) Ej rfl rfl rfl) rfl<|Wo.od (nB rfl (nj (by rw[u5]; rfl) u3)) rfl<|Wo.od (ak rfl rfl (aB _ _ _)) rfl<|Wo.od (ai rfl) rfl<|Wo.nil<|At.tn<|Wk.seq<|Wk.seq<|Wk.region<|Wo.od (ai rfl) rfl<|Wo.nil<|At.tn<|Wk.block ?_
 obtain⟨l3,h1,hF⟩:=J hF;refine Wk.cut (G:=(fun(r:List (Int × Int)) (g:Unit)=>match r,g with|l3,_=>⟨(.exit 0),[(1,ptr b0 0),(3,.slice a1 l2.length l2.length)],[.obj b0 (.cells [.slice a0 l1.length c0,.int .i16 x5,.int .i16 x6,.int .u8 ((x7:Nat):Int),.bool x8,.bool x9] .own),.rd a0 c0 1 l1.length (l1.map (eN .u8)),.sl a1 2 l2.length (l3.map (eP (eI .i64) (eI .i64)))]⟩) l3) ?_ ?_
 ·refine Wk.ep (fs':=[(1,ptr b0 0),(3,.slice a1 l2.length l2.length),(4,.int .i64 (IntKind.wrap .i64 (1+(IntKind.wrap .i64 ((x7:Nat):Int))))),(5,.int .i64 0)]) (ps':=[.obj b0 (.cells [.slice a0 l1.length c0,.int .i16 x5,.int .i16 x6,.int .u8 ((x7:Nat):Int),.bool x8,.bool x9] .own),.rd a0 c0 1 l1.length (l1.map (eN .u8)),.sl a1 2 l2.length (l2.map (eP (eI .i64) (eI .i64)))]) (sc rfl (sc rfl (sc rfl (sc rfl sn)))) (ae.U [1,2,0] rfl rfl) ?_;refine Wk.loop (σ:=List (Int × Int) × Int × Int) (ρ:=List (Int × Int)) (γ:=Unit) (δ:=fun _=>Unit) _ (fun(s:List (Int × Int) × Int × Int) (g:Unit)=>match s,g with | (l4,v1,v0),_=>⟨.normal,[(1,ptr b0 0),(3,.slice a1 l2.length l2.length),(4,.int .i64 v1),(5,.int .i64 v0)],[.obj b0 (.cells [.slice a0 l1.length c0,.int .i16 x5,.int .i16 x6,.int .u8 ((x7:Nat):Int),.bool x8,.bool x9] .own),.rd a0 c0 1 l1.length (l1.map (eN .u8)),.sl a1 2 l2.length (l4.map (eP (eI .i64) (eI .i64)))]⟩) (fun(r:List (Int × Int)) (g:Unit)=>match r,g with|l3,_=>⟨(.exit 0),[(1,ptr b0 0),(3,.slice a1 l2.length l2.length)],[.obj b0 (.cells [.slice a0 l1.length c0,.int .i16 x5,.int .i16 x6,.int .u8 ((x7:Nat):Int),.bool x8,.bool x9] .own),.rd a0 c0 1 l1.length (l1.map (eN .u8)),.sl a1 2 l2.length (l3.map (eP (eI .i64) (eI .i64)))]⟩) ?_ (fun _ _=>rfl) (fun r d=>by intro e; cases e) _ _ _ h1 ()
  clear hF h1;rintro⟨l4,v1,v0⟩ ⟨⟩ r hF;unfold qz at hF;refine Wk.seq<|Wk.seq<|Wk.region<|Wo.od (aa rfl) rfl<|Wo.od (aa rfl) rfl<|Wo.od (da (k:=2) fP rfl rfl (.inl rfl)) rfl<|Wo.od (ak rfl rfl (aS _ _ _)) rfl<|Wo.nil<|At.tn ?_;rcases ah hF with⟨h2,hF⟩|⟨h2,hF⟩
  ·refine Wk.aD rfl h2<|Wk.skip<|At.tn<|Wk.seq<|Wk.block<|Wk.draw (by kernel_rfl)<|Wo.od (aa rfl) rfl<|Wo.od (aa rfl) rfl<|Wo.od (aa rfl) rfl<|Wo.od (aa rfl) rfl ?_
   obtain⟨h0,hF⟩:=al hF;replace h0:=av h0;refine Wo.open (k:=2) rfl (bP h0) ?_;rintro b3 t0 rfl h13;refine Wo.og (fc ct rfl rfl h0) gn rfl<|Wo.od (ay (r:=ptr b3 (v0.toNat*2+0)) rfl (aQ _ _)) rfl ?_;obtain⟨⟨x3,x4⟩,h3,hF⟩:=J hF;refine Wo.od (gz (k:=2) bg rfl rfl (aO h3) rfl rfl) rfl<|Wo.od (aa rfl) rfl<|Wo.od (ak rfl rfl (bQ _ _ _)) rfl<|Wo.od (ay (r:=ptr b0 1) rfl (ra _ _)) rfl<|Wo.od (kU (r:=ptr b0 1) rfl rfl (mC C7 (i:=0) (by decide))) rfl<|Wo.od (aj (k:=0) CO rfl rfl rfl) rfl<|Wo.od (nB rfl (nj (by rw[HN]; rfl) u3)) rfl ?_
   obtain⟨y0,h9,hF⟩:=J hF;refine Wo.od (ak rfl rfl ((aB _ _ _).trans (cI h9))) rfl<|Wo.od (aa rfl) rfl<|Wo.od (aa rfl) rfl ?_;obtain⟨h4,hF⟩:=al hF;replace h4:=av h4;refine Wo.og (fc ct rfl rfl h4) gn rfl<|Wo.od (ay (r:=ptr b3 (v0.toNat*2+1)) rfl (aF _ _)) rfl<|Wo.od (gz (k:=2) bg rfl rfl (aO h3) rfl rfl) rfl<|Wo.od (aa rfl) rfl<|Wo.od (ak rfl rfl (bQ _ _ _)) rfl<|Wo.od (ay (r:=ptr b0 1) rfl (ra _ _)) rfl<|Wo.od (kU (r:=ptr b0 2) rfl rfl (mC C7 (i:=1) (by decide))) rfl<|Wo.od (aj (k:=0) CO rfl rfl rfl) rfl<|Wo.od (nB rfl (nj (by rw[HN]; rfl) u3)) rfl ?_
   obtain⟨y1,h10,hF⟩:=J hF;refine Wo.od (ak rfl rfl ((aB _ _ _).trans (cI h10))) rfl<|Wo.od (dK rfl z33 rfl (dI gb rfl rfl rfl)) rfl ?_;obtain⟨h5,hF⟩:=al hF;replace h5:=av h5;refine Wo.og (fc ct rfl rfl h5) gn rfl<|Wo.o0 (j6 (k:=2) (x1:=(x3,x4)) (x2:=(y0,y1)) az rfl rfl rfl h3 rfl)<|Wo.nil<|At.bn<|At.tn<|Wk.region<|Wo.od (aa rfl) rfl<|Wo.od (ak rfl rfl (aB _ _ _)) rfl<|Wo.od (ai rfl) rfl<|Wo.nil ?_;cases hF;exact At.en () rfl (sc rfl (sc rfl (sc rfl (sc rfl sn)))) (ae.trans (ae.close (k:=2) rfl) (ae.U [0,1,2] rfl rfl))
  ·refine Wk.aC rfl h2<|Wk.exit<|At.te ?_;cases hF;exact At.en () rfl (sc rfl (sc rfl sn)) (ae.U [0,1,2] rfl rfl)
 ·clear h1;rintro⟨⟩;refine At.be<|At.tn<|Wk.seq ?_;obtain⟨r0,h11,hF⟩:=J hF;refine Wk.cut (G:=(fun(r:List (Int × Int) × Nat) (g:Option Addr)=>match r,g with | (l5,n0),a2=>⟨.normal,[(3,.slice a2 n0 n0)],[.sl a2 2 n0 (l5.map (eP (eI .i64) (eI .i64)))]⟩) r0) ?_ ?_
  ·clear hF;revert r0;intro r hF;refine Wk.seq<|Wk.region<|Wo.od (ay (r:=ptr b0 5) rfl (Eh _ _)) rfl<|Wo.od (aj (k:=0) HD rfl rfl rfl) rfl<|Wo.nil<|At.tn ?_;rcases ah hF with⟨h6,hF⟩|⟨h6,hF⟩
   ·refine Wk.aD rfl h6<|Wk.region<|Wo.od (aa rfl) rfl ?_;obtain⟨⟨l6,r1⟩,h12,hF⟩:=J hF;have hFx:=hF;refine Wo.len (k:=2) (xs:=(l3:List (Int × Int))) rfl ?_;generalize l2.length=nN;rintro rfl;replace hF:=hFx;clear hFx;refine Wo.x (bR rfl rfl (fun m hm=>Bj n l3 a1 l3.length _ h12 m (hm.rd (k:=2) rfl (.sl _ _ _ _))) fun _=>rfl) gn rfl ?_;rintro⟨a3,n2⟩;refine Wo.len (k:=0) (xs:=l6) rfl ?_;rintro rfl;refine Wo.od (aa rfl) rfl<|Wo.od (gh rfl rfl) rfl<|Wo.od (gh rfl rfl) rfl<|Wo.od (ai rfl) rfl<|Wo.nil ?_;cases hF;exact At.en a3 rfl (sc rfl sn) (ae.U [0] rfl rfl)
   ·refine Wk.aC rfl h6<|Wk.skip ?_;cases hF;exact At.en a1 rfl (sc rfl sn) (ae.U [2] rfl rfl)
  ·clear h11;obtain⟨l5,n0⟩:=r0;rintro a2;refine At.tn<|Wk.seq<|Wk.region<|Wo.od (aa rfl) rfl<|Wo.od (ai rfl) rfl<|Wo.nil<|At.tn<|Wk.ret ?_;have hr:=Option.some.inj hF;subst r;exact At.ret (.tmp rfl .nil) fun m' hm=>⟨(a2,n0),rfl,(ae.U [0] rfl rfl) m' hm⟩
theorem z2 (n:Nat) (x1:Nat) (x2:Nat) (x4:Nat) (x3:Int) (x5:Int) (l1:List (Int × Int)) (a2:Option Addr) (c1:Nat) (r:List (Int × Int)) (hF:Ga n x1 x2 x4 x3 x5 l1=some r) (m:AMem) {H:Nat→Prop} (hH:∀b,H b→b<m.next) (h26:Rd m a2 c1 2 l1.length (l1.map (eP (eI .i64) (eI .i64)))) (h27:∀b,kT a2=some b→¬H b) :
  aR aK 67 [.agg #[.int .u8 ((x1:Nat):Int),.int .u8 ((x2:Nat):Int),.int .u8 ((x4:Nat):Int),.int .i64 x3,.int .i64 x5],.slice a2 l1.length c1] m (fun v m'=>∃x:Option Addr × Nat × Nat,v = .slice x.1 x.2.2 x.2.1∧Hp m m' [.rd x.1 x.2.1 2 x.2.2 (r.map (eP (eI .i64) (eI .i64))),.gen (jO H)]):=by
 unfold Ga at hF;refine aH (m0:=m) (ps:=[.rd a2 c1 2 l1.length (l1.map (eP (eI .i64) (eI .i64))),.gen (jO H)]) (N:=166) (rs:=[.tmp 4]) rfl Tryz.func67 rfl rfl rfl (Hp.BW (l0:=[]) (Hp.wF m hH) rfl h26 h27)<|Wk.seq<|Wk.region<|Wo.x (cd rfl) gn rfl fun b0=>?_;refine Wo.od (ai rfl) rfl<|Wo.nil<|At.tn<|Wk.seq<|Wk.region<|Wo.x (nD (es:=([]:List (Int × Int)).map (eP (eI .i64) (eI .i64))) ct rfl (nA ct z33 rfl rfl) rfl rfl) gn rfl fun b11=>?_;refine Wo.od (aa rfl) rfl<|Wo.od (aa rfl) rfl<|Wo.od (da (k:=2) fP rfl rfl (.inl rfl)) rfl<|Wo.od (gP rfl rfl (iX _ _)) rfl ?_;obtain⟨h28,hF⟩:=al hF;refine Wo.x (sY (k:=2) (lo:=0) (hi:=mi (l1.length:Int) (50:Int)) ct rfl rfl rfl rfl h28 (.inl ⟨rfl,rfl⟩) (.inr ⟨_,rfl⟩)) gn rfl ?_;rintro⟨a9,c3⟩;obtain⟨h29,hF⟩:=al hF;refine Wo.iN (ae.close (k:=1) rfl)<|Wo.x (kj (k:=1) (k2:=0) (xs:=([]:List (Int × Int))) (ys:=(((l1.drop (0:Int).toNat).take ((mi (l1.length:Int) (50:Int):Int).toNat-(0:Int).toNat)):List (Int × Int))) (Ae (pO .i64) (pO .i64)) ct ⟨_,fP⟩ rfl rfl rfl (.rd _ _ _ _ _) h29) gn rfl fun a1=>?_;refine Wo.od (ai rfl) rfl<|Wo.nil<|At.tn<|Wk.seq<|Wk.region<|Wo.od (aa rfl) rfl<|Wo.od (da (k:=1) fP rfl rfl (.inl rfl)) rfl<|Wo.od (ai rfl) rfl<|Wo.nil<|At.tn<|Wk.seq<|Wk.seq<|Wk.region<|Wo.od (aa rfl) rfl<|Wo.od (ak rfl rfl (dh _ _ _)) rfl<|Wo.nil<|At.tn ?_;rcases ah hF with⟨h5,hF⟩|⟨h5,hF⟩
 ·refine Wk.aD rfl h5<|Wk.seq<|Wk.region<|Wo.od (aa rfl) rfl<|Wo.od (ai rfl) rfl<|Wo.nil<|At.tn<|Wk.ret<|At.tr ?_;cases hF;exact At.ret (.tmp rfl .nil) fun m' hm=>⟨(a1,((([]:List (Int × Int))++((l1.drop (0:Int).toNat).take ((mi (l1.length:Int) (50:Int):Int).toNat-(0:Int).toNat))).length),((([]:List (Int × Int))++((l1.drop (0:Int).toNat).take ((mi (l1.length:Int) (50:Int):Int).toNat-(0:Int).toNat))).length)),rfl,(ae.trans (ae.freeze (k:=1) rfl) (ae.U [1,4] rfl rfl)) m' hm⟩
 ·refine Wk.aC rfl h5<|Wk.skip<|At.tn<|Wk.seq<|Wk.draw (by kernel_rfl)<|Wo.od (ay (r:=ptr b0 1) rfl (zG _ _)) rfl<|Wo.od (aj (k:=2) Ej rfl rfl rfl) rfl<|Wo.od (nB rfl (nj (by rw[u5]; rfl) u3)) rfl<|Wo.od (aa rfl) rfl ?_
  obtain⟨h30,hF⟩:=al hF;obtain⟨y0,h31,hF⟩:=J hF;refine Wo.od (ak rfl rfl ((cC _ _ h30).trans (cI h31))) rfl<|Wo.od (ay (r:=ptr b0 2) rfl (Au _ _)) rfl<|Wo.od (aj (k:=2) Ej rfl rfl rfl) rfl<|Wo.od (nB rfl (nj (by rw[u5]; rfl) u3)) rfl<|Wo.od (aa rfl) rfl ?_
  obtain⟨h32,hF⟩:=al hF;obtain⟨y3,h33,hF⟩:=J hF;refine Wo.od (ak rfl rfl ((cC _ _ h32).trans (cI h33))) rfl<|Wo.od (ai rfl) rfl<|Wo.od (ai rfl) rfl<|Wo.nil<|At.tn<|Wk.seq ?_;obtain⟨r0,h34,hF⟩:=J hF;refine Wk.cut (G:=(fun(r:List (Int × Int) × Nat) (g:Option Addr × Nat)=>match r,g with | (l4,n0),(a3,c0)=>⟨.normal,[(5,.slice a3 n0 c0)],[.rd a3 c0 2 n0 (l4.map (eP (eI .i64) (eI .i64))),.gen (jO H)]⟩) r0) ?_ ?_
  ·clear hF;revert r0;intro r hF;refine Wk.seq<|Wk.region<|Wo.od (ay (r:=ptr b0 0) rfl (EY _ _)) rfl<|Wo.od (aj (k:=2) Ej rfl rfl rfl) rfl<|Wo.od (ak rfl rfl (zV _ _ (by decide))) rfl<|Wo.nil<|At.tn<|Wk.block<|Wk.seq<|Wk.region<|Wo.od (ak rfl rfl (jn _ _)) rfl<|Wo.od (ai rfl) rfl<|Wo.nil<|At.tn ?_
   rcases ah hF with⟨h6,hF⟩|⟨h6,hF⟩
   ·refine Wk.aD rfl h6<|Wk.region<|Wo.od (aa rfl) rfl<|Wo.od (aa rfl) rfl<|Wo.od (ay (r:=ptr b0 3) rfl (Ad _ _)) rfl<|Wo.od (aj (k:=2) az rfl rfl rfl) rfl ?_;obtain⟨h0,hF⟩:=al hF;replace h0:=av h0;refine Wo.open (k:=1) rfl (bP h0) ?_;rintro b7 t0 rfl h55;refine Wo.og (fc ct rfl rfl h0) gn rfl ?_;obtain⟨⟨x15,x16⟩,h35,hF⟩:=J hF;refine Wo.o0 (j6 (k:=1) (x1:=(x15,x16)) (x2:=(x3,x5)) az rfl rfl rfl h35 rfl)<|Wo.nil<|At.bn ?_;cases hF;exact At.en ((some ⟨b7,0,none⟩),(([]:List (Int × Int))++((l1.drop (0:Int).toNat).take ((mi (l1.length:Int) (50:Int):Int).toNat-(0:Int).toNat))).length) rfl (sc rfl sn) (ae.trans (ae.close (k:=1) rfl) (ae.trans (ae.freeze (k:=1) rfl) (ae.U [1,4] rfl rfl)))
   ·refine Wk.aC rfl h6<|Wk.seq<|Wk.region<|Wo.od (ak rfl rfl (jn _ _)) rfl<|Wo.od (ai rfl) rfl<|Wo.nil<|At.tn ?_;rcases ah hF with⟨h7,hF⟩|⟨h7,hF⟩
    ·refine Wk.aD rfl h7<|Wk.region<|Wo.od (aa rfl) rfl<|Wo.od (aa rfl) rfl<|Wo.od (aa rfl) rfl<|Wo.od (aa rfl) rfl ?_;obtain⟨h1,hF⟩:=al hF;replace h1:=av h1;refine Wo.open (k:=1) rfl (bP h1) ?_;rintro b8 t3 rfl h56;refine Wo.og (fc ct rfl rfl h1) gn rfl ?_;obtain⟨⟨x17,x18⟩,h36,hF⟩:=J hF;refine Wo.od (gz (k:=1) az rfl rfl (aO h36) rfl rfl) rfl ?_;obtain⟨h8,hF⟩:=al hF;replace h8:=av h8;refine Wo.og (fc ct rfl rfl h8) gn rfl ?_;obtain⟨⟨x19,x20⟩,h37,hF⟩:=J hF;refine Wo.o0 (j6 (k:=1) (x1:=(x19,x20)) (x2:=(x17,x18)) az rfl rfl rfl h37 rfl)<|Wo.nil<|At.bn ?_;cases hF;exact At.en ((some ⟨b8,0,none⟩),(([]:List (Int × Int))++((l1.drop (0:Int).toNat).take ((mi (l1.length:Int) (50:Int):Int).toNat-(0:Int).toNat))).length) rfl (sc rfl sn) (ae.trans (ae.close (k:=1) rfl) (ae.trans (ae.freeze (k:=1) rfl) (ae.U [1,4] rfl rfl)))
    ·refine Wk.aC rfl h7<|Wk.seq<|Wk.region<|Wo.od (ak rfl rfl (jn _ _)) rfl<|Wo.od (ai rfl) rfl<|Wo.nil<|At.tn ?_;rcases ah hF with⟨h9,hF⟩|⟨h9,hF⟩
     ·refine Wk.aD rfl h9<|Wk.draw (by kernel_rfl)<|Wo.od (aa rfl) rfl<|Wo.od (aa rfl) rfl<|Wo.od (aa rfl) rfl<|Wo.od (aa rfl) rfl<|Wo.od (aa rfl) rfl<|Wo.od (aa rfl) rfl ?_
      obtain⟨h2,hF⟩:=al hF;replace h2:=av h2;refine Wo.open (k:=1) rfl (bP h2) ?_;rintro b9 t4 rfl h57;refine Wo.og (fc ct rfl rfl h2) gn rfl ?_;obtain⟨⟨x21,x22⟩,h38,hF⟩:=J hF;refine Wo.od (gz (k:=1) az rfl rfl (aO h38) rfl rfl) rfl<|Wo.od (aa rfl) rfl<|Wo.od (aa rfl) rfl ?_;obtain⟨h10,hF⟩:=al hF;replace h10:=av h10;refine Wo.og (fc ct rfl rfl h10) gn rfl ?_;obtain⟨⟨x11,x12⟩,h25,hF⟩:=J hF;refine Wo.od (gz (k:=1) az rfl rfl (aO h25) rfl rfl) rfl ?_;obtain⟨h11,hF⟩:=al hF;replace h11:=av h11;refine Wo.og (fc ct rfl rfl h11) gn rfl<|Wo.o0 (j6 (k:=1) (x1:=(x11,x12)) (x2:=(x21,x22)) az rfl rfl rfl h25 rfl) ?_;obtain⟨h12,hF⟩:=al hF;replace h12:=av h12;refine Wo.og (fc ct rfl rfl h12) gn rfl ?_;obtain⟨⟨x23,x24⟩,h39,hF⟩:=J hF;refine Wo.o0 (j6 (k:=1) (x1:=(x23,x24)) (x2:=(x11,x12)) az rfl rfl rfl h39 rfl)<|Wo.nil<|At.bn ?_;cases hF;exact At.en ((some ⟨b9,0,none⟩),(([]:List (Int × Int))++((l1.drop (0:Int).toNat).take ((mi (l1.length:Int) (50:Int):Int).toNat-(0:Int).toNat))).length) rfl (sc rfl sn) (ae.trans (ae.close (k:=1) rfl) (ae.trans (ae.freeze (k:=1) rfl) (ae.U [1,4] rfl rfl)))
     ·refine Wk.aC rfl h9<|Wk.seq<|Wk.region<|Wo.od (ak rfl rfl (jn _ _)) rfl<|Wo.od (ai rfl) rfl<|Wo.nil<|At.tn ?_;rcases ah hF with⟨h13,hF⟩|⟨h13,hF⟩
      ·refine Wk.aD rfl h13<|Wk.region<|Wo.od (aa rfl) rfl<|Wo.od (aa rfl) rfl ?_;obtain⟨h40,hF⟩:=al hF;refine Wo.iN (ae.freeze (k:=1) rfl)<|Wo.x (sY (k:=1) (lo:=0) (hi:=y0) ct rfl rfl rfl rfl h40 (.inl ⟨rfl,rfl⟩) (.inr ⟨_,rfl⟩)) gn rfl ?_;rintro⟨a5,c2⟩;refine Wo.od (ai rfl) rfl<|Wo.nil<|At.bn ?_;cases hF;exact At.en (a5,c2) rfl (sc rfl sn) (ae.U [0,5] rfl rfl)
      ·refine Wk.aC rfl h13<|Wk.seq<|Wk.region<|Wo.od (ak rfl rfl (jn _ _)) rfl<|Wo.od (ai rfl) rfl<|Wo.nil<|At.tn ?_;rcases ah hF with⟨h14,hF⟩|⟨h14,hF⟩
       ·refine Wk.aD rfl h14<|Wk.region<|Wo.od (aa rfl) rfl<|Wo.od (ay (r:=ptr b0 3) rfl (Ad _ _)) rfl<|Wo.od (aj (k:=2) az rfl rfl rfl) rfl<|Wo.x (nD (es:=([(x3,x5)]:List (Int × Int)).map (eP (eI .i64) (eI .i64))) ct rfl (nA ct z33 rfl rfl) rfl rfl) gn rfl fun b12=>?_;obtain⟨h41,hF⟩:=al hF;refine Wo.x (kj (k:=2) (k2:=0) (xs:=((([]:List (Int × Int))++((l1.drop (0:Int).toNat).take ((mi (l1.length:Int) (50:Int):Int).toNat-(0:Int).toNat))):List (Int × Int))) (ys:=([(x3,x5)]:List (Int × Int))) (Ae (pO .i64) (pO .i64)) ct ⟨_,fP⟩ rfl rfl rfl (.arr _ _ _ _ _) h41) gn rfl fun a6=>?_;refine Wo.od (ai rfl) rfl<|Wo.nil<|At.bn ?_;cases hF;exact At.en (a6,((([]:List (Int × Int))++((l1.drop (0:Int).toNat).take ((mi (l1.length:Int) (50:Int):Int).toNat-(0:Int).toNat)))++[(x3,x5)]).length) rfl (sc rfl sn) (ae.trans (ae.freeze (k:=2) rfl) (ae.U [2,5] rfl rfl))
       ·refine Wk.aC rfl h14<|Wk.seq<|Wk.region<|Wo.od (ak rfl rfl (jn _ _)) rfl<|Wo.od (ai rfl) rfl<|Wo.nil<|At.tn ?_;rcases ah hF with⟨h15,hF⟩|⟨h15,hF⟩
        ·refine Wk.aD rfl h15<|Wk.seq<|Wk.eH (prs:=[(10,13)]) (by kernel_rfl)<|Wn.od (aa rfl) rfl<|Wn.od (aa rfl) rfl ?_
         obtain⟨h3,hF⟩:=al hF;replace h3:=av h3;refine Wn.open (k:=1) rfl (bP h3) ?_;rintro b4 t5 rfl h58;refine Wn.og (fc ct rfl rfl h3) gn rfl ?_;obtain⟨⟨x26,x27⟩,h42,hF⟩:=J hF;refine Wn.od (gz (k:=1) az rfl rfl (aO h42) rfl rfl) rfl<|Wn.od (aa rfl) rfl<|Wn.od (aa rfl) rfl<|Wn.od (ak rfl rfl (aB _ _ _)) rfl<|Wn.od (aa rfl) rfl ?_;obtain⟨h43,hF⟩:=al hF;obtain⟨y4,h44,hF⟩:=J hF;refine Wn.od (ak rfl rfl ((cC _ _ h43).trans (cI h44))) rfl ?_;obtain⟨h16,hF⟩:=al hF;replace h16:=av h16;refine Wn.og (fc ct rfl rfl h16) gn rfl ?_;obtain⟨⟨x28,x29⟩,h45,hF⟩:=J hF;refine Wn.FV rfl (gz (k:=1) az rfl rfl (aO h45) rfl rfl) rfl<|Wn.x (cL z33 rfl) gn rfl fun b5=>?_;refine Wn.x (cL z33 rfl) gn rfl fun b6=>?_;refine Wn.Gc rfl (bB (k:=1) az rfl rfl rfl rfl rfl)<|Wn.o0 (bB (k:=0) az rfl rfl rfl rfl rfl)<|Wn.nil (fun m hm=>(eG.rw rfl rfl rfl (hm.ne (i:=3) (j:=1) rfl rfl rfl rfl (by decide) rfl) eG.nil))<|At.tn<|Wk.seq<|Wk.region<|Wo.od (ay (r:=ptr b5 0) rfl (aQ _ _)) rfl<|Wo.od (aj (k:=1) bg rfl rfl rfl) rfl<|Wo.od (ak rfl rfl (je _ _ (by decide))) rfl<|Wo.od (ay (r:=ptr b6 0) rfl (aQ _ _)) rfl<|Wo.od (aj (k:=0) bg rfl rfl rfl) rfl<|Wo.od (ak rfl rfl (je _ _ (by decide))) rfl ?_
         obtain⟨y1,h46,hF⟩:=J hF;refine Wo.od (ak rfl rfl ((aB _ _ _).trans (cI h46))) rfl<|Wo.od (ay (r:=ptr b5 1) rfl (aF _ _)) rfl<|Wo.od (aj (k:=1) bg rfl rfl rfl) rfl<|Wo.od (ak rfl rfl (je _ _ (by decide))) rfl<|Wo.od (ay (r:=ptr b6 1) rfl (aF _ _)) rfl<|Wo.od (aj (k:=0) bg rfl rfl rfl) rfl<|Wo.od (ak rfl rfl (je _ _ (by decide))) rfl ?_
         obtain⟨y2,h47,hF⟩:=J hF;refine Wo.od (ak rfl rfl ((aB _ _ _).trans (cI h47))) rfl<|Wo.od (dK rfl z33 rfl (dI gb rfl rfl rfl)) rfl<|Wo.x (cL z33 rfl) gn rfl fun b10=>?_;refine Wo.o0 (bB (k:=0) az rfl rfl rfl rfl rfl)<|Wo.nil<|At.tn<|Wk.eH (prs:=[(5,6),(5,12),(8,12)]) (by kernel_rfl)<|Wn.x (nD (es:=([]:List (Int × Int)).map (eP (eI .i64) (eI .i64))) ct rfl (nA ct z33 rfl rfl) rfl rfl) gn rfl fun b13=>?_
         refine Wn.od (aa rfl) rfl<|Wn.od (aa rfl) rfl<|Wn.od (ak rfl rfl (aB _ _ _)) rfl ?_;obtain⟨h48,hF⟩:=al hF;refine Wn.iN (ae.close (k:=5) rfl)<|Wn.iN (ae.freeze (k:=5) rfl)<|Wn.x (sY (k:=5) (lo:=0) (hi:=IntKind.wrap .i64 (y0+1)) ct rfl rfl rfl rfl h48 (.inl ⟨rfl,rfl⟩) (.inr ⟨_,rfl⟩)) gn rfl ?_;rintro⟨a10,c4⟩;obtain⟨h49,hF⟩:=al hF;refine Wn.iN (ae.close (k:=1) rfl)<|Wn.ID [some b10,kT (some ⟨b4,0,none⟩)] (kj (k:=1) (k2:=0) (xs:=([]:List (Int × Int))) (ys:=((((([]:List (Int × Int))++((l1.drop (0:Int).toNat).take ((mi (l1.length:Int) (50:Int):Int).toNat-(0:Int).toNat))).drop (0:Int).toNat).take ((IntKind.wrap .i64 (y0+1):Int).toNat-(0:Int).toNat)):List (Int × Int))) (Ae (pO .i64) (pO .i64)) ct ⟨_,fP⟩ rfl rfl rfl (.rd _ _ _ _ _) h49) rfl ⟨⟨1,2,_,_,rfl,rfl,rfl,.inl rfl,rfl,by decide⟩,⟨⟨1,6,_,_,rfl,rfl,rfl,.inl rfl,rfl,by decide⟩,trivial⟩⟩ gn rfl fun a11=>?_
         refine Wn.FV rfl (aj (k:=2) az rfl rfl rfl) rfl<|Wn.x (nD (es:=([(y1,y2)]:List (Int × Int)).map (eP (eI .i64) (eI .i64))) ct rfl (nA ct z33 rfl rfl) rfl rfl) gn rfl fun b14=>?_;obtain⟨h50,hF⟩:=al hF;refine Wn.ID [kT (some ⟨b4,0,none⟩)] (kj (k:=2) (k2:=0) (xs:=((([]:List (Int × Int))++(((([]:List (Int × Int))++((l1.drop (0:Int).toNat).take ((mi (l1.length:Int) (50:Int):Int).toNat-(0:Int).toNat))).drop (0:Int).toNat).take ((IntKind.wrap .i64 (y0+1):Int).toNat-(0:Int).toNat))):List (Int × Int))) (ys:=([(y1,y2)]:List (Int × Int))) (Ae (pO .i64) (pO .i64)) ct ⟨_,fP⟩ rfl rfl rfl (.arr _ _ _ _ _) h50) rfl ⟨⟨2,7,_,_,rfl,rfl,rfl,.inl rfl,rfl,by decide⟩,trivial⟩ gn rfl fun a12=>?_
         refine Wn.od (aa rfl) rfl<|Wn.od (aa rfl) rfl<|Wn.od (ak rfl rfl (aB _ _ _)) rfl ?_;obtain⟨h51,hF⟩:=al hF;refine Wn.xr rfl (sY (k:=7) (lo:=IntKind.wrap .i64 (y0+1)) (hi:=((([]:List (Int × Int))++((l1.drop (0:Int).toNat).take ((mi (l1.length:Int) (50:Int):Int).toNat-(0:Int).toNat))).length:Int)) ct rfl rfl rfl rfl h51 (.inr ⟨_,rfl⟩) (.inl ⟨rfl,rfl⟩)) gn rfl ?_;rintro⟨a13,c5⟩;obtain⟨h52,hF⟩:=al hF;refine Wn.x (kj (k:=3) (k2:=0) (xs:=(((([]:List (Int × Int))++(((([]:List (Int × Int))++((l1.drop (0:Int).toNat).take ((mi (l1.length:Int) (50:Int):Int).toNat-(0:Int).toNat))).drop (0:Int).toNat).take ((IntKind.wrap .i64 (y0+1):Int).toNat-(0:Int).toNat)))++[(y1,y2)]):List (Int × Int))) (ys:=((((([]:List (Int × Int))++((l1.drop (0:Int).toNat).take ((mi (l1.length:Int) (50:Int):Int).toNat-(0:Int).toNat))).drop (IntKind.wrap .i64 (y0+1):Int).toNat).take ((((([]:List (Int × Int))++((l1.drop (0:Int).toNat).take ((mi (l1.length:Int) (50:Int):Int).toNat-(0:Int).toNat))).length:Int):Int).toNat-(IntKind.wrap .i64 (y0+1):Int).toNat)):List (Int × Int))) (Ae (pO .i64) (pO .i64)) ct ⟨_,fP⟩ rfl rfl rfl (.rd _ _ _ _ _) h52) gn rfl fun a7=>?_;refine Wn.od (ai rfl) rfl<|Wn.nil (fun m hm=>(eG.ar rfl rfl rfl (by simp) (eG.an rfl rfl rfl (by simp) (eG.an rfl rfl rfl (by simp) eG.nil))))<|At.bn ?_
         cases hF;exact At.en (a7,(((([]:List (Int × Int))++(((([]:List (Int × Int))++((l1.drop (0:Int).toNat).take ((mi (l1.length:Int) (50:Int):Int).toNat-(0:Int).toNat))).drop (0:Int).toNat).take ((IntKind.wrap .i64 (y0+1):Int).toNat-(0:Int).toNat)))++[(y1,y2)])++(((([]:List (Int × Int))++((l1.drop (0:Int).toNat).take ((mi (l1.length:Int) (50:Int):Int).toNat-(0:Int).toNat))).drop (IntKind.wrap .i64 (y0+1):Int).toNat).take ((((([]:List (Int × Int))++((l1.drop (0:Int).toNat).take ((mi (l1.length:Int) (50:Int):Int).toNat-(0:Int).toNat))).length:Int):Int).toNat-(IntKind.wrap .i64 (y0+1):Int).toNat))).length) rfl (sc rfl sn) (ae.trans (ae.freeze (k:=3) rfl) (ae.U [3,11] rfl rfl))
        ·refine Wk.aC rfl h15<|Wk.seq<|Wk.region<|Wo.od (ak rfl rfl (jn _ _)) rfl<|Wo.od (ai rfl) rfl<|Wo.nil<|At.tn ?_;rcases ah hF with⟨h17,hF⟩|⟨h17,hF⟩
         ·refine Wk.aD rfl h17<|Wk.block ?_;obtain⟨l2,h18,hF⟩:=J hF;refine Wk.cut (G:=(fun(r:List (Int × Int)) (g:Option Addr)=>match r,g with|l2,a0=>⟨(.exit 1),[(5,.slice a0 l2.length l2.length)],[.sl a0 2 l2.length (l2.map (eP (eI .i64) (eI .i64))),.gen (jO H)]⟩) l2) ?_ ?_
          ·refine Wk.ep (fs':=[(2,ptr b0 0),(5,.slice a1 (([]:List (Int × Int))++((l1.drop (0:Int).toNat).take ((mi (l1.length:Int) (50:Int):Int).toNat-(0:Int).toNat))).length (([]:List (Int × Int))++((l1.drop (0:Int).toNat).take ((mi (l1.length:Int) (50:Int):Int).toNat-(0:Int).toNat))).length)]) (ps':=[.obj b0 (.cells [.int .u8 ((x1:Nat):Int),.int .u8 ((x2:Nat):Int),.int .u8 ((x4:Nat):Int),.int .i64 x3,.int .i64 x5] .own),.sl a1 2 (([]:List (Int × Int))++((l1.drop (0:Int).toNat).take ((mi (l1.length:Int) (50:Int):Int).toNat-(0:Int).toNat))).length ((([]:List (Int × Int))++((l1.drop (0:Int).toNat).take ((mi (l1.length:Int) (50:Int):Int).toNat-(0:Int).toNat))).map (eP (eI .i64) (eI .i64))),.gen (jO H)]) (sc rfl (sc rfl sn)) (ae.U [2,1,4] rfl rfl) ?_;refine Wk.loop (σ:=List (Int × Int)) (ρ:=List (Int × Int)) (γ:=Option Addr) (δ:=fun _=>Option Addr) _ (fun(s:List (Int × Int)) (g:Option Addr)=>match s,g with|l3,a4=>⟨.normal,[(2,ptr b0 0),(5,.slice a4 l3.length l3.length)],[.obj b0 (.cells [.int .u8 ((x1:Nat):Int),.int .u8 ((x2:Nat):Int),.int .u8 ((x4:Nat):Int),.int .i64 x3,.int .i64 x5] .own),.sl a4 2 l3.length (l3.map (eP (eI .i64) (eI .i64))),.gen (jO H)]⟩) (fun(r:List (Int × Int)) (g:Option Addr)=>match r,g with|l2,a0=>⟨(.exit 1),[(5,.slice a0 l2.length l2.length)],[.sl a0 2 l2.length (l2.map (eP (eI .i64) (eI .i64))),.gen (jO H)]⟩) ?_ (fun _ _=>rfl) (fun r d=>by intro e; cases e) _ _ _ h18 a1
           clear hF h18;rintro l3 a4 r hF;unfold uP at hF;refine Wk.seq<|Wk.seq<|Wk.region<|Wo.od (aa rfl) rfl<|Wo.od (da (k:=1) fP rfl rfl (.inl rfl)) rfl<|Wo.od (ay (r:=ptr b0 2) rfl (Au _ _)) rfl<|Wo.od (aj (k:=0) Ej rfl rfl rfl) rfl<|Wo.od (ak rfl rfl (zV _ _ (by decide))) rfl<|Wo.od (nB rfl (nj (by rw[u5]; rfl) u3)) rfl<|Wo.od (ak rfl rfl (aB _ _ _)) rfl<|Wo.od (ak rfl rfl (aS _ _ _)) rfl<|Wo.nil<|At.tn ?_
           rcases ah hF with⟨h19,hF⟩|⟨h19,hF⟩
           ·refine Wk.aD rfl h19<|Wk.skip<|At.tn<|Wk.block<|Wk.region<|Wo.od (aa rfl) rfl<|Wo.od (aa rfl) rfl<|Wo.od (da (k:=1) fP rfl rfl (.inl rfl)) rfl<|Wo.od (ak rfl rfl (bQ _ _ _)) rfl<|Wo.od (aa rfl) rfl<|Wo.od (da (k:=1) fP rfl rfl (.inl rfl)) rfl<|Wo.od (aa rfl) rfl<|Wo.od (da (k:=1) fP rfl rfl (.inl rfl)) rfl<|Wo.od (ak rfl rfl (bQ _ _ _)) rfl ?_;refine Wo.od (dK rfl z33 rfl (dI gb rfl rfl rfl)) rfl<|Wo.x (nD (es:=([(IntKind.wrap .i64 (3*(l3.length:Int)),IntKind.wrap .i64 ((l3.length:Int)*(l3.length:Int)))]:List (Int × Int)).map (eP (eI .i64) (eI .i64))) ct rfl (nA ct z33 rfl rfl) rfl rfl) gn rfl fun b15=>?_;obtain⟨h53,hF⟩:=al hF;refine Wo.x (kj (k:=2) (k2:=0) (xs:=(l3:List (Int × Int))) (ys:=([(IntKind.wrap .i64 (3*(l3.length:Int)),IntKind.wrap .i64 ((l3.length:Int)*(l3.length:Int)))]:List (Int × Int))) (Ae (pO .i64) (pO .i64)) ct ⟨_,fP⟩ rfl rfl rfl (.arr _ _ _ _ _) h53) gn rfl fun a8=>?_;refine Wo.od (ai rfl) rfl<|Wo.nil<|At.bn ?_;cases hF;exact At.en a8 rfl (sc rfl (sc rfl sn)) (ae.U [1,2,3] rfl rfl)
           ·refine Wk.aC rfl h19<|Wk.exit<|At.te ?_;cases hF;exact At.en a4 rfl (sc rfl sn) (ae.U [1,2] rfl rfl)
          ·clear h18;rintro a0;refine At.be<|At.bn ?_;cases hF;exact At.en (a0,l2.length) rfl (sc rfl sn) (ae.trans (ae.freeze (k:=0) rfl) (ae.U [0,1] rfl rfl))
         ·refine Wk.aC rfl h17<|Wk.seq<|Wk.region<|Wo.od (ak rfl rfl (jn _ _)) rfl<|Wo.od (ai rfl) rfl<|Wo.nil<|At.tn ?_;rcases ah hF with⟨h20,hF⟩|⟨h20,hF⟩
          ·refine Wk.aD rfl h20<|Wk.draw (by kernel_rfl)<|Wo.od (aa rfl) rfl<|Wo.od (aa rfl) rfl<|Wo.od (aa rfl) rfl<|Wo.od (aa rfl) rfl<|Wo.od (aa rfl) rfl<|Wo.od (aa rfl) rfl ?_
           obtain⟨h4,hF⟩:=al hF;replace h4:=av h4;refine Wo.open (k:=1) rfl (bP h4) ?_;rintro b3 t6 rfl h59;refine Wo.og (fc ct rfl rfl h4) gn rfl<|Wo.od (ay (r:=ptr b3 (y0.toNat*2+1)) rfl (aF _ _)) rfl ?_;obtain⟨⟨x13,x10⟩,h21,hF⟩:=J hF;refine Wo.od (gz (k:=1) bg rfl rfl (aO h21) rfl rfl) rfl<|Wo.od (aa rfl) rfl<|Wo.od (aa rfl) rfl ?_;obtain⟨h22,hF⟩:=al hF;replace h22:=av h22;refine Wo.og (fc ct rfl rfl h22) gn rfl<|Wo.od (ay (r:=ptr b3 (y0.toNat*2+0)) rfl (aQ _ _)) rfl<|Wo.od (gz (k:=1) bg rfl rfl (aO h21) rfl rfl) rfl ?_;obtain⟨h23,hF⟩:=al hF;replace h23:=av h23;refine Wo.og (fc ct rfl rfl h23) gn rfl<|Wo.od (ay (r:=ptr b3 (y0.toNat*2+0)) rfl (aQ _ _)) rfl<|Wo.o0 (j6 (k:=1) (x1:=(x13,x10)) (x2:=(x10,x10)) bg rfl rfl rfl h21 rfl) ?_;obtain⟨h24,hF⟩:=al hF;replace h24:=av h24;refine Wo.og (fc ct rfl rfl h24) gn rfl<|Wo.od (ay (r:=ptr b3 (y0.toNat*2+1)) rfl (aF _ _)) rfl ?_;obtain⟨⟨x14,x25⟩,h54,hF⟩:=J hF;refine Wo.o0 (j6 (k:=1) (x1:=(x14,x25)) (x2:=(x14,x13)) bg rfl rfl rfl h54 rfl)<|Wo.nil<|At.bn ?_;cases hF;exact At.en ((some ⟨b3,0,none⟩),(([]:List (Int × Int))++((l1.drop (0:Int).toNat).take ((mi (l1.length:Int) (50:Int):Int).toNat-(0:Int).toNat))).length) rfl (sc rfl sn) (ae.trans (ae.close (k:=1) rfl) (ae.trans (ae.freeze (k:=1) rfl) (ae.U [1,4] rfl rfl)))
          ·refine Wk.aC rfl h20<|Wk.skip<|At.bn ?_;cases hF;exact At.en (a1,(([]:List (Int × Int))++((l1.drop (0:Int).toNat).take ((mi (l1.length:Int) (50:Int):Int).toNat-(0:Int).toNat))).length) rfl (sc rfl sn) (ae.trans (ae.freeze (k:=1) rfl) (ae.U [1,4] rfl rfl))
  ·clear h34;obtain⟨l4,n0⟩:=r0;rintro⟨a3,c0⟩;refine At.tn<|Wk.seq<|Wk.region<|Wo.od (aa rfl) rfl<|Wo.od (ai rfl) rfl<|Wo.nil<|At.tn<|Wk.ret ?_;have hr:=Option.some.inj hF;subst r;exact At.ret (.tmp rfl .nil) fun m' hm=>⟨(a3,c0,n0),rfl,(ae.U [0,1] rfl rfl) m' hm⟩
theorem Ec (n:Nat) (l1:List (Int × Int)) (a2:Option Addr) (c3:Nat) (r:List (Int × Int)) (hF:Gl n l1=some r) (m:AMem) {H:Nat→Prop} (hH:∀b,H b→b<m.next) (h4:Rd m a2 c3 2 l1.length (l1.map (eP (eI .i64) (eI .i64)))) (h5:∀b,kT a2=some b→¬H b) :
  aR aK 68 [.slice a2 l1.length c3] m (fun v m'=>∃x:Option Addr × Nat × Nat,v = .slice x.1 x.2.2 x.2.1∧Hp m m' [.rd x.1 x.2.1 2 x.2.2 (r.map (eP (eI .i64) (eI .i64))),.gen (jO H)]):=by
 unfold Gl at hF;refine aH (m0:=m) (ps:=[.rd a2 c3 2 l1.length (l1.map (eP (eI .i64) (eI .i64))),.gen (jO H)]) (N:=8) (rs:=[.tmp 2]) rfl Tryz.func68 rfl rfl rfl (Hp.BW (l0:=[]) (Hp.wF m hH) rfl h4 h5)<|Wk.seq<|Wk.region<|Wo.od (ai rfl) rfl<|Wo.nil<|At.tn<|Wk.seq<|Wk.region<|Wo.od (aa rfl) rfl<|Wo.od (aa rfl) rfl<|Wo.od (da (k:=0) fP rfl rfl (.inl rfl)) rfl<|Wo.od (gP rfl rfl (iX _ _)) rfl ?_;obtain⟨h6,hF⟩:=al hF;refine Wo.x (sY (k:=0) (lo:=0) (hi:=mi (l1.length:Int) (50:Int)) ct rfl rfl rfl rfl h6 (.inl ⟨rfl,rfl⟩) (.inr ⟨_,rfl⟩)) gn rfl ?_;rintro⟨a7,c8⟩;refine Wo.od (ai rfl) rfl<|Wo.nil<|At.tn<|Wk.ret ?_;cases hF;exact At.ret (.tmp rfl .nil) fun m' hm=>⟨(a7,c8,(((l1.drop (0:Int).toNat).take ((mi (l1.length:Int) (50:Int):Int).toNat-(0:Int).toNat)).length)),rfl,(ae.U [0,2] rfl rfl) m' hm⟩
theorem Ea (n:Nat) (l1:List (Int × Int)) (l6:List (Nat)) (x11:Int) (x12:Int) (x13:Nat) (x14:Bool) (x15:Bool) (x16:Nat) (x17:Nat) (x18:Nat) (x19:Int) (x20:Int) (x21:Nat) (x22:Nat) (x23:Nat) (x24:Int) (x25:Int) (a2:Option Addr) (c3:Nat) (a7:Option Addr) (c8:Nat) (r:List (Int × Int) × List (Int × Int) × List (Int × Int) × List (Int × Int)) (hF:Gf n l1 l6 x11 x12 x13 x14 x15 x16 x17 x18 x19 x20 x21 x22 x23 x24 x25=some r) (m:AMem) {H:Nat→Prop} (hH:∀b,H b→b<m.next) (h4:Rd m a2 c3 2 l1.length (l1.map (eP (eI .i64) (eI .i64)))) (h5:∀b,kT a2=some b→¬H b) (h9:Rd m a7 c8 1 l6.length (l6.map (eN .u8))) (h10:∀b,kT a7=some b→¬H b) :
  aR aK 32 [.slice a2 l1.length c3,.agg #[.slice a7 l6.length c8,.int .i16 x11,.int .i16 x12,.int .u8 ((x13:Nat):Int),.bool x14,.bool x15],.agg #[.int .u8 ((x16:Nat):Int),.int .u8 ((x17:Nat):Int),.int .u8 ((x18:Nat):Int),.int .i64 x19,.int .i64 x20,.int .u8 ((x21:Nat):Int),.int .u8 ((x22:Nat):Int),.int .u8 ((x23:Nat):Int),.int .i64 x24,.int .i64 x25]] m (fun v m'=>∃x:Option Addr × Nat × Nat × Option Addr × Nat × Nat × Option Addr × Nat × Nat × Option Addr × Nat × Nat,v = .agg #[.slice x.1 x.2.2.1 x.2.1,.slice x.2.2.2.1 x.2.2.2.2.2.1 x.2.2.2.2.1,.slice x.2.2.2.2.2.2.1 x.2.2.2.2.2.2.2.2.1 x.2.2.2.2.2.2.2.1,.slice x.2.2.2.2.2.2.2.2.2.1 x.2.2.2.2.2.2.2.2.2.2.2 x.2.2.2.2.2.2.2.2.2.2.1]∧Hp m m' [.rd x.1 x.2.1 2 x.2.2.1 (r.1.map (eP (eI .i64) (eI .i64))),.rd x.2.2.2.1 x.2.2.2.2.1 2 x.2.2.2.2.2.1 (r.2.1.map (eP (eI .i64) (eI .i64))),.rd x.2.2.2.2.2.2.1 x.2.2.2.2.2.2.2.1 2 x.2.2.2.2.2.2.2.2.1 (r.2.2.1.map (eP (eI .i64) (eI .i64))),.rd x.2.2.2.2.2.2.2.2.2.1 x.2.2.2.2.2.2.2.2.2.2.1 2 x.2.2.2.2.2.2.2.2.2.2.2 (r.2.2.2.map (eP (eI .i64) (eI .i64))),.gen (jO H)]):=by
 unfold Gf at hF;refine aH (m0:=m) (ps:=[.rd a7 c8 1 l6.length (l6.map (eN .u8)),.rd a2 c3 2 l1.length (l1.map (eP (eI .i64) (eI .i64))),.gen (jO H)]) (N:=24) (rs:=[.cell 6 70]) rfl Tryz.func32 rfl rfl rfl (Hp.BW (l0:=[.rd a2 c3 2 l1.length (l1.map (eP (eI .i64) (eI .i64)))]) (Hp.BW (l0:=[]) (Hp.wF m hH) rfl h4 h5) rfl h9 h10)<|Wk.seq<|Wk.region<|Wo.x (cd rfl) gn rfl fun b26=>?_;refine Wo.x (cd rfl) gn rfl fun b27=>?_;refine Wo.x (cL z70 rfl) gn rfl fun b28=>?_;refine Wo.nil<|At.tn<|Wk.seq<|Wk.region<|Wo.od (aj (k:=2) zh rfl rfl rfl) rfl ?_;obtain⟨l30,h29,hF⟩:=J hF;refine Wo.x (bR rfl rfl (fun m hm=>E9 n l6 x11 x12 x13 x14 x15 a7 c8 _ h29 m (hm.rd (k:=3) rfl (.rd _ _ _ _ _))) fun _=>rfl) gn rfl ?_;rintro⟨a31,n32⟩;refine Wo.len (k:=0) (xs:=l30) rfl ?_;rintro rfl;refine Wo.od (ai rfl) rfl<|Wo.nil<|At.tn<|Wk.seq<|Wk.region<|Wo.od (kU (r:=ptr b27 0) rfl rfl (mC EE (i:=0) (by decide))) rfl<|Wo.od (aj (k:=2) Hi rfl rfl rfl) rfl<|Wo.od (aa rfl) rfl ?_
 obtain⟨l34,h33,hF⟩:=J hF;refine Wo.iN (ae.freeze (k:=0) rfl)<|Wo.x (wR (N:=(fun x:Option Addr × Nat × Nat=>[.rd x.1 x.2.1 2 x.2.2 (l34.map (eP (eI .i64) (eI .i64)))])) rfl rfl (fun m hm=>z2 n x16 x17 x18 x19 x20 l30 a31 l30.length _ h33 m hm.nS (hm.rd (k:=0) rfl (.rd _ _ _ _ _)) (hm.uU (k:=0) rfl)) fun _=>rfl) gn rfl ?_;rintro⟨a35,c36,n37⟩;refine Wo.vT (k:=0) (xs:=l34) rfl ?_;rintro rfl;refine Wo.od (ai rfl) rfl<|Wo.nil<|At.tn<|Wk.seq<|Wk.region<|Wo.od (aa rfl) rfl<|Wo.od (aa rfl) rfl<|Wo.od (kU (r:=ptr b27 5) rfl rfl (mC EE (i:=1) (by decide))) rfl<|Wo.od (aj (k:=3) Hi rfl rfl rfl) rfl<|Wo.od (aa rfl) rfl ?_
 obtain⟨l39,h38,hF⟩:=J hF;refine Wo.x (wR (N:=(fun x:Option Addr × Nat × Nat=>[.rd x.1 x.2.1 2 x.2.2 (l39.map (eP (eI .i64) (eI .i64)))])) rfl rfl (fun m hm=>z2 n x21 x22 x23 x24 x25 l34 a35 c36 _ h38 m hm.nS (hm.rd (k:=0) rfl (.rd _ _ _ _ _)) (hm.uU (k:=0) rfl)) fun _=>rfl) gn rfl ?_;rintro⟨a40,c41,n42⟩;refine Wo.vT (k:=0) (xs:=l39) rfl ?_;rintro rfl;refine Wo.od (aa rfl) rfl ?_;obtain⟨l44,h43,hF⟩:=J hF;refine Wo.x (wR (N:=(fun x:Option Addr × Nat × Nat=>[.rd x.1 x.2.1 2 x.2.2 (l44.map (eP (eI .i64) (eI .i64)))])) rfl rfl (fun m hm=>Ec n l1 a2 c3 _ h43 m hm.nS (hm.rd (k:=7) rfl (.rd _ _ _ _ _)) (hm.uU (k:=7) rfl)) fun _=>rfl) gn rfl ?_;rintro⟨a45,c46,n47⟩;refine Wo.vT (k:=0) (xs:=l44) rfl ?_;rintro rfl;refine Wo.od (dK rfl z70 rfl (dI HV rfl rfl rfl)) rfl<|Wo.o0 (bB (k:=4) Gt rfl rfl rfl rfl rfl)<|Wo.nil<|At.tn<|Wk.ret ?_;cases hF;exact At.ret (.cell (k:=4) Gt rfl rfl rfl .nil) fun m' hm=>⟨(a31,l30.length,l30.length,a35,c36,l34.length,a40,c41,l39.length,a45,c46,l44.length),rfl,(ae.U [3,2,1,0,9] rfl rfl) m' hm⟩
theorem zu (n:Nat) (x1:Int) (x2:Int)  (r:Bool) (hF:F9 n x1 x2=some r) (m:AMem)  :
  aR aK 48 [.agg #[.int .i64 x1,.int .i64 x2]] m (fun v m'=>∃_:Unit,v = .bool r∧Hp m m' []):=by
 unfold F9 at hF;refine aH (m0:=m) (ps:=[]) (N:=23) (rs:=[.tmp 2]) rfl Tryz.func48 rfl rfl rfl (Hp.start m)<|Wk.seq<|Wk.region<|Wo.x (cd rfl) gn rfl fun b3=>?_;refine Wo.od (ai rfl) rfl<|Wo.nil<|At.tn<|Wk.seq<|Wk.region<|Wo.od (ay (r:=ptr b3 0) rfl (aQ _ _)) rfl<|Wo.od (aj (k:=0) bg rfl rfl rfl) rfl<|Wo.od (ay (r:=ptr b3 0) rfl (aQ _ _)) rfl<|Wo.od (aj (k:=0) bg rfl rfl rfl) rfl<|Wo.od (gV rfl (DQ _)) rfl<|Wo.od (ay (r:=ptr b3 1) rfl (aF _ _)) rfl<|Wo.od (aj (k:=0) bg rfl rfl rfl) rfl<|Wo.od (ay (r:=ptr b3 1) rfl (aF _ _)) rfl<|Wo.od (aj (k:=0) bg rfl rfl rfl) rfl ?_;refine Wo.od (gV rfl (DQ _)) rfl ?_;obtain⟨y4,h5,hF⟩:=J hF;refine Wo.od (gP rfl rfl (fun m=>(El _ _ _ _ m).trans (IK h5))) rfl<|Wo.od (ak rfl rfl (bJ _ _ _)) rfl<|Wo.od (aa rfl) rfl ?_;rcases ah hF with⟨h6,hF⟩|⟨h6,hF⟩
 ·refine Wo.s (gg rfl rfl (eU h6)) rfl<|Wo.s (gg rfl rfl (eU h6)) rfl<|Wo.s (gg rfl rfl (eU h6)) rfl<|Wo.s (gg rfl rfl (eU h6)) rfl<|Wo.s (gg rfl rfl (eU h6)) rfl<|Wo.s (gg rfl rfl (eU h6)) rfl<|Wo.od (dG rfl h6 rfl) rfl<|Wo.od (ai rfl) rfl<|Wo.nil<|At.tn<|Wk.ret ?_;cases hF;exact At.ret (.tmp rfl .nil) fun m' hm=>⟨(),rfl,(ae.U [] rfl rfl) m' hm⟩
 ·refine Wo.og (ay (r:=ptr b3 0) rfl (aQ _ _)) (gg rfl rfl (eX h6)) rfl<|Wo.og (aj (k:=0) bg rfl rfl rfl) (gg rfl rfl (eX h6)) rfl<|Wo.og (ay (r:=ptr b3 1) rfl (aF _ _)) (gg rfl rfl (eX h6)) rfl<|Wo.og (aj (k:=0) bg rfl rfl rfl) (gg rfl rfl (eX h6)) rfl<|Wo.og (gP rfl rfl (iX _ _)) (gg rfl rfl (eX h6)) rfl<|Wo.og (ak rfl rfl (aS _ _ _)) (gg rfl rfl (eX h6)) rfl<|Wo.od (dC rfl h6 rfl) rfl<|Wo.od (ai rfl) rfl<|Wo.nil<|At.tn<|Wk.ret ?_;cases hF;exact At.ret (.tmp rfl .nil) fun m' hm=>⟨(),rfl,(ae.U [] rfl rfl) m' hm⟩
theorem xh (n:Nat) (x1:Int)  (r:Bool) (hF:zE n x1=some r) (m:AMem)  :
  aR aK 103 [.int .i64 x1] m (fun v m'=>∃_:Unit,v = .bool r∧Hp m m' []):=by
 unfold zE at hF;refine aH (m0:=m) (ps:=[]) (N:=6) (rs:=[.tmp 2]) rfl Tryz.func103 rfl rfl rfl (Hp.start m)<|Wk.seq<|Wk.region<|Wo.od (ai rfl) rfl<|Wo.nil<|At.tn<|Wk.seq<|Wk.region<|Wo.od (aa rfl) rfl<|Wo.od (aa rfl) rfl<|Wo.od (ak rfl rfl (cj _ _)) rfl<|Wo.od (ai rfl) rfl<|Wo.nil<|At.tn<|Wk.ret ?_;cases hF;exact At.ret (.tmp rfl .nil) fun m' hm=>⟨(),rfl,(ae.U [] rfl rfl) m' hm⟩
theorem wB (n:Nat) (x1:Int) (x2:Int)  (r:Int) (hF:Ew n x1 x2=some r) (m:AMem)  :
  aR aK 83 [.int .i64 x1,.int .i64 x2] m (fun v m'=>∃_:Unit,v = .int .i64 r∧Hp m m' []):=by
 unfold Ew at hF;refine aH (m0:=m) (ps:=[]) (N:=20) (rs:=[.tmp 4]) rfl Tryz.func83 rfl rfl rfl (Hp.start m)<|Wk.seq<|Wk.region<|Wo.od (ai rfl) rfl<|Wo.nil<|At.tn<|Wk.seq<|Wk.region<|Wo.od (aa rfl) rfl ?_;obtain⟨r4,h3,hF⟩:=J hF;refine Wo.x (bR rfl rfl (fun m hm=>xh n x1  _ h3 m) fun _=>rfl) gn rfl ?_;rintro⟨⟩;refine Wo.od (ai rfl) rfl<|Wo.nil<|At.tn<|Wk.seq<|Wk.region<|Wo.od (aa rfl) rfl ?_;obtain⟨r6,h5,hF⟩:=J hF;refine Wo.x (bR rfl rfl (fun m hm=>xh n x2  _ h5 m) fun _=>rfl) gn rfl ?_;rintro⟨⟩;refine Wo.od (ai rfl) rfl<|Wo.nil<|At.tn<|Wk.seq<|Wk.seq<|Wk.region<|Wo.od (aa rfl) rfl<|Wo.nil<|At.tn ?_;rcases ah hF with⟨h7,hF⟩|⟨h7,hF⟩
 ·refine Wk.aD rfl h7<|Wk.seq<|Wk.seq<|Wk.region<|Wo.od (aa rfl) rfl<|Wo.nil<|At.tn ?_;rcases ah hF with⟨h8,hF⟩|⟨h8,hF⟩
  ·refine Wk.aD rfl h8<|Wk.seq<|Wk.region<|Wo.od (ai rfl) rfl<|Wo.nil<|At.tn<|Wk.ret<|At.tr<|At.tr ?_;cases hF;exact At.ret (.tmp rfl .nil) fun m' hm=>⟨(),rfl,(ae.U [] rfl rfl) m' hm⟩
  ·refine Wk.aC rfl h8<|Wk.skip<|At.tn<|Wk.seq<|Wk.region<|Wo.od (ai rfl) rfl<|Wo.nil<|At.tn<|Wk.ret<|At.tr ?_;cases hF;exact At.ret (.tmp rfl .nil) fun m' hm=>⟨(),rfl,(ae.U [] rfl rfl) m' hm⟩
 ·refine Wk.aC rfl h7<|Wk.skip<|At.tn<|Wk.seq<|Wk.seq<|Wk.region<|Wo.od (aa rfl) rfl<|Wo.nil<|At.tn ?_;rcases ah hF with⟨h9,hF⟩|⟨h9,hF⟩
  ·refine Wk.aD rfl h9<|Wk.seq<|Wk.region<|Wo.od (ai rfl) rfl<|Wo.nil<|At.tn<|Wk.ret<|At.tr ?_;cases hF;exact At.ret (.tmp rfl .nil) fun m' hm=>⟨(),rfl,(ae.U [] rfl rfl) m' hm⟩
  ·refine Wk.aC rfl h9<|Wk.skip<|At.tn<|Wk.seq<|Wk.seq<|Wk.region<|Wo.od (aa rfl) rfl<|Wo.od (aa rfl) rfl<|Wo.od (ak rfl rfl (aS _ _ _)) rfl<|Wo.nil<|At.tn ?_;rcases ah hF with⟨h10,hF⟩|⟨h10,hF⟩
   ·refine Wk.aD rfl h10<|Wk.seq<|Wk.region<|Wo.od (ai rfl) rfl<|Wo.nil<|At.tn<|Wk.ret<|At.tr ?_;cases hF;exact At.ret (.tmp rfl .nil) fun m' hm=>⟨(),rfl,(ae.U [] rfl rfl) m' hm⟩
   ·refine Wk.aC rfl h10<|Wk.skip<|At.tn<|Wk.seq<|Wk.seq<|Wk.region<|Wo.od (aa rfl) rfl<|Wo.od (aa rfl) rfl<|Wo.od (ak rfl rfl (bJ _ _ _)) rfl<|Wo.nil<|At.tn ?_;rcases ah hF with⟨h11,hF⟩|⟨h11,hF⟩
    ·refine Wk.aD rfl h11<|Wk.seq<|Wk.region<|Wo.od (ai rfl) rfl<|Wo.nil<|At.tn<|Wk.ret<|At.tr ?_;cases hF;exact At.ret (.tmp rfl .nil) fun m' hm=>⟨(),rfl,(ae.U [] rfl rfl) m' hm⟩
    ·refine Wk.aC rfl h11<|Wk.skip<|At.tn<|Wk.seq<|Wk.region<|Wo.od (ai rfl) rfl<|Wo.nil<|At.tn<|Wk.ret ?_;cases hF;exact At.ret (.tmp rfl .nil) fun m' hm=>⟨(),rfl,(ae.U [] rfl rfl) m' hm⟩
theorem jj (n:Nat) (x1:Int) (x2:Int) (x3:Int) (x4:Int) (x5:Int) (x6:Int)  (r:Int) (hF:zk n x1 x2 x3 x4 x5 x6=some r) (m:AMem)  :
  aR aK 55 [.agg #[.int .i64 x1,.int .i64 x2],.agg #[.int .i64 x3,.int .i64 x4],.agg #[.int .i64 x5,.int .i64 x6]] m (fun v m'=>∃_:Unit,v = .int .i64 r∧Hp m m' []):=by
 unfold zk at hF;refine aH (m0:=m) (ps:=[]) (N:=30) (rs:=[.tmp 6]) rfl Tryz.func55 rfl rfl rfl (Hp.start m)<|Wk.seq<|Wk.region<|Wo.x (cd rfl) gn rfl fun b7=>?_;refine Wo.x (cd rfl) gn rfl fun b8=>?_;refine Wo.x (cd rfl) gn rfl fun b9=>?_;refine Wo.od (ai rfl) rfl<|Wo.nil<|At.tn<|Wk.seq<|Wk.region<|Wo.od (ay (r:=ptr b8 0) rfl (aQ _ _)) rfl<|Wo.od (aj (k:=1) bg rfl rfl rfl) rfl<|Wo.od (ay (r:=ptr b7 0) rfl (aQ _ _)) rfl<|Wo.od (aj (k:=2) bg rfl rfl rfl) rfl<|Wo.od (ak rfl rfl (aV _ _ _)) rfl<|Wo.od (ay (r:=ptr b9 1) rfl (aF _ _)) rfl<|Wo.od (aj (k:=0) bg rfl rfl rfl) rfl<|Wo.od (ay (r:=ptr b7 1) rfl (aF _ _)) rfl<|Wo.od (aj (k:=2) bg rfl rfl rfl) rfl ?_;refine Wo.od (ak rfl rfl (aV _ _ _)) rfl ?_;obtain⟨y10,h11,hF⟩:=J hF;refine Wo.od (ak rfl rfl ((bQ _ _ _).trans (cI h11))) rfl<|Wo.od (ay (r:=ptr b8 1) rfl (aF _ _)) rfl<|Wo.od (aj (k:=1) bg rfl rfl rfl) rfl<|Wo.od (ay (r:=ptr b7 1) rfl (aF _ _)) rfl<|Wo.od (aj (k:=2) bg rfl rfl rfl) rfl<|Wo.od (ak rfl rfl (aV _ _ _)) rfl<|Wo.od (ay (r:=ptr b9 0) rfl (aQ _ _)) rfl<|Wo.od (aj (k:=0) bg rfl rfl rfl) rfl<|Wo.od (ay (r:=ptr b7 0) rfl (aQ _ _)) rfl<|Wo.od (aj (k:=2) bg rfl rfl rfl) rfl ?_;refine Wo.od (ak rfl rfl (aV _ _ _)) rfl ?_;obtain⟨y12,h13,hF⟩:=J hF;refine Wo.od (ak rfl rfl ((bQ _ _ _).trans (cI h13))) rfl ?_;obtain⟨r15,h14,hF⟩:=J hF;refine Wo.x (bR rfl rfl (fun m hm=>wB n y10 y12  _ h14 m) fun _=>rfl) gn rfl ?_;rintro⟨⟩;refine Wo.od (ai rfl) rfl<|Wo.nil<|At.tn<|Wk.ret ?_;have hr:=Option.some.inj hF;subst r;exact At.ret (.tmp rfl .nil) fun m' hm=>⟨(),rfl,(ae.U [] rfl rfl) m' hm⟩
theorem Fy (n:Nat) (l1:List (Int)) (a2:Option Addr) (c3:Nat) (r:Int) (hF:Hm n l1=some r) (m:AMem) (h4:Rd m a2 c3 1 l1.length (l1.map (eI .i64))) :
  aR aK 82 [.slice a2 l1.length c3] m (fun v m'=>∃_:Unit,v = .int .i64 r∧Hp m m' []):=by
 unfold Hm at hF;refine aH (m0:=m) (ps:=[.rd a2 c3 1 l1.length (l1.map (eI .i64))]) (N:=18) (rs:=[.tmp 2]) rfl Tryz.func82 rfl rfl rfl ((Hp.start m).nC rfl h4)<|Wk.seq<|Wk.region<|Wo.od (ai rfl) rfl<|Wo.nil<|At.tn<|Wk.seq<|Wk.region<|Wo.od (ai rfl) rfl<|Wo.nil<|At.tn<|Wk.seq<|Wk.seq<|Wk.region<|Wo.od (aa rfl) rfl<|Wo.od (da (k:=0) HT rfl rfl (.inl rfl)) rfl<|Wo.od (aa rfl) rfl<|Wo.nil<|At.tn<|Wk.block ?_;obtain⟨r24,h23,hF⟩:=J hF;refine Wk.cut (G:=(fun(r:(Int) ⊕ (Unit)) (g:Unit)=>match r,g with | .inl v15,_=>⟨.ret,[(2,.int .i64 v15)],[]⟩ | .inr _,_=>⟨(.exit 0),[(3,.int .i64 0)],[]⟩) r24) ?_ ?_
 ·refine Wk.ep (fs':=[(3,.int .i64 0),(6,.slice a2 l1.length c3),(7,.int .i64 (l1.length:Int)),(8,.int .i64 0)]) (ps':=[.rd a2 c3 1 l1.length (l1.map (eI .i64))]) (sc rfl (sc rfl (sc rfl (sc rfl sn)))) (ae.U [0] rfl rfl) ?_;refine Wk.loop (σ:=Int) (ρ:=(Int) ⊕ (Unit)) (γ:=Unit) (δ:=fun _=>Unit) _ (fun(s:Int) (g:Unit)=>match s,g with|v6,_=>⟨.normal,[(3,.int .i64 0),(6,.slice a2 l1.length c3),(7,.int .i64 (l1.length:Int)),(8,.int .i64 v6)],[.rd a2 c3 1 l1.length (l1.map (eI .i64))]⟩) (fun(r:(Int) ⊕ (Unit)) (g:Unit)=>match r,g with | .inl v15,_=>⟨.ret,[(2,.int .i64 v15)],[]⟩ | .inr _,_=>⟨(.exit 0),[(3,.int .i64 0)],[]⟩) ?_ (fun _ _=>rfl) (fun r d=>by rcases r with _|_<;>(intro e; cases e)) _ _ _ h23 ()
  clear hF h23;rintro v6 ⟨⟩ r hF;unfold nh at hF;refine Wk.seq<|Wk.region<|Wo.od (ak rfl rfl (aS _ _ _)) rfl<|Wo.nil<|At.tn<|Wk.seq ?_;rcases ah hF with⟨h16,hF⟩|⟨h16,hF⟩
  ·refine Wk.aD rfl h16<|Wk.skip<|At.tn<|Wk.seq<|Wk.block<|Wk.seq<|Wk.region ?_;obtain⟨h17,hF⟩:=al hF;replace h17:=av h17;refine Wo.dL (k:=0) rfl (bP h17) ?_;rintro b18 o19 rfl;refine Wo.og (bC Ez rfl rfl h17) gn rfl ?_;obtain⟨x20,h21,hF⟩:=J hF;refine Wo.od (bI (k:=0) bg rfl rfl (aO h21) rfl rfl) rfl<|Wo.od (ai rfl) rfl<|Wo.nil<|At.tn<|Wk.seq<|Wk.region<|Wo.od (aa rfl) rfl<|Wo.od (aa rfl) rfl<|Wo.od (ak rfl rfl (cj _ _)) rfl<|Wo.nil<|At.tn ?_;rcases ah hF with⟨h22,hF⟩|⟨h22,hF⟩
   ·refine Wk.aD rfl h22<|Wk.seq<|Wk.region<|Wo.od (aa rfl) rfl<|Wo.od (ai rfl) rfl<|Wo.nil<|At.tn<|Wk.ret<|At.br<|At.tr ?_;cases hF;exact At.en () rfl (sc rfl sn) (ae.U [] rfl rfl)
   ·refine Wk.aC rfl h22<|Wk.skip<|At.bn<|At.tn<|Wk.region<|Wo.od (ak rfl rfl (aB _ _ _)) rfl<|Wo.od (aa rfl) rfl<|Wo.nil ?_;cases hF;exact At.en () rfl (sc rfl (sc rfl (sc rfl (sc rfl sn)))) (ae.U [1] rfl rfl)
  ·refine Wk.aC rfl h16<|Wk.exit<|At.te ?_;cases hF;exact At.en () rfl (sc rfl sn) (ae.U [] rfl rfl)
 ·clear h23;rcases r24 with v15|_
  ·rintro⟨⟩;refine At.br<|At.tr ?_;have hr:=Option.some.inj hF;subst r;exact At.ret (.tmp rfl .nil) fun m' hm=>⟨(),rfl,(ae.U [] rfl rfl) m' hm⟩
  ·rintro⟨⟩;refine At.be<|At.tn<|Wk.seq<|Wk.region<|Wo.od (aa rfl) rfl<|Wo.od (ai rfl) rfl<|Wo.nil<|At.tn<|Wk.ret ?_;cases hF;exact At.ret (.tmp rfl .nil) fun m' hm=>⟨(),rfl,(ae.U [] rfl rfl) m' hm⟩
theorem va (n:Nat) (x1:Int) (x2:Int) (x3:Int) (x4:Int)  (r:Int) (hF:C8 n x1 x2 x3 x4=some r) (m:AMem)  :
  aR aK 52 [.agg #[.int .i64 x1,.int .i64 x2],.agg #[.int .i64 x3,.int .i64 x4]] m (fun v m'=>∃_:Unit,v = .int .i64 r∧Hp m m' []):=by
 unfold C8 at hF;refine aH (m0:=m) (ps:=[]) (N:=17) (rs:=[.tmp 4]) rfl Tryz.func52 rfl rfl rfl (Hp.start m)<|Wk.seq<|Wk.region<|Wo.x (cd rfl) gn rfl fun b5=>?_;refine Wo.x (cd rfl) gn rfl fun b6=>?_;refine Wo.od (ai rfl) rfl<|Wo.nil<|At.tn<|Wk.seq<|Wk.eH (prs:=[(4,6),(4,8)]) (by kernel_rfl)<|Wn.od (ay (r:=ptr b5 0) rfl (aQ _ _)) rfl<|Wn.od (aj (k:=1) bg rfl rfl rfl) rfl<|Wn.od (ay (r:=ptr b6 0) rfl (aQ _ _)) rfl<|Wn.od (aj (k:=0) bg rfl rfl rfl) rfl ?_
 obtain⟨r8,h7,hF⟩:=J hF;refine Wn.c (eT rfl rfl (fun m hm=>wB n x1 x3  _ h7 m) fun _=>rfl) gn rfl ?_;rintro⟨⟩;refine Wn.od (ay (r:=ptr b5 1) rfl (aF _ _)) rfl<|Wn.od (aj (k:=1) bg rfl rfl rfl) rfl<|Wn.od (ay (r:=ptr b6 1) rfl (aF _ _)) rfl<|Wn.od (aj (k:=0) bg rfl rfl rfl) rfl ?_;obtain⟨r10,h9,hF⟩:=J hF;refine Wn.c (eT rfl rfl (fun m hm=>wB n x2 x4  _ h9 m) fun _=>rfl) gn rfl ?_;rintro⟨⟩;refine Wn.x (nD (es:=([r8,r10]:List (Int)).map (eI .i64)) Ez rfl (nA Ez z3 rfl rfl) rfl rfl) gn rfl fun b11=>?_;obtain⟨r13,h12,hF⟩:=J hF;refine Wn.c (eT rfl rfl (fun m hm=>Fy n ([r8,r10]) (some ⟨b11,0,none⟩) 2 _ h12 m (hm.rd (k:=0) rfl (.arr _ _ _ _ _))) fun _=>rfl) gn rfl ?_;rintro⟨⟩;refine Wn.od (ai rfl) rfl<|Wn.nil (fun m hm=>eG.all rfl)<|At.tn<|Wk.ret ?_;have hr:=Option.some.inj hF;subst r;exact At.ret (.tmp rfl .nil) fun m' hm=>⟨(),rfl,(ae.U [] rfl rfl) m' hm⟩
theorem vC (n:Nat) (x1:Int) (x2:Int) (x3:Int) (x4:Int) (x5:Int) (x6:Int) (x7:Int)  (r:Bool) (hF:wZ n x1 x2 x3 x4 x5 x6 x7=some r) (m:AMem)  :
  aR aK 64 [.agg #[.int .i64 x1,.int .i64 x2,.int .i64 x3,.int .i64 x4,.int .i64 x5],.agg #[.int .i64 x6,.int .i64 x7]] m (fun v m'=>∃_:Unit,v = .bool r∧Hp m m' []):=by
 unfold wZ at hF;refine aH (m0:=m) (ps:=[]) (N:=34) (rs:=[.tmp 4]) rfl Tryz.func64 rfl rfl rfl (Hp.start m)<|Wk.seq<|Wk.region<|Wo.x (cd rfl) gn rfl fun b8=>?_;refine Wo.x (cd rfl) gn rfl fun b9=>?_;refine Wo.od (ai rfl) rfl<|Wo.nil<|At.tn<|Wk.seq<|Wk.seq<|Wk.region<|Wo.od (ay (r:=ptr b8 1) rfl (cA _ _)) rfl<|Wo.od (aj (k:=1) az rfl rfl rfl) rfl<|Wo.od (ay (r:=ptr b8 3) rfl (de _ _)) rfl<|Wo.od (aj (k:=1) az rfl rfl rfl) rfl<|Wo.od (aj (k:=0) az rfl rfl rfl) rfl ?_;obtain⟨r11,h10,hF⟩:=J hF;refine Wo.x (bR rfl rfl (fun m hm=>jj n x2 x3 x4 x5 x6 x7  _ h10 m) fun _=>rfl) gn rfl ?_;rintro⟨⟩;refine Wo.od (ak rfl rfl (cj _ _)) rfl<|Wo.nil<|At.tn ?_;rcases ah hF with⟨h12,hF⟩|⟨h12,hF⟩
 ·refine Wk.aD rfl h12<|Wk.seq<|Wk.region<|Wo.od (ai rfl) rfl<|Wo.nil<|At.tn<|Wk.ret<|At.tr ?_;cases hF;exact At.ret (.tmp rfl .nil) fun m' hm=>⟨(),rfl,(ae.U [] rfl rfl) m' hm⟩
 ·refine Wk.aC rfl h12<|Wk.skip<|At.tn<|Wk.seq<|Wk.eH (prs:=[(3,6)]) (by kernel_rfl)<|Wn.od (ay (r:=ptr b8 1) rfl (cA _ _)) rfl<|Wn.od (aj (k:=1) az rfl rfl rfl) rfl<|Wn.od (ay (r:=ptr b8 3) rfl (de _ _)) rfl<|Wn.FV rfl (aj (k:=1) az rfl rfl rfl) rfl<|Wn.x (cL z33 rfl) gn rfl fun b13=>?_
  refine Wn.x (cL z33 rfl) gn rfl fun b14=>?_;refine Wn.Gc rfl (bB (k:=1) az rfl rfl rfl rfl rfl)<|Wn.o0 (bB (k:=0) az rfl rfl rfl rfl rfl)<|Wn.nil (fun m hm=>(eG.rw rfl rfl rfl (hm.ne (i:=3) (j:=1) rfl rfl rfl rfl (by decide) rfl) eG.nil))<|At.tn<|Wk.seq ?_
  obtain⟨r26,h25,hF⟩:=J hF;refine Wk.cut (G:=(fun(r:Int × Int × Int × Int) (g:Unit)=>match r,g with | (v18,v19,v20,v21),_=>⟨.normal,[(3,ptr b9 0),(5,ptr b13 0),(6,ptr b14 0)],[.obj b9 (.cells [.int .i64 x6,.int .i64 x7] .own),.obj b13 (.cells [.int .i64 v18,.int .i64 v19] .own),.obj b14 (.cells [.int .i64 v20,.int .i64 v21] .own)]⟩) r26) ?_ ?_
  ·clear hF;revert r26;intro r hF;refine Wk.seq<|Wk.region<|Wo.od (aj (k:=1) az rfl rfl rfl) rfl<|Wo.od (aj (k:=0) az rfl rfl rfl) rfl ?_;obtain⟨r23,h22,hF⟩:=J hF;refine Wo.x (bR rfl rfl (fun m hm=>va n x2 x3 x4 x5  _ h22 m) fun _=>rfl) gn rfl ?_;rintro⟨⟩;refine Wo.od (ak rfl rfl (bJ _ _ _)) rfl<|Wo.nil<|At.tn ?_;rcases ah hF with⟨h24,hF⟩|⟨h24,hF⟩
   ·refine Wk.aD rfl h24<|Wk.region<|Wo.od (aj (k:=0) az rfl rfl rfl) rfl<|Wo.od (aj (k:=1) az rfl rfl rfl) rfl<|Wo.o0 (bB (k:=1) az rfl rfl rfl rfl rfl)<|Wo.o0 (bB (k:=0) az rfl rfl rfl rfl rfl)<|Wo.nil ?_;cases hF;exact At.en () rfl (sc rfl (sc rfl (sc rfl sn))) (ae.U [2,1,0] rfl rfl)
   ·refine Wk.aC rfl h24<|Wk.skip ?_;cases hF;exact At.en () rfl (sc rfl (sc rfl (sc rfl sn))) (ae.U [2,1,0] rfl rfl)
  ·clear h25;obtain⟨v18,v19,v20,v21⟩:=r26;rintro⟨⟩;refine At.tn<|Wk.seq<|Wk.region<|Wo.od (aj (k:=1) az rfl rfl rfl) rfl<|Wo.od (aj (k:=0) az rfl rfl rfl) rfl ?_;obtain⟨r28,h27,hF⟩:=J hF;refine Wo.x (bR rfl rfl (fun m hm=>va n v18 v19 x6 x7  _ h27 m) fun _=>rfl) gn rfl ?_;rintro⟨⟩;refine Wo.od (ak rfl rfl (fy _ _ _)) rfl<|Wo.od (aa rfl) rfl ?_;rcases ah hF with⟨h29,hF⟩|⟨h29,hF⟩
   ·refine Wo.og (aj (k:=0) az rfl rfl rfl) (gg rfl rfl (bO h29)) rfl<|Wo.og (aj (k:=2) az rfl rfl rfl) (gg rfl rfl (bO h29)) rfl ?_;obtain⟨r31,h30,hF⟩:=J hF;refine Wo.x (bR rfl rfl (fun m hm=>va n x6 x7 v20 v21  _ h30 m) fun _=>rfl) (gg rfl rfl (bO h29)) rfl ?_;rintro⟨⟩;refine Wo.og (ak rfl rfl (fy _ _ _)) (gg rfl rfl (bO h29)) rfl<|Wo.od (dG rfl h29 rfl) rfl<|Wo.od (ai rfl) rfl<|Wo.nil<|At.tn<|Wk.ret ?_;cases hF;exact At.ret (.tmp rfl .nil) fun m' hm=>⟨(),rfl,(ae.U [] rfl rfl) m' hm⟩
   ·refine Wo.s (gg rfl rfl (bM h29)) rfl<|Wo.s (gg rfl rfl (bM h29)) rfl<|Wo.s (gg rfl rfl (bM h29)) rfl<|Wo.s (gg rfl rfl (bM h29)) rfl<|Wo.od (dC rfl h29 rfl) rfl<|Wo.od (ai rfl) rfl<|Wo.nil<|At.tn<|Wk.ret ?_;cases hF;exact At.ret (.tmp rfl .nil) fun m' hm=>⟨(),rfl,(ae.U [] rfl rfl) m' hm⟩
theorem E7 (n:Nat) (x1:Int) (x2:Int) (x3:Int) (x4:Int) (x5:Int) (x6:Int) (x7:Int) (x8:Int) (x9:Int) (x10:Int)  (r:Int) (hF:Hw n x1 x2 x3 x4 x5 x6 x7 x8 x9 x10=some r) (m:AMem)  :
  aR aK 61 [.agg #[.int .i64 x1,.int .i64 x2,.int .i64 x3,.int .i64 x4,.int .i64 x5],.agg #[.int .i64 x6,.int .i64 x7,.int .i64 x8,.int .i64 x9,.int .i64 x10]] m (fun v m'=>∃_:Unit,v = .int .i64 r∧Hp m m' []):=by
 unfold Hw at hF;refine aH (m0:=m) (ps:=[]) (N:=83) (rs:=[.tmp 4]) rfl Tryz.func61 rfl rfl rfl (Hp.start m)<|Wk.seq<|Wk.region<|Wo.x (cd rfl) gn rfl fun b0=>?_;refine Wo.x (cd rfl) gn rfl fun b3=>?_;refine Wo.od (ai rfl) rfl<|Wo.nil<|At.tn<|Wk.seq<|Wk.eH (prs:=[(6,8),(6,10),(6,12)]) (by kernel_rfl)<|Wn.od (ay (r:=ptr b0 1) rfl (cA _ _)) rfl<|Wn.od (aj (k:=1) az rfl rfl rfl) rfl<|Wn.od (ay (r:=ptr b0 3) rfl (de _ _)) rfl<|Wn.od (aj (k:=1) az rfl rfl rfl) rfl<|Wn.od (ay (r:=ptr b3 1) rfl (cA _ _)) rfl<|Wn.od (aj (k:=0) az rfl rfl rfl) rfl ?_
 obtain⟨r0,h12,hF⟩:=J hF;refine Wn.c (eT rfl rfl (fun m hm=>jj n x2 x3 x4 x5 x7 x8  _ h12 m) fun _=>rfl) gn rfl ?_;rintro⟨⟩;refine Wn.od (ay (r:=ptr b0 1) rfl (cA _ _)) rfl<|Wn.od (aj (k:=1) az rfl rfl rfl) rfl<|Wn.od (ay (r:=ptr b0 3) rfl (de _ _)) rfl<|Wn.od (aj (k:=1) az rfl rfl rfl) rfl<|Wn.od (ay (r:=ptr b3 3) rfl (de _ _)) rfl<|Wn.od (aj (k:=0) az rfl rfl rfl) rfl ?_;obtain⟨r1,h13,hF⟩:=J hF;refine Wn.c (eT rfl rfl (fun m hm=>jj n x2 x3 x4 x5 x9 x10  _ h13 m) fun _=>rfl) gn rfl ?_;rintro⟨⟩;refine Wn.od (ai rfl) rfl<|Wn.od (ai rfl) rfl<|Wn.nil (fun m hm=>eG.all rfl)<|At.tn<|Wk.seq<|Wk.eH (prs:=[(6,8),(6,10),(6,12)]) (by kernel_rfl)<|Wn.od (ay (r:=ptr b3 1) rfl (cA _ _)) rfl<|Wn.od (aj (k:=0) az rfl rfl rfl) rfl<|Wn.od (ay (r:=ptr b3 3) rfl (de _ _)) rfl<|Wn.od (aj (k:=0) az rfl rfl rfl) rfl<|Wn.od (ay (r:=ptr b0 1) rfl (cA _ _)) rfl<|Wn.od (aj (k:=1) az rfl rfl rfl) rfl ?_
 obtain⟨r2,h14,hF⟩:=J hF;refine Wn.c (eT rfl rfl (fun m hm=>jj n x7 x8 x9 x10 x2 x3  _ h14 m) fun _=>rfl) gn rfl ?_;rintro⟨⟩;refine Wn.od (ay (r:=ptr b3 1) rfl (cA _ _)) rfl<|Wn.od (aj (k:=0) az rfl rfl rfl) rfl<|Wn.od (ay (r:=ptr b3 3) rfl (de _ _)) rfl<|Wn.od (aj (k:=0) az rfl rfl rfl) rfl<|Wn.od (ay (r:=ptr b0 3) rfl (de _ _)) rfl<|Wn.od (aj (k:=1) az rfl rfl rfl) rfl ?_;obtain⟨r3,h15,hF⟩:=J hF;refine Wn.c (eT rfl rfl (fun m hm=>jj n x7 x8 x9 x10 x4 x5  _ h15 m) fun _=>rfl) gn rfl ?_;rintro⟨⟩;refine Wn.od (ai rfl) rfl<|Wn.od (ai rfl) rfl<|Wn.nil (fun m hm=>eG.all rfl)<|At.tn<|Wk.seq<|Wk.region<|Wo.x H6 gn rfl fun b4=>?_;refine Wo.od (ai rfl) rfl<|Wo.nil<|At.tn<|Wk.seq<|Wk.seq<|Wk.region<|Wo.od (ay (r:=ptr b0 1) rfl (cA _ _)) rfl<|Wo.od (aj (k:=2) az rfl rfl rfl) rfl<|Wo.od (ay (r:=ptr b0 3) rfl (de _ _)) rfl<|Wo.od (aj (k:=2) az rfl rfl rfl) rfl<|Wo.od (ay (r:=ptr b3 1) rfl (cA _ _)) rfl<|Wo.od (aj (k:=1) az rfl rfl rfl) rfl<|Wo.od (ay (r:=ptr b3 3) rfl (de _ _)) rfl<|Wo.od (aj (k:=1) az rfl rfl rfl) rfl<|Wo.od (dK rfl z41 rfl (dI HW rfl rfl rfl)) rfl ?_;refine Wo.od (aa rfl) rfl<|Wo.nil<|At.tn<|Wk.block ?_;obtain⟨l1,h3,hF⟩:=J hF;refine Wk.cut (G:=(fun(r:List ((Int × Int) × Bool)) (g:Unit)=>match r,g with|l1,_=>⟨(.exit 0),[(5,.int .i64 r0),(6,.int .i64 r1),(7,.int .i64 r2),(8,.int .i64 r3),(9,.map (some b4))],[.obj b4 (.map (l1.map (eM (fun p:Int × Int=>.agg #[.int .i64 p.1,.int .i64 p.2]) (fun b:Bool=>.bool b))))]⟩) l1) ?_ ?_
 ·refine Wk.ep (fs':=[(2,ptr b0 0),(3,ptr b3 0),(5,.int .i64 r0),(6,.int .i64 r1),(7,.int .i64 r2),(8,.int .i64 r3),(9,.map (some b4)),(49,.agg #[.int .i64 x2,.int .i64 x3,.int .i64 x4,.int .i64 x5,.int .i64 x7,.int .i64 x8,.int .i64 x9,.int .i64 x10]),(50,.int .i64 0)]) (ps':=[.obj b0 (.cells [.int .i64 x1,.int .i64 x2,.int .i64 x3,.int .i64 x4,.int .i64 x5] .own),.obj b3 (.cells [.int .i64 x6,.int .i64 x7,.int .i64 x8,.int .i64 x9,.int .i64 x10] .own),.obj b4 (.map (([]:List ((Int × Int) × Bool)).map (eM (fun p:Int × Int=>.agg #[.int .i64 p.1,.int .i64 p.2]) (fun b:Bool=>.bool b))))]) (sc rfl (sc rfl (sc rfl (sc rfl (sc rfl (sc rfl (sc rfl (sc rfl (sc rfl sn))))))))) (ae.U [2,1,0] rfl rfl) ?_;refine Wk.loop (σ:=List ((Int × Int) × Bool) × Int) (ρ:=List ((Int × Int) × Bool)) (γ:=Unit) (δ:=fun _=>Unit) _ (fun(s:List ((Int × Int) × Bool) × Int) (g:Unit)=>match s,g with | (l2,v0),_=>⟨.normal,[(2,ptr b0 0),(3,ptr b3 0),(5,.int .i64 r0),(6,.int .i64 r1),(7,.int .i64 r2),(8,.int .i64 r3),(9,.map (some b4)),(49,.agg #[.int .i64 x2,.int .i64 x3,.int .i64 x4,.int .i64 x5,.int .i64 x7,.int .i64 x8,.int .i64 x9,.int .i64 x10]),(50,.int .i64 v0)],[.obj b0 (.cells [.int .i64 x1,.int .i64 x2,.int .i64 x3,.int .i64 x4,.int .i64 x5] .own),.obj b3 (.cells [.int .i64 x6,.int .i64 x7,.int .i64 x8,.int .i64 x9,.int .i64 x10] .own),.obj b4 (.map (l2.map (eM (fun p:Int × Int=>.agg #[.int .i64 p.1,.int .i64 p.2]) (fun b:Bool=>.bool b))))]⟩) (fun(r:List ((Int × Int) × Bool)) (g:Unit)=>match r,g with|l1,_=>⟨(.exit 0),[(5,.int .i64 r0),(6,.int .i64 r1),(7,.int .i64 r2),(8,.int .i64 r3),(9,.map (some b4))],[.obj b4 (.map (l1.map (eM (fun p:Int × Int=>.agg #[.int .i64 p.1,.int .i64 p.2]) (fun b:Bool=>.bool b))))]⟩) ?_ (fun _ _=>rfl) (fun r d=>by intro e; cases e) _ _ _ h3 ()
  clear hF h3;rintro⟨l2,v0⟩ ⟨⟩ r hF;unfold mS at hF;refine Wk.seq<|Wk.region<|Wo.od (ak rfl rfl (aS _ _ _)) rfl<|Wo.nil<|At.tn<|Wk.seq ?_;rcases ah hF with⟨h4,hF⟩|⟨h4,hF⟩
  ·refine Wk.aD rfl h4<|Wk.skip<|At.tn<|Wk.seq ?_;obtain⟨l3,h16,hF⟩:=J hF;refine Wk.cut (G:=(fun(r:List ((Int × Int) × Bool)) (g:Unit)=>match r,g with|l3,_=>⟨.normal,[(2,ptr b0 0),(3,ptr b3 0),(5,.int .i64 r0),(6,.int .i64 r1),(7,.int .i64 r2),(8,.int .i64 r3),(9,.map (some b4)),(49,.agg #[.int .i64 x2,.int .i64 x3,.int .i64 x4,.int .i64 x5,.int .i64 x7,.int .i64 x8,.int .i64 x9,.int .i64 x10]),(50,.int .i64 v0)],[.obj b0 (.cells [.int .i64 x1,.int .i64 x2,.int .i64 x3,.int .i64 x4,.int .i64 x5] .own),.obj b3 (.cells [.int .i64 x6,.int .i64 x7,.int .i64 x8,.int .i64 x9,.int .i64 x10] .own),.obj b4 (.map (l3.map (eM (fun p:Int × Int=>.agg #[.int .i64 p.1,.int .i64 p.2]) (fun b:Bool=>.bool b))))]⟩) l3) ?_ ?_
   ·clear hF;revert l3;intro r hF;refine Wk.block<|Wk.seq<|Wk.region ?_;obtain⟨h17,hF⟩:=al hF;obtain⟨⟨x11,x12⟩,h0,hF⟩:=J hF;refine Wo.x (zT (α:=Unit) (V:=fun g=>match g with|_=>.agg #[.int .i64 x11,.int .i64 x12]) (N:=fun g=>match g with|_=>[]++[.obj b0 (.cells [.int .i64 x1,.int .i64 x2,.int .i64 x3,.int .i64 x4,.int .i64 x5] .own),.obj b3 (.cells [.int .i64 x6,.int .i64 x7,.int .i64 x8,.int .i64 x9,.int .i64 x10] .own),.obj b4 (.map (l2.map (eM (fun p:Int × Int=>.agg #[.int .i64 p.1,.int .i64 p.2]) (fun b:Bool=>.bool b))))]) rfl rfl (fun m hm=>?_)) gn rfl ?_
    ·have hj:=av h17;obtain⟨j,h11⟩:∃j:Nat,(v0:Int)=j:=⟨_,(Int.toNat_of_nonneg hj.1).symm⟩;rw[h11] at h0 hj ⊢;rw[Int.toNat_natCast] at h0 hj;replace hj:=hj.2;clear hF h11
     match j,hj,h0 with
     | 0,_,h0=>cases h0; exact⟨(),oU CE (i:=0) (by decide) (kN az rfl),hm⟩
     | 1,_,h0=>cases h0; exact⟨(),oU CE (i:=1) (by decide) (kN az rfl),hm⟩
     | 2,_,h0=>cases h0; exact⟨(),oU CE (i:=2) (by decide) (kN az rfl),hm⟩
     | 3,_,h0=>cases h0; exact⟨(),oU CE (i:=3) (by decide) (kN az rfl),hm⟩
     | _+4,hj,_=>exact absurd hj (by omega)
    rintro⟨⟩;refine Wo.x (cL z33 rfl) gn rfl fun b5=>?_;refine Wo.o0 (bB (k:=0) az rfl rfl rfl rfl rfl)<|Wo.nil<|At.tn<|Wk.seq ?_;obtain⟨v1,h18,hF⟩:=J hF;refine Wk.cut (G:=(fun(r:Bool) (g:Unit)=>match r,g with|v1,_=>⟨.normal,[(2,ptr b0 0),(3,ptr b3 0),(5,.int .i64 r0),(6,.int .i64 r1),(7,.int .i64 r2),(8,.int .i64 r3),(9,.map (some b4)),(11,ptr b5 0),(49,.agg #[.int .i64 x2,.int .i64 x3,.int .i64 x4,.int .i64 x5,.int .i64 x7,.int .i64 x8,.int .i64 x9,.int .i64 x10]),(50,.int .i64 v0),(60,.bool v1)],[.obj b0 (.cells [.int .i64 x1,.int .i64 x2,.int .i64 x3,.int .i64 x4,.int .i64 x5] .own),.obj b3 (.cells [.int .i64 x6,.int .i64 x7,.int .i64 x8,.int .i64 x9,.int .i64 x10] .own),.obj b4 (.map (l2.map (eM (fun p:Int × Int=>.agg #[.int .i64 p.1,.int .i64 p.2]) (fun b:Bool=>.bool b)))),.obj b5 (.cells [.int .i64 x11,.int .i64 x12] .own)]⟩) v1) ?_ ?_
    ·clear hF;revert v1;intro r hF;refine Wk.region<|Wo.od (aj (k:=1) nk rfl rfl rfl) rfl<|Wo.od (aj (k:=0) az rfl rfl rfl) rfl ?_;obtain⟨r4,h19,hF⟩:=J hF;refine Wo.x (bR rfl rfl (fun m hm=>vC n x1 x2 x3 x4 x5 x11 x12  _ h19 m) fun _=>rfl) gn rfl ?_;rintro⟨⟩;refine Wo.od (aa rfl) rfl ?_;rcases ah hF with⟨h2,hF⟩|⟨h2,hF⟩
     ·refine Wo.og (aj (k:=2) nk rfl rfl rfl) (gg rfl rfl (bO h2)) rfl<|Wo.og (aj (k:=0) az rfl rfl rfl) (gg rfl rfl (bO h2)) rfl ?_;obtain⟨r5,h20,hF⟩:=J hF;refine Wo.x (bR rfl rfl (fun m hm=>vC n x6 x7 x8 x9 x10 x11 x12  _ h20 m) fun _=>rfl) (gg rfl rfl (bO h2)) rfl ?_;rintro⟨⟩;refine Wo.od (dG rfl h2 rfl) rfl<|Wo.nil ?_;have hr:=Option.some.inj hF;subst r;exact At.en () rfl (sc rfl (sc rfl (sc rfl (sc rfl (sc rfl (sc rfl (sc rfl (sc rfl (sc rfl (sc rfl (sc rfl sn))))))))))) (ae.U [1,2,3,0] rfl rfl)
     ·refine Wo.s (gg rfl rfl (bM h2)) rfl<|Wo.s (gg rfl rfl (bM h2)) rfl<|Wo.s (gg rfl rfl (bM h2)) rfl<|Wo.od (dC rfl h2 rfl) rfl<|Wo.nil ?_;cases hF;exact At.en () rfl (sc rfl (sc rfl (sc rfl (sc rfl (sc rfl (sc rfl (sc rfl (sc rfl (sc rfl (sc rfl (sc rfl sn))))))))))) (ae.U [1,2,3,0] rfl rfl)
    ·clear h18;rintro⟨⟩;refine At.tn ?_;rcases ah hF with⟨h5,hF⟩|⟨h5,hF⟩
     ·refine Wk.aD rfl h5<|Wk.region<|Wo.od (aa rfl) rfl<|Wo.od (aj (k:=3) az rfl rfl rfl) rfl<|Wo.o0 (H0 (q:=2) (xs:=l2) (k:=(x11,x12)) (v:=true) (vE:=(fun b:Bool=>.bool b)) D9 (Hb D3) rfl rfl rfl rfl)<|Wo.nil<|At.bn ?_;cases hF;exact At.en () rfl (sc rfl (sc rfl (sc rfl (sc rfl (sc rfl (sc rfl (sc rfl (sc rfl (sc rfl sn))))))))) (ae.U [0,1,2] rfl rfl)
     ·refine Wk.aC rfl h5<|Wk.skip<|At.bn ?_;have hr:=Option.some.inj hF;subst r;exact At.en () rfl (sc rfl (sc rfl (sc rfl (sc rfl (sc rfl (sc rfl (sc rfl (sc rfl (sc rfl sn))))))))) (ae.U [0,1,2] rfl rfl)
   ·clear h16;rintro⟨⟩;refine At.tn<|Wk.region<|Wo.od (ak rfl rfl (aB _ _ _)) rfl<|Wo.od (aa rfl) rfl<|Wo.nil ?_;cases hF;exact At.en () rfl (sc rfl (sc rfl (sc rfl (sc rfl (sc rfl (sc rfl (sc rfl (sc rfl (sc rfl sn))))))))) (ae.U [0,1,2] rfl rfl)
  ·refine Wk.aC rfl h4<|Wk.exit<|At.te ?_;cases hF;exact At.en () rfl (sc rfl (sc rfl (sc rfl (sc rfl (sc rfl sn))))) (ae.U [2] rfl rfl)
 ·clear h3;rintro⟨⟩;refine At.be<|At.tn<|Wk.seq<|Wk.block<|Wk.seq<|Wk.region<|Wo.od (aa rfl) rfl ?_;obtain⟨y0,h6,hF⟩:=J hF;replace h6:=Option.some.inj h6;refine Wo.od (Ak (q:=0) (xs:=l1) D9 rfl rfl h6) rfl<|Wo.od (ak rfl rfl (bJ _ _ _)) rfl<|Wo.od (ai rfl) rfl<|Wo.nil<|At.tn ?_;rcases ah hF with⟨h7,hF⟩|⟨h7,hF⟩
  ·refine Wk.aD rfl h7<|Wk.seq<|Wk.region<|Wo.od (ai rfl) rfl<|Wo.nil<|At.tn<|Wk.ret<|At.br<|At.tr ?_;cases hF;exact At.ret (.tmp rfl .nil) fun m' hm=>⟨(),rfl,(ae.U [] rfl rfl) m' hm⟩
  ·refine Wk.aC rfl h7<|Wk.seq<|Wk.region<|Wo.od (aa rfl) rfl ?_;obtain⟨y1,h8,hF⟩:=J hF;replace h8:=Option.some.inj h8;refine Wo.od (Ak (q:=0) (xs:=l1) D9 rfl rfl h8) rfl<|Wo.od (ak rfl rfl (dh _ _ _)) rfl<|Wo.od (ai rfl) rfl<|Wo.nil<|At.tn ?_;rcases ah hF with⟨h9,hF⟩|⟨h9,hF⟩
   ·refine Wk.aD rfl h9<|Wk.seq<|Wk.region<|Wo.od (ai rfl) rfl<|Wo.nil<|At.tn<|Wk.ret<|At.br<|At.tr ?_;cases hF;exact At.ret (.tmp rfl .nil) fun m' hm=>⟨(),rfl,(ae.U [] rfl rfl) m' hm⟩
   ·refine Wk.aC rfl h9<|Wk.seq ?_;obtain⟨v2,h21,hF⟩:=J hF;refine Wk.cut (G:=(fun(r:Bool) (g:Unit)=>match r,g with|v2,_=>⟨.normal,[(72,.bool v2)],[]⟩) v2) ?_ ?_
    ·clear hF;revert v2;intro r hF;refine Wk.region<|Wo.od (aa rfl) rfl<|Wo.od (aa rfl) rfl<|Wo.od (ak rfl rfl (bQ _ _ _)) rfl<|Wo.od (ak rfl rfl (aS _ _ _)) rfl<|Wo.od (aa rfl) rfl ?_;rcases ah hF with⟨h1,hF⟩|⟨h1,hF⟩
     ·refine Wo.og (aa rfl) (gg rfl rfl (bO h1)) rfl<|Wo.og (aa rfl) (gg rfl rfl (bO h1)) rfl<|Wo.og (ak rfl rfl (bQ _ _ _)) (gg rfl rfl (bO h1)) rfl<|Wo.og (ak rfl rfl (aS _ _ _)) (gg rfl rfl (bO h1)) rfl<|Wo.od (dG rfl h1 rfl) rfl<|Wo.od (ai rfl) rfl<|Wo.nil ?_;cases hF;exact At.en () rfl (sc rfl sn) (ae.U [] rfl rfl)
     ·refine Wo.s (gg rfl rfl (bM h1)) rfl<|Wo.s (gg rfl rfl (bM h1)) rfl<|Wo.s (gg rfl rfl (bM h1)) rfl<|Wo.s (gg rfl rfl (bM h1)) rfl<|Wo.od (dC rfl h1 rfl) rfl<|Wo.od (ai rfl) rfl<|Wo.nil ?_;cases hF;exact At.en () rfl (sc rfl sn) (ae.U [] rfl rfl)
    ·clear h21;rintro⟨⟩;refine At.tn ?_;rcases ah hF with⟨h10,hF⟩|⟨h10,hF⟩
     ·refine Wk.aD rfl h10<|Wk.seq<|Wk.region<|Wo.od (ai rfl) rfl<|Wo.nil<|At.tn<|Wk.ret<|At.br<|At.tr ?_;cases hF;exact At.ret (.tmp rfl .nil) fun m' hm=>⟨(),rfl,(ae.U [] rfl rfl) m' hm⟩
     ·refine Wk.aC rfl h10<|Wk.skip<|At.bn<|At.tn<|Wk.seq<|Wk.region<|Wo.od (ai rfl) rfl<|Wo.nil<|At.tn<|Wk.ret ?_;cases hF;exact At.ret (.tmp rfl .nil) fun m' hm=>⟨(),rfl,(ae.U [] rfl rfl) m' hm⟩
end Go.Proofs.YthmekkhpddehjaaGreat
end
