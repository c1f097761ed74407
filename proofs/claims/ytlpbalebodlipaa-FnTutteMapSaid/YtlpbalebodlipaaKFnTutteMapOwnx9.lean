/- A part of the proof of FnTutteMap. There are no conditions. -/
import Derived.Test.YtlpbalebodlipaaKFnTutteMapOwnx8
namespace Go.Proofs.Ytlpbalebodlipaa.PL
open Go.RowKit Go.Proofs.YtlpbalebodlipaaW.PrintWords Go.Proofs.YtlpbalebodlipaaW.PrintLast Go.Proofs.YtlpbalebodlipaaW.PrintMore
theorem gj {p:Prop} (h:p:=by exact(bU3 HB.out yn.out CN.out uz.out)):p:=h
theorem mE {p:Prop} (h:p:=by exact(bU4 HB.out yn.out CN.out uz.out qH.out)):p:=h
theorem C7 {p:Prop} (h:p:=by exact rA (Kd.ah eL.out (fun _ hk=>⟨hk.1.1.2,⟨hk.1.2,⟨hk.2,hk.1.1.1⟩⟩⟩))):p:=h
theorem CZ {p:Prop} (h:p:=by exact rA (Kd.ah eM.out (fun _ hk=>⟨hk.1.1.2,⟨hk.1.2,⟨hk.2,hk.1.1.1⟩⟩⟩))):p:=h
theorem Dl {p:Prop} (h:p:=by exact rA (Kd.ah eW.out (fun _ hk=>⟨hk.1.2,⟨hk.2,⟨hk.1.1.1.2,hk.1.1.2⟩⟩⟩))):p:=h
theorem C9 {p:Prop} (h:p:=by exact rA (Kd.ah l7.out (fun _ hk=>⟨hk.2,⟨hk.1.1.1,⟨hk.1.1.2,hk.1.2⟩⟩⟩))):p:=h
theorem C8 {p:Prop} (h:p:=by exact rA (Kd.ah l8.out (fun _ hk=>⟨hk.2,⟨hk.1.1.1,⟨hk.1.1.2,hk.1.2⟩⟩⟩))):p:=h
theorem wX {p:Prop} (h:p:=by simp only[gv,Act.put,List.setIfInBounds_toArray,List.set_cons_zero,List.set_cons_succ]):p:=h
theorem Ah {p:Prop} (h:p:=by exact(Kd.aD (Kd.aD ho0 (Kd.ar (rU eL.out))) (Kd.ar (rU eM.out)))):p:=h
theorem CX {p:Prop} (h:p:=by exact(Kd.aD (Kd.aD (Kd.aD ho1 (Kd.ar (rU eL.out))) (Kd.ar (rU eM.out))) (Kd.ar (rU eW.out)))):p:=h
theorem mh {p:Prop} (h:p:=by exact(bU2 HB.out Ab.out EW.out)):p:=h
theorem CU {p:Prop} (h:p:=by exact(Kd.ah (Kd.fW (Kd.fW (Kd.oM (rU eL.out) hb) (Kd.ax ho0)) (Kd.ax ho1)) (fun _ h_=>h_.1))):p:=h
theorem C6 {p:Prop} (h:p:=by exact(Kd.ah (Kd.fW (Kd.fW (Kd.oM (rU eM.out) hb) (Kd.ax ho0)) (Kd.ax ho1)) (fun _ h_=>h_.1))):p:=h
theorem Dz {p:Prop} (h:p:=by exact(Kd.ah (Kd.fW (Kd.fW (Kd.oM (rU eW.out) hb) (Kd.ax ho0)) (Kd.ax ho1)) (fun _ h_=>h_.1))):p:=h
theorem rN {p:Prop} (h:p:=by exact(bU2 HB.out yn.out CN.out)):p:=h
theorem tN {p:Prop} (h:p:=by exact(bU2 HB.out ME.out aeV.out)):p:=h
theorem Og {p:Prop} (h:p:=by exact rA (Kd.ah ky.out (fun _ hk=>⟨hk.1.2,hk.2⟩))):p:=h
theorem NR {p:Prop} (h:p:=by exact rA (Kd.ah Ac.out (fun _ hk=>⟨hk.2,hk.1⟩))):p:=h
theorem N8 {p:Prop} (h:p:=by exact rA (Kd.ah Ad.out (fun _ hk=>⟨hk.2,hk.1⟩))):p:=h
theorem M4 {p:Prop} (h:p:=by exact(Kd.aD (Kd.aD (Kd.aD ho0 (Kd.ar (rU uA.out))) (Kd.ar (rU tr.out))) (Kd.ar (rU yo.out)))):p:=h
theorem NW {p:Prop} (h:p:=by exact(Kd.ah (Kd.fW (Kd.fW (Kd.oM (rU ky.out) hb) (Kd.ax ho0)) (Kd.ax ho1)) (fun _ h_=>h_.1))):p:=h
theorem Jl {p:Prop} (h:p:=by exact(Kd.a7 (Kd.aD Ah (Kd.ar (rU eW.out))) (aQ mE))):p:=h
theorem Fb {p:Prop} (h:p:=by exact(Kd.aW (rU uA.out) (Kd.ax ho0) hb)):p:=h
theorem YA {p:Prop} (h:p:=by exact rA (Kd.ah yp.out (fun _ hk=>⟨hk.2,hk.1⟩))):p:=h
theorem XY {p:Prop} (h:p:=by exact rA (Kd.ah aC.out (fun _ hk=>⟨hk.2,hk.1⟩))):p:=h
theorem VE {p:Prop} (h:p:=by exact(lI (g:=gr) (o:=.cells #[.slice aA af.length az,.slice ak ag.length aj] 29 (0,0)) (kF1 be.out iv.out) hb)):p:=h
theorem Jd {p:Prop} (h:p:=by exact(Kd.aW (rU eL.out) (Kd.ax ho0) hb)):p:=h
theorem I8 {p:Prop} (h:p:=by exact(Kd.aW (rU eM.out) (Kd.ax ho0) hb)):p:=h
attribute [local go_sem] tH tW tL tB tJ tE tM tP
set_option linter.unusedVariables false
set_option linter.unusedSimpArgs false
def cmp_Compare_int.f (a0:Int) (a1:Int):Option (Int):=(cmp_isNaN_int.f a0).bind fun US=>((cmp_isNaN_int.f a1).bind fun Ij=>(if US=true then(if Ij=true then(some 0)else(some (-1)))else(if Ij=true then(some 1)else(if a0<a1 then(some (-1))else(if a0>a1 then(some 1)else(some 0))))))
set_option maxHeartbeats 8000000 in
set_option maxRecDepth 100000 in
theorem cmp_Compare_int.calls (a0:Int) (a1:Int) (r:Int) (w:World) (h:cmp_Compare_int.f a0 a1=some r):
 Calls Try.prog 128 #[.int .i64 a0,.int .i64 a1] w fun e w'=>e= .returned (.int .i64 r)/\cy w w':=by
 have H:=h;clear h;unfold cmp_Compare_int.f at H;replace H:=bd H;obtain⟨US,A3,H⟩:=H;replace H:=bd H;obtain⟨Ij,A4,H⟩:=H
 by_cases c5:US=true
 ·
  subst c5;rw[if_pos rfl]at H
  by_cases c6:Ij=true
  ·
   subst c6;rw[if_pos rfl]at H;obtain rfl:=Option.some.inj H;go_enter Try.func128,Try.ntmps128
   go_wp2_with (first|((with_reducible refine gK 131 rfl ?_);refine gC (some 8) Try.func131 #[.int .i64 a0] ?_;(with_reducible refine(cmp_isNaN_int.calls a0 true _ A3.out).mono ?_);rintro e w' ⟨rfl,⟨nd,rfl⟩⟩;refine⟨_,rfl,?_⟩)|((with_reducible refine gK 131 rfl ?_);refine gC (some 10) Try.func131 #[.int .i64 a1] ?_;(with_reducible refine(cmp_isNaN_int.calls a1 true _ A4.out).mono ?_);rintro e w' ⟨rfl,⟨nd,rfl⟩⟩;refine⟨_,rfl,?_⟩))
   go_ret;exact⟨by first|rfl|(simp;done)|(simp[*];done),qc_⟩
  ·
   replace c6:=Bool.eq_false_iff.mpr c6;subst c6;rw[if_neg nT]at H;obtain rfl:=Option.some.inj H;go_enter Try.func128,Try.ntmps128
   go_wp2_with (first|((with_reducible refine gK 131 rfl ?_);refine gC (some 8) Try.func131 #[.int .i64 a0] ?_;(with_reducible refine(cmp_isNaN_int.calls a0 true _ A3.out).mono ?_);rintro e w' ⟨rfl,⟨nd,rfl⟩⟩;refine⟨_,rfl,?_⟩)|((with_reducible refine gK 131 rfl ?_);refine gC (some 10) Try.func131 #[.int .i64 a1] ?_;(with_reducible refine(cmp_isNaN_int.calls a1 false _ A4.out).mono ?_);rintro e w' ⟨rfl,⟨nd,rfl⟩⟩;refine⟨_,rfl,?_⟩))
   go_ret;exact⟨by first|rfl|(simp;done)|(simp[*];done),qc_⟩
 ·
  replace c5:=Bool.eq_false_iff.mpr c5;subst c5;rw[if_neg nT]at H
  by_cases c7:Ij=true
  ·
   subst c7;rw[if_pos rfl]at H;obtain rfl:=Option.some.inj H;go_enter Try.func128,Try.ntmps128
   go_wp2_with (first|((with_reducible refine gK 131 rfl ?_);refine gC (some 8) Try.func131 #[.int .i64 a0] ?_;(with_reducible refine(cmp_isNaN_int.calls a0 false _ A3.out).mono ?_);rintro e w' ⟨rfl,⟨nd,rfl⟩⟩;refine⟨_,rfl,?_⟩)|((with_reducible refine gK 131 rfl ?_);refine gC (some 10) Try.func131 #[.int .i64 a1] ?_;(with_reducible refine(cmp_isNaN_int.calls a1 true _ A4.out).mono ?_);rintro e w' ⟨rfl,⟨nd,rfl⟩⟩;refine⟨_,rfl,?_⟩))
   go_ret;exact⟨by first|rfl|(simp;done)|(simp[*];done),qc_⟩
  ·
   replace c7:=Bool.eq_false_iff.mpr c7;subst c7;rw[if_neg nT]at H
   replace H:=gB H;rcases H with⟨jS,H⟩|⟨jS,H⟩
   ·
    obtain rfl:=Option.some.inj H;go_enter Try.func128,Try.ntmps128
    go_wp2_with (first|((with_reducible refine gK 131 rfl ?_);refine gC (some 8) Try.func131 #[.int .i64 a0] ?_;(with_reducible refine(cmp_isNaN_int.calls a0 false _ A3.out).mono ?_);rintro e w' ⟨rfl,⟨nd,rfl⟩⟩;refine⟨_,rfl,?_⟩)|((with_reducible refine gK 131 rfl ?_);refine gC (some 10) Try.func131 #[.int .i64 a1] ?_;(with_reducible refine(cmp_isNaN_int.calls a1 false _ A4.out).mono ?_);rintro e w' ⟨rfl,⟨nd,rfl⟩⟩;refine⟨_,rfl,?_⟩))
    go_ret;exact⟨by first|rfl|(simp;done)|(simp[*];done),qc_⟩
   ·
    replace H:=gB H;rcases H with⟨mK,H⟩|⟨mK,H⟩
    ·
     obtain rfl:=Option.some.inj H;go_enter Try.func128,Try.ntmps128
     go_wp2_with (first|((with_reducible refine gK 131 rfl ?_);refine gC (some 8) Try.func131 #[.int .i64 a0] ?_;(with_reducible refine(cmp_isNaN_int.calls a0 false _ A3.out).mono ?_);rintro e w' ⟨rfl,⟨nd,rfl⟩⟩;refine⟨_,rfl,?_⟩)|((with_reducible refine gK 131 rfl ?_);refine gC (some 10) Try.func131 #[.int .i64 a1] ?_;(with_reducible refine(cmp_isNaN_int.calls a1 false _ A4.out).mono ?_);rintro e w' ⟨rfl,⟨nd,rfl⟩⟩;refine⟨_,rfl,?_⟩))
     go_ret;exact⟨by first|rfl|(simp;done)|(simp[*];done),qc_⟩
    ·
     obtain rfl:=Option.some.inj H;go_enter Try.func128,Try.ntmps128
     go_wp2_with (first|((with_reducible refine gK 131 rfl ?_);refine gC (some 8) Try.func131 #[.int .i64 a0] ?_;(with_reducible refine(cmp_isNaN_int.calls a0 false _ A3.out).mono ?_);rintro e w' ⟨rfl,⟨nd,rfl⟩⟩;refine⟨_,rfl,?_⟩)|((with_reducible refine gK 131 rfl ?_);refine gC (some 10) Try.func131 #[.int .i64 a1] ?_;(with_reducible refine(cmp_isNaN_int.calls a1 false _ A4.out).mono ?_);rintro e w' ⟨rfl,⟨nd,rfl⟩⟩;refine⟨_,rfl,?_⟩))
     go_ret;exact⟨by first|rfl|(simp;done)|(simp[*];done),qc_⟩
def mg.l0:Nat->List Int->List Int->List Int->Int->Int->Option (Int)
 |0,_,_,_,_,_=>none
 |k+1,x0,x1,x9,fi,cu=>if cu<fi then(if 0<=cu then(if cu<(x9.length:Int)then(if cu>=(x1.length:Int)then(some 1)else(if cu<(x1.length:Int)then((cmp_Compare_int.f (rd x9 cu) (rd x1 cu)).bind fun Ik=>(if Ik=0 then(mg.l0 k x0 x1 x9 fi (wrap64 (cu+1)))else(some Ik)))else(none)))else(none))else(none))else(if(x0.length:Int)<(x1.length:Int)then(some (-1))else(some 0))
def mg.f (k:Nat) (l0:List Int) (l1:List Int):Option (Int):=mg.l0 k l0 l1 l0 (l0.length:Int) 0
set_option maxHeartbeats 8000000 in
set_option maxRecDepth 100000 in
theorem mg.calls (k:Nat) (A0:Option Addr) (c0:Nat) (l0:List Int) (A1:Option Addr) (c1:Nat) (l1:List Int) (r:Int) (w:World) (hr0:Kd.C (Kd.int .i64) w A0 l0.length l0) (hc0:l0.length<=c0) (hr1:Kd.C (Kd.int .i64) w A1 l1.length l1) (hc1:l1.length<=c1) (h:mg.f k l0 l1=some r):
 Calls Try.prog 120 #[.slice A0 l0.length c0,.slice A1 l1.length c1] w fun e w'=>e= .returned (.int .i64 r)/\cy w w':=by
 have dt:=Az hr0;have iX:=Az hc0;clear hr0 hc0;have HR1:=Az hr1;have ml:=Az hc1;clear hr1 hc1;have H:=h;clear h;unfold mg.f at H;have H':=Az H;clear H;go_enter Try.func120,Try.ntmps120;go_wp2
 go_loopg [11] k (fun kq v11 w'=>∃(dW:Int),v11= .int .i64 dW/\ae (mg.l0 kq l0 l1 l0 (l0.length:Int) dW=some r)/\ae (kq<=k)/\cy w w')
 case atStart=>exact⟨(0),rS,H',⟨Nat.le_refl _⟩,qc_⟩
 case round=>
  clear H';obtain⟨dW,rfl,HA,eZ,⟨m1,rfl⟩⟩:=hrel
  rcases gk with _|k1
  exact(nN HA.out).elim;have H:=HA.out;clear HA;simp only[mg.l0]at H
  replace H:=gB H;rcases H with⟨lJ,H⟩|⟨lJ,H⟩
  ·
   replace H:=gD2 H;obtain⟨kL,qZ,H⟩:=H
   replace H:=gB H;rcases H with⟨kk,H⟩|⟨kk,H⟩
   ·
    obtain rfl:=Option.some.inj H;obtain⟨aeW,Il,aeX,aeY,aeZ⟩:=aI dt.out dW
    cases Il;go_wp2;go_ret;exact⟨by first|rfl|(simp;done)|(simp[*];done),qc_⟩
   ·
    replace H:=gD1 H;obtain⟨jl,H⟩:=H;replace H:=bd H;obtain⟨Ik,A8,H⟩:=H
    replace H:=gQ H;rcases H with⟨mK,SD,H⟩|⟨mK,SD,H⟩
    ·
     have H':=Az H;clear H;obtain⟨aeW,Il,aeX,aeY,aeZ⟩:=aI dt.out dW
     cases Il;obtain⟨arQ,UT,arR,arS,arT⟩:=aI HR1.out dW
     cases UT
     go_wp2_with (first|((with_reducible refine gK 128 rfl ?_);refine gC (some 26) Try.func128 #[.int .i64 (rd l0 dW),.int .i64 (rd l1 dW)] ?_;(with_reducible refine(cmp_Compare_int.calls (rd l0 dW) (rd l1 dW) Ik _ A8.out).mono ?_);rintro e w' ⟨rfl,⟨nd,rfl⟩⟩;refine⟨_,rfl,?_⟩))
     go_roundg k1
     case measure=>exact mO
     case rel=>exact⟨(wrap64 (dW+1)),rS,H',⟨mO⟩,qc_⟩
    ·
     obtain rfl:=Option.some.inj H;obtain⟨aeW,Il,aeX,aeY,aeZ⟩:=aI dt.out dW
     cases Il;obtain⟨arQ,UT,arR,arS,arT⟩:=aI HR1.out dW
     cases UT
     go_wp2_with (first|((with_reducible refine gK 128 rfl ?_);refine gC (some 26) Try.func128 #[.int .i64 (rd l0 dW),.int .i64 (rd l1 dW)] ?_;(with_reducible refine(cmp_Compare_int.calls (rd l0 dW) (rd l1 dW) Ik _ A8.out).mono ?_);rintro e w' ⟨rfl,⟨nd,rfl⟩⟩;refine⟨_,rfl,?_⟩))
     go_ret;exact⟨by first|rfl|(simp;done)|(simp[*];done),qc_⟩
  ·
   by_cases c10:(l0.length:Int)<(l1.length:Int)
   ·rw[if_pos c10]at H;have ni:=decide_eq_true c10;have PT:decide (l0.length<l1.length)=true:=decide_eq_true (Int.ofNat_lt.mp c10);clear c10;obtain rfl:=Option.some.inj H;go_wp2;go_ret;exact⟨by first|rfl|(simp;done)|(simp[*];done),qc_⟩
   ·rw[if_neg c10]at H;have ni:=decide_eq_false c10;have PT:decide (l0.length<l1.length)=false:=decide_eq_false (fun h=>c10 (Int.ofNat_lt.mpr h));clear c10;obtain rfl:=Option.some.inj H;go_wp2;go_ret;exact⟨by first|rfl|(simp;done)|(simp[*];done),qc_⟩
def uF.f (k:Nat) (af:List Int) (ag:List Int) (eU:List Int) (fU:List Int):Option (Int):=(mg.f k af eU).bind fun Im=>(if Im=0 then((mg.f k ag fU).bind fun UU=>(some UU))else(some Im))
set_option maxHeartbeats 8000000 in
set_option maxRecDepth 100000 in
theorem uF.calls (k:Nat) (aA:Option Addr) (az:Nat) (af:List Int) (ak:Option Addr) (aj:Nat) (ag:List Int) (nA:Option Addr) (nC:Nat) (eU:List Int) (pV:Option Addr) (pW:Nat) (fU:List Int) (r:Int) (w:World) (dF:Kd.C (Kd.int .i64) w aA af.length af) (dL:af.length<=az) (de:Kd.C (Kd.int .i64) w ak ag.length ag) (dk:ag.length<=aj) (zR:Kd.C (Kd.int .i64) w nA eU.length eU) (zS:eU.length<=nC) (zT:Kd.C (Kd.int .i64) w pV fU.length fU) (zU:fU.length<=pW) (h:uF.f k af ag eU fU=some r):
 Calls Try.prog 100 #[.agg #[.slice aA af.length az,.slice ak ag.length aj],.agg #[.slice nA eU.length nC,.slice pV fU.length pW]] w fun e w'=>e= .returned (.int .i64 r)/\Below w.heap.size w w':=by
 have jT:=Try.underlying29;have ck:=Az dF;have cv:=Az dL;clear dF dL;have bP:=Az de;have cx:=Az dk;clear de dk;have ya:=Az zR;have yb:=Az zS;clear zR zS;have CC:=Az zT;have CE:=Az zU;clear zT zU;have HB:=bZ w;have H:=h;clear h;unfold uF.f at H;replace H:=bd H;obtain⟨Im,A3,H⟩:=H
 replace H:=gQ H;rcases H with⟨kL,DL,H⟩|⟨kL,DL,H⟩
 ·
  replace H:=bd H;obtain⟨UU,A5,H⟩:=H;obtain rfl:=Option.some.inj H;go_enter Try.func100,Try.ntmps100
  go_wp2_with (first|((with_reducible refine gd 2 rfl ?_);refine bE 2 #[.slice aA af.length az,.slice ak ag.length aj] 29 ?_;intro arU hg w6 hbox hb;have yq:=Az (hbox);have yr:=gW hg (bU0 HB.out);replace HB:=Az (ay (bU0 HB.out) hb);clear hb hbox hg)|((with_reducible refine gd 3 rfl ?_);refine bE 3 #[.slice nA eU.length nC,.slice pV fU.length pW] 29 ?_;intro arV hg w7 hbox hb;have UV:=Az (hbox);have Io:=gW hg (bU1 HB.out yr.out);replace HB:=Az (ay (bU1 HB.out yr.out) hb);have Ip:=nL hg (kU yq.out);replace yq:=kB yq.out hb;clear hb hbox hg;have aqp:=Ip.out;have aqr:=(Ip.out).symm;have D1:=bc2 yq.out;have ze:=bc2 UV.out)|((with_reducible refine gK 120 rfl ?_);refine gC (some 10) Try.func120 #[.slice aA af.length az,.slice nA eU.length nC] ?_;(with_reducible refine(mg.calls k _ _ af _ _ eU Im _ ?_ ?_ ?_ ?_ A3.out).mono ?_);exact cU (Kd.bn ck.out HB.out);exact cv.out;exact cU (Kd.bn ya.out HB.out);exact yb.out;rintro e w' ⟨rfl,⟨nd,rfl⟩⟩;refine⟨_,rfl,?_⟩)|((with_reducible refine gK 120 rfl ?_);refine gC (some 18) Try.func120 #[.slice ak ag.length aj,.slice pV fU.length pW] ?_;(with_reducible refine(mg.calls k _ _ ag _ _ fU UU _ ?_ ?_ ?_ ?_ A5.out).mono ?_);exact cU (Kd.bn bP.out (bU2 HB.out yr.out Io.out));exact cx.out;exact cU (Kd.bn CC.out (bU2 HB.out yr.out Io.out));exact CE.out;rintro e w' ⟨rfl,⟨nd,rfl⟩⟩;refine⟨_,rfl,?_⟩))
  go_ret;exact⟨rE,bU2 HB.out yr.out Io.out⟩
 ·
  obtain rfl:=Option.some.inj H;go_enter Try.func100,Try.ntmps100
  go_wp2_with (first|((with_reducible refine gd 2 rfl ?_);refine bE 2 #[.slice aA af.length az,.slice ak ag.length aj] 29 ?_;intro arU hg lg hbox hb;have yq:=Az (hbox);have yr:=gW hg (bU0 HB.out);replace HB:=Az (ay (bU0 HB.out) hb);clear hb hbox hg)|((with_reducible refine gd 3 rfl ?_);refine bE 3 #[.slice nA eU.length nC,.slice pV fU.length pW] 29 ?_;intro arV hg nJ hbox hb;have UV:=Az (hbox);have Io:=gW hg (bU1 HB.out yr.out);replace HB:=Az (ay (bU1 HB.out yr.out) hb);have Ip:=nL hg (kU yq.out);replace yq:=kB yq.out hb;clear hb hbox hg;have aqs:=Ip.out;have aqt:=(Ip.out).symm;have JY:=bc2 yq.out;have Bj:=bc2 UV.out)|((with_reducible refine gK 120 rfl ?_);refine gC (some 10) Try.func120 #[.slice aA af.length az,.slice nA eU.length nC] ?_;(with_reducible refine(mg.calls k _ _ af _ _ eU Im _ ?_ ?_ ?_ ?_ A3.out).mono ?_);exact cU (Kd.bn ck.out HB.out);exact cv.out;exact cU (Kd.bn ya.out HB.out);exact yb.out;rintro e w' ⟨rfl,⟨nd,rfl⟩⟩;refine⟨_,rfl,?_⟩))
  go_ret;exact⟨rE,bU2 HB.out yr.out Io.out⟩
def kI.f (k:Nat) (af:List Int) (ag:List Int) (l1:List Int):Option (List Int×List Int):=(mH.f k l1).bind fun Iq=>((iH.f k Iq af).bind fun Ir=>((iH.f k Ir l1).bind fun CO=>((mH.f k l1).bind fun Is=>((iH.f k Is ag).bind fun It=>((iH.f k It l1).bind fun EX=>(some (CO,EX)))))))
def kI.T1:Bool×List (List Nat×List Nat):=(true,[([],[]),([0],[0]),([],[]),([2],[2]),([1,3,1],[1,3]),([],[]),([4,5,4],[4,5]),([],[]),([7,6],[7]),([],[]),([9],[9]),([8,10,8],[8,10]),([],[]),([11,12,11],[11,12]),([6,13],[6,13]),([14,13,0,1,2,3,4,5,6,7,8,9,10,11,12,13,14],[14])])
def kI.B1:List Nat:=[0,1,0,4,15,0,63,0,255,0,512,2047,0,8191,16383,32767]
theorem kI.M5:rtab .any (opsOf Try.f80 1)=kI.T1:=by kernel_rfl
theorem kI.N3:gG kI.T1.2 kI.B1=true:=by kernel_rfl
set_option maxHeartbeats 8000000 in
set_option maxRecDepth 100000 in
theorem kI.calls (k:Nat) (aA:Option Addr) (az:Nat) (af:List Int) (ak:Option Addr) (aj:Nat) (ag:List Int) (A1:Option Addr) (c1:Nat) (l1:List Int) (r1:List Int) (r2:List Int) (w:World) (dF:Kd.C (Kd.int .i64) w aA af.length af) (dL:af.length<=az) (de:Kd.C (Kd.int .i64) w ak ag.length ag) (dk:ag.length<=aj) (hr1:Kd.C (Kd.int .i64) w A1 l1.length l1) (hc1:l1.length<=c1) (h:kI.f k af ag l1=some (r1,r2)):
 Calls Try.prog 80 #[.agg #[.slice aA af.length az,.slice ak ag.length aj],.slice A1 l1.length c1] w fun e w'=>∃bC v1_:Value,e= .returned (.agg #[bC,v1_])/\Kd.R (Kd.int .i64) 3 w' w.heap.size (fun k_=>oV k_ v1_) bC r1/\Kd.R (Kd.int .i64) 3 w' w.heap.size (fun k_=>oV k_ bC) v1_ r2/\Below w.heap.size w w':=by
 have jT:=Try.underlying29;have ck:=Az dF;have cv:=Az dL;clear dF dL;have bP:=Az de;have cx:=Az dk;clear de dk;have HR1:=Az hr1;have ml:=Az hc1;clear hr1 hc1;have HB:=bZ w;have H:=h;clear h;unfold kI.f at H;replace H:=bd H;obtain⟨Iq,A3,H⟩:=H;replace H:=bd H;obtain⟨Ir,A4,H⟩:=H;replace H:=bd H;obtain⟨CO,A5,H⟩:=H;replace H:=bd H;obtain⟨Is,A6,H⟩:=H;replace H:=bd H;obtain⟨It,A7,H⟩:=H;replace H:=bd H;obtain⟨EX,A8,H⟩:=H;simp only[Option.some.injEq,Prod.mk.injEq]at H;obtain⟨rfl,rfl⟩:=H;go_enter Try.func80,Try.ntmps80
 try go_wp2_with (first|((with_reducible refine gd 2 rfl ?_);refine bE 2 #[.slice aA af.length az,.slice ak ag.length aj] 29 ?_;intro ae0 hg w9 hbox hb;have iV:=Az (hbox);have ME:=gW hg (bU0 HB.out);replace HB:=Az (ay (bU0 HB.out) hb);clear hb hbox hg)|((with_reducible refine gd 4 rfl ?_);refine bE 4 #[.slice none 0 0,.slice none 0 0] 29 ?_;intro vA hg rc hbox hb;have mD:=Az (hbox);have aeV:=gW hg (bU1 HB.out ME.out);replace HB:=Az (ay (bU1 HB.out ME.out) hb);have Ae:=nL hg (kU iV.out);replace iV:=kB iV.out hb;clear hb hbox hg))
 replace iV:=Az (ce iV.out);replace mD:=Az (ce mD.out);replace HB:=Az (a8 HB.out);refine eX (n:=16) (S:=fun w'=>w'.cell? ⟨ae0,0,none⟩=some (.slice aA af.length az)/\w'.cell? ⟨ae0,1,none⟩=some (.slice ak ag.length aj)) (ds:=[]) (bv 16 0) (by kernel_rfl) rfl rfl ⟨(ai iV.out 0).trans rfl,(ai iV.out 1).trans rfl⟩ (fun hHeld=>?_);refine fL kI.M5 kI.N3 (fun HT_ HW_=>?_);generalize rc.drew=lg at iV mD HB hHeld ⊢;refine av (i:=0) (N:=some 5) (v:=?_) (a':=?_) (bv 16 1) rfl rfl (ao HT_.out (by kernel_rfl)) (fun _ _ _ h=>h) (Or.inl ⟨by rfl,?_⟩) ?_ ?_;rotate_left;(exact yP);rotate_left;(exact aP);refine av (i:=2) (N:=some 7) (v:=?_) (a':=?_) (bv 16 5) rfl rfl (ao HT_.out (by kernel_rfl)) (fun _ _ _ h=>h) (Or.inl ⟨by rfl,?_⟩) ?_ ?_;rotate_left;(exact yP);rotate_left;(exact aP);refine av (i:=5) (N:=some 10) (v:=?_) (a':=?_) (bv 16 37) rfl rfl (ao HT_.out (by kernel_rfl)) (fun _ _ _ h=>h) (Or.inl ⟨by rfl,?_⟩) ?_ ?_;rotate_left;(exact yP);rotate_left;(exact aP);refine av (i:=7) (N:=some 12) (v:=?_) (a':=?_) (bv 16 165) rfl rfl (ao HT_.out (by kernel_rfl)) (fun _ _ _ h=>h) (Or.inl ⟨by rfl,?_⟩) ?_ ?_;rotate_left;(exact yP);rotate_left;(exact aP);refine av (i:=9) (N:=some 14) (v:=?_) (a':=?_) (bv 16 677) rfl rfl (ao HT_.out (by kernel_rfl)) (fun _ _ _ h=>h) (Or.inl ⟨by rfl,?_⟩) ?_ ?_;rotate_left;(exact yP);rotate_left;(exact aP);refine av (i:=12) (N:=some 17) (v:=?_) (a':=?_) (bv 16 4773) rfl rfl (ao HT_.out (by kernel_rfl)) (fun _ _ _ h=>h) (Or.inl ⟨by rfl,?_⟩) ?_ ?_;rotate_left;(exact yP);rotate_left;(exact aP);refine bS (i:=3) (N:=some 8) (v:=?_) (a':=?_) (bv 16 4781) rfl rfl (bW HT_.out HW_.out (by kernel_rfl)) (fun _ _ _ h=>h) (Or.inl ⟨by rfl,?_⟩) hHeld ?_ ?_;rotate_left
 ·
  rintro w' ⟨s0,s1⟩;go_simp
  with_reducible rfl
 rotate_left;(exact aP);refine bS (i:=10) (N:=some 15) (v:=?_) (a':=?_) (bv 16 5805) rfl rfl (bW HT_.out HW_.out (by kernel_rfl)) (fun _ _ _ h=>h) (Or.inl ⟨by rfl,?_⟩) hHeld ?_ ?_;rotate_left
 ·
  rintro w' ⟨s0,s1⟩;go_simp
  with_reducible rfl
 rotate_left;(exact aP);refine dm (i:=1) (N:=some 6) (bv 16 5807) rfl rfl (cJ HT_.out (by kernel_rfl)) (by decide) (fun K hK=>?_);refine eQ Try.func94 (by kernel_rfl) rfl #[.slice A1 l1.length c1] (by rfl) rfl rfl lQ ?_
 with_reducible refine(mH.calls k _ _ l1 Iq _ ?side1 ?side2 A3.out).mono ?_
 (case side1=>exact cU (Kd.bn HR1.out HB.out))
 (case side2=>exact ml.out)
 rintro e nJ ⟨aAr,rfl,ho0,hb⟩;refine⟨_,rfl,?_⟩;have uA:=Az (Kd.a7 ho0 (aQ tN));replace iV:=kB iV.out hb;replace mD:=kB mD.out hb;replace HB:=Az (ay tN hb);clear hb ho0;obtain⟨jm,iJ,nj⟩:=Kd.aH uA.out;(first|subst nj|(injection nj with al aT am;have aU:=al.symm;have aV:=am.symm;clear al aT am;subst aU;subst aV));refine hK.out _ _ ⟨(ai iV.out 0).trans rfl,(ai iV.out 1).trans rfl⟩ (fun hHeld=>?_);clear hK K;refine aX (a':=?_) ?_ ?_;rotate_left
 ·
  show Act.put _ (some 6) _=_
  simp only[Act.put,List.setIfInBounds_toArray,List.set_cons_zero,List.set_cons_succ,bo,bD];rfl
 refine dm (i:=4) (N:=some 9) (bv 16 5823) rfl rfl (cJ HT_.out (by kernel_rfl)) (by decide) (fun K hK=>?_);refine eQ Try.func68 (by kernel_rfl) rfl #[.slice jm Iq.length iJ,.slice aA af.length az] (by rfl) rfl rfl lQ ?_
 with_reducible refine(iH.calls k _ _ Iq _ _ af Ir _ ?side1 ?side2 ?side3 ?side4 A4.out).mono ?_
 (case side1=>exact cU ((Kd.au uA.out).2.2))
 (case side2=>exact(Kd.au uA.out).2.1)
 (case side3=>exact cU (Kd.bn ck.out HB.out))
 (case side4=>exact cv.out)
 rintro e uQ ⟨aAs,rfl,ho0,hb⟩;refine⟨_,rfl,?_⟩;have tr:=Az (Kd.a7 (Kd.aD ho0 (Kd.ar (rU uA.out))) (aQ tN));replace uA:=Az Fb;replace iV:=kB iV.out hb;replace mD:=kB mD.out hb;replace HB:=Az (ay tN hb);clear hb ho0;obtain⟨arW,Sk,Ha⟩:=Kd.aH tr.out;(first|subst Ha|(injection Ha with al aT am;have aU:=al.symm;have aV:=am.symm;clear al aT am;subst aU;subst aV));refine hK.out _ _ ⟨(ai iV.out 0).trans rfl,(ai iV.out 1).trans rfl⟩ (fun hHeld=>?_);clear hK K;refine aX (a':=?_) ?_ ?_;rotate_left
 ·
  show Act.put _ (some 9) _=_
  simp only[Act.put,List.setIfInBounds_toArray,List.set_cons_zero,List.set_cons_succ,bo,bD];rfl
 refine dm (i:=6) (N:=some 11) (bv 16 5887) rfl rfl (cJ HT_.out (by kernel_rfl)) (by decide) (fun K hK=>?_);refine eQ Try.func68 (by kernel_rfl) rfl #[.slice arW Ir.length Sk,.slice A1 l1.length c1] (by rfl) rfl rfl lQ ?_
 with_reducible refine(iH.calls k _ _ Ir _ _ l1 CO _ ?side1 ?side2 ?side3 ?side4 A5.out).mono ?_
 (case side1=>exact cU ((Kd.au tr.out).2.2))
 (case side2=>exact(Kd.au tr.out).2.1)
 (case side3=>exact cU (Kd.bn HR1.out HB.out))
 (case side4=>exact ml.out)
 rintro e w16 ⟨aAt,rfl,ho0,hb⟩;refine⟨_,rfl,?_⟩;have yo:=Az (Kd.a7 (Kd.aD (Kd.aD ho0 (Kd.ar (rU uA.out))) (Kd.ar (rU tr.out))) (aQ tN));replace uA:=Az Fb;replace tr:=Az (Kd.aW (rU tr.out) (Kd.ax ho0) hb);replace iV:=kB iV.out hb;replace mD:=kB mD.out hb;replace HB:=Az (ay tN hb);clear hb ho0;refine hK.out _ _ ⟨(ai iV.out 0).trans rfl,(ai iV.out 1).trans rfl⟩ (fun hHeld=>?_);clear hK K;refine aX (a':=?_) ?_ ?_;rotate_left
 ·
  show Act.put _ (some 11) _=_
  simp only[Act.put,List.setIfInBounds_toArray,List.set_cons_zero,List.set_cons_succ,bo,bD];rfl
 refine dm (i:=8) (N:=some 13) (bv 16 6143) rfl rfl (cJ HT_.out (by kernel_rfl)) (by decide) (fun K hK=>?_);refine eQ Try.func94 (by kernel_rfl) rfl #[.slice A1 l1.length c1] (by rfl) rfl rfl lQ ?_
 with_reducible refine(mH.calls k _ _ l1 Is _ ?side1 ?side2 A6.out).mono ?_
 (case side1=>exact cU (Kd.bn HR1.out HB.out))
 (case side2=>exact ml.out)
 rintro e PM ⟨aAu,rfl,ho0,hb⟩;refine⟨_,rfl,?_⟩;have yt:=Az (Kd.a7 M4 (aQ tN));replace uA:=Az Fb;replace tr:=Az (Kd.aW (rU tr.out) (Kd.ax ho0) hb);replace yo:=Az (Kd.aW (rU yo.out) (Kd.ax ho0) hb);replace iV:=kB iV.out hb;replace mD:=kB mD.out hb;replace HB:=Az (ay tN hb);clear hb ho0;obtain⟨yX,sN,sO⟩:=Kd.aH yt.out;(first|subst sO|(injection sO with al aT am;have aU:=al.symm;have aV:=am.symm;clear al aT am;subst aU;subst aV));refine hK.out _ _ ⟨(ai iV.out 0).trans rfl,(ai iV.out 1).trans rfl⟩ (fun hHeld=>?_);clear hK K;refine aX (a':=?_) ?_ ?_;rotate_left
 ·
  show Act.put _ (some 13) _=_
  simp only[Act.put,List.setIfInBounds_toArray,List.set_cons_zero,List.set_cons_succ,bo,bD];rfl
 refine dm (i:=11) (N:=some 16) (bv 16 8191) rfl rfl (cJ HT_.out (by kernel_rfl)) (by decide) (fun K hK=>?_);refine eQ Try.func68 (by kernel_rfl) rfl #[.slice yX Is.length sN,.slice ak ag.length aj] (by rfl) rfl rfl lQ ?_
 with_reducible refine(iH.calls k _ _ Is _ _ ag It _ ?side1 ?side2 ?side3 ?side4 A7.out).mono ?_
 (case side1=>exact cU ((Kd.au yt.out).2.2))
 (case side2=>exact(Kd.au yt.out).2.1)
 (case side3=>exact cU (Kd.bn bP.out HB.out))
 (case side4=>exact cx.out)
 rintro e Jw ⟨aAv,rfl,ho0,hb⟩;refine⟨_,rfl,?_⟩;have EY:=Az (Kd.a7 (Kd.aD M4 (Kd.ar (rU yt.out))) (aQ tN));replace uA:=Az Fb;replace tr:=Az (Kd.aW (rU tr.out) (Kd.ax ho0) hb);replace yo:=Az (Kd.aW (rU yo.out) (Kd.ax ho0) hb);replace yt:=Az (Kd.aW (rU yt.out) (Kd.ax ho0) hb);replace iV:=kB iV.out hb;replace mD:=kB mD.out hb;replace HB:=Az (ay tN hb);clear hb ho0;obtain⟨FR,FS,DJ⟩:=Kd.aH EY.out;(first|subst DJ|(injection DJ with al aT am;have aU:=al.symm;have aV:=am.symm;clear al aT am;subst aU;subst aV));refine hK.out _ _ ⟨(ai iV.out 0).trans rfl,(ai iV.out 1).trans rfl⟩ (fun hHeld=>?_);clear hK K;refine aX (a':=?_) ?_ ?_;rotate_left
 ·
  show Act.put _ (some 16) _=_
  simp only[Act.put,List.setIfInBounds_toArray,List.set_cons_zero,List.set_cons_succ,bo,bD];rfl
 refine dm (i:=13) (N:=some 18) (bv 16 16383) rfl rfl (cJ HT_.out (by kernel_rfl)) (by decide) (fun K hK=>?_);refine eQ Try.func68 (by kernel_rfl) rfl #[.slice FR It.length FS,.slice A1 l1.length c1] (by rfl) rfl rfl lQ ?_
 with_reducible refine(iH.calls k _ _ It _ _ l1 EX _ ?side1 ?side2 ?side3 ?side4 A8.out).mono ?_
 (case side1=>exact cU ((Kd.au EY.out).2.2))
 (case side2=>exact(Kd.au EY.out).2.1)
 (case side3=>exact cU (Kd.bn HR1.out HB.out))
 (case side4=>exact ml.out)
 rintro e rh ⟨aAw,rfl,ho0,hb⟩;refine⟨_,rfl,?_⟩;have ae1:=Az (Kd.a7 (Kd.aD (Kd.aD M4 (Kd.ar (rU yt.out))) (Kd.ar (rU EY.out))) (aQ tN));replace uA:=Az Fb;replace tr:=Az (Kd.aW (rU tr.out) (Kd.ax ho0) hb);replace yo:=Az (Kd.aW (rU yo.out) (Kd.ax ho0) hb);replace yt:=Az (Kd.aW (rU yt.out) (Kd.ax ho0) hb);replace EY:=Az (Kd.aW (rU EY.out) (Kd.ax ho0) hb);replace iV:=kB iV.out hb;replace mD:=kB mD.out hb;replace HB:=Az (ay tN hb);clear hb ho0;obtain⟨vk,tZ,xi⟩:=Kd.aH ae1.out;(first|subst xi|(injection xi with al aT am;have aU:=al.symm;have aV:=am.symm;clear al aT am;subst aU;subst aV));obtain⟨wD,wE,zF⟩:=Kd.aH yo.out;(first|subst zF|(injection zF with al aT am;have aU:=al.symm;have aV:=am.symm;clear al aT am;subst aU;subst aV));refine hK.out _ _ ⟨(ai iV.out 0).trans rfl,(ai iV.out 1).trans rfl⟩ (fun hHeld=>?_);clear hK K;refine aX (a':=?_) ?_ ?_;rotate_left
 ·
  show Act.put _ (some 18) _=_
  simp only[Act.put,List.setIfInBounds_toArray,List.set_cons_zero,List.set_cons_succ,bo,bD];rfl
 refine av (i:=14) (N:=some 19) (v:=?_) (a':=?_) (bv 16 32767) rfl rfl (ao HT_.out (by kernel_rfl)) (fun _ _ _ h=>h) (Or.inl ⟨by rfl,?_⟩) ?_ ?_;rotate_left;(exact yP);rotate_left;(exact aP);refine dm (i:=15) (N:=none) (bv 16 65535) rfl rfl (cJ HT_.out (by kernel_rfl)) (by decide) (fun K hK=>?_);have aAx:rh.cell? ⟨vA,0,none⟩=some (.slice none 0 0):=(ai mD.out 0).trans rfl;have aAy:=gJ mD.out 0;have aAz:=Ae.out;have aAA:=(Ae.out).symm;have aAB:rh.cell? ⟨vA,1,none⟩=some (.slice none 0 0):=(ai mD.out 1).trans rfl;have aAC:=gJ mD.out 1;have aAD:=Ae.out;have aAE:=(Ae.out).symm;refine iW (w1:=?_) (by rfl) rfl ?_ ?_;rotate_left
 ·go_simp;rfl
 refine hK.out _ _ ⟨((cell_far (p:=⟨vA,_,none⟩) Ae.out _).trans (((cell_far (p:=⟨vA,_,none⟩) Ae.out _).trans (hHeld.1)))),((cell_far (p:=⟨vA,_,none⟩) Ae.out _).trans (((cell_far (p:=⟨vA,_,none⟩) Ae.out _).trans (hHeld.2))))⟩ (fun hHeld=>?_);clear hK K;refine eY (fN HT_.out (by kernel_rfl)) ?_
 try go_wp2
 refine bodyPost_ret (results_cell_row rfl _ _ vA 29 #[.slice wD CO.length wE,.slice vk EX.length tZ] (0,0) _ rfl (by refine sA ?_;refine bL (cs:=#[.slice wD CO.length wE,.slice none 0 0]) ?_ 1 _ rfl;refine sA ?_;refine bL (cs:=#[.slice none 0 0,.slice none 0 0]) ?_ 0 _ rfl;refine sA ?_;exact mD.out) Try.underlying29 rfl (by kernel_rfl)) rfl ?_;exact⟨_,_,rE,by refine rA ?_;exact Kd.ah (Kd.aY (p:=⟨vA,1,none⟩) (Kd.aY (p:=⟨vA,0,none⟩) (Kd.cj yo.out mD.out (by decide)) (fun _ hk=>hk.2) (.slice wD CO.length wE)) (fun _ hk=>hk.2) (.slice vk EX.length tZ)) (fun _ hk=>hk.1.2),by refine rA ?_;exact Kd.ah (Kd.aY (p:=⟨vA,1,none⟩) (Kd.aY (p:=⟨vA,0,none⟩) (Kd.cj ae1.out mD.out (by decide)) (fun _ hk=>hk.2) (.slice wD CO.length wE)) (fun _ hk=>hk.2) (.slice vk EX.length tZ)) (fun _ hk=>hk.1.1.1.2),bU2 HB.out ME.out aeV.out⟩
mutual
def eO.l0:Nat->Int->List Int->Int->Int->List Int->List Int->Option (List Int)
 |0,_,_,_,_,_,_=>none
 |k+1,x1,x5,lh,mL,wT,x1212001=>if mL<lh then(if 0<=mL then(if mL<(x5.length:Int)then(eO.l0 k x1 (x5.set (mL:Int).toNat (-1)) lh (wrap64 (mL+1)) wT x1212001)else(none))else(none))else(if 0<=x1 then(if x1<(x5.length:Int)then(eO.l1 k (x5.set (x1:Int).toNat 0) (([x1]:List Int)) 0 wT x1212001)else(none))else(none))
def eO.l1:Nat->List Int->List Int->Int->List Int->List Int->Option (List Int)
 |0,_,_,_,_,_=>none
 |k+1,x5,x7,x8,wT,x1212001=>if x8<(x7.length:Int)then(if 0<=x8 then(if 0<=(rd x7 x8)then(if(rd x7 x8)<(wT.length:Int)then(if(rd x7 x8)<(x1212001.length:Int)then((some (([rd wT (rd x7 x8),rd x1212001 (rd x7 x8)]:List Int):List Int)).bind fun y1224=>(eO.l2 k x5 x7 x8 y1224 (y1224.length:Int) 0 wT x1212001))else(none))else(none))else(none))else(none))else(some x5)
def eO.l2:Nat->List Int->List Int->Int->List Int->Int->Int->List Int->List Int->Option (List Int)
 |0,_,_,_,_,_,_,_,_=>none
 |k+1,x5,x7,x8,x51,UW,x53,wT,x1212001=>if x53<UW then(if 0<=x53 then(if x53<(x51.length:Int)then(if 0<=(rd x51 x53)then(if(rd x51 x53)<(x5.length:Int)then(if(rd x5 (rd x51 x53))<0 then(if x7.length<17592186044416 then(eO.l2 k (x5.set ((rd x51 x53):Int).toNat (x7.length:Int)) (x7++[rd x51 x53]) x8 x51 UW (wrap64 (x53+1)) wT x1212001)else(none))else(eO.l2 k x5 x7 x8 x51 UW (wrap64 (x53+1)) wT x1212001))else(none))else(none))else(none))else(none))else(eO.l1 k x5 x7 (wrap64 (x8+1)) wT x1212001)
end
def eO.f (k:Nat) (af:List Int) (ag:List Int) (a1:Int):Option (List Int):=if 0<=(af.length:Int)then(if((af.length:Int):Int).toNat<=35184372088832 then((some (List.replicate ((af.length:Int):Int).toNat 0:List Int)).bind fun y1212=>(eO.l0 k a1 y1212 (y1212.length:Int) 0 af ag))else(none))else(none)
def eO.T12:Bool×List (List Nat×List Nat):=(true,[([],[]),([0],[0]),([],[]),([],[]),([2,3],[2,3]),([4],[4]),([1,5],[1,5]),([6],[6]),([],[]),([8],[8]),([],[]),([],[]),([10,11],[10,11]),([12],[12]),([9,13],[9,13]),([14],[14]),([7,15],[7,15]),([16],[16]),([],[])])
def eO.B12:List Nat:=[0,1,0,0,12,28,63,127,0,256,0,0,3072,7168,16128,32512,65535,131071,0]
theorem eO.agA:rtab .any (opsOf Try.f81 12)=eO.T12:=by kernel_rfl
theorem eO.agn:gG eO.T12.2 eO.B12=true:=by kernel_rfl
set_option maxHeartbeats 8000000 in
set_option maxRecDepth 100000 in
theorem eO.calls (k:Nat) (aA:Option Addr) (az:Nat) (af:List Int) (ak:Option Addr) (aj:Nat) (ag:List Int) (a1:Int) (r:List Int) (w:World) (dF:Kd.C (Kd.int .i64) w aA af.length af) (dL:af.length<=az) (de:Kd.C (Kd.int .i64) w ak ag.length ag) (dk:ag.length<=aj) (h:eO.f k af ag a1=some r):
 Calls Try.prog 81 #[.agg #[.slice aA af.length az,.slice ak ag.length aj],.int .i64 a1] w fun e w'=>∃bC:Value,e= .returned (bC)/\Kd.R (Kd.int .i64) 3 w' w.heap.size (fun _=>True) bC r/\Below w.heap.size w w':=by
 have jT:=Try.underlying29;have ck:=Az dF;have cv:=Az dL;clear dF dL;have bP:=Az de;have cx:=Az dk;clear de dk;have HB:=bZ w;have H:=h;clear h;unfold eO.f at H;replace H:=gE H;obtain⟨lJ,tY,H⟩:=H;replace H:=gE H;obtain⟨kL,DL,H⟩:=H;generalize MF:(List.replicate ((af.length:Int):Int).toNat 0:List Int)=y1212 at H;simp only[Option.bind_some]at H;replace MF:=Ay MF;have H':=Az H;clear H;go_enter Try.func81,Try.ntmps81
 go_wp2_with (first|((with_reducible refine gd 2 rfl ?_);refine bE 2 #[.slice aA af.length az,.slice ak ag.length aj] 29 ?_;intro Iu hg w5 hbox hb;have gT:=Az (hbox);have qI:=gW hg (bU0 HB.out);replace HB:=Az (ay (bU0 HB.out) hb);clear hb hbox hg;have hz6:=bc2 gT.out)|((with_reducible refine gd 14 rfl ?_);refine Kd.sD (Kd.int .i64) _ 3 rfl (N:=14) rfl 23 _ _ rfl (af.length:Int) rfl rfl Try.underlying23 (.int .i64 0) 8 dE rfl (by decide) (by omega) 0 (ok:=fun _=>True) (okp:=fun _=>True) rfl (fun _ hk=>hk) trivial (oA) (Nat.le_trans (Nat.mul_le_mul_right _ (oA:(af.length:Int).toNat<=35184372088832)) (by omega)) (Below.refl _ _) (Nat.le_refl _) ?_;intro aAF w7 o7 hb hg_ hnew_;clear hg_ hnew_;(first|rw[<-MF.out]at o7|(simp only[Int.reduceToNat]at o7;rw[<-MF.out]at o7));have ae2:=Az (Kd.a7 o7 (aQ (bU1 HB.out qI.out)));replace gT:=kB gT.out hb;replace HB:=Az (ay (bU1 HB.out qI.out) hb);clear hb o7;obtain⟨df,cd,pP⟩:=Kd.aH ae2.out;subst pP))
 go_loopg [17] k (fun kq v17 w'=>∃(bg:List Int) (uB:Int),v17= .int .i64 uB/\ae (eO.l0 kq a1 bg (y1212.length:Int) uB af ag=some r)/\ae (kq<=k)/\ae (Kd.R (Kd.int .i64) 3 w' w.heap.size (fun _=>True) (.slice df y1212.length cd) bg)/\ae (w'.heap[Iu]?=some (.cells #[(.slice aA af.length az),(.slice ak ag.length aj)] 29 (0,0)))/\ae (Below w.heap.size w w'))
 case atStart=>exact⟨(y1212),(0),rS,H',⟨Nat.le_refl _⟩,⟨rU ae2.out⟩,⟨kU gT.out⟩,⟨bU1 HB.out qI.out⟩⟩
 case round=>
  clear H';obtain⟨bg,uB,rfl,HA,eZ,aG,gT,HB⟩:=hrel;have EZ:=(Kd.au aG.out).1;rw[EZ]at aG;simp only[EZ]
  rcases gk with _|k1
  exact(nN HA.out).elim;have H:=HA.out;clear HA;simp only[eO.l0]at H
  by_cases c10:uB<(y1212.length:Int)
  ·
   rw[if_pos c10]at H;have ni:=decide_eq_true c10;(have UX:=ni;rw[EZ]at UX);clear c10;replace H:=gD1 H;obtain⟨rT,H⟩:=H;replace H:=gP H;obtain⟨c12,H⟩:=H;have yW:=decide_eq_true c12;clear c12;generalize UY:(bg.set (uB:Int).toNat (-1):List Int)=y1215 at H;replace UY:=Ay UY;have H':=Az H;clear H;have AX:0<=(uB:Int):=oA;have AY:(uB:Int)<((bg.length:Int):Int):=oA;obtain⟨AZ,iJ,nj,FU,OA,aip,FV⟩:=Kd.jQ aG.out (by omega);(first|cases nj|(injection nj with ea_ en_ ec_;(first|subst ea_|(injection ea_ with ea_;subst ea_));subst ec_;clear en_));have OB:=Az FU;have aiq:=Az FV;clear FU OA FV;obtain⟨air,ais⟩:=Kd.dd 0 aG.out (uB:Int) AX AY;replace AX:=eq_true AX;replace AY:=eq_true AY;obtain⟨ait,aiu⟩:=Kd.dd 0 aG.out (uB:Int) (oA) (oA);have Ba:=Kd.jy aG.out (uB:Int) (-1)
   go_wp2_with (first|((with_reducible refine gs 3 22 rfl ?_);refine sE 3 22 (wr.setCell ⟨AZ,(uB:Int).toNat,none⟩ (.int .i64 (-1))) ?_;intro pK hw;have hg:wr.grownBy pK (some AZ):=(by rw[hw];exact Ba.2);have hp_:Kd.R (Kd.int .i64) 3 pK w.heap.size (fun _=>True) (.slice (some ⟨AZ,0,none⟩) bg.length cd) y1215:=(by rw[hw,UY.out];exact Ba.1);clear Ba;replace gT:=Az (kG gT.out hg (Kd.cG aG.out gT.out (by decide)));replace aG:=Az (hp_);replace HB:=Az ((by rw[hw];exact ap (HB.out) OB.out:Below w.heap.size w pK));clear hg hw hp_))
   simp only[<-EZ];go_roundg k1
   case measure=>exact mO
   case rel=>exact⟨(y1215),(wrap64 (uB+1)),rS,H',⟨mO⟩,⟨by simp only[EZ];refine rA ?_;exact aG.out⟩,⟨sA gT.out⟩,⟨bU1 HB.out qI.out⟩⟩
  ·
   rw[if_neg c10]at H;have ni:=decide_eq_false c10;(have UX:=ni;rw[EZ]at UX);clear c10;replace H:=gD1 H;obtain⟨za,H⟩:=H;replace H:=gP H;obtain⟨c17,H⟩:=H;have Bh:=decide_eq_true c17;clear c17;generalize UZ:(bg.set (a1:Int).toNat 0:List Int)=y1216 at H;replace UZ:=Ay UZ;generalize MG:(([a1]:List Int):List Int)=y1217 at H;replace MG:=Ay MG;have H':=Az H;clear H;have Bw:0<=(a1:Int):=oA;have Bz:(a1:Int)<((bg.length:Int):Int):=oA;obtain⟨oy,sN,sO,ae3,arX,aAG,ae4⟩:=Kd.jQ aG.out (by omega);(first|cases sO|(injection sO with ea_ en_ ec_;(first|subst ea_|(injection ea_ with ea_;subst ea_));subst ec_;clear en_));have ae5:=Az ae3;have aAH:=Az ae4;clear ae3 arX ae4;obtain⟨ajQ,ajR⟩:=Kd.dd 0 aG.out (a1:Int) Bw Bz;replace Bw:=eq_true Bw;replace Bz:=eq_true Bz;obtain⟨adb,adc⟩:=Kd.dd 0 aG.out (a1:Int) (oA) (oA);have u7:=Kd.jy aG.out (a1:Int) 0
   go_wp2_with (first|((with_reducible refine gs 3 26 rfl ?_);refine sE 3 26 (wr.setCell ⟨oy,(a1:Int).toNat,none⟩ (.int .i64 0)) ?_;intro re hw;have hg:wr.grownBy re (some oy):=(by rw[hw];exact u7.2);have hp_:Kd.R (Kd.int .i64) 3 re w.heap.size (fun _=>True) (.slice (some ⟨oy,0,none⟩) bg.length cd) y1216:=(by rw[hw,UZ.out];exact u7.1);clear u7;replace gT:=Az (kG gT.out hg (Kd.cG aG.out gT.out (by decide)));replace aG:=Az (hp_);replace HB:=Az ((by rw[hw];exact ap (HB.out) ae5.out:Below w.heap.size w re));clear hg hw hp_)|((with_reducible refine gd 28 rfl ?_);refine Kd.ji (Kd.int .i64) _ 3 rfl (N:=28) rfl (xs:=([a1]:List Int)) (inner:=[.int .i64 a1]) (ok:=fun _=>True) (okp:=fun _=>True) hS ?hp (fun _ hk=>hk) trivial (Below.refl _ _) (Nat.le_refl _) (by simp) ?_;(case hp=>exact(Reps.one (show Kd.M (Kd.int .i64) _ _ _ a1 [.int .i64 a1]from rfl) (Reps.none _ _)));intro aAI rh qv hb hg_ hnew_;clear hg_ hnew_;(first|rw[<-MG.out]at qv|(simp only[Int.reduceToNat]at qv;rw[<-MG.out]at qv));have arY:=Az (Kd.a7 (Kd.aD qv (Kd.ar (rU aG.out))) (aQ (bU1 HB.out qI.out)));replace aG:=Az (Kd.aW (rU aG.out) (Kd.ax qv) hb);replace gT:=kB gT.out hb;replace HB:=Az (ay (bU1 HB.out qI.out) hb);clear hb qv))
   go_loopg [7,8] k1 (fun kq v7 v8 w'=>∃(dx:List Int) (aN:List Int) (dq:Int),v8= .int .i64 dq/\ae (eO.l1 kq dx aN dq af ag=some r)/\ae (kq<=k1)/\ae (Kd.R (Kd.int .i64) 3 w' w.heap.size (fun k_=>oV k_ v7) (.slice (some ⟨oy,0,none⟩) bg.length cd) dx)/\ae (Kd.R (Kd.int .i64) 3 w' w.heap.size (fun k_=>some k_≠((.slice (some ⟨oy,0,none⟩) bg.length cd):Value).ownBlock) v7 aN)/\ae (w'.heap[Iu]?=some (.cells #[(.slice aA af.length az),(.slice ak ag.length aj)] 29 (0,0)))/\ae (Below w.heap.size w w'))
   case atStart=>exact⟨(y1216),(y1217),(0),rS,H',⟨Nat.le_refl _⟩,⟨rA (Kd.ah aG.out (fun _ hk=>hk.2))⟩,⟨rA (Kd.ah arY.out (fun _ hk=>hk.2))⟩,⟨sA gT.out⟩,⟨bU1 HB.out qI.out⟩⟩
   case round=>
    clear H';obtain⟨dx,aN,dq,rfl,HA,eE,aG,aC,gT,HB⟩:=hrel;have vw:=(Kd.au aG.out).1;rw[vw]at aG;simp only[vw];simp only[vw]at aC
    rcases gk with _|k2
    exact(nN HA.out).elim;have H:=HA.out;clear HA;simp only[eO.l1]at H
    by_cases c23:dq<(aN.length:Int)
    ·
     rw[if_pos c23]at H;have zh:=decide_eq_true c23;clear c23;replace H:=gD2 H;obtain⟨DK,O8,H⟩:=H;replace H:=gP H;obtain⟨lR,H⟩:=H;have F5:=decide_eq_true lR;clear lR;replace H:=gP H;obtain⟨c27,H⟩:=H;have O9:=decide_eq_true c27;clear c27;generalize MH:(([rd af (rd aN dq),rd ag (rd aN dq)]:List Int):List Int)=y1224 at H;simp only[Option.bind_some]at H;replace MH:=Ay MH;have H':=Az H;clear H;obtain⟨bY,bJ,uO⟩:=Kd.aH aC.out;subst uO
     try go_wp2
     replace aG:=Az (Kd.bK aG.out);replace aC:=Az (Kd.bK aC.out);replace gT:=Az (ce gT.out);replace HB:=Az (a8 HB.out);obtain⟨ae7,arZ,_,_,ae8⟩:=aI (Kd.au aC.out).2.2 dq
     cases arZ;obtain⟨U0,ar0,_,_,MI⟩:=aI ck.out (rd aN dq);have E0:=MI
     cases ar0
     replace MI:=hT HB.out MI;obtain⟨_,_,ae9⟩:=aJ (Kd.au aC.out).2.2 dq;obtain⟨U1,ar1,_,_,MJ⟩:=aI bP.out (rd aN dq);have E3:=MJ
     cases ar1
     replace MJ:=hT HB.out MJ;refine eX (n:=19) (S:=fun w'=>w'.cell? ⟨Iu,0,none⟩=some (.slice (some U0) af.length az)/\w'.cell? ⟨Iu,1,none⟩=some (.slice (some U1) ag.length aj)/\w'.cell? (ae7.add (dq).toNat)=some (.int .i64 (rd aN dq))/\w'.cell? (U0.add ((rd aN dq)).toNat)=some (.int .i64 (rd af (rd aN dq)))/\w'.cell? (ae7.add (dq).toNat)=some (.int .i64 (rd aN dq))/\w'.cell? (U1.add ((rd aN dq)).toNat)=some (.int .i64 (rd ag (rd aN dq)))) (ds:=[]) (bv 19 0) (by kernel_rfl) rfl rfl ⟨(ai gT.out 0).trans rfl,(ai gT.out 1).trans rfl,ae8,(by first|exact E0|exact(HB.out.cell (World.block_lt_of_cell? w _ E0)).trans E0),ae9,(by first|exact E3|exact(HB.out.cell (World.block_lt_of_cell? w _ E3)).trans E3)⟩ (fun hHeld=>?_);refine fL eO.agA eO.agn (fun HT_ HW_=>?_);generalize wr.drew=jB at aG aC gT HB ae8 MI ae9 MJ hHeld ⊢;refine av (i:=0) (N:=some 35) (v:=?_) (a':=?_) (bv 19 1) rfl rfl (ao HT_.out (by kernel_rfl)) (fun _ _ _ h=>h) (Or.inl ⟨by rfl,?_⟩) ?_ ?_;rotate_left;(exact yP);rotate_left;(exact aP);refine av (i:=2) (N:=some 37) (v:=?_) (a':=?_) (bv 19 5) rfl rfl (ao HT_.out (by kernel_rfl)) (fun _ _ _ h=>h) (Or.inl ⟨by rfl,?_⟩) ?_ ?_;rotate_left;(exact yP);rotate_left;(exact aP);refine av (i:=3) (N:=some 38) (v:=?_) (a':=?_) (bv 19 13) rfl rfl (ao HT_.out (by kernel_rfl)) (fun _ _ _ h=>h) (Or.inl ⟨by rfl,?_⟩) ?_ ?_;rotate_left;(exact yP);rotate_left;(exact aP);refine av (i:=4) (N:=some 39) (v:=?_) (a':=?_) (bv 19 29) rfl rfl (ao HT_.out (by kernel_rfl)) (fun _ _ _ h=>h) (Or.inl ⟨by rfl,?_⟩) ?_ ?_;rotate_left;(exact yP);rotate_left;(exact aP);refine av (i:=8) (N:=some 43) (v:=?_) (a':=?_) (bv 19 285) rfl rfl (ao HT_.out (by kernel_rfl)) (fun _ _ _ h=>h) (Or.inl ⟨by rfl,?_⟩) ?_ ?_;rotate_left;(exact yP);rotate_left;(exact aP);refine av (i:=10) (N:=some 45) (v:=?_) (a':=?_) (bv 19 1309) rfl rfl (ao HT_.out (by kernel_rfl)) (fun _ _ _ h=>h) (Or.inl ⟨by rfl,?_⟩) ?_ ?_;rotate_left;(exact yP);rotate_left;(exact aP);refine av (i:=11) (N:=some 46) (v:=?_) (a':=?_) (bv 19 3357) rfl rfl (ao HT_.out (by kernel_rfl)) (fun _ _ _ h=>h) (Or.inl ⟨by rfl,?_⟩) ?_ ?_;rotate_left;(exact yP);rotate_left;(exact aP);refine av (i:=12) (N:=some 47) (v:=?_) (a':=?_) (bv 19 7453) rfl rfl (ao HT_.out (by kernel_rfl)) (fun _ _ _ h=>h) (Or.inl ⟨by rfl,?_⟩) ?_ ?_;rotate_left;(exact yP);rotate_left;(exact aP);refine av (i:=18) (N:=some 53) (v:=?_) (a':=?_) (bv 19 269597) rfl rfl (ao HT_.out (by kernel_rfl)) (fun _ _ _ h=>h) (Or.inl ⟨by rfl,?_⟩) ?_ ?_;rotate_left;(exact yP);rotate_left;(exact aP);refine bS (i:=1) (N:=some 36) (v:=?_) (a':=?_) (bv 19 269599) rfl rfl (bW HT_.out HW_.out (by kernel_rfl)) (fun _ _ _ h=>h) (Or.inl ⟨by rfl,?_⟩) hHeld ?_ ?_;rotate_left
     ·
      rintro w' ⟨s0,s1,s2,s3,s4,s5⟩;go_simp
      with_reducible rfl
     rotate_left;(exact aP);refine bS (i:=5) (N:=some 40) (v:=?_) (a':=?_) (bv 19 269631) rfl rfl (bW HT_.out HW_.out (by kernel_rfl)) (fun _ _ _ h=>h) (Or.inl ⟨by rfl,?_⟩) hHeld ?_ ?_;rotate_left
     ·
      rintro w' ⟨s0,s1,s2,s3,s4,s5⟩;go_simp
      with_reducible rfl
     rotate_left;(exact aP);refine av (i:=6) (N:=some 41) (v:=?_) (a':=?_) (bv 19 269695) rfl rfl (ao HT_.out (by kernel_rfl)) (fun _ _ _ h=>h) (Or.inl ⟨by rfl,?_⟩) ?_ ?_;rotate_left;(exact yP);rotate_left;(exact aP);refine bS (i:=7) (N:=some 42) (v:=?_) (a':=?_) (bv 19 269823) rfl rfl (bW HT_.out HW_.out (by kernel_rfl)) (fun _ _ _ h=>h) (Or.inl ⟨by rfl,?_⟩) hHeld ?_ ?_;rotate_left
     ·
      rintro w' ⟨s0,s1,s2,s3,s4,s5⟩;go_simp
      with_reducible rfl
     rotate_left;(exact aP);refine bS (i:=9) (N:=some 44) (v:=?_) (a':=?_) (bv 19 270335) rfl rfl (bW HT_.out HW_.out (by kernel_rfl)) (fun _ _ _ h=>h) (Or.inl ⟨by rfl,?_⟩) hHeld ?_ ?_;rotate_left
     ·
      rintro w' ⟨s0,s1,s2,s3,s4,s5⟩;go_simp
      with_reducible rfl
     rotate_left;(exact aP);refine bS (i:=13) (N:=some 48) (v:=?_) (a':=?_) (bv 19 278527) rfl rfl (bW HT_.out HW_.out (by kernel_rfl)) (fun _ _ _ h=>h) (Or.inl ⟨by rfl,?_⟩) hHeld ?_ ?_;rotate_left
     ·
      rintro w' ⟨s0,s1,s2,s3,s4,s5⟩;go_simp
      with_reducible rfl
     rotate_left;(exact aP);refine av (i:=14) (N:=some 49) (v:=?_) (a':=?_) (bv 19 294911) rfl rfl (ao HT_.out (by kernel_rfl)) (fun _ _ _ h=>h) (Or.inl ⟨by rfl,?_⟩) ?_ ?_;rotate_left;(exact yP);rotate_left;(exact aP);refine bS (i:=15) (N:=some 50) (v:=?_) (a':=?_) (bv 19 327679) rfl rfl (bW HT_.out HW_.out (by kernel_rfl)) (fun _ _ _ h=>h) (Or.inl ⟨by rfl,?_⟩) hHeld ?_ ?_;rotate_left
     ·
      rintro w' ⟨s0,s1,s2,s3,s4,s5⟩;go_simp
      with_reducible rfl
     rotate_left;(exact aP);refine dm (i:=16) (N:=some 51) (bv 19 393215) rfl rfl (cJ HT_.out (by kernel_rfl)) (by decide) (fun K hK=>?_);refine Kd.Ak (Kd.int .i64) _ 3 ?hg (N:=51) ?hd (xs:=([rd af (rd aN dq),rd ag (rd aN dq)]:List Int)) (inner:=[.int .i64 (rd af (rd aN dq)),.int .i64 (rd ag (rd aN dq))]) (ok:=fun _=>True) (okp:=fun _=>True) ?hr ?hp (fun _ hk=>hk) trivial (Below.refl _ _) (Nat.le_refl _) (by simp) ?_;(case hd=>rfl);(case hg=>rfl);(case hr=>first|(go_simp;done)|(go_simp;rfl));(case hp=>exact(Reps.one (show Kd.M (Kd.int .i64) _ _ _ (rd af (rd aN dq)) [.int .i64 (rd af (rd aN dq))]from rfl) (Reps.one (show Kd.M (Kd.int .i64) _ _ _ (rd ag (rd aN dq)) [.int .i64 (rd ag (rd aN dq))]from rfl) (Reps.none _ _))));intro aAJ lK l6 hb hg_ hnew_;have ar2:=(hb.cell (World.block_lt_of_cell? _ _ (hHeld.2.2.1))).trans (hHeld.2.2.1);have Ql:=(hb.cell (World.block_lt_of_cell? _ _ (hHeld.2.2.2.2.1))).trans (hHeld.2.2.2.2.1);clear hg_ hnew_;(first|rw[<-MH.out]at l6|(simp only[Int.reduceToNat]at l6;rw[<-MH.out]at l6));have afa:=Az (Kd.a7 (Kd.aD (Kd.aD l6 (Kd.ar (rU aG.out))) (Kd.ar (rU aC.out))) (aQ (bU1 HB.out qI.out)));replace aG:=Az (Kd.aW (rU aG.out) (Kd.ax l6) hb);replace aC:=Az (Kd.aW (rU aC.out) (Kd.ax l6) hb);replace gT:=kB gT.out hb;replace HB:=Az (ay (bU1 HB.out qI.out) hb);clear hb l6;obtain⟨sw,oB,Af⟩:=Kd.aH afa.out;(first|subst Af|(injection Af with al aT am;have aU:=al.symm;have aV:=am.symm;clear al aT am;subst aU;subst aV));refine hK.out _ _ ⟨(ai gT.out 0).trans rfl,(ai gT.out 1).trans rfl,ar2,(by first|exact E0|exact(HB.out.cell (World.block_lt_of_cell? w _ E0)).trans E0),Ql,(by first|exact E3|exact(HB.out.cell (World.block_lt_of_cell? w _ E3)).trans E3)⟩ (fun hHeld=>?_);clear hK K;refine aX (a':=?_) ?_ ?_;rotate_left
     ·
      show Act.put _ (some 51) _=_
      simp only[Act.put,List.setIfInBounds_toArray,List.set_cons_zero,List.set_cons_succ,bo,bD];rfl
     refine av (i:=17) (N:=some 52) (v:=?_) (a':=?_) (bv 19 524287) rfl rfl (ao HT_.out (by kernel_rfl)) (fun _ _ _ h=>h) (Or.inl ⟨by rfl,?_⟩) ?_ ?_;rotate_left;(exact yP);rotate_left;(exact aP);refine eY (fN HT_.out (by kernel_rfl)) ?_
     try go_wp2
     go_loopg [7,53] k2 (fun kq v7 v53 w'=>∃(gO:List Int) (cg:List Int) (nE:Int),v53= .int .i64 nE/\ae (eO.l2 kq gO cg dq y1224 (y1224.length:Int) nE af ag=some r)/\ae (kq<=k2)/\ae (Kd.R (Kd.int .i64) 3 w' w.heap.size (fun k_=>oV k_ v7/\some k_≠((.slice sw y1224.length oB):Value).ownBlock) (.slice (some ⟨oy,0,none⟩) dx.length cd) gO)/\ae (Kd.R (Kd.int .i64) 3 w' w.heap.size (fun k_=>some k_≠((.slice (some ⟨oy,0,none⟩) dx.length cd):Value).ownBlock/\some k_≠((.slice sw y1224.length oB):Value).ownBlock) v7 cg)/\ae (Kd.R (Kd.int .i64) 3 w' w.heap.size (fun k_=>some k_≠((.slice (some ⟨oy,0,none⟩) dx.length cd):Value).ownBlock/\oV k_ v7) (.slice sw y1224.length oB) y1224)/\ae (w'.heap[Iu]?=some (.cells #[(.slice (some U0) af.length az),(.slice (some U1) ag.length aj)] 29 (0,0)))/\ae (Below w.heap.size w w'))
     case atStart=>exact⟨(dx),(aN),(0),rS,H',⟨Nat.le_refl _⟩,⟨rA aG.out⟩,⟨rA aC.out⟩,⟨rA (Kd.ah afa.out (fun _ hk=>⟨hk.1.2,hk.2⟩))⟩,⟨sA gT.out⟩,⟨bU1 HB.out qI.out⟩⟩
     case round=>
      clear H';obtain⟨gO,cg,nE,rfl,HA,rR,aG,aC,yp,gT,HB⟩:=hrel;have mB:=(Kd.au aG.out).1;rw[mB]at aG;simp only[mB];simp only[mB]at aC;simp only[mB]at yp
      rcases gk with _|k3
      exact(nN HA.out).elim;have H:=HA.out;clear HA;simp only[eO.l2]at H
      by_cases xC:nE<(y1224.length:Int)
      ·
       rw[if_pos xC]at H;have Qp:=decide_eq_true xC;clear xC;replace H:=gD1 H;obtain⟨Qq,H⟩:=H;replace H:=gP H;obtain⟨xG,H⟩:=H;have BO:=decide_eq_true xG;clear xG;replace H:=gD1 H;obtain⟨Qr,H⟩:=H;replace H:=gP H;obtain⟨c37,H⟩:=H;have Qs:=decide_eq_true c37;clear c37
       replace H:=gB H;rcases H with⟨Eb,H⟩|⟨Eb,H⟩
       ·
        generalize U2:(gO.set ((rd y1224 nE):Int).toNat (cg.length:Int):List Int)=y1229 at H;replace U2:=Ay U2;replace H:=gP H;obtain⟨c40,H⟩:=H;have ar3:=Az c40;clear c40;generalize U3:(cg++[rd y1224 nE]:List Int)=y1230 at H;replace U3:=Ay U3;have H':=Az H;clear H;obtain⟨Iv,U4,ar4,ar5,ar6⟩:=aI (Kd.au yp.out).2.2 nE
        cases U4;obtain⟨U5,U6,ar7,ar8,CP⟩:=aI (Kd.au aG.out).2.2 (rd y1224 nE);obtain rfl:(⟨oy,0,none⟩:Addr)=U5:=(by injection U6);(first|simp only[add_plain]at CP|simp only[sx]at CP|simp only[Addr.add,Nat.zero_add]at CP|skip);obtain⟨wU,vC,U7⟩:=Kd.aH aC.out;subst U7;have p39:0<=((rd y1224 nE):Int):=oA;have CI:((rd y1224 nE):Int)<((gO.length:Int):Int):=oA;obtain⟨ari,arj⟩:=Kd.dd 0 aG.out ((rd y1224 nE):Int) p39 CI;replace p39:=eq_true p39;replace CI:=eq_true CI;obtain⟨aAK,aAL⟩:=Kd.dd 0 aG.out ((rd y1224 nE):Int) (oA) (oA);have U8:=Kd.jy aG.out ((rd y1224 nE):Int) (cg.length:Int)
        go_wp2_with (first|((with_reducible refine gs 3 66 rfl ?_);refine sE 3 66 (wr.setCell ⟨oy,((rd y1224 nE):Int).toNat,none⟩ (.int .i64 (cg.length:Int))) ?_;intro GH hw;have hg:wr.grownBy GH (some oy):=(by rw[hw];exact U8.2);have hp_:Kd.R (Kd.int .i64) 3 GH w.heap.size (fun k_=>oS k_ wU cg.length vC/\some k_≠(.slice (some Iv) y1224.length oB:Value).ownBlock) (.slice (some ⟨oy,0,none⟩) gO.length cd) y1229:=(by rw[hw,U2.out];exact U8.1);clear U8;replace aC:=Az (Kd.cA (v:=(.slice (some ⟨oy,0,none⟩) gO.length cd)) (v1:=(.slice (some ⟨oy,0,none⟩) gO.length cd)) (ok:=(fun k_=>some k_≠(.slice (some Iv) y1224.length oB:Value).ownBlock)) XY hg (.inl rfl));replace yp:=Az (Kd.cA (v:=(.slice (some ⟨oy,0,none⟩) gO.length cd)) (v1:=(.slice (some ⟨oy,0,none⟩) gO.length cd)) (ok:=(fun k_=>oS k_ wU cg.length vC)) YA hg (.inl rfl));replace gT:=Az (kG gT.out hg (Kd.cG aG.out gT.out (by decide)));replace aG:=Az (hp_);replace HB:=Az ((by rw[hw];exact ap (HB.out) ae5.out:Below w.heap.size w GH));clear hg hw hp_)|((with_reducible refine mf (b:=.append) (xs:=#[.tmp 67,.tmp 69]) rfl ?_);at_builtin;refine Kd.na (Kd.int .i64) (w0:=w) w.heap.size rfl (.tmp 67) (.tmp 69) 23 3 (.int .i64 0) 8 rfl Try.underlying23 dE rfl (by decide) (by omega) (.slice wU cg.length vC) cg (rd y1224 nE) [.int .i64 (rd y1224 nE)] (fun k_=>oS k_ (some ⟨oy,0,none⟩) gO.length cd/\some k_≠(.slice (some Iv) y1224.length oB:Value).ownBlock) (fun _=>False) rfl rfl ?aP (fun _ hk=>hk.elim) ?aF ?aO ?aB ?aS ?aL ?_;(case aP=>exact rfl);(case aB=>exact(bU1 HB.out qI.out));(case aF=>exact(fun k_ hk=>⟨Kd.dD (Kd.ar (rU aG.out)) k_ hk,Kd.dD (Kd.ar (rU yp.out)) k_ hk⟩));(case aO=>exact XY);(case aS=>exact(aQ (bU1 HB.out qI.out)));(case aL=>have:=ar3.out;omega);intro aAM Ra ho hb hg hat;rw[<-U3.out]at ho;replace aG:=Az (Kd.cA (ok:=(fun k_=>some k_≠(.slice (some Iv) y1224.length oB:Value).ownBlock)) (rA (Kd.ah aG.out (fun _ hk=>⟨hk.2,hk.1⟩))) hg hat);replace yp:=Az (Kd.cA (ok:=(fun k_=>oS k_ (some ⟨oy,0,none⟩) gO.length cd)) YA hg hat);replace gT:=Az (kG gT.out hg (Kd.cG aC.out gT.out (by decide)));replace HB:=Az (hb);have ar9:=Az (ho);clear aC ho hb hg hat))
        simp only[<-mB];go_roundg k3
        case measure=>exact mO
        case rel=>exact⟨(y1229),(y1230),(wrap64 (nE+1)),rS,H',⟨mO⟩,⟨by simp only[mB];refine rA ?_;exact Kd.ah aG.out (fun _ hk=>⟨hk.2,hk.1⟩)⟩,⟨by simp only[mB];refine rA ?_;exact ar9.out⟩,⟨by simp only[mB];refine rA ?_;exact yp.out⟩,⟨sA gT.out⟩,⟨bU1 HB.out qI.out⟩⟩
       ·
        have H':=Az H;clear H;obtain⟨Iv,U4,ar4,ar5,ar6⟩:=aI (Kd.au yp.out).2.2 nE
        cases U4;obtain⟨U5,U6,ar7,ar8,CP⟩:=aI (Kd.au aG.out).2.2 (rd y1224 nE);obtain rfl:(⟨oy,0,none⟩:Addr)=U5:=(by injection U6);(first|simp only[add_plain]at CP|simp only[sx]at CP|simp only[Addr.add,Nat.zero_add]at CP|skip);go_wp2;simp only[<-mB];go_roundg k3
        case measure=>exact mO
        case rel=>exact⟨(gO),(cg),(wrap64 (nE+1)),rS,H',⟨mO⟩,⟨by simp only[mB];refine rA ?_;exact aG.out⟩,⟨by simp only[mB];refine rA ?_;exact aC.out⟩,⟨by simp only[mB];refine rA ?_;exact yp.out⟩,⟨sA gT.out⟩,⟨bU1 HB.out qI.out⟩⟩
      ·
       rw[if_neg xC]at H;have Qp:=decide_eq_false xC;clear xC;have H':=Az H;clear H;go_wp2;simp only[<-vw,<-mB];go_roundg k3
       case measure=>exact mO
       case rel=>exact⟨(gO),(cg),(wrap64 (dq+1)),rS,H',⟨mO⟩,⟨by simp only[vw];simp only[mB];refine rA ?_;exact Kd.ah aG.out (fun _ hk=>hk.1)⟩,⟨by simp only[vw];simp only[mB];refine rA ?_;exact Kd.ah aC.out (fun _ hk=>hk.1)⟩,⟨sA gT.out⟩,⟨bU1 HB.out qI.out⟩⟩
    ·rw[if_neg c23]at H;have zh:=decide_eq_false c23;clear c23;obtain rfl:=Option.some.inj H;obtain⟨EC,ED,Hl⟩:=Kd.aH aC.out;subst Hl;go_wp2;go_ret;exact⟨_,rE,by refine rA ?_;exact Kd.ah aG.out (fun _ hk=>trivial),bU1 HB.out qI.out⟩
def nH.l0:Nat->Int->Int->List Int->List Int->List Int->List Int->Option (List Int×List Int)
 |0,_,_,_,_,_,_=>none
 |k+1,fO,dK,MK,x1234001,U9,x1245001=>if dK<fO then((eO.f k MK x1234001 dK).bind fun jI=>((kI.f k MK x1234001 jI).bind fun ML=>((uF.f k ML.1 ML.2 U9 x1245001).bind fun MM=>(if MM<0 then(nH.l0 k fO (wrap64 (dK+1)) MK x1234001 ML.1 ML.2)else(nH.l0 k fO (wrap64 (dK+1)) MK x1234001 U9 x1245001)))))else(some (U9,x1245001))
def nH.f (k:Nat) (af:List Int) (ag:List Int):Option (List Int×List Int):=(eO.f k af ag 0).bind fun rK=>((kI.f k af ag rK).bind fun afb=>(nH.l0 k (af.length:Int) 0 af ag afb.1 afb.2))
set_option maxHeartbeats 8000000 in
set_option maxRecDepth 100000 in
theorem nH.calls (k:Nat) (aA:Option Addr) (az:Nat) (af:List Int) (ak:Option Addr) (aj:Nat) (ag:List Int) (r1:List Int) (r2:List Int) (w:World) (dF:Kd.C (Kd.int .i64) w aA af.length af) (dL:af.length<=az) (de:Kd.C (Kd.int .i64) w ak ag.length ag) (dk:ag.length<=aj) (h:nH.f k af ag=some (r1,r2)):
 Calls Try.prog 101 #[.agg #[.slice aA af.length az,.slice ak ag.length aj]] w fun e w'=>∃bC v1_:Value,e= .returned (.agg #[bC,v1_])/\Kd.R (Kd.int .i64) 3 w' w.heap.size (fun k_=>oV k_ v1_) bC r1/\Kd.R (Kd.int .i64) 3 w' w.heap.size (fun k_=>oV k_ bC) v1_ r2/\Below w.heap.size w w':=by
 have jT:=Try.underlying29;have ck:=Az dF;have cv:=Az dL;clear dF dL;have bP:=Az de;have cx:=Az dk;clear de dk;have HB:=bZ w;have H:=h;clear h;unfold nH.f at H;replace H:=bd H;obtain⟨rK,A2,H⟩:=H;replace H:=bd H;obtain⟨⟨wV,yu⟩,A3,H⟩:=H;dsimp only at H;have H':=Az H;clear H;go_enter Try.func101,Try.ntmps101
 try go_wp2_with (first|((with_reducible refine gd 1 rfl ?_);refine bE 1 #[.slice aA af.length az,.slice ak ag.length aj] 29 ?_;intro gr hg w4 hbox hb;have be:=Az (hbox);have yn:=gW hg (bU0 HB.out);replace HB:=Az (ay (bU0 HB.out) hb);clear hb hbox hg)|((with_reducible refine gd 2 rfl ?_);refine bE 2 #[.slice none 0 0,.slice none 0 0] 29 ?_;intro kz hg w5 hbox hb;have bR:=Az (hbox);have CN:=gW hg (bU1 HB.out yn.out);replace HB:=Az (ay (bU1 HB.out yn.out) hb);have Va:=nL hg (kU be.out);replace be:=kB be.out hb;clear hb hbox hg))
 replace be:=Az (ce be.out);replace bR:=Az (ce bR.out);replace HB:=Az (a8 HB.out);refine eX (n:=6) (S:=fun w'=>w'.cell? ⟨gr,0,none⟩=some (.slice aA af.length az)/\w'.cell? ⟨gr,1,none⟩=some (.slice ak ag.length aj)) (ds:=[]) (bv 6 0) (by kernel_rfl) rfl rfl ⟨(ai be.out 0).trans rfl,(ai be.out 1).trans rfl⟩ (fun hHeld=>?_);generalize w5.drew=w6 at be bR HB hHeld ⊢;refine bS (i:=0) (N:=some 6) (v:=?_) (a':=?_) (bv 6 1) rfl rfl (by kernel_rfl) (fun _ _ _ h=>h) (Or.inl ⟨by rfl,?_⟩) hHeld ?_ ?_;rotate_left
 ·
  rintro w' ⟨s0,s1⟩;go_simp
  with_reducible rfl
 rotate_left;(exact aP);refine bS (i:=1) (N:=some 7) (v:=?_) (a':=?_) (bv 6 3) rfl rfl (by kernel_rfl) (fun _ _ _ h=>h) (Or.inl ⟨by rfl,?_⟩) hHeld ?_ ?_;rotate_left
 ·
  rintro w' ⟨s0,s1⟩;go_simp
  with_reducible rfl
 rotate_left;(exact aP);refine kH (σ:=Value×Value×Value×Nat) 1 (bv 6 31) (fun s_=>[(8,s_.1),(9,.agg #[s_.2.1,s_.2.2.1]),(3,.pointer (some ⟨s_.2.2.2,0,none⟩))]) (fun s_ w'=>(w'.cell? ⟨gr,0,none⟩=some (.slice aA af.length az)/\w'.cell? ⟨gr,1,none⟩=some (.slice ak ag.length aj))/\(Kd.R (Kd.int .i64) 3 w' w.heap.size (fun k_=>some k_≠(s_.2.1:Value).ownBlock/\some k_≠(s_.2.2.1:Value).ownBlock) s_.1 rK)/\(Kd.R (Kd.int .i64) 3 w' w.heap.size (fun k_=>some k_≠(s_.1:Value).ownBlock/\some k_≠(s_.2.2.1:Value).ownBlock) s_.2.1 wV)/\(Kd.R (Kd.int .i64) 3 w' w.heap.size (fun k_=>some k_≠(s_.1:Value).ownBlock/\some k_≠(s_.2.1:Value).ownBlock) s_.2.2.1 yu)/\(w'.heap[gr]?=some (.cells #[.slice aA af.length az,.slice ak ag.length aj] 29 (0,0)))/\(w'.heap[kz]?=some (.cells #[.slice none 0 0,.slice none 0 0] 29 (0,0)))/\(w'.heap[s_.2.2.2]?=some (.cells #[.slice none 0 0,.slice none 0 0] 29 (0,0)))/\(w.heap.size<=s_.2.2.2)/\(w.heap.size<=s_.2.2.2)/\(gr≠s_.2.2.2)/\(s_.2.2.2≠gr)/\(kz≠s_.2.2.2)/\(s_.2.2.2≠kz)/\(Below w.heap.size w w')) ?_ ?_;rotate_left
 ·
  intro hCont;refine qg (i:=2) (j:=4) (Ni:=some 8) (Nj:=some 3) (bv 6 7) (bv 6 19) rfl rfl rfl rfl (by kernel_rfl) (by decide) (by decide) (fun K hK=>?_) (fun K hK=>?_)
  ·
   skip
   refine eQ Try.func81 (by kernel_rfl) rfl #[.agg #[.slice aA af.length az,.slice ak ag.length aj],.int .i64 0] (by rfl) rfl rfl lQ ?_
   with_reducible refine(eO.calls k _ _ af _ _ ag 0 rK _ ?side1 ?side2 ?side3 ?side4 A2.out).mono ?_
   (case side1=>exact cU (Kd.bn ck.out HB.out))
   (case side2=>exact cv.out)
   (case side3=>exact cU (Kd.bn bP.out HB.out))
   (case side4=>exact cx.out)
   rintro e w7 ⟨Iw,rfl,ho0,hb⟩;refine⟨_,rfl,?_⟩;have ky:=Az (Kd.a7 ho0 (aQ rN));replace be:=kB be.out hb;replace bR:=kB bR.out hb;replace HB:=Az (ay rN hb);clear hb ho0;obtain⟨DO,Bc,vV⟩:=Kd.aH ky.out;(first|subst vV|(injection vV with al aT am;have aU:=al.symm;have aV:=am.symm;clear al aT am;subst aU;subst aV));refine hK.out _ _ ⟨(ai be.out 0).trans rfl,(ai be.out 1).trans rfl⟩ (fun hHeld=>?_);clear hK K;refine aX (a':=?_) ?_ ?_;rotate_left
   ·
    show Act.put _ (some 8) _=_
    simp only[Act.put,List.setIfInBounds_toArray,List.set_cons_zero,List.set_cons_succ,bo,bD];rfl
   refine qg (i:=3) (j:=4) (Ni:=some 9) (Nj:=some 3) (bv 6 15) (bv 6 23) rfl rfl rfl rfl (by kernel_rfl) (by decide) (by decide) (fun K hK=>?_) (fun K hK=>?_)
   ·
    skip
    refine eQ Try.func80 (by kernel_rfl) rfl #[.agg #[.slice aA af.length az,.slice ak ag.length aj],.slice DO rK.length Bc] (by rfl) rfl rfl lQ ?_
    with_reducible refine(kI.calls k _ _ af _ _ ag _ _ rK wV yu _ ?side1 ?side2 ?side3 ?side4 ?side5 ?side6 A3.out).mono ?_
    (case side1=>exact cU (Kd.bn ck.out HB.out))
    (case side2=>exact cv.out)
    (case side3=>exact cU (Kd.bn bP.out HB.out))
    (case side4=>exact cx.out)
    (case side5=>exact cU ((Kd.au ky.out).2.2))
    (case side6=>exact(Kd.au ky.out).2.1)
    rintro e w9 ⟨yw,yx,rfl,ho0,ho1,hb⟩;refine⟨_,rfl,?_⟩;have Ac:=Az (Kd.a7 (Kd.aD ho0 (Kd.ar (rU ky.out))) (aQ rN));have Ad:=Az (Kd.a7 (Kd.aD ho1 (Kd.ar (rU ky.out))) (aQ rN));replace ky:=Az NW;replace be:=kB be.out hb;replace bR:=kB bR.out hb;replace HB:=Az (ay rN hb);clear hb ho0 ho1;refine hK.out _ _ ⟨(ai be.out 0).trans rfl,(ai be.out 1).trans rfl⟩ (fun hHeld=>?_);clear hK K;refine aX (a':=?_) ?_ ?_;rotate_left
    ·
     show Act.put _ (some 9) _=_
     simp only[Act.put,List.setIfInBounds_toArray,List.set_cons_zero,List.set_cons_succ,bo,bD];rfl
    refine dm (i:=4) (N:=some 3) (bv 6 31) rfl rfl (by kernel_rfl) (by decide) (fun K hK=>?_);refine mF ?hg (N:=3) ?hd (cs:=#[.slice none 0 0,.slice none 0 0]) (t:=29) ?hr ?_;(case hd=>rfl);(case hg=>rfl);(case hr=>first|(go_simp;done)|(go_simp;rfl));intro fu hg rc hbox hb;replace ky:=rB ky.out hb;replace Ac:=rB Ac.out hb;replace Ad:=rB Ad.out hb;have ci:=Az (hbox);have E4:=gW hg rN;have uz:=Az ((by rw[hg];exact(aQ rN):w.heap.size<=fu));replace HB:=Az (ay rN hb);have l9:=nL hg (kU be.out);have uC:=nS l9;replace be:=kB be.out hb;have pv:=nL hg (kU bR.out);have vD:=nS pv;replace bR:=kB bR.out hb;clear hb hbox hg;refine hK.out _ _ ⟨(ai be.out 0).trans rfl,(ai be.out 1).trans rfl⟩ (fun hHeld=>?_);clear hK K;refine aX (a':=?_) ?_ ?_;rotate_left
    ·
     show Act.put _ (some 3) _=_
     simp only[Act.put,List.setIfInBounds_toArray,List.set_cons_zero,List.set_cons_succ,bo,bD];rfl
    exact aX wX (hCont (.slice DO rK.length Bc,yw,yx,fu) _ ⟨hHeld,Og,NR,N8,(kU be.out),(kU bR.out),(kU ci.out),E4.out,uz.out,l9.out,uC.out,pv.out,vD.out,gj⟩)
   ·
    skip
    refine mF ?hg (N:=3) ?hd (cs:=#[.slice none 0 0,.slice none 0 0]) (t:=29) ?hr ?_;(case hd=>rfl);(case hg=>rfl);(case hr=>first|(go_simp;done)|(go_simp;rfl));intro fu hg w8 hbox hb;replace ky:=rB ky.out hb;have ci:=Az (hbox);have E4:=gW hg rN;have uz:=Az ((by rw[hg];exact(aQ rN):w.heap.size<=fu));replace HB:=Az (ay rN hb);have l9:=nL hg (kU be.out);have uC:=nS l9;replace be:=kB be.out hb;have pv:=nL hg (kU bR.out);have vD:=nS pv;replace bR:=kB bR.out hb;clear hb hbox hg;obtain⟨df,cd,pP⟩:=Kd.aH ky.out;(first|subst pP|(injection pP with al aT am;have aU:=al.symm;have aV:=am.symm;clear al aT am;subst aU;subst aV));refine hK.out _ _ ⟨(ai be.out 0).trans rfl,(ai be.out 1).trans rfl⟩ (fun hHeld=>?_);clear hK K;refine aX (a':=?_) ?_ ?_;rotate_left
    ·
     show Act.put _ (some 3) _=_
     simp only[Act.put,List.setIfInBounds_toArray,List.set_cons_zero,List.set_cons_succ,bo,bD];rfl
    refine dm (i:=3) (N:=some 9) (bv 6 31) rfl rfl (by kernel_rfl) (by decide) (fun K hK=>?_);refine eQ Try.func80 (by kernel_rfl) rfl #[.agg #[.slice aA af.length az,.slice ak ag.length aj],.slice df rK.length cd] (by rfl) rfl rfl lQ ?_
    with_reducible refine(kI.calls k _ _ af _ _ ag _ _ rK wV yu _ ?side1 ?side2 ?side3 ?side4 ?side5 ?side6 A3.out).mono ?_
    (case side1=>exact cU (Kd.bn ck.out HB.out))
    (case side2=>exact cv.out)
    (case side3=>exact cU (Kd.bn bP.out HB.out))
    (case side4=>exact cx.out)
    (case side5=>exact cU ((Kd.au ky.out).2.2))
    (case side6=>exact(Kd.au ky.out).2.1)
    rintro e rc ⟨yw,yx,rfl,ho0,ho1,hb⟩;refine⟨_,rfl,?_⟩;have Ac:=Az (Kd.a7 (Kd.aD ho0 (Kd.ar (rU ky.out))) (aQ gj));have Ad:=Az (Kd.a7 (Kd.aD ho1 (Kd.ar (rU ky.out))) (aQ gj));replace ky:=Az NW;replace be:=kB be.out hb;replace bR:=kB bR.out hb;replace ci:=kB ci.out hb;replace HB:=Az (ay gj hb);clear hb ho0 ho1;refine hK.out _ _ ⟨(ai be.out 0).trans rfl,(ai be.out 1).trans rfl⟩ (fun hHeld=>?_);clear hK K;refine aX (a':=?_) ?_ ?_;rotate_left
    ·
     show Act.put _ (some 9) _=_
     simp only[Act.put,List.setIfInBounds_toArray,List.set_cons_zero,List.set_cons_succ,bo,bD];rfl
    exact aX wX (hCont (.slice df rK.length cd,yw,yx,fu) _ ⟨hHeld,Og,NR,N8,(kU be.out),(kU bR.out),(kU ci.out),E4.out,uz.out,l9.out,uC.out,pv.out,vD.out,gj⟩)
  ·
   skip
   refine mF ?hg (N:=3) ?hd (cs:=#[.slice none 0 0,.slice none 0 0]) (t:=29) ?hr ?_;(case hd=>rfl);(case hg=>rfl);(case hr=>first|(go_simp;done)|(go_simp;rfl));intro fu hg w7 hbox hb;have ci:=Az (hbox);have E4:=gW hg rN;have uz:=Az ((by rw[hg];exact(aQ rN):w.heap.size<=fu));replace HB:=Az (ay rN hb);have l9:=nL hg (kU be.out);have uC:=nS l9;replace be:=kB be.out hb;have pv:=nL hg (kU bR.out);have vD:=nS pv;replace bR:=kB bR.out hb;clear hb hbox hg;refine hK.out _ _ ⟨(ai be.out 0).trans rfl,(ai be.out 1).trans rfl⟩ (fun hHeld=>?_);clear hK K;refine aX (a':=?_) ?_ ?_;rotate_left
   ·
    show Act.put _ (some 3) _=_
    simp only[Act.put,List.setIfInBounds_toArray,List.set_cons_zero,List.set_cons_succ,bo,bD];rfl
   refine dm (i:=2) (N:=some 8) (bv 6 23) rfl rfl (by kernel_rfl) (by decide) (fun K hK=>?_);refine eQ Try.func81 (by kernel_rfl) rfl #[.agg #[.slice aA af.length az,.slice ak ag.length aj],.int .i64 0] (by rfl) rfl rfl lQ ?_
   with_reducible refine(eO.calls k _ _ af _ _ ag 0 rK _ ?side1 ?side2 ?side3 ?side4 A2.out).mono ?_
   (case side1=>exact cU (Kd.bn ck.out HB.out))
   (case side2=>exact cv.out)
   (case side3=>exact cU (Kd.bn bP.out HB.out))
   (case side4=>exact cx.out)
   rintro e w8 ⟨Iw,rfl,ho0,hb⟩;refine⟨_,rfl,?_⟩;have ky:=Az (Kd.a7 ho0 (aQ gj));replace be:=kB be.out hb;replace bR:=kB bR.out hb;replace ci:=kB ci.out hb;replace HB:=Az (ay gj hb);clear hb ho0;obtain⟨df,cd,pP⟩:=Kd.aH ky.out;(first|subst pP|(injection pP with al aT am;have aU:=al.symm;have aV:=am.symm;clear al aT am;subst aU;subst aV));refine hK.out _ _ ⟨(ai be.out 0).trans rfl,(ai be.out 1).trans rfl⟩ (fun hHeld=>?_);clear hK K;refine aX (a':=?_) ?_ ?_;rotate_left
   ·
    show Act.put _ (some 8) _=_
    simp only[Act.put,List.setIfInBounds_toArray,List.set_cons_zero,List.set_cons_succ,bo,bD];rfl
   refine dm (i:=3) (N:=some 9) (bv 6 31) rfl rfl (by kernel_rfl) (by decide) (fun K hK=>?_);refine eQ Try.func80 (by kernel_rfl) rfl #[.agg #[.slice aA af.length az,.slice ak ag.length aj],.slice df rK.length cd] (by rfl) rfl rfl lQ ?_
   with_reducible refine(kI.calls k _ _ af _ _ ag _ _ rK wV yu _ ?side1 ?side2 ?side3 ?side4 ?side5 ?side6 A3.out).mono ?_
   (case side1=>exact cU (Kd.bn ck.out HB.out))
   (case side2=>exact cv.out)
   (case side3=>exact cU (Kd.bn bP.out HB.out))
   (case side4=>exact cx.out)
   (case side5=>exact cU ((Kd.au ky.out).2.2))
   (case side6=>exact(Kd.au ky.out).2.1)
   rintro e rc ⟨yw,yx,rfl,ho0,ho1,hb⟩;refine⟨_,rfl,?_⟩;have Ac:=Az (Kd.a7 (Kd.aD ho0 (Kd.ar (rU ky.out))) (aQ gj));have Ad:=Az (Kd.a7 (Kd.aD ho1 (Kd.ar (rU ky.out))) (aQ gj));replace ky:=Az NW;replace be:=kB be.out hb;replace bR:=kB bR.out hb;replace ci:=kB ci.out hb;replace HB:=Az (ay gj hb);clear hb ho0 ho1;refine hK.out _ _ ⟨(ai be.out 0).trans rfl,(ai be.out 1).trans rfl⟩ (fun hHeld=>?_);clear hK K;refine aX (a':=?_) ?_ ?_;rotate_left
   ·
    show Act.put _ (some 9) _=_
    simp only[Act.put,List.setIfInBounds_toArray,List.set_cons_zero,List.set_cons_succ,bo,bD];rfl
   exact aX wX (hCont (.slice df rK.length cd,yw,yx,fu) _ ⟨hHeld,Og,NR,N8,(kU be.out),(kU bR.out),(kU ci.out),E4.out,uz.out,l9.out,uC.out,pv.out,vD.out,gj⟩)
 rintro⟨Iw,yw,yx,fu⟩ lg ⟨hS_,cY,cK,cL,cM,cN,cO,dj,du,eG,fw,fx,fy,fT⟩;have n0:ae (Kd.R (Kd.int .i64) 3 lg w.heap.size (fun k_=>oV k_ yw/\oV k_ yx) Iw rK):=⟨cY⟩;have n1:ae (Kd.R (Kd.int .i64) 3 lg w.heap.size (fun k_=>oV k_ Iw/\oV k_ yx) yw wV):=⟨cK⟩;have n2:ae (Kd.R (Kd.int .i64) 3 lg w.heap.size (fun k_=>oV k_ Iw/\oV k_ yw) yx yu):=⟨cL⟩;have n3:ae (lg.heap[gr]?=some (.cells #[.slice aA af.length az,.slice ak ag.length aj] 29 (0,0))):=⟨cM⟩;have n4:ae (lg.heap[kz]?=some (.cells #[.slice none 0 0,.slice none 0 0] 29 (0,0))):=⟨cN⟩;have n5:ae (lg.heap[fu]?=some (.cells #[.slice none 0 0,.slice none 0 0] 29 (0,0))):=⟨cO⟩;have n6:ae (w.heap.size<=fu):=⟨dj⟩;have n7:ae (w.heap.size<=fu):=⟨du⟩;have n8:ae (gr≠fu):=⟨eG⟩;have n9:ae (fu≠gr):=⟨fw⟩;have n10:ae (kz≠fu):=⟨fx⟩;have n11:ae (fu≠kz):=⟨fy⟩;have n12:ae (Below w.heap.size w lg):=⟨fT⟩;clear be bR HB cY cK cL cM cN cO dj du eG fw fx fy fT;have ky:=n0;have Ac:=n1;have Ad:=n2;have be:=n3;have bR:=n4;have ci:=n5;have E4:=n6;have uz:=n7;have l9:=n8;have uC:=n9;have pv:=n10;have vD:=n11;have HB:=n12;clear n0 n1 n2 n3 n4 n5 n6 n7 n8 n9 n10 n11 n12;have hHeld:lg.cell? ⟨gr,0,none⟩=some (.slice aA af.length az)/\lg.cell? ⟨gr,1,none⟩=some (.slice ak ag.length aj):=hS_;obtain⟨ql,pM,qm⟩:=Kd.aH Ac.out;(first|subst qm|(injection qm with al aT am;have aU:=al.symm;have aV:=am.symm;clear al aT am;subst aU;subst aV));obtain⟨fA,eR,pO⟩:=Kd.aH Ad.out;(first|subst pO|(injection pO with al aT am;have aU:=al.symm;have aV:=am.symm;clear al aT am;subst aU;subst aV));refine aX (a':=?_) ?_ ?_;rotate_left
 ·simp only[gv,Act.put,List.setIfInBounds_toArray,List.set_cons_zero,List.set_cons_succ];rfl
 refine dm (i:=5) (N:=none) (bv 6 63) rfl rfl (by kernel_rfl) (by decide) (fun K hK=>?_);have aAN:lg.cell? ⟨fu,0,none⟩=some (.slice none 0 0):=(ai ci.out 0).trans rfl;have aAO:=gJ ci.out 0;have aAP:=l9.out;have aAQ:=pv.out;have aAR:=uC.out;have aAS:=vD.out;have aAT:lg.cell? ⟨fu,1,none⟩=some (.slice none 0 0):=(ai ci.out 1).trans rfl;have aAU:=gJ ci.out 1;have aAV:=l9.out;have aAW:=pv.out;have aAX:=uC.out;have aAY:=vD.out;refine iW (w1:=?_) (by rfl) rfl ?_ ?_;rotate_left
 ·go_simp;rfl
 refine hK.out _ _ ⟨((cell_far (p:=⟨fu,_,none⟩) l9.out _).trans (((cell_far (p:=⟨fu,_,none⟩) l9.out _).trans (hHeld.1)))),((cell_far (p:=⟨fu,_,none⟩) l9.out _).trans (((cell_far (p:=⟨fu,_,none⟩) l9.out _).trans (hHeld.2))))⟩ (fun hHeld=>?_);clear hK K;refine eY (by kernel_rfl) ?_;have akI:=Va.out;have akJ:=(Va.out).symm;have acM:=l9.out;have asa:=uC.out;have aaY:=bc2 be.out
 try go_wp2
 go_loopg [13] k (fun kq v13 w'=>∃(je:Int) (jJ:List Int) (jK:List Int) (jL:Value) (jM:Value),v13= .int .i64 je/\ae (nH.l0 kq (af.length:Int) je af ag jJ jK=some (r1,r2))/\ae (kq<=k)/\ae (Kd.R (Kd.int .i64) 3 w' w.heap.size (fun k_=>oV k_ jM) jL jJ)/\ae (Kd.R (Kd.int .i64) 3 w' w.heap.size (fun k_=>oV k_ jL) jM jK)/\ae (w'.heap[gr]?=some (.cells #[(.slice aA af.length az),(.slice ak ag.length aj)] 29 (0,0)))/\ae (w'.heap[kz]?=some (.cells #[(.slice none 0 0),(.slice none 0 0)] 29 (0,0)))/\ae (w'.heap[fu]?=some (.cells #[jL,jM] 29 (0,0)))/\ae (Below w.heap.size w w'))
 case atStart=>exact⟨(0),(wV),(yu),(.slice ql wV.length pM),(.slice fA yu.length eR),rS,H',⟨Nat.le_refl _⟩,⟨rA (Kd.ah (Kd.aY (p:=⟨fu,1,none⟩) (Kd.aY (p:=⟨fu,0,none⟩) (Kd.cj Ac.out ci.out (by decide)) (fun _ hk=>hk.2) (.slice ql wV.length pM)) (fun _ hk=>hk.2) (.slice fA yu.length eR)) (fun _ hk=>hk.1.2))⟩,⟨rA (Kd.ah (Kd.aY (p:=⟨fu,1,none⟩) (Kd.aY (p:=⟨fu,0,none⟩) (Kd.cj Ad.out ci.out (by decide)) (fun _ hk=>hk.2) (.slice ql wV.length pM)) (fun _ hk=>hk.2) (.slice fA yu.length eR)) (fun _ hk=>hk.1.2))⟩,⟨by refine sA ?_;refine bU ?_ l9.out _;refine sA ?_;refine bU ?_ l9.out _;refine sA ?_;exact be.out⟩,⟨by refine sA ?_;refine bU ?_ pv.out _;refine sA ?_;refine bU ?_ pv.out _;refine sA ?_;exact bR.out⟩,⟨by refine sA ?_;refine bL (cs:=#[.slice ql wV.length pM,.slice none 0 0]) ?_ 1 _ rfl;refine sA ?_;refine bL (cs:=#[.slice none 0 0,.slice none 0 0]) ?_ 0 _ rfl;refine sA ?_;exact ci.out⟩,⟨bU3 HB.out yn.out CN.out uz.out⟩⟩
 case round=>
  clear H';obtain⟨je,jJ,jK,jL,jM,rfl,HA,eZ,eL,eM,be,bR,ci,HB⟩:=hrel
  rcases gk with _|k1
  exact(nN HA.out).elim;have H:=HA.out;clear HA;simp only[nH.l0]at H
  replace H:=gB H;rcases H with⟨KB,H⟩|⟨KB,H⟩
  ·
   replace H:=bd H;obtain⟨jI,EQ,H⟩:=H;replace H:=bd H;obtain⟨⟨jb,jN⟩,xI,H⟩:=H;dsimp only at H;replace H:=bd H;obtain⟨MM,Kk,H⟩:=H
   replace H:=gB H;rcases H with⟨zh,H⟩|⟨zh,H⟩
   ·
    have H':=Az H;clear H
    try go_wp2
    replace eL:=Az (Kd.bK eL.out);replace eM:=Az (Kd.bK eM.out);replace be:=Az (ce be.out);replace bR:=Az (ce bR.out);replace ci:=Az (ce ci.out);replace HB:=Az (a8 HB.out);refine eX (n:=7) (S:=fun w'=>w'.cell? ⟨gr,0,none⟩=some (.slice aA af.length az)/\w'.cell? ⟨gr,1,none⟩=some (.slice ak ag.length aj)) (ds:=[]) (bv 7 0) (by kernel_rfl) rfl rfl ⟨(ai be.out 0).trans rfl,(ai be.out 1).trans rfl⟩ (fun hHeld=>?_);generalize wr.drew=pU at eL eM be bR ci HB hHeld ⊢;refine av (i:=2) (N:=some 18) (v:=?_) (a':=?_) (bv 7 4) rfl rfl (by kernel_rfl) (fun _ _ _ h=>h) (Or.inl ⟨by rfl,?_⟩) ?_ ?_;rotate_left;(exact yP);rotate_left;(exact aP);refine bS (i:=0) (N:=some 16) (v:=?_) (a':=?_) (bv 7 5) rfl rfl (by kernel_rfl) (fun _ _ _ h=>h) (Or.inl ⟨by rfl,?_⟩) hHeld ?_ ?_;rotate_left
    ·
     rintro w' ⟨s0,s1⟩;go_simp
     with_reducible rfl
    rotate_left;(exact aP);refine bS (i:=1) (N:=some 17) (v:=?_) (a':=?_) (bv 7 7) rfl rfl (by kernel_rfl) (fun _ _ _ h=>h) (Or.inl ⟨by rfl,?_⟩) hHeld ?_ ?_;rotate_left
    ·
     rintro w' ⟨s0,s1⟩;go_simp
     with_reducible rfl
    rotate_left;(exact aP);refine kH (σ:=Value×Value×Value×Nat) 1 (bv 7 63) (fun s_=>[(19,s_.1),(20,.agg #[s_.2.1,s_.2.2.1]),(5,.pointer (some ⟨s_.2.2.2,0,none⟩))]) (fun s_ w'=>(w'.cell? ⟨gr,0,none⟩=some (.slice aA af.length az)/\w'.cell? ⟨gr,1,none⟩=some (.slice ak ag.length aj))/\(Kd.R (Kd.int .i64) 3 w' w.heap.size (fun k_=>some k_≠(s_.2.1:Value).ownBlock/\some k_≠(s_.2.2.1:Value).ownBlock/\oV k_ jL/\oV k_ jM) s_.1 jI)/\(Kd.R (Kd.int .i64) 3 w' w.heap.size (fun k_=>some k_≠(s_.1:Value).ownBlock/\some k_≠(s_.2.2.1:Value).ownBlock/\oV k_ jL/\oV k_ jM) s_.2.1 jb)/\(Kd.R (Kd.int .i64) 3 w' w.heap.size (fun k_=>some k_≠(s_.1:Value).ownBlock/\some k_≠(s_.2.1:Value).ownBlock/\oV k_ jL/\oV k_ jM) s_.2.2.1 jN)/\(Kd.R (Kd.int .i64) 3 w' w.heap.size (fun k_=>some k_≠(s_.1:Value).ownBlock/\some k_≠(s_.2.1:Value).ownBlock/\some k_≠(s_.2.2.1:Value).ownBlock/\oV k_ jM) jL jJ)/\(Kd.R (Kd.int .i64) 3 w' w.heap.size (fun k_=>some k_≠(s_.1:Value).ownBlock/\some k_≠(s_.2.1:Value).ownBlock/\some k_≠(s_.2.2.1:Value).ownBlock/\oV k_ jL) jM jK)/\(w'.heap[gr]?=some (.cells #[.slice aA af.length az,.slice ak ag.length aj] 29 (0,0)))/\(w'.heap[kz]?=some (.cells #[.slice none 0 0,.slice none 0 0] 29 (0,0)))/\(w'.heap[fu]?=some (.cells #[jL,jM] 29 (0,0)))/\(w'.heap[s_.2.2.2]?=some (.cells #[.slice none 0 0,.slice none 0 0] 29 (0,0)))/\(w.heap.size<=s_.2.2.2)/\(w.heap.size<=s_.2.2.2)/\(gr≠s_.2.2.2)/\(s_.2.2.2≠gr)/\(kz≠s_.2.2.2)/\(s_.2.2.2≠kz)/\(fu≠s_.2.2.2)/\(s_.2.2.2≠fu)/\(Below w.heap.size w w')) ?_ ?_;rotate_left
    ·
     intro hCont;refine qg (i:=3) (j:=5) (Ni:=some 19) (Nj:=some 5) (bv 7 15) (bv 7 39) rfl rfl rfl rfl (by kernel_rfl) (by decide) (by decide) (fun K hK=>?_) (fun K hK=>?_)
     ·
      skip
      refine eQ Try.func81 (by kernel_rfl) rfl #[.agg #[.slice aA af.length az,.slice ak ag.length aj],.int .i64 je] (by rfl) rfl rfl lQ ?_
      with_reducible refine(eO.calls k1 _ _ af _ _ ag je jI _ ?side1 ?side2 ?side3 ?side4 EQ.out).mono ?_
      (case side1=>exact cU (Kd.bn ck.out HB.out))
      (case side2=>exact cv.out)
      (case side3=>exact cU (Kd.bn bP.out HB.out))
      (case side4=>exact cx.out)
      rintro e nl ⟨ma,rfl,ho0,hb⟩;refine⟨_,rfl,?_⟩;have eW:=Az (Kd.a7 Ah (aQ gj));replace eL:=Az Jd;replace eM:=Az I8;replace be:=kB be.out hb;replace bR:=kB bR.out hb;replace ci:=kB ci.out hb;replace HB:=Az (ay gj hb);clear hb ho0;obtain⟨ku,e7,ll⟩:=Kd.aH eW.out;(first|subst ll|(injection ll with al aT am;have aU:=al.symm;have aV:=am.symm;clear al aT am;subst aU;subst aV));refine hK.out _ _ ⟨(ai be.out 0).trans rfl,(ai be.out 1).trans rfl⟩ (fun hHeld=>?_);clear hK K;refine aX (a':=?_) ?_ ?_;rotate_left
      ·
       show Act.put _ (some 19) _=_
       simp only[Act.put,List.setIfInBounds_toArray,List.set_cons_zero,List.set_cons_succ,bo,bD];rfl
      refine qg (i:=4) (j:=5) (Ni:=some 20) (Nj:=some 5) (bv 7 31) (bv 7 47) rfl rfl rfl rfl (by kernel_rfl) (by decide) (by decide) (fun K hK=>?_) (fun K hK=>?_)
      ·
       skip
       refine eQ Try.func80 (by kernel_rfl) rfl #[.agg #[.slice aA af.length az,.slice ak ag.length aj],.slice ku jI.length e7] (by rfl) rfl rfl lQ ?_
       with_reducible refine(kI.calls k1 _ _ af _ _ ag _ _ jI jb jN _ ?side1 ?side2 ?side3 ?side4 ?side5 ?side6 xI.out).mono ?_
       (case side1=>exact cU (Kd.bn ck.out HB.out))
       (case side2=>exact cv.out)
       (case side3=>exact cU (Kd.bn bP.out HB.out))
       (case side4=>exact cx.out)
       (case side5=>exact cU ((Kd.au eW.out).2.2))
       (case side6=>exact(Kd.au eW.out).2.1)
       rintro e nh ⟨mb,me,rfl,ho0,ho1,hb⟩;refine⟨_,rfl,?_⟩;have l7:=Az (Kd.a7 (Kd.aD Ah (Kd.ar (rU eW.out))) (aQ gj));have l8:=Az (Kd.a7 CX (aQ gj));replace eL:=Az CU;replace eM:=Az C6;replace eW:=Az Dz;replace be:=kB be.out hb;replace bR:=kB bR.out hb;replace ci:=kB ci.out hb;replace HB:=Az (ay gj hb);clear hb ho0 ho1;refine hK.out _ _ ⟨(ai be.out 0).trans rfl,(ai be.out 1).trans rfl⟩ (fun hHeld=>?_);clear hK K;refine aX (a':=?_) ?_ ?_;rotate_left
       ·
        show Act.put _ (some 20) _=_
        simp only[Act.put,List.setIfInBounds_toArray,List.set_cons_zero,List.set_cons_succ,bo,bD];rfl
       refine dm (i:=5) (N:=some 5) (bv 7 63) rfl rfl (by kernel_rfl) (by decide) (fun K hK=>?_);refine mF ?hg (N:=5) ?hd (cs:=#[.slice none 0 0,.slice none 0 0]) (t:=29) ?hr ?_;(case hd=>rfl);(case hg=>rfl);(case hr=>first|(go_simp;done)|(go_simp;rfl));intro ez hg rV hbox hb;replace eL:=rB eL.out hb;replace eM:=rB eM.out hb;replace eW:=rB eW.out hb;replace l7:=rB l7.out hb;replace l8:=rB l8.out hb;have dT:=Az (hbox);have tt:=gW hg gj;have qH:=Az ((by rw[hg];exact(aQ gj):w.heap.size<=ez));replace HB:=Az (ay gj hb);have iv:=nL hg (kU be.out);have oC:=nS iv;replace be:=kB be.out hb;have j4:=nL hg (kU bR.out);have oD:=nS j4;replace bR:=kB bR.out hb;have j5:=nL hg (kU ci.out);have oE:=nS j5;replace ci:=kB ci.out hb;clear hb hbox hg;refine hK.out _ _ ⟨(ai be.out 0).trans rfl,(ai be.out 1).trans rfl⟩ (fun hHeld=>?_);clear hK K;refine aX (a':=?_) ?_ ?_;rotate_left
       ·
        show Act.put _ (some 5) _=_
        simp only[Act.put,List.setIfInBounds_toArray,List.set_cons_zero,List.set_cons_succ,bo,bD];rfl
       exact aX wX (hCont (.slice ku jI.length e7,mb,me,ez) _ ⟨hHeld,Dl,C9,C8,C7,CZ,(kU be.out),(kU bR.out),(kU ci.out),(kU dT.out),tt.out,qH.out,iv.out,oC.out,j4.out,oD.out,j5.out,oE.out,mE⟩)
      ·
       skip
       refine mF ?hg (N:=5) ?hd (cs:=#[.slice none 0 0,.slice none 0 0]) (t:=29) ?hr ?_;(case hd=>rfl);(case hg=>rfl);(case hr=>first|(go_simp;done)|(go_simp;rfl));intro ez hg td hbox hb;replace eL:=rB eL.out hb;replace eM:=rB eM.out hb;replace eW:=rB eW.out hb;have dT:=Az (hbox);have tt:=gW hg gj;have qH:=Az ((by rw[hg];exact(aQ gj):w.heap.size<=ez));replace HB:=Az (ay gj hb);have iv:=nL hg (kU be.out);have oC:=nS iv;replace be:=kB be.out hb;have j4:=nL hg (kU bR.out);have oD:=nS j4;replace bR:=kB bR.out hb;have j5:=nL hg (kU ci.out);have oE:=nS j5;replace ci:=kB ci.out hb;clear hb hbox hg;obtain⟨ru,ry,qw⟩:=Kd.aH eW.out;(first|subst qw|(injection qw with al aT am;have aU:=al.symm;have aV:=am.symm;clear al aT am;subst aU;subst aV));refine hK.out _ _ ⟨(ai be.out 0).trans rfl,(ai be.out 1).trans rfl⟩ (fun hHeld=>?_);clear hK K;refine aX (a':=?_) ?_ ?_;rotate_left
       ·
        show Act.put _ (some 5) _=_
        simp only[Act.put,List.setIfInBounds_toArray,List.set_cons_zero,List.set_cons_succ,bo,bD];rfl
       refine dm (i:=4) (N:=some 20) (bv 7 63) rfl rfl (by kernel_rfl) (by decide) (fun K hK=>?_);refine eQ Try.func80 (by kernel_rfl) rfl #[.agg #[.slice aA af.length az,.slice ak ag.length aj],.slice ru jI.length ry] (by rfl) rfl rfl lQ ?_
       with_reducible refine(kI.calls k1 _ _ af _ _ ag _ _ jI jb jN _ ?side1 ?side2 ?side3 ?side4 ?side5 ?side6 xI.out).mono ?_
       (case side1=>exact cU (Kd.bn ck.out HB.out))
       (case side2=>exact cv.out)
       (case side3=>exact cU (Kd.bn bP.out HB.out))
       (case side4=>exact cx.out)
       (case side5=>exact cU ((Kd.au eW.out).2.2))
       (case side6=>exact(Kd.au eW.out).2.1)
       rintro e rV ⟨mb,me,rfl,ho0,ho1,hb⟩;refine⟨_,rfl,?_⟩;have l7:=Az Jl;have l8:=Az (Kd.a7 CX (aQ mE));replace eL:=Az CU;replace eM:=Az C6;replace eW:=Az Dz;replace be:=kB be.out hb;replace bR:=kB bR.out hb;replace ci:=kB ci.out hb;replace dT:=kB dT.out hb;replace HB:=Az (ay mE hb);clear hb ho0 ho1;refine hK.out _ _ ⟨(ai be.out 0).trans rfl,(ai be.out 1).trans rfl⟩ (fun hHeld=>?_);clear hK K;refine aX (a':=?_) ?_ ?_;rotate_left
       ·
        show Act.put _ (some 20) _=_
        simp only[Act.put,List.setIfInBounds_toArray,List.set_cons_zero,List.set_cons_succ,bo,bD];rfl
       exact aX wX (hCont (.slice ru jI.length ry,mb,me,ez) _ ⟨hHeld,Dl,C9,C8,C7,CZ,(kU be.out),(kU bR.out),(kU ci.out),(kU dT.out),tt.out,qH.out,iv.out,oC.out,j4.out,oD.out,j5.out,oE.out,mE⟩)
     ·
      skip
      refine mF ?hg (N:=5) ?hd (cs:=#[.slice none 0 0,.slice none 0 0]) (t:=29) ?hr ?_;(case hd=>rfl);(case hg=>rfl);(case hr=>first|(go_simp;done)|(go_simp;rfl));intro ez hg nl hbox hb;replace eL:=rB eL.out hb;replace eM:=rB eM.out hb;have dT:=Az (hbox);have tt:=gW hg gj;have qH:=Az ((by rw[hg];exact(aQ gj):w.heap.size<=ez));replace HB:=Az (ay gj hb);have iv:=nL hg (kU be.out);have oC:=nS iv;replace be:=kB be.out hb;have j4:=nL hg (kU bR.out);have oD:=nS j4;replace bR:=kB bR.out hb;have j5:=nL hg (kU ci.out);have oE:=nS j5;replace ci:=kB ci.out hb;clear hb hbox hg;refine hK.out _ _ ⟨(ai be.out 0).trans rfl,(ai be.out 1).trans rfl⟩ (fun hHeld=>?_);clear hK K;refine aX (a':=?_) ?_ ?_;rotate_left
      ·
       show Act.put _ (some 5) _=_
       simp only[Act.put,List.setIfInBounds_toArray,List.set_cons_zero,List.set_cons_succ,bo,bD];rfl
      refine dm (i:=3) (N:=some 19) (bv 7 47) rfl rfl (by kernel_rfl) (by decide) (fun K hK=>?_);refine eQ Try.func81 (by kernel_rfl) rfl #[.agg #[.slice aA af.length az,.slice ak ag.length aj],.int .i64 je] (by rfl) rfl rfl lQ ?_
      with_reducible refine(eO.calls k1 _ _ af _ _ ag je jI _ ?side1 ?side2 ?side3 ?side4 EQ.out).mono ?_
      (case side1=>exact cU (Kd.bn ck.out HB.out))
      (case side2=>exact cv.out)
      (case side3=>exact cU (Kd.bn bP.out HB.out))
      (case side4=>exact cx.out)
      rintro e td ⟨ma,rfl,ho0,hb⟩;refine⟨_,rfl,?_⟩;have eW:=Az (Kd.a7 Ah (aQ mE));replace eL:=Az Jd;replace eM:=Az I8;replace be:=kB be.out hb;replace bR:=kB bR.out hb;replace ci:=kB ci.out hb;replace dT:=kB dT.out hb;replace HB:=Az (ay mE hb);clear hb ho0;obtain⟨ru,ry,qw⟩:=Kd.aH eW.out;(first|subst qw|(injection qw with al aT am;have aU:=al.symm;have aV:=am.symm;clear al aT am;subst aU;subst aV));refine hK.out _ _ ⟨(ai be.out 0).trans rfl,(ai be.out 1).trans rfl⟩ (fun hHeld=>?_);clear hK K;refine aX (a':=?_) ?_ ?_;rotate_left
      ·
       show Act.put _ (some 19) _=_
       simp only[Act.put,List.setIfInBounds_toArray,List.set_cons_zero,List.set_cons_succ,bo,bD];rfl
      refine dm (i:=4) (N:=some 20) (bv 7 63) rfl rfl (by kernel_rfl) (by decide) (fun K hK=>?_);refine eQ Try.func80 (by kernel_rfl) rfl #[.agg #[.slice aA af.length az,.slice ak ag.length aj],.slice ru jI.length ry] (by rfl) rfl rfl lQ ?_
      with_reducible refine(kI.calls k1 _ _ af _ _ ag _ _ jI jb jN _ ?side1 ?side2 ?side3 ?side4 ?side5 ?side6 xI.out).mono ?_
      (case side1=>exact cU (Kd.bn ck.out HB.out))
      (case side2=>exact cv.out)
      (case side3=>exact cU (Kd.bn bP.out HB.out))
      (case side4=>exact cx.out)
      (case side5=>exact cU ((Kd.au eW.out).2.2))
      (case side6=>exact(Kd.au eW.out).2.1)
      rintro e rV ⟨mb,me,rfl,ho0,ho1,hb⟩;refine⟨_,rfl,?_⟩;have l7:=Az Jl;have l8:=Az (Kd.a7 CX (aQ mE));replace eL:=Az CU;replace eM:=Az C6;replace eW:=Az Dz;replace be:=kB be.out hb;replace bR:=kB bR.out hb;replace ci:=kB ci.out hb;replace dT:=kB dT.out hb;replace HB:=Az (ay mE hb);clear hb ho0 ho1;refine hK.out _ _ ⟨(ai be.out 0).trans rfl,(ai be.out 1).trans rfl⟩ (fun hHeld=>?_);clear hK K;refine aX (a':=?_) ?_ ?_;rotate_left
      ·
       show Act.put _ (some 20) _=_
       simp only[Act.put,List.setIfInBounds_toArray,List.set_cons_zero,List.set_cons_succ,bo,bD];rfl
      exact aX wX (hCont (.slice ru jI.length ry,mb,me,ez) _ ⟨hHeld,Dl,C9,C8,C7,CZ,(kU be.out),(kU bR.out),(kU ci.out),(kU dT.out),tt.out,qH.out,iv.out,oC.out,j4.out,oD.out,j5.out,oE.out,mE⟩)
    rintro⟨ma,mb,me,ez⟩ jB ⟨hS_,cY,cK,cL,cM,cN,cO,dj,du,eG,fw,fx,fy,fT,iN,lV,uZ,Ix,Iy⟩;have n0:ae (Kd.R (Kd.int .i64) 3 jB w.heap.size (fun k_=>oV k_ mb/\oV k_ me/\oV k_ jL/\oV k_ jM) ma jI):=⟨cY⟩;have n1:ae (Kd.R (Kd.int .i64) 3 jB w.heap.size (fun k_=>oV k_ ma/\oV k_ me/\oV k_ jL/\oV k_ jM) mb jb):=⟨cK⟩;have n2:ae (Kd.R (Kd.int .i64) 3 jB w.heap.size (fun k_=>oV k_ ma/\oV k_ mb/\oV k_ jL/\oV k_ jM) me jN):=⟨cL⟩;have n3:ae (Kd.R (Kd.int .i64) 3 jB w.heap.size (fun k_=>oV k_ ma/\oV k_ mb/\oV k_ me/\oV k_ jM) jL jJ):=⟨cM⟩;have n4:ae (Kd.R (Kd.int .i64) 3 jB w.heap.size (fun k_=>oV k_ ma/\oV k_ mb/\oV k_ me/\oV k_ jL) jM jK):=⟨cN⟩;have n5:ae (jB.heap[gr]?=some (.cells #[.slice aA af.length az,.slice ak ag.length aj] 29 (0,0))):=⟨cO⟩;have n6:ae (jB.heap[kz]?=some (.cells #[.slice none 0 0,.slice none 0 0] 29 (0,0))):=⟨dj⟩;have n7:ae (jB.heap[fu]?=some (.cells #[jL,jM] 29 (0,0))):=⟨du⟩;have n8:ae (jB.heap[ez]?=some (.cells #[.slice none 0 0,.slice none 0 0] 29 (0,0))):=⟨eG⟩;have n9:ae (w.heap.size<=ez):=⟨fw⟩;have n10:ae (w.heap.size<=ez):=⟨fx⟩;have n11:ae (gr≠ez):=⟨fy⟩;have n12:ae (ez≠gr):=⟨fT⟩;have n13:ae (kz≠ez):=⟨iN⟩;have n14:ae (ez≠kz):=⟨lV⟩;have n15:ae (fu≠ez):=⟨uZ⟩;have n16:ae (ez≠fu):=⟨Ix⟩;have n17:ae (Below w.heap.size w jB):=⟨Iy⟩;clear eL eM be bR ci HB cY cK cL cM cN cO dj du eG fw fx fy fT iN lV uZ Ix Iy;have eW:=n0;have l7:=n1;have l8:=n2;have eL:=n3;have eM:=n4;have be:=n5;have bR:=n6;have ci:=n7;have dT:=n8;have tt:=n9;have qH:=n10;have iv:=n11;have oC:=n12;have j4:=n13;have oD:=n14;have j5:=n15;have oE:=n16;have HB:=n17;clear n0 n1 n2 n3 n4 n5 n6 n7 n8 n9 n10 n11 n12 n13 n14 n15 n16 n17;have hHeld:jB.cell? ⟨gr,0,none⟩=some (.slice aA af.length az)/\jB.cell? ⟨gr,1,none⟩=some (.slice ak ag.length aj):=hS_;obtain⟨pj,ol,EH⟩:=Kd.aH l7.out;(first|subst EH|(injection EH with al aT am;have aU:=al.symm;have aV:=am.symm;clear al aT am;subst aU;subst aV));obtain⟨sw,oB,Af⟩:=Kd.aH l8.out;(first|subst Af|(injection Af with al aT am;have aU:=al.symm;have aV:=am.symm;clear al aT am;subst aU;subst aV));refine aX (a':=?_) ?_ ?_;rotate_left
    ·simp only[gv,Act.put,List.setIfInBounds_toArray,List.set_cons_zero,List.set_cons_succ];rfl
    refine dm (i:=6) (N:=none) (bv 7 127) rfl rfl (by kernel_rfl) (by decide) (fun K hK=>?_);have amI:jB.cell? ⟨ez,0,none⟩=some (.slice none 0 0):=(ai dT.out 0).trans rfl;have amJ:=gJ dT.out 0;have amK:=iv.out;have amL:=j4.out;have aAZ:=j5.out;have amM:=oC.out;have amN:=oD.out;have aA0:=oE.out;have aA1:jB.cell? ⟨ez,1,none⟩=some (.slice none 0 0):=(ai dT.out 1).trans rfl;have aA2:=gJ dT.out 1;have aA3:=iv.out;have aA4:=j4.out;have aA5:=j5.out;have aA6:=oC.out;have aA7:=oD.out;have aA8:=oE.out;refine iW (w1:=?_) (by rfl) rfl ?_ ?_;rotate_left
    ·go_simp;rfl
    refine hK.out _ _ ⟨((cell_far (p:=⟨ez,_,none⟩) iv.out _).trans (((cell_far (p:=⟨ez,_,none⟩) iv.out _).trans (hHeld.1)))),((cell_far (p:=⟨ez,_,none⟩) iv.out _).trans (((cell_far (p:=⟨ez,_,none⟩) iv.out _).trans (hHeld.2))))⟩ (fun hHeld=>?_);clear hK K;refine eY (by kernel_rfl) ?_;have anv:=oC.out;have anw:=iv.out;have aa1:=oD.out;have aA9:=j4.out;have J5:=oE.out;have aa2:=j5.out;have P9:=bc2 dT.out;have akc:=uC.out;have aBa:=l9.out;have apK:=vD.out;have apL:=pv.out;have al4:=bc2 ci.out;obtain⟨wU,vC,U7⟩:=Kd.aH eL.out;subst U7;obtain⟨CQ,Ag,asb⟩:=Kd.aH eM.out;subst asb
    try go_wp2_with (first|((with_reducible refine gK 100 rfl ?_);refine gC (some 23) Try.func100 #[.agg #[.slice pj jb.length ol,.slice sw jN.length oB],.agg #[.slice wU jJ.length vC,.slice CQ jK.length Ag]] ?_;(with_reducible refine(uF.calls k1 _ _ jb _ _ jN _ _ jJ _ _ jK MM _ ?side1 ?side2 ?side3 ?side4 ?side5 ?side6 ?side7 ?side8 Kk.out).mono ?_);(case side1=>refine(Kd.au (e:=3) (base:=w.heap.size) (ok:=fun k_=>(oV k_ ma/\(oS k_ sw jN.length oB/\(oS k_ wU jJ.length vC/\oS k_ CQ jK.length Ag)))) (n:=jb.length) (c:=ol) ?_).2.2;exact(rW2 l7.out dT.out));(case side2=>exact(Kd.au l7.out).2.1);(case side3=>refine(Kd.au (e:=3) (base:=w.heap.size) (ok:=fun k_=>(oV k_ ma/\(oS k_ pj jb.length ol/\(oS k_ wU jJ.length vC/\oS k_ CQ jK.length Ag)))) (n:=jN.length) (c:=oB) ?_).2.2;exact(rW2 l8.out dT.out));(case side4=>exact(Kd.au l8.out).2.1);(case side5=>refine(Kd.au (e:=3) (base:=w.heap.size) (ok:=fun k_=>(oV k_ ma/\(oS k_ pj jb.length ol/\(oS k_ sw jN.length oB/\oS k_ CQ jK.length Ag)))) (n:=jJ.length) (c:=vC) ?_).2.2;exact(rW2 eL.out dT.out));(case side6=>exact(Kd.au eL.out).2.1);(case side7=>refine(Kd.au (e:=3) (base:=w.heap.size) (ok:=fun k_=>(oV k_ ma/\(oS k_ pj jb.length ol/\(oS k_ sw jN.length oB/\oS k_ wU jJ.length vC)))) (n:=jK.length) (c:=Ag) ?_).2.2;exact(rW2 eM.out dT.out));(case side8=>exact(Kd.au eM.out).2.1);rintro e GH ⟨rfl,hb⟩;refine⟨_,rfl,?_⟩;replace eL:=Az (Kd.kJ (rW2 eL.out dT.out) hb);replace eM:=Az (Kd.kJ (rW2 eM.out dT.out) hb);replace eW:=Az (Kd.kJ (rW2 eW.out dT.out) hb);replace l7:=Az (Kd.kJ (rW2 l7.out dT.out) hb);replace l8:=Az (Kd.kJ (rW2 l8.out dT.out) hb);replace be:=Az VE;replace bR:=Az (lI (g:=kz) (o:=.cells #[.slice none 0 0,.slice none 0 0] 29 (0,0)) (kF1 bR.out j4.out) hb);replace ci:=Az (lI (g:=fu) (o:=.cells #[.slice wU jJ.length vC,.slice CQ jK.length Ag] 29 (0,0)) (kF1 ci.out j5.out) hb);replace dT:=Az (lI (g:=ez) (o:=.cells #[.slice pj jb.length ol,.slice sw jN.length oB] 29 (0,0)) (by refine sA ?_;refine bL (cs:=#[.slice pj jb.length ol,.slice none 0 0]) ?_ 1 _ rfl;refine sA ?_;refine bL (cs:=#[.slice none 0 0,.slice none 0 0]) ?_ 0 _ rfl;refine sA ?_;exact dT.out) hb);replace HB:=Az (ay mE hb);clear hb;have ao1:=bc2 dT.out;have aBb:=bc2 ci.out))
    go_roundg k1
    case measure=>exact mO
    case rel=>exact⟨(wrap64 (je+1)),(jb),(jN),(.slice pj jb.length ol),(.slice sw jN.length oB),rS,H',⟨mO⟩,⟨rA (Kd.ah (Kd.aY (p:=⟨fu,1,none⟩) (Kd.aY (p:=⟨fu,0,none⟩) (Kd.cj l7.out ci.out (by decide)) (fun _ hk=>hk.2) (.slice pj jb.length ol)) (fun _ hk=>hk.2) (.slice sw jN.length oB)) (fun _ hk=>hk.1.2.1))⟩,⟨rA (Kd.ah (Kd.aY (p:=⟨fu,1,none⟩) (Kd.aY (p:=⟨fu,0,none⟩) (Kd.cj l8.out ci.out (by decide)) (fun _ hk=>hk.2) (.slice pj jb.length ol)) (fun _ hk=>hk.2) (.slice sw jN.length oB)) (fun _ hk=>hk.1.2.1))⟩,⟨by refine sA ?_;refine bU ?_ l9.out _;refine sA ?_;refine bU ?_ l9.out _;refine sA ?_;exact be.out⟩,⟨by refine sA ?_;refine bU ?_ pv.out _;refine sA ?_;refine bU ?_ pv.out _;refine sA ?_;exact bR.out⟩,⟨by refine sA ?_;refine bL (cs:=#[.slice pj jb.length ol,.slice CQ jK.length Ag]) ?_ 1 _ rfl;refine sA ?_;refine bL (cs:=#[.slice wU jJ.length vC,.slice CQ jK.length Ag]) ?_ 0 _ rfl;refine sA ?_;exact ci.out⟩,⟨bU4 HB.out yn.out CN.out uz.out qH.out⟩⟩
   ·
    have H':=Az H;clear H
    try go_wp2
    replace eL:=Az (Kd.bK eL.out);replace eM:=Az (Kd.bK eM.out);replace be:=Az (ce be.out);replace bR:=Az (ce bR.out);replace ci:=Az (ce ci.out);replace HB:=Az (a8 HB.out);refine eX (n:=7) (S:=fun w'=>w'.cell? ⟨gr,0,none⟩=some (.slice aA af.length az)/\w'.cell? ⟨gr,1,none⟩=some (.slice ak ag.length aj)) (ds:=[]) (bv 7 0) (by kernel_rfl) rfl rfl ⟨(ai be.out 0).trans rfl,(ai be.out 1).trans rfl⟩ (fun hHeld=>?_);generalize wr.drew=Ty at eL eM be bR ci HB hHeld ⊢;refine av (i:=2) (N:=some 18) (v:=?_) (a':=?_) (bv 7 4) rfl rfl (by kernel_rfl) (fun _ _ _ h=>h) (Or.inl ⟨by rfl,?_⟩) ?_ ?_;rotate_left;(exact yP);rotate_left;(exact aP);refine bS (i:=0) (N:=some 16) (v:=?_) (a':=?_) (bv 7 5) rfl rfl (by kernel_rfl) (fun _ _ _ h=>h) (Or.inl ⟨by rfl,?_⟩) hHeld ?_ ?_;rotate_left
    ·
     rintro w' ⟨s0,s1⟩;go_simp
     with_reducible rfl
    rotate_left;(exact aP);refine bS (i:=1) (N:=some 17) (v:=?_) (a':=?_) (bv 7 7) rfl rfl (by kernel_rfl) (fun _ _ _ h=>h) (Or.inl ⟨by rfl,?_⟩) hHeld ?_ ?_;rotate_left
    ·
     rintro w' ⟨s0,s1⟩;go_simp
     with_reducible rfl
    rotate_left;(exact aP);refine kH (σ:=Value×Value×Value×Nat) 1 (bv 7 63) (fun s_=>[(19,s_.1),(20,.agg #[s_.2.1,s_.2.2.1]),(5,.pointer (some ⟨s_.2.2.2,0,none⟩))]) (fun s_ w'=>(w'.cell? ⟨gr,0,none⟩=some (.slice aA af.length az)/\w'.cell? ⟨gr,1,none⟩=some (.slice ak ag.length aj))/\(Kd.R (Kd.int .i64) 3 w' w.heap.size (fun k_=>some k_≠(s_.2.1:Value).ownBlock/\some k_≠(s_.2.2.1:Value).ownBlock/\oV k_ jL/\oV k_ jM) s_.1 jI)/\(Kd.R (Kd.int .i64) 3 w' w.heap.size (fun k_=>some k_≠(s_.1:Value).ownBlock/\some k_≠(s_.2.2.1:Value).ownBlock/\oV k_ jL/\oV k_ jM) s_.2.1 jb)/\(Kd.R (Kd.int .i64) 3 w' w.heap.size (fun k_=>some k_≠(s_.1:Value).ownBlock/\some k_≠(s_.2.1:Value).ownBlock/\oV k_ jL/\oV k_ jM) s_.2.2.1 jN)/\(Kd.R (Kd.int .i64) 3 w' w.heap.size (fun k_=>some k_≠(s_.1:Value).ownBlock/\some k_≠(s_.2.1:Value).ownBlock/\some k_≠(s_.2.2.1:Value).ownBlock/\oV k_ jM) jL jJ)/\(Kd.R (Kd.int .i64) 3 w' w.heap.size (fun k_=>some k_≠(s_.1:Value).ownBlock/\some k_≠(s_.2.1:Value).ownBlock/\some k_≠(s_.2.2.1:Value).ownBlock/\oV k_ jL) jM jK)/\(w'.heap[gr]?=some (.cells #[.slice aA af.length az,.slice ak ag.length aj] 29 (0,0)))/\(w'.heap[kz]?=some (.cells #[.slice none 0 0,.slice none 0 0] 29 (0,0)))/\(w'.heap[fu]?=some (.cells #[jL,jM] 29 (0,0)))/\(w'.heap[s_.2.2.2]?=some (.cells #[.slice none 0 0,.slice none 0 0] 29 (0,0)))/\(w.heap.size<=s_.2.2.2)/\(w.heap.size<=s_.2.2.2)/\(gr≠s_.2.2.2)/\(s_.2.2.2≠gr)/\(kz≠s_.2.2.2)/\(s_.2.2.2≠kz)/\(fu≠s_.2.2.2)/\(s_.2.2.2≠fu)/\(Below w.heap.size w w')) ?_ ?_;rotate_left
    ·
     intro hCont;refine qg (i:=3) (j:=5) (Ni:=some 19) (Nj:=some 5) (bv 7 15) (bv 7 39) rfl rfl rfl rfl (by kernel_rfl) (by decide) (by decide) (fun K hK=>?_) (fun K hK=>?_)
     ·
      skip
      refine eQ Try.func81 (by kernel_rfl) rfl #[.agg #[.slice aA af.length az,.slice ak ag.length aj],.int .i64 je] (by rfl) rfl rfl lQ ?_
      with_reducible refine(eO.calls k1 _ _ af _ _ ag je jI _ ?side1 ?side2 ?side3 ?side4 EQ.out).mono ?_
      (case side1=>exact cU (Kd.bn ck.out HB.out))
      (case side2=>exact cv.out)
      (case side3=>exact cU (Kd.bn bP.out HB.out))
      (case side4=>exact cx.out)
      rintro e oY ⟨ma,rfl,ho0,hb⟩;refine⟨_,rfl,?_⟩;have eW:=Az (Kd.a7 Ah (aQ gj));replace eL:=Az Jd;replace eM:=Az I8;replace be:=kB be.out hb;replace bR:=kB bR.out hb;replace ci:=kB ci.out hb;replace HB:=Az (ay gj hb);clear hb ho0;obtain⟨jE,jF,Cv⟩:=Kd.aH eW.out;(first|subst Cv|(injection Cv with al aT am;have aU:=al.symm;have aV:=am.symm;clear al aT am;subst aU;subst aV));refine hK.out _ _ ⟨(ai be.out 0).trans rfl,(ai be.out 1).trans rfl⟩ (fun hHeld=>?_);clear hK K;refine aX (a':=?_) ?_ ?_;rotate_left
      ·
       show Act.put _ (some 19) _=_
       simp only[Act.put,List.setIfInBounds_toArray,List.set_cons_zero,List.set_cons_succ,bo,bD];rfl
      refine qg (i:=4) (j:=5) (Ni:=some 20) (Nj:=some 5) (bv 7 31) (bv 7 47) rfl rfl rfl rfl (by kernel_rfl) (by decide) (by decide) (fun K hK=>?_) (fun K hK=>?_)
      ·
       skip
       refine eQ Try.func80 (by kernel_rfl) rfl #[.agg #[.slice aA af.length az,.slice ak ag.length aj],.slice jE jI.length jF] (by rfl) rfl rfl lQ ?_
       with_reducible refine(kI.calls k1 _ _ af _ _ ag _ _ jI jb jN _ ?side1 ?side2 ?side3 ?side4 ?side5 ?side6 xI.out).mono ?_
       (case side1=>exact cU (Kd.bn ck.out HB.out))
       (case side2=>exact cv.out)
       (case side3=>exact cU (Kd.bn bP.out HB.out))
       (case side4=>exact cx.out)
       (case side5=>exact cU ((Kd.au eW.out).2.2))
       (case side6=>exact(Kd.au eW.out).2.1)
       rintro e Qb ⟨mb,me,rfl,ho0,ho1,hb⟩;refine⟨_,rfl,?_⟩;have l7:=Az (Kd.a7 (Kd.aD Ah (Kd.ar (rU eW.out))) (aQ gj));have l8:=Az (Kd.a7 CX (aQ gj));replace eL:=Az CU;replace eM:=Az C6;replace eW:=Az Dz;replace be:=kB be.out hb;replace bR:=kB bR.out hb;replace ci:=kB ci.out hb;replace HB:=Az (ay gj hb);clear hb ho0 ho1;refine hK.out _ _ ⟨(ai be.out 0).trans rfl,(ai be.out 1).trans rfl⟩ (fun hHeld=>?_);clear hK K;refine aX (a':=?_) ?_ ?_;rotate_left
       ·
        show Act.put _ (some 20) _=_
        simp only[Act.put,List.setIfInBounds_toArray,List.set_cons_zero,List.set_cons_succ,bo,bD];rfl
       refine dm (i:=5) (N:=some 5) (bv 7 63) rfl rfl (by kernel_rfl) (by decide) (fun K hK=>?_);refine mF ?hg (N:=5) ?hd (cs:=#[.slice none 0 0,.slice none 0 0]) (t:=29) ?hr ?_;(case hd=>rfl);(case hg=>rfl);(case hr=>first|(go_simp;done)|(go_simp;rfl));intro ez hg BQ hbox hb;replace eL:=rB eL.out hb;replace eM:=rB eM.out hb;replace eW:=rB eW.out hb;replace l7:=rB l7.out hb;replace l8:=rB l8.out hb;have dT:=Az (hbox);have tt:=gW hg gj;have qH:=Az ((by rw[hg];exact(aQ gj):w.heap.size<=ez));replace HB:=Az (ay gj hb);have iv:=nL hg (kU be.out);have oC:=nS iv;replace be:=kB be.out hb;have j4:=nL hg (kU bR.out);have oD:=nS j4;replace bR:=kB bR.out hb;have j5:=nL hg (kU ci.out);have oE:=nS j5;replace ci:=kB ci.out hb;clear hb hbox hg;refine hK.out _ _ ⟨(ai be.out 0).trans rfl,(ai be.out 1).trans rfl⟩ (fun hHeld=>?_);clear hK K;refine aX (a':=?_) ?_ ?_;rotate_left
       ·
        show Act.put _ (some 5) _=_
        simp only[Act.put,List.setIfInBounds_toArray,List.set_cons_zero,List.set_cons_succ,bo,bD];rfl
       exact aX wX (hCont (.slice jE jI.length jF,mb,me,ez) _ ⟨hHeld,Dl,C9,C8,C7,CZ,(kU be.out),(kU bR.out),(kU ci.out),(kU dT.out),tt.out,qH.out,iv.out,oC.out,j4.out,oD.out,j5.out,oE.out,mE⟩)
      ·
       skip
       refine mF ?hg (N:=5) ?hd (cs:=#[.slice none 0 0,.slice none 0 0]) (t:=29) ?hr ?_;(case hd=>rfl);(case hg=>rfl);(case hr=>first|(go_simp;done)|(go_simp;rfl));intro ez hg Ko hbox hb;replace eL:=rB eL.out hb;replace eM:=rB eM.out hb;replace eW:=rB eW.out hb;have dT:=Az (hbox);have tt:=gW hg gj;have qH:=Az ((by rw[hg];exact(aQ gj):w.heap.size<=ez));replace HB:=Az (ay gj hb);have iv:=nL hg (kU be.out);have oC:=nS iv;replace be:=kB be.out hb;have j4:=nL hg (kU bR.out);have oD:=nS j4;replace bR:=kB bR.out hb;have j5:=nL hg (kU ci.out);have oE:=nS j5;replace ci:=kB ci.out hb;clear hb hbox hg;obtain⟨Iz,IA,IB⟩:=Kd.aH eW.out;(first|subst IB|(injection IB with al aT am;have aU:=al.symm;have aV:=am.symm;clear al aT am;subst aU;subst aV));refine hK.out _ _ ⟨(ai be.out 0).trans rfl,(ai be.out 1).trans rfl⟩ (fun hHeld=>?_);clear hK K;refine aX (a':=?_) ?_ ?_;rotate_left
       ·
        show Act.put _ (some 5) _=_
        simp only[Act.put,List.setIfInBounds_toArray,List.set_cons_zero,List.set_cons_succ,bo,bD];rfl
       refine dm (i:=4) (N:=some 20) (bv 7 63) rfl rfl (by kernel_rfl) (by decide) (fun K hK=>?_);refine eQ Try.func80 (by kernel_rfl) rfl #[.agg #[.slice aA af.length az,.slice ak ag.length aj],.slice Iz jI.length IA] (by rfl) rfl rfl lQ ?_
       with_reducible refine(kI.calls k1 _ _ af _ _ ag _ _ jI jb jN _ ?side1 ?side2 ?side3 ?side4 ?side5 ?side6 xI.out).mono ?_
       (case side1=>exact cU (Kd.bn ck.out HB.out))
       (case side2=>exact cv.out)
       (case side3=>exact cU (Kd.bn bP.out HB.out))
       (case side4=>exact cx.out)
       (case side5=>exact cU ((Kd.au eW.out).2.2))
       (case side6=>exact(Kd.au eW.out).2.1)
       rintro e BQ ⟨mb,me,rfl,ho0,ho1,hb⟩;refine⟨_,rfl,?_⟩;have l7:=Az Jl;have l8:=Az (Kd.a7 CX (aQ mE));replace eL:=Az CU;replace eM:=Az C6;replace eW:=Az Dz;replace be:=kB be.out hb;replace bR:=kB bR.out hb;replace ci:=kB ci.out hb;replace dT:=kB dT.out hb;replace HB:=Az (ay mE hb);clear hb ho0 ho1;refine hK.out _ _ ⟨(ai be.out 0).trans rfl,(ai be.out 1).trans rfl⟩ (fun hHeld=>?_);clear hK K;refine aX (a':=?_) ?_ ?_;rotate_left
       ·
        show Act.put _ (some 20) _=_
        simp only[Act.put,List.setIfInBounds_toArray,List.set_cons_zero,List.set_cons_succ,bo,bD];rfl
       exact aX wX (hCont (.slice Iz jI.length IA,mb,me,ez) _ ⟨hHeld,Dl,C9,C8,C7,CZ,(kU be.out),(kU bR.out),(kU ci.out),(kU dT.out),tt.out,qH.out,iv.out,oC.out,j4.out,oD.out,j5.out,oE.out,mE⟩)
     ·
      skip
      refine mF ?hg (N:=5) ?hd (cs:=#[.slice none 0 0,.slice none 0 0]) (t:=29) ?hr ?_;(case hd=>rfl);(case hg=>rfl);(case hr=>first|(go_simp;done)|(go_simp;rfl));intro ez hg oY hbox hb;replace eL:=rB eL.out hb;replace eM:=rB eM.out hb;have dT:=Az (hbox);have tt:=gW hg gj;have qH:=Az ((by rw[hg];exact(aQ gj):w.heap.size<=ez));replace HB:=Az (ay gj hb);have iv:=nL hg (kU be.out);have oC:=nS iv;replace be:=kB be.out hb;have j4:=nL hg (kU bR.out);have oD:=nS j4;replace bR:=kB bR.out hb;have j5:=nL hg (kU ci.out);have oE:=nS j5;replace ci:=kB ci.out hb;clear hb hbox hg;refine hK.out _ _ ⟨(ai be.out 0).trans rfl,(ai be.out 1).trans rfl⟩ (fun hHeld=>?_);clear hK K;refine aX (a':=?_) ?_ ?_;rotate_left
      ·
       show Act.put _ (some 5) _=_
       simp only[Act.put,List.setIfInBounds_toArray,List.set_cons_zero,List.set_cons_succ,bo,bD];rfl
      refine dm (i:=3) (N:=some 19) (bv 7 47) rfl rfl (by kernel_rfl) (by decide) (fun K hK=>?_);refine eQ Try.func81 (by kernel_rfl) rfl #[.agg #[.slice aA af.length az,.slice ak ag.length aj],.int .i64 je] (by rfl) rfl rfl lQ ?_
      with_reducible refine(eO.calls k1 _ _ af _ _ ag je jI _ ?side1 ?side2 ?side3 ?side4 EQ.out).mono ?_
      (case side1=>exact cU (Kd.bn ck.out HB.out))
      (case side2=>exact cv.out)
      (case side3=>exact cU (Kd.bn bP.out HB.out))
      (case side4=>exact cx.out)
      rintro e Ko ⟨ma,rfl,ho0,hb⟩;refine⟨_,rfl,?_⟩;have eW:=Az (Kd.a7 Ah (aQ mE));replace eL:=Az Jd;replace eM:=Az I8;replace be:=kB be.out hb;replace bR:=kB bR.out hb;replace ci:=kB ci.out hb;replace dT:=kB dT.out hb;replace HB:=Az (ay mE hb);clear hb ho0;obtain⟨Iz,IA,IB⟩:=Kd.aH eW.out;(first|subst IB|(injection IB with al aT am;have aU:=al.symm;have aV:=am.symm;clear al aT am;subst aU;subst aV));refine hK.out _ _ ⟨(ai be.out 0).trans rfl,(ai be.out 1).trans rfl⟩ (fun hHeld=>?_);clear hK K;refine aX (a':=?_) ?_ ?_;rotate_left
      ·
       show Act.put _ (some 19) _=_
       simp only[Act.put,List.setIfInBounds_toArray,List.set_cons_zero,List.set_cons_succ,bo,bD];rfl
      refine dm (i:=4) (N:=some 20) (bv 7 63) rfl rfl (by kernel_rfl) (by decide) (fun K hK=>?_);refine eQ Try.func80 (by kernel_rfl) rfl #[.agg #[.slice aA af.length az,.slice ak ag.length aj],.slice Iz jI.length IA] (by rfl) rfl rfl lQ ?_
      with_reducible refine(kI.calls k1 _ _ af _ _ ag _ _ jI jb jN _ ?side1 ?side2 ?side3 ?side4 ?side5 ?side6 xI.out).mono ?_
      (case side1=>exact cU (Kd.bn ck.out HB.out))
      (case side2=>exact cv.out)
      (case side3=>exact cU (Kd.bn bP.out HB.out))
      (case side4=>exact cx.out)
      (case side5=>exact cU ((Kd.au eW.out).2.2))
      (case side6=>exact(Kd.au eW.out).2.1)
      rintro e BQ ⟨mb,me,rfl,ho0,ho1,hb⟩;refine⟨_,rfl,?_⟩;have l7:=Az Jl;have l8:=Az (Kd.a7 CX (aQ mE));replace eL:=Az CU;replace eM:=Az C6;replace eW:=Az Dz;replace be:=kB be.out hb;replace bR:=kB bR.out hb;replace ci:=kB ci.out hb;replace dT:=kB dT.out hb;replace HB:=Az (ay mE hb);clear hb ho0 ho1;refine hK.out _ _ ⟨(ai be.out 0).trans rfl,(ai be.out 1).trans rfl⟩ (fun hHeld=>?_);clear hK K;refine aX (a':=?_) ?_ ?_;rotate_left
      ·
       show Act.put _ (some 20) _=_
       simp only[Act.put,List.setIfInBounds_toArray,List.set_cons_zero,List.set_cons_succ,bo,bD];rfl
      exact aX wX (hCont (.slice Iz jI.length IA,mb,me,ez) _ ⟨hHeld,Dl,C9,C8,C7,CZ,(kU be.out),(kU bR.out),(kU ci.out),(kU dT.out),tt.out,qH.out,iv.out,oC.out,j4.out,oD.out,j5.out,oE.out,mE⟩)
    rintro⟨ma,mb,me,ez⟩ qx ⟨hS_,cY,cK,cL,cM,cN,cO,dj,du,eG,fw,fx,fy,fT,iN,lV,uZ,Ix,Iy⟩;have n0:ae (Kd.R (Kd.int .i64) 3 qx w.heap.size (fun k_=>oV k_ mb/\oV k_ me/\oV k_ jL/\oV k_ jM) ma jI):=⟨cY⟩;have n1:ae (Kd.R (Kd.int .i64) 3 qx w.heap.size (fun k_=>oV k_ ma/\oV k_ me/\oV k_ jL/\oV k_ jM) mb jb):=⟨cK⟩;have n2:ae (Kd.R (Kd.int .i64) 3 qx w.heap.size (fun k_=>oV k_ ma/\oV k_ mb/\oV k_ jL/\oV k_ jM) me jN):=⟨cL⟩;have n3:ae (Kd.R (Kd.int .i64) 3 qx w.heap.size (fun k_=>oV k_ ma/\oV k_ mb/\oV k_ me/\oV k_ jM) jL jJ):=⟨cM⟩;have n4:ae (Kd.R (Kd.int .i64) 3 qx w.heap.size (fun k_=>oV k_ ma/\oV k_ mb/\oV k_ me/\oV k_ jL) jM jK):=⟨cN⟩;have n5:ae (qx.heap[gr]?=some (.cells #[.slice aA af.length az,.slice ak ag.length aj] 29 (0,0))):=⟨cO⟩;have n6:ae (qx.heap[kz]?=some (.cells #[.slice none 0 0,.slice none 0 0] 29 (0,0))):=⟨dj⟩;have n7:ae (qx.heap[fu]?=some (.cells #[jL,jM] 29 (0,0))):=⟨du⟩;have n8:ae (qx.heap[ez]?=some (.cells #[.slice none 0 0,.slice none 0 0] 29 (0,0))):=⟨eG⟩;have n9:ae (w.heap.size<=ez):=⟨fw⟩;have n10:ae (w.heap.size<=ez):=⟨fx⟩;have n11:ae (gr≠ez):=⟨fy⟩;have n12:ae (ez≠gr):=⟨fT⟩;have n13:ae (kz≠ez):=⟨iN⟩;have n14:ae (ez≠kz):=⟨lV⟩;have n15:ae (fu≠ez):=⟨uZ⟩;have n16:ae (ez≠fu):=⟨Ix⟩;have n17:ae (Below w.heap.size w qx):=⟨Iy⟩;clear eL eM be bR ci HB cY cK cL cM cN cO dj du eG fw fx fy fT iN lV uZ Ix Iy;have eW:=n0;have l7:=n1;have l8:=n2;have eL:=n3;have eM:=n4;have be:=n5;have bR:=n6;have ci:=n7;have dT:=n8;have tt:=n9;have qH:=n10;have iv:=n11;have oC:=n12;have j4:=n13;have oD:=n14;have j5:=n15;have oE:=n16;have HB:=n17;clear n0 n1 n2 n3 n4 n5 n6 n7 n8 n9 n10 n11 n12 n13 n14 n15 n16 n17;have hHeld:qx.cell? ⟨gr,0,none⟩=some (.slice aA af.length az)/\qx.cell? ⟨gr,1,none⟩=some (.slice ak ag.length aj):=hS_;obtain⟨kx,dR,wx⟩:=Kd.aH l7.out;(first|subst wx|(injection wx with al aT am;have aU:=al.symm;have aV:=am.symm;clear al aT am;subst aU;subst aV));obtain⟨jX,jC,EE⟩:=Kd.aH l8.out;(first|subst EE|(injection EE with al aT am;have aU:=al.symm;have aV:=am.symm;clear al aT am;subst aU;subst aV));refine aX (a':=?_) ?_ ?_;rotate_left
    ·simp only[gv,Act.put,List.setIfInBounds_toArray,List.set_cons_zero,List.set_cons_succ];rfl
    refine dm (i:=6) (N:=none) (bv 7 127) rfl rfl (by kernel_rfl) (by decide) (fun K hK=>?_);have aBc:qx.cell? ⟨ez,0,none⟩=some (.slice none 0 0):=(ai dT.out 0).trans rfl;have aBd:=gJ dT.out 0;have aBe:=iv.out;have aBf:=j4.out;have aBg:=j5.out;have aBh:=oC.out;have aBi:=oD.out;have aBj:=oE.out;have aBk:qx.cell? ⟨ez,1,none⟩=some (.slice none 0 0):=(ai dT.out 1).trans rfl;have aBl:=gJ dT.out 1;have aBm:=iv.out;have aBn:=j4.out;have aBo:=j5.out;have aBp:=oC.out;have aBq:=oD.out;have aBr:=oE.out;refine iW (w1:=?_) (by rfl) rfl ?_ ?_;rotate_left
    ·go_simp;rfl
    refine hK.out _ _ ⟨((cell_far (p:=⟨ez,_,none⟩) iv.out _).trans (((cell_far (p:=⟨ez,_,none⟩) iv.out _).trans (hHeld.1)))),((cell_far (p:=⟨ez,_,none⟩) iv.out _).trans (((cell_far (p:=⟨ez,_,none⟩) iv.out _).trans (hHeld.2))))⟩ (fun hHeld=>?_);clear hK K;refine eY (by kernel_rfl) ?_;have aBs:=oC.out;have aBt:=iv.out;have arl:=oD.out;have aBu:=j4.out;have arm:=oE.out;have aBv:=j5.out;have arn:=bc2 dT.out;have aBw:=uC.out;have aBx:=l9.out;have anF:=vD.out;have aBy:=pv.out;have aBz:=bc2 ci.out;obtain⟨zP,xY,TK⟩:=Kd.aH eL.out;subst TK;obtain⟨sY,iY,r9⟩:=Kd.aH eM.out;subst r9
    try go_wp2_with (first|((with_reducible refine gK 100 rfl ?_);refine gC (some 23) Try.func100 #[.agg #[.slice kx jb.length dR,.slice jX jN.length jC],.agg #[.slice zP jJ.length xY,.slice sY jK.length iY]] ?_;(with_reducible refine(uF.calls k1 _ _ jb _ _ jN _ _ jJ _ _ jK MM _ ?side1 ?side2 ?side3 ?side4 ?side5 ?side6 ?side7 ?side8 Kk.out).mono ?_);(case side1=>refine(Kd.au (e:=3) (base:=w.heap.size) (ok:=fun k_=>(oV k_ ma/\(oS k_ jX jN.length jC/\(oS k_ zP jJ.length xY/\oS k_ sY jK.length iY)))) (n:=jb.length) (c:=dR) ?_).2.2;exact(rW2 l7.out dT.out));(case side2=>exact(Kd.au l7.out).2.1);(case side3=>refine(Kd.au (e:=3) (base:=w.heap.size) (ok:=fun k_=>(oV k_ ma/\(oS k_ kx jb.length dR/\(oS k_ zP jJ.length xY/\oS k_ sY jK.length iY)))) (n:=jN.length) (c:=jC) ?_).2.2;exact(rW2 l8.out dT.out));(case side4=>exact(Kd.au l8.out).2.1);(case side5=>refine(Kd.au (e:=3) (base:=w.heap.size) (ok:=fun k_=>(oV k_ ma/\(oS k_ kx jb.length dR/\(oS k_ jX jN.length jC/\oS k_ sY jK.length iY)))) (n:=jJ.length) (c:=xY) ?_).2.2;exact(rW2 eL.out dT.out));(case side6=>exact(Kd.au eL.out).2.1);(case side7=>refine(Kd.au (e:=3) (base:=w.heap.size) (ok:=fun k_=>(oV k_ ma/\(oS k_ kx jb.length dR/\(oS k_ jX jN.length jC/\oS k_ zP jJ.length xY)))) (n:=jK.length) (c:=iY) ?_).2.2;exact(rW2 eM.out dT.out));(case side8=>exact(Kd.au eM.out).2.1);rintro e sc ⟨rfl,hb⟩;refine⟨_,rfl,?_⟩;replace eL:=Az (Kd.kJ (rW2 eL.out dT.out) hb);replace eM:=Az (Kd.kJ (rW2 eM.out dT.out) hb);replace eW:=Az (Kd.kJ (rW2 eW.out dT.out) hb);replace l7:=Az (Kd.kJ (rW2 l7.out dT.out) hb);replace l8:=Az (Kd.kJ (rW2 l8.out dT.out) hb);replace be:=Az VE;replace bR:=Az (lI (g:=kz) (o:=.cells #[.slice none 0 0,.slice none 0 0] 29 (0,0)) (kF1 bR.out j4.out) hb);replace ci:=Az (lI (g:=fu) (o:=.cells #[.slice zP jJ.length xY,.slice sY jK.length iY] 29 (0,0)) (kF1 ci.out j5.out) hb);replace dT:=Az (lI (g:=ez) (o:=.cells #[.slice kx jb.length dR,.slice jX jN.length jC] 29 (0,0)) (by refine sA ?_;refine bL (cs:=#[.slice kx jb.length dR,.slice none 0 0]) ?_ 1 _ rfl;refine sA ?_;refine bL (cs:=#[.slice none 0 0,.slice none 0 0]) ?_ 0 _ rfl;refine sA ?_;exact dT.out) hb);replace HB:=Az (ay mE hb);clear hb))
    go_roundg k1
    case measure=>exact mO
    case rel=>exact⟨(wrap64 (je+1)),(jJ),(jK),(.slice zP jJ.length xY),(.slice sY jK.length iY),rS,H',⟨mO⟩,⟨rA (Kd.ah eL.out (fun _ hk=>hk.2.2.2))⟩,⟨rA (Kd.ah eM.out (fun _ hk=>hk.2.2.2))⟩,⟨kU be.out⟩,⟨kU bR.out⟩,⟨kU ci.out⟩,⟨bU4 HB.out yn.out CN.out uz.out qH.out⟩⟩
  ·simp only[Option.some.injEq,Prod.mk.injEq]at H;obtain⟨rfl,rfl⟩:=H;have adI:=uC.out;have adJ:=l9.out;have ael:=vD.out;have arO:=pv.out;have arP:=bc2 ci.out;obtain⟨yl,ym,UQ⟩:=Kd.aH eL.out;subst UQ;have Qd:=nP Va;have R4:=bc2 bR.out;obtain⟨CL,CM,UR⟩:=Kd.aH eM.out;subst UR;go_wp2;refine bodyPost_ret (results_cell_row rfl _ _ kz 29 #[.slice yl jJ.length ym,.slice CL jK.length CM] (0,0) _ rfl (by refine sA ?_;refine bL (cs:=#[.slice yl jJ.length ym,.slice none 0 0]) ?_ 1 _ rfl;refine sA ?_;refine bL (cs:=#[.slice none 0 0,.slice none 0 0]) ?_ 0 _ rfl;refine sA ?_;exact bR.out) Try.underlying29 rfl (by kernel_rfl)) rfl ?_;exact⟨_,_,rE,by refine rA ?_;exact Kd.ah (Kd.aY (p:=⟨kz,1,none⟩) (Kd.aY (p:=⟨kz,0,none⟩) (Kd.cj eL.out bR.out (by decide)) (fun _ hk=>hk.2) (.slice yl jJ.length ym)) (fun _ hk=>hk.2) (.slice CL jK.length CM)) (fun _ hk=>hk.1),by refine rA ?_;exact Kd.ah (Kd.aY (p:=⟨kz,1,none⟩) (Kd.aY (p:=⟨kz,0,none⟩) (Kd.cj eM.out bR.out (by decide)) (fun _ hk=>hk.2) (.slice yl jJ.length ym)) (fun _ hk=>hk.2) (.slice CL jK.length CM)) (fun _ hk=>hk.1),bU3 HB.out yn.out CN.out uz.out⟩
def pI.j0:Nat->Bool->List Int->List Int->List Int->List Int->Option (Bool)
 |0,_,_,_,_,_=>none
 |k+1,x21,x1257000,asd,x1258000,x1258001=>if x21=true then(some false)else((nH.f k x1257000 asd).bind fun afc=>((nH.f k x1258000 x1258001).bind fun afd=>((uF.f k afc.1 afc.2 afd.1 afd.2).bind fun Vb=>(some (Vb==0)))))
def pI.f (k:Nat) (af:List Int) (ag:List Int) (eU:List Int) (fU:List Int):Option (Bool):=(eN.f k af ag).bind fun Vd=>(if Vd=true then((eN.f k eU fU).bind fun Ve=>(if Ve=true then(pI.j0 k ((af.length:Int) !=(eU.length:Int)) af ag eU fU)else(pI.j0 k true af ag eU fU)))else(pI.j0 k true af ag eU fU))
set_option maxHeartbeats 8000000 in
set_option maxRecDepth 100000 in
theorem pI.calls (k:Nat) (aA:Option Addr) (az:Nat) (af:List Int) (ak:Option Addr) (aj:Nat) (ag:List Int) (nA:Option Addr) (nC:Nat) (eU:List Int) (pV:Option Addr) (pW:Nat) (fU:List Int) (r:Bool) (w:World) (dF:Kd.C (Kd.int .i64) w aA af.length af) (dL:af.length<=az) (de:Kd.C (Kd.int .i64) w ak ag.length ag) (dk:ag.length<=aj) (zR:Kd.C (Kd.int .i64) w nA eU.length eU) (zS:eU.length<=nC) (zT:Kd.C (Kd.int .i64) w pV fU.length fU) (zU:fU.length<=pW) (h:pI.f k af ag eU fU=some r):
 Calls Try.prog 57 #[.agg #[.slice aA af.length az,.slice ak ag.length aj],.agg #[.slice nA eU.length nC,.slice pV fU.length pW]] w fun e w'=>e= .returned (.bool r)/\Below w.heap.size w w':=by
 have jT:=Try.underlying29;have ck:=Az dF;have cv:=Az dL;clear dF dL;have bP:=Az de;have cx:=Az dk;clear de dk;have ya:=Az zR;have yb:=Az zS;clear zR zS;have CC:=Az zT;have CE:=Az zU;clear zT zU;have HB:=bZ w;have H:=h;clear h;unfold pI.f at H;have lT:=Az H;clear H;go_enter Try.func57,Try.ntmps57
 go_upto_region 1 with(first|((with_reducible refine gd 2 rfl ?_);(refine nG (by rfl) ?_;dsimp only);refine bE 2 #[.slice aA af.length az,.slice ak ag.length aj] 29 ?_;intro Vf hg w4 hbox hb;have gu:=Az (hbox);have Ab:=gW hg (bU0 HB.out);replace HB:=Az (ay (bU0 HB.out) hb);clear hb hbox hg)|((with_reducible refine gd 3 rfl ?_);(refine nG (by rfl) ?_;dsimp only);refine bE 3 #[.slice nA eU.length nC,.slice pV fU.length pW] 29 ?_;intro Vg hg w5 hbox hb;have iw:=Az (hbox);have EW:=gW hg (bU1 HB.out Ab.out);replace HB:=Az (ay (bU1 HB.out Ab.out) hb);have E5:=nL hg (kU gu.out);replace gu:=kB gu.out hb;clear hb hbox hg))
 go_cut [21] (fun v21 wc=>∃(kq:Nat) (MN:Bool),v21= .bool MN/\ae (pI.j0 kq MN af ag eU fU=some r)/\ae (kq<=k)/\ae (wc.heap[Vf]?=some (.cells #[(.slice aA af.length az),(.slice ak ag.length aj)] 29 (0,0)))/\ae (wc.heap[Vg]?=some (.cells #[(.slice nA eU.length nC),(.slice pV fU.length pW)] 29 (0,0)))/\ae (Below w.heap.size w wc))
 case first=>
  have H:=lT.out;clear lT;replace H:=bd H;obtain⟨Vd,A6,H⟩:=H
  by_cases c7:Vd=true
  ·
   subst c7;rw[if_pos rfl]at H;replace H:=bd H;obtain⟨Ve,A8,H⟩:=H
   by_cases c9:Ve=true
   ·
    subst c9;rw[if_pos rfl]at H;have H':=Az H;clear H;have RS:=E5.out;have apX:=(E5.out).symm;have PP:=bc2 gu.out
    go_wp2_with (first|((with_reducible refine gK 66 rfl ?_);refine gC (some 6) Try.func66 #[.agg #[.slice aA af.length az,.slice ak ag.length aj]] ?_;(with_reducible refine(eN.calls k (fun k_=>k_<w.heap.size) _ _ af (fun k_=>k_<w.heap.size) _ _ ag true _ ?_ ?_ A6.out).mono ?_);exact Kd.kj cv.out (Kd.jc (Kd.C_F (Kd.qd .i64) ck.out) mh);exact Kd.kj cx.out (Kd.jc (Kd.C_F (Kd.qd .i64) bP.out) mh);rintro e nJ ⟨rfl,hb⟩;refine⟨_,rfl,?_⟩;replace gu:=kB gu.out hb;replace iw:=kB iw.out hb;replace HB:=Az (ay mh hb);clear hb;have F3:=bc2 iw.out)|(go_at_call 66;(with_reducible refine(eN.calls k (fun k_=>k_<w.heap.size) _ _ eU (fun k_=>k_<w.heap.size) _ _ fU true _ ?_ ?_ A8.out).mono ?_);exact Kd.kj yb.out (Kd.jc (Kd.C_F (Kd.qd .i64) ya.out) mh);exact Kd.kj CE.out (Kd.jc (Kd.C_F (Kd.qd .i64) CC.out) mh);rintro e uQ ⟨rfl,hb⟩;replace gu:=kB gu.out hb;replace iw:=kB iw.out hb;replace HB:=Az (ay mh hb);clear hb;have Bj:=bc2 gu.out;have J2:=bc2 iw.out))
    go_meet
    case rel=>exact⟨_,(((af.length:Int) !=(eU.length:Int))),rS,H',⟨mO⟩,⟨kU gu.out⟩,⟨kU iw.out⟩,⟨bU2 HB.out Ab.out EW.out⟩⟩
   ·
    replace c9:=Bool.eq_false_iff.mpr c9;subst c9;rw[if_neg nT]at H;have H':=Az H;clear H;have acM:=E5.out;have asa:=(E5.out).symm;have aaY:=bc2 gu.out
    go_wp2_with (first|((with_reducible refine gK 66 rfl ?_);refine gC (some 6) Try.func66 #[.agg #[.slice aA af.length az,.slice ak ag.length aj]] ?_;(with_reducible refine(eN.calls k (fun k_=>k_<w.heap.size) _ _ af (fun k_=>k_<w.heap.size) _ _ ag true _ ?_ ?_ A6.out).mono ?_);exact Kd.kj cv.out (Kd.jc (Kd.C_F (Kd.qd .i64) ck.out) mh);exact Kd.kj cx.out (Kd.jc (Kd.C_F (Kd.qd .i64) bP.out) mh);rintro e Jw ⟨rfl,hb⟩;refine⟨_,rfl,?_⟩;replace gu:=kB gu.out hb;replace iw:=kB iw.out hb;replace HB:=Az (ay mh hb);clear hb;have O7:=bc2 iw.out)|(go_at_call 66;(with_reducible refine(eN.calls k (fun k_=>k_<w.heap.size) _ _ eU (fun k_=>k_<w.heap.size) _ _ fU false _ ?_ ?_ A8.out).mono ?_);exact Kd.kj yb.out (Kd.jc (Kd.C_F (Kd.qd .i64) ya.out) mh);exact Kd.kj CE.out (Kd.jc (Kd.C_F (Kd.qd .i64) CC.out) mh);rintro e rh ⟨rfl,hb⟩;replace gu:=kB gu.out hb;replace iw:=kB iw.out hb;replace HB:=Az (ay mh hb);clear hb))
    go_meet
    case rel=>exact⟨_,(true),rS,H',⟨mO⟩,⟨kU gu.out⟩,⟨kU iw.out⟩,⟨bU2 HB.out Ab.out EW.out⟩⟩
  ·
   replace c7:=Bool.eq_false_iff.mpr c7;subst c7;rw[if_neg nT]at H;have H':=Az H;clear H;have aaZ:=E5.out;have arC:=(E5.out).symm;have arD:=bc2 gu.out
   go_wp2_with (first|((with_reducible refine gK 66 rfl ?_);refine gC (some 6) Try.func66 #[.agg #[.slice aA af.length az,.slice ak ag.length aj]] ?_;(with_reducible refine(eN.calls k (fun k_=>k_<w.heap.size) _ _ af (fun k_=>k_<w.heap.size) _ _ ag false _ ?_ ?_ A6.out).mono ?_);exact Kd.kj cv.out (Kd.jc (Kd.C_F (Kd.qd .i64) ck.out) mh);exact Kd.kj cx.out (Kd.jc (Kd.C_F (Kd.qd .i64) bP.out) mh);rintro e pU ⟨rfl,hb⟩;refine⟨_,rfl,?_⟩;replace gu:=kB gu.out hb;replace iw:=kB iw.out hb;replace HB:=Az (ay mh hb);clear hb))
   go_meet
   case rel=>exact⟨_,(true),rS,H',⟨mO⟩,⟨kU gu.out⟩,⟨kU iw.out⟩,⟨bU2 HB.out Ab.out EW.out⟩⟩
 case rest=>
  clear lT;obtain⟨kq,MN,rfl,HA,HJ2,gu,iw,HB⟩:=hcut
  rcases kq with _|mo
  exact(nN HA.out).elim;have H:=HA.out;clear HA;simp only[pI.j0]at H
  by_cases Ci:MN=true
  ·subst Ci;rw[if_pos rfl]at H;obtain rfl:=Option.some.inj H;go_wp2;go_ret;exact⟨rE,bU2 HB.out Ab.out EW.out⟩
  ·
   replace Ci:=Bool.eq_false_iff.mpr Ci;subst Ci;rw[if_neg nT]at H;replace H:=bd H;obtain⟨⟨Vh,Vi⟩,A26,H⟩:=H;dsimp only at H;replace H:=bd H;obtain⟨⟨Vj,Vk⟩,J4,H⟩:=H;dsimp only at H;replace H:=bd H;obtain⟨Vb,A28,H⟩:=H;obtain rfl:=Option.some.inj H
   try go_wp2
   replace gu:=Az (ce gu.out);replace iw:=Az (ce iw.out);replace HB:=Az (a8 HB.out);refine eX (n:=7) (S:=fun w'=>w'.cell? ⟨Vf,0,none⟩=some (.slice aA af.length az)/\w'.cell? ⟨Vf,1,none⟩=some (.slice ak ag.length aj)/\w'.cell? ⟨Vg,0,none⟩=some (.slice nA eU.length nC)/\w'.cell? ⟨Vg,1,none⟩=some (.slice pV fU.length pW)) (ds:=[]) (bv 7 0) (by kernel_rfl) rfl rfl ⟨(ai gu.out 0).trans rfl,(ai gu.out 1).trans rfl,(ai iw.out 0).trans rfl,(ai iw.out 1).trans rfl⟩ (fun hHeld=>?_);generalize wc.drew=jB at gu iw HB hHeld ⊢;refine bS (i:=0) (N:=some 22) (v:=?_) (a':=?_) (bv 7 1) rfl rfl (by kernel_rfl) (fun _ _ _ h=>h) (Or.inl ⟨by rfl,?_⟩) hHeld ?_ ?_;rotate_left
   ·
    rintro w' ⟨s0,s1,s2,s3⟩;go_simp
    with_reducible rfl
   rotate_left;(exact aP);refine bS (i:=2) (N:=some 24) (v:=?_) (a':=?_) (bv 7 5) rfl rfl (by kernel_rfl) (fun _ _ _ h=>h) (Or.inl ⟨by rfl,?_⟩) hHeld ?_ ?_;rotate_left
   ·
    rintro w' ⟨s0,s1,s2,s3⟩;go_simp
    with_reducible rfl
   rotate_left;(exact aP);refine dm (i:=1) (N:=some 23) (bv 7 7) rfl rfl (by kernel_rfl) (by decide) (fun K hK=>?_);refine eQ Try.func101 (by kernel_rfl) rfl #[.agg #[.slice aA af.length az,.slice ak ag.length aj]] (by rfl) rfl rfl lQ ?_
   with_reducible refine(nH.calls mo _ _ af _ _ ag Vh Vi _ ?side1 ?side2 ?side3 ?side4 A26.out).mono ?_
   (case side1=>exact cU (Kd.bn ck.out HB.out))
   (case side2=>exact cv.out)
   (case side3=>exact cU (Kd.bn bP.out HB.out))
   (case side4=>exact cx.out)
   rintro e lK ⟨aBA,aBB,rfl,ho0,ho1,hb⟩;refine⟨_,rfl,?_⟩;have yy:=Az (Kd.a7 ho0 (aQ mh));have yz:=Az (Kd.a7 ho1 (aQ mh));replace gu:=kB gu.out hb;replace iw:=kB iw.out hb;replace HB:=Az (ay mh hb);clear hb ho0 ho1;refine hK.out _ _ ⟨(ai gu.out 0).trans rfl,(ai gu.out 1).trans rfl,(ai iw.out 0).trans rfl,(ai iw.out 1).trans rfl⟩ (fun hHeld=>?_);clear hK K;refine aX (a':=?_) ?_ ?_;rotate_left
   ·
    show Act.put _ (some 23) _=_
    simp only[Act.put,List.setIfInBounds_toArray,List.set_cons_zero,List.set_cons_succ,bo,bD];rfl
   refine dm (i:=3) (N:=some 25) (bv 7 15) rfl rfl (by kernel_rfl) (by decide) (fun K hK=>?_);refine eQ Try.func101 (by kernel_rfl) rfl #[.agg #[.slice nA eU.length nC,.slice pV fU.length pW]] (by rfl) rfl rfl lQ ?_
   with_reducible refine(nH.calls mo _ _ eU _ _ fU Vj Vk _ ?side1 ?side2 ?side3 ?side4 J4.out).mono ?_
   (case side1=>exact cU (Kd.bn ya.out HB.out))
   (case side2=>exact yb.out)
   (case side3=>exact cU (Kd.bn CC.out HB.out))
   (case side4=>exact CE.out)
   rintro e mU ⟨aBC,aBD,rfl,ho0,ho1,hb⟩;refine⟨_,rfl,?_⟩;have IC:=Az (Kd.a7 (Kd.aD (Kd.aD ho0 (Kd.ar (rU yy.out))) (Kd.ar (rU yz.out))) (aQ mh));have ID:=Az (Kd.a7 (Kd.aD (Kd.aD ho1 (Kd.ar (rU yy.out))) (Kd.ar (rU yz.out))) (aQ mh));replace yy:=Az (Kd.ah (Kd.fW (Kd.fW (Kd.oM (rU yy.out) hb) (Kd.ax ho0)) (Kd.ax ho1)) (fun _ h_=>h_.1));replace yz:=Az (Kd.ah (Kd.fW (Kd.fW (Kd.oM (rU yz.out) hb) (Kd.ax ho0)) (Kd.ax ho1)) (fun _ h_=>h_.1));replace gu:=kB gu.out hb;replace iw:=kB iw.out hb;replace HB:=Az (ay mh hb);clear hb ho0 ho1;obtain⟨sw,oB,Af⟩:=Kd.aH yy.out;(first|subst Af|(injection Af with al aT am;have aU:=al.symm;have aV:=am.symm;clear al aT am;subst aU;subst aV));obtain⟨xN,xO,wF⟩:=Kd.aH yz.out;(first|subst wF|(injection wF with al aT am;have aU:=al.symm;have aV:=am.symm;clear al aT am;subst aU;subst aV));obtain⟨rD,rF,pg⟩:=Kd.aH IC.out;(first|subst pg|(injection pg with al aT am;have aU:=al.symm;have aV:=am.symm;clear al aT am;subst aU;subst aV));obtain⟨xl,xm,sQ⟩:=Kd.aH ID.out;(first|subst sQ|(injection sQ with al aT am;have aU:=al.symm;have aV:=am.symm;clear al aT am;subst aU;subst aV));refine hK.out _ _ ⟨(ai gu.out 0).trans rfl,(ai gu.out 1).trans rfl,(ai iw.out 0).trans rfl,(ai iw.out 1).trans rfl⟩ (fun hHeld=>?_);clear hK K;refine aX (a':=?_) ?_ ?_;rotate_left
   ·
    show Act.put _ (some 25) _=_
    simp only[Act.put,List.setIfInBounds_toArray,List.set_cons_zero,List.set_cons_succ,bo,bD];rfl
   refine dm (i:=4) (N:=some 26) (bv 7 31) rfl rfl (by kernel_rfl) (by decide) (fun K hK=>?_);refine eQ Try.func100 (by kernel_rfl) rfl #[.agg #[.slice sw Vh.length oB,.slice xN Vi.length xO],.agg #[.slice rD Vj.length rF,.slice xl Vk.length xm]] (by rfl) rfl rfl lQ ?_
   with_reducible refine(uF.calls mo _ _ Vh _ _ Vi _ _ Vj _ _ Vk Vb _ ?side1 ?side2 ?side3 ?side4 ?side5 ?side6 ?side7 ?side8 A28.out).mono ?_
   (case side1=>exact cU ((Kd.au yy.out).2.2))
   (case side2=>exact(Kd.au yy.out).2.1)
   (case side3=>exact cU ((Kd.au yz.out).2.2))
   (case side4=>exact(Kd.au yz.out).2.1)
   (case side5=>exact cU ((Kd.au IC.out).2.2))
   (case side6=>exact(Kd.au IC.out).2.1)
   (case side7=>exact cU ((Kd.au ID.out).2.2))
   (case side8=>exact(Kd.au ID.out).2.1)
   rintro e Pb ⟨rfl,hb⟩;refine⟨_,rfl,?_⟩;replace yy:=rB yy.out hb;replace yz:=rB yz.out hb;replace IC:=rB IC.out hb;replace ID:=rB ID.out hb;replace gu:=kB gu.out hb;replace iw:=kB iw.out hb;replace HB:=Az (ay mh hb);clear hb;refine hK.out _ _ ⟨(ai gu.out 0).trans rfl,(ai gu.out 1).trans rfl,(ai iw.out 0).trans rfl,(ai iw.out 1).trans rfl⟩ (fun hHeld=>?_);clear hK K;refine aX (a':=?_) ?_ ?_;rotate_left
   ·
    show Act.put _ (some 26) _=_
    simp only[Act.put,List.setIfInBounds_toArray,List.set_cons_zero,List.set_cons_succ,bo,bD];rfl
   refine av (i:=5) (N:=some 27) (v:=?_) (a':=?_) (bv 7 63) rfl rfl (by kernel_rfl) (fun _ _ _ h=>h) (Or.inl ⟨by rfl,?_⟩) ?_ ?_;rotate_left;(exact yP);rotate_left;(exact aP);refine av (i:=6) (N:=some 4) (v:=?_) (a':=?_) (bv 7 127) rfl rfl (by kernel_rfl) (fun _ _ _ h=>h) (Or.inl ⟨by rfl,?_⟩) ?_ ?_;rotate_left;(exact yP);rotate_left;(exact aP);refine eY (by kernel_rfl) ?_
   try go_wp2
   go_ret;exact⟨rE,bU2 HB.out Ab.out EW.out⟩
end Go.Proofs.Ytlpbalebodlipaa.PL
