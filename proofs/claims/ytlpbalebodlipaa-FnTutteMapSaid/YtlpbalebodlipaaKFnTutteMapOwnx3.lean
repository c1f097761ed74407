/- A part of the proof of FnTutteMap. There are no conditions. -/
import Derived.Test.YtlpbalebodlipaaKFnTutteMapOwnx2
namespace Go.Proofs.Ytlpbalebodlipaa.PL
open Go.RowKit Go.Proofs.YtlpbalebodlipaaW.PrintWords Go.Proofs.YtlpbalebodlipaaW.PrintLast Go.Proofs.YtlpbalebodlipaaW.PrintMore
theorem IU {p:Prop} (h:p:=by exact rA (Kd.ah aC.out (fun _ hk=>⟨⟨hk.1.2.1,⟨hk.1.2.2.1,⟨hk.1.2.2.2,hk.2⟩⟩⟩,hk.1.1⟩))):p:=h
theorem sI {p:Prop} (h:p:=by exact(aQ (bU1 HB.out sZ.out))):p:=h
theorem WK {p:Prop} (h:p:=by exact(Kd.cA (ok:=(fun k_=>oV k_ u6/\oV k_ ga/\oV k_ u9/\oV k_ u10)) (rA (Kd.ah cB.out (fun _ hk=>⟨⟨hk.2.1,⟨hk.2.2.1,⟨hk.2.2.2.1,hk.2.2.2.2⟩⟩⟩,hk.1⟩))) hg hat)):p:=h
theorem XN {p:Prop} (h:p:=by exact rA (Kd.ah fp.out (fun _ hk=>⟨⟨hk.2.1,⟨hk.2.2.1,⟨hk.2.2.2.1,hk.2.2.2.2⟩⟩⟩,hk.1⟩))):p:=h
theorem Xs {p:Prop} (h:p:=by exact rA (Kd.ah fp.out (fun _ hk=>⟨⟨hk.1.2.1,⟨hk.1.2.2.1,⟨hk.1.2.2.2,hk.2⟩⟩⟩,hk.1.1⟩))):p:=h
theorem WP {p:Prop} (h:p:=by exact rA (Kd.ah lX.out (fun _ hk=>⟨⟨hk.2.1,⟨hk.2.2.1,⟨hk.2.2.2.1,hk.2.2.2.2⟩⟩⟩,hk.1⟩))):p:=h
theorem W6 {p:Prop} (h:p:=by exact rA (Kd.ah lX.out (fun _ hk=>⟨⟨hk.1.1,⟨hk.1.2.2.1,⟨hk.1.2.2.2,hk.2⟩⟩⟩,hk.1.2.1⟩))):p:=h
theorem VG {p:Prop} (h:p:=by exact rA (Kd.ah o6.out (fun _ hk=>⟨⟨hk.1.1,⟨hk.1.2.2.1,⟨hk.1.2.2.2,hk.2⟩⟩⟩,hk.1.2.1⟩))):p:=h
theorem Za {p:Prop} (h:p:=by exact rA (Kd.ah aM.out (fun _ hk=>⟨⟨hk.2.1,⟨hk.2.2.1,⟨hk.2.2.2.1,hk.2.2.2.2⟩⟩⟩,hk.1⟩))):p:=h
theorem Yu {p:Prop} (h:p:=by exact rA (Kd.ah aC.out (fun _ hk=>⟨⟨hk.2.1,⟨hk.2.2.1,⟨hk.2.2.2.1,hk.2.2.2.2⟩⟩⟩,hk.1⟩))):p:=h
theorem XJ {p:Prop} (h:p:=by exact rA (Kd.ah lp.out (fun _ hk=>⟨⟨hk.2.1,⟨hk.2.2.1,⟨hk.2.2.2.1,hk.2.2.2.2⟩⟩⟩,hk.1⟩))):p:=h
theorem X8 {p:Prop} (h:p:=by exact rA (Kd.ah aM.out (fun _ hk=>⟨hk.1.1,⟨hk.1.2.1,⟨hk.1.2.2.1,⟨hk.1.2.2.2,hk.2⟩⟩⟩⟩))):p:=h
theorem Zy {p:Prop} (h:p:=by exact rA (Kd.ah cB.out (fun _ hk=>⟨⟨hk.1.2.1,⟨hk.1.2.2.1,⟨hk.1.2.2.2,hk.2⟩⟩⟩,hk.1.1⟩))):p:=h
theorem Yp {p:Prop} (h:p:=by exact rA (Kd.ah lp.out (fun _ hk=>⟨⟨hk.1.2.1,⟨hk.1.2.2.1,⟨hk.1.2.2.2,hk.2⟩⟩⟩,hk.1.1⟩))):p:=h
theorem Dj {p:Prop} (h:p:=by exact(ay (bU1 HB.out sZ.out) hb)):p:=h
attribute [local go_sem] tH tW tL tB tJ tE tM tP
set_option linter.unusedVariables false
set_option linter.unusedSimpArgs false
def fv.l0:Nat->List Int->List Int->List Int->List Int->List Int->List Int->Int->Int->ByteArray->List Int->Option (List Int×List Int×List Int)
 |0,_,_,_,_,_,_,_,_,_,_=>none
 |k+1,x5,x6,x7,x8,x9,fi,cu,fO,bT,bQ=>if fO<(bT.size:Int)then(if 0<=(wrap64 ((x8.length:Int)-1))then(if(wrap64 ((x8.length:Int)-1))<(x8.length:Int)then(if x5.length<17592186044416 then((some (x5++[rd x8 (wrap64 ((x8.length:Int)-1))]:List Int)).bind fun GD=>(if 0<=(wrap64 ((x9.length:Int)-1))then(if(wrap64 ((x9.length:Int)-1))<(x9.length:Int)then(if x6.length<17592186044416 then((some (x6++[rd x9 (wrap64 ((x9.length:Int)-1))]:List Int)).bind fun GE=>(if 0<=fO then(if(bt bT fO)=40 then(if 0<=cu then(if cu<(bQ.length:Int)then(if x9.length<17592186044416 then(if x8.length<17592186044416 then(if fi.length<17592186044416 then(fv.l0 k GD GE x7 (x8++[wrap64 (cu+1)]) (x9++[wrap64 ((rd x9 (wrap64 ((x9.length:Int)-1)))+(rd bQ cu))]) (fi++[fO]) (wrap64 (cu+1)) (wrap64 (fO+1)) bT bQ)else(none))else(none))else(none))else(none))else(none))else(if(wrap64 ((x8.length:Int)-1))<=(x8.length:Int)then(if(wrap64 ((x9.length:Int)-1))<=(x9.length:Int)then(if 0<=(wrap64 ((fi.length:Int)-1))then(if(wrap64 ((fi.length:Int)-1))<(fi.length:Int)then(if(wrap64 ((fi.length:Int)-1))<=(fi.length:Int)then(if fO<(x7.length:Int)then(if 0<=(rd fi (wrap64 ((fi.length:Int)-1)))then(if(rd fi (wrap64 ((fi.length:Int)-1)))<(x7.length:Int)then(fv.l0 k GD GE ((x7.set (fO:Int).toNat (rd fi (wrap64 ((fi.length:Int)-1)))).set ((rd fi (wrap64 ((fi.length:Int)-1))):Int).toNat fO) (x8.take ((wrap64 ((x8.length:Int)-1)):Int).toNat) (x9.take ((wrap64 ((x9.length:Int)-1)):Int).toNat) (fi.take ((wrap64 ((fi.length:Int)-1)):Int).toNat) cu (wrap64 (fO+1)) bT bQ)else(none))else(none))else(none))else(none))else(none))else(none))else(none))else(none)))else(none)))else(none))else(none))else(none)))else(none))else(none))else(none))else(some (x5,x6,x7))
def fv.f (k:Nat) (cr:ByteArray) (ag:List Int):Option (List Int×List Int×List Int):=if 0<=(cr.size:Int)then(if((cr.size:Int):Int).toNat<=35184372088832 then(fv.l0 k (([]:List Int)) (([]:List Int)) (List.replicate ((cr.size:Int):Int).toNat 0) (([0]:List Int)) (([0]:List Int)) (([]:List Int)) 0 0 cr ag)else(none))else(none)
theorem fv.mono_l:∀k,(∀y0 y1 y2 y3 y4 y5 y6 y7 y8 y9,LeO (fv.l0 k y0 y1 y2 y3 y4 y5 y6 y7 y8 y9) (fv.l0 (k+1) y0 y1 y2 y3 y4 y5 y6 y7 y8 y9))
 |0=>fun _ _ _ _ _ _ _ _ _ _ r h=>by simp[fv.l0]at h
 |k+1=>by
  have eV:=fv.mono_l k
  ·
   intro y0 y1 y2 y3 y4 y5 y6 y7 y8 y9
   unfold fv.l0
   repeat' first
   |(with_reducible exact eV _ _ _ _ _ _ _ _ _ _)
   |(with_reducible exact LeO.refl _)
   |(with_reducible exact LeO.none _)
   |(with_reducible refine LeO.ite ?_ ?_)
   |(with_reducible refine LeO.bind ?_ (fun _=>?_))
   |exact eV _ _ _ _ _ _ _ _ _ _
   |exact LeO.none _
   |refine LeO.ite ?_ ?_
   |refine LeO.bind ?_ (fun _=>?_)
theorem fv.mono:∀a0 a1 k,LeO (fv.f k a0 a1) (fv.f (k+1) a0 a1):=by
 intro a0 a1 k;have eV:=fv.mono_l k
 unfold fv.f
 repeat' first
  |(with_reducible exact eV _ _ _ _ _ _ _ _ _ _)
  |(with_reducible exact LeO.refl _)
  |(with_reducible exact LeO.none _)
  |(with_reducible refine LeO.ite ?_ ?_)
  |(with_reducible refine LeO.bind ?_ (fun _=>?_))
  |exact eV _ _ _ _ _ _ _ _ _ _
  |exact LeO.none _
  |refine LeO.ite ?_ ?_
  |refine LeO.bind ?_ (fun _=>?_)
def fv.T14:Bool×List (List Nat×List Nat):=(true,[([],[]),([],[]),([],[]),([2],[2]),([3],[3]),([1,4],[1,4]),([5],[5]),([],[]),([7],[7]),([],[]),([8,9],[8,9]),([10],[10]),([6,11],[6,11]),([12],[12]),([0,13],[0,13]),([14,14,0,1,2,3,4,5,6,7,8,9,10,11,12,13,14],[0,1,2,14])])
def fv.B14:List Nat:=[0,0,0,4,12,30,62,0,128,0,896,1920,4094,8190,16383,32767]
theorem fv.FC:rtab .any (opsOf Try.f70 14)=fv.T14:=by kernel_rfl
theorem fv.Fs:gG fv.T14.2 fv.B14=true:=by kernel_rfl
set_option maxHeartbeats 8000000 in
set_option maxRecDepth 100000 in
theorem fv.calls (k:Nat) (cr:ByteArray) (ak:Option Addr) (aj:Nat) (ag:List Int) (r1:List Int) (r2:List Int) (r3:List Int) (w:World) (de:Kd.C (Kd.int .i64) w ak ag.length ag) (dk:ag.length<=aj) (h:fv.f k cr ag=some (r1,r2,r3)):
 Calls Try.prog 70 #[.agg #[.string cr,.slice ak ag.length aj]] w fun e w'=>∃bC v1_ v2_:Value,e= .returned (.tuple #[bC,v1_,v2_])/\Kd.R (Kd.int .i64) 3 w' w.heap.size (fun k_=>oV k_ v1_/\oV k_ v2_) bC r1/\Kd.R (Kd.int .i64) 3 w' w.heap.size (fun k_=>oV k_ bC/\oV k_ v2_) v1_ r2/\Kd.R (Kd.int .i64) 3 w' w.heap.size (fun k_=>oV k_ bC/\oV k_ v1_) v2_ r3/\Below w.heap.size w w':=by
 have PS:=Try.underlying25;have bP:=Az de;have cx:=Az dk;clear de dk;have HB:=bZ w;have H:=h;clear h;unfold fv.f at H;obtain⟨KF,QV⟩:∃y_:List Int,y_=(([]:List Int)):=⟨_,rfl⟩;replace H:(if 0<=(cr.size:Int)then(if((cr.size:Int):Int).toNat<=35184372088832 then(fv.l0 k KF (([]:List Int)) (List.replicate ((cr.size:Int):Int).toNat 0) (([0]:List Int)) (([0]:List Int)) (([]:List Int)) 0 0 cr ag)else(none))else(none))=some (r1,r2,r3):=hR QV H;have ab6:=Az QV;clear QV;obtain⟨QW,QX⟩:∃y_:List Int,y_=(([]:List Int)):=⟨_,rfl⟩;replace H:(if 0<=(cr.size:Int)then(if((cr.size:Int):Int).toNat<=35184372088832 then(fv.l0 k KF QW (List.replicate ((cr.size:Int):Int).toNat 0) (([0]:List Int)) (([0]:List Int)) (([]:List Int)) 0 0 cr ag)else(none))else(none))=some (r1,r2,r3):=hR QX H;have ab7:=Az QX;clear QX;replace H:=gE H;obtain⟨sL,uK,H⟩:=H;replace H:=gE H;obtain⟨lJ,tY,H⟩:=H;generalize KG:(List.replicate ((cr.size:Int):Int).toNat 0:List Int)=y701 at H;replace KG:=Ay KG;obtain⟨ab8,QY⟩:∃y_:List Int,y_=(([0]:List Int)):=⟨_,rfl⟩;replace H:(fv.l0 k KF QW y701 ab8 (([0]:List Int)) (([]:List Int)) 0 0 cr ag)=some (r1,r2,r3):=hR QY H;have ab9:=Az QY;clear QY;generalize KH:(([0]:List Int):List Int)=y707 at H;replace KH:=Ay KH;generalize KI:(([]:List Int):List Int)=y710 at H;replace KI:=Ay KI;have H':=Az H;clear H;go_enter Try.func70,Try.ntmps70
 go_wp2_with (first|((with_reducible refine gd 1 rfl ?_);refine bE 1 #[.string cr,.slice ak ag.length aj] 25 ?_;intro QZ hg w4 hbox hb;have d9:=Az (hbox);have sZ:=gW hg (bU0 HB.out);replace HB:=Az (ay (bU0 HB.out) hb);clear hb hbox hg)|((with_reducible refine gd 14 rfl ?_);refine Kd.ji (Kd.int .i64) _ 3 rfl (N:=14) rfl (xs:=([]:List Int)) (inner:=[]) (ok:=fun _=>True) (okp:=fun _=>True) hS ?hp (fun _ hk=>hk) trivial (Below.refl _ _) (Nat.le_refl _) (by simp) ?_;(case hp=>exact(Reps.none _ _));intro avd w5 qk hb hg_ hnew_;clear hg_ hnew_;(first|rw[<-ab6.out]at qk|(simp only[Int.reduceToNat]at qk;rw[<-ab6.out]at qk));have qq:=Az (Kd.a7 qk sI);replace d9:=kB d9.out hb;replace HB:=Az Dj;clear hb qk)|((with_reducible refine gd 15 rfl ?_);refine Kd.ji (Kd.int .i64) _ 3 rfl (N:=15) rfl (xs:=([]:List Int)) (inner:=[]) (ok:=fun _=>True) (okp:=fun _=>True) hS ?hp (fun _ hk=>hk) trivial (Below.refl _ _) (Nat.le_refl _) (by simp) ?_;(case hp=>exact(Reps.none _ _));intro ave w7 o7 hb hg_ hnew_;clear hg_ hnew_;(first|rw[<-ab7.out]at o7|(simp only[Int.reduceToNat]at o7;rw[<-ab7.out]at o7));have tb:=Az (Kd.a7 (Kd.aD o7 (Kd.ar (rU qq.out))) sI);replace qq:=Az (Kd.aW (rU qq.out) (Kd.ax o7) hb);replace d9:=kB d9.out hb;replace HB:=Az Dj;clear hb o7;have D1:=bc2 d9.out)|((with_reducible refine gd 19 rfl ?_);refine Kd.sD (Kd.int .i64) _ 3 rfl (N:=19) rfl 23 _ _ rfl (cr.size:Int) rfl rfl Try.underlying23 (.int .i64 0) 8 dE rfl (by decide) (by omega) 0 (ok:=fun _=>True) (okp:=fun _=>True) rfl (fun _ hk=>hk) trivial (oA) (Nat.le_trans (Nat.mul_le_mul_right _ (oA:(cr.size:Int).toNat<=35184372088832)) (by omega)) (Below.refl _ _) (Nat.le_refl _) ?_;intro ga rc BW hb hg_ hnew_;clear hg_ hnew_;(first|rw[<-KG.out]at BW|(simp only[Int.reduceToNat]at BW;rw[<-KG.out]at BW));have wq:=Az (Kd.a7 (Kd.aD (Kd.aD BW (Kd.ar (rU qq.out))) (Kd.ar (rU tb.out))) sI);replace qq:=Az (Kd.aW (rU qq.out) (Kd.ax BW) hb);replace tb:=Az (Kd.aW (rU tb.out) (Kd.ax BW) hb);replace d9:=kB d9.out hb;replace HB:=Az Dj;clear hb BW)|((with_reducible refine gd 20 rfl ?_);refine Kd.ji (Kd.int .i64) _ 3 rfl (N:=20) rfl (xs:=([0]:List Int)) (inner:=[.int .i64 0]) (ok:=fun _=>True) (okp:=fun _=>True) hS ?hp (fun _ hk=>hk) trivial (Below.refl _ _) (Nat.le_refl _) (by simp) ?_;(case hp=>exact(Reps.one (show Kd.M (Kd.int .i64) _ _ _ 0 [.int .i64 0]from rfl) (Reps.none _ _)));intro avf nJ zy hb hg_ hnew_;clear hg_ hnew_;(first|rw[<-ab9.out]at zy|(simp only[Int.reduceToNat]at zy;rw[<-ab9.out]at zy));have BX:=Az (Kd.a7 (Kd.aD (Kd.aD (Kd.aD zy (Kd.ar (rU qq.out))) (Kd.ar (rU tb.out))) (Kd.ar (rU wq.out))) sI);replace qq:=Az (Kd.aW (rU qq.out) (Kd.ax zy) hb);replace tb:=Az (Kd.aW (rU tb.out) (Kd.ax zy) hb);replace wq:=Az (Kd.aW (rU wq.out) (Kd.ax zy) hb);replace d9:=kB d9.out hb;replace HB:=Az Dj;clear hb zy)|((with_reducible refine gd 21 rfl ?_);refine Kd.ji (Kd.int .i64) _ 3 rfl (N:=21) rfl (xs:=([0]:List Int)) (inner:=[.int .i64 0]) (ok:=fun _=>True) (okp:=fun _=>True) hS ?hp (fun _ hk=>hk) trivial (Below.refl _ _) (Nat.le_refl _) (by simp) ?_;(case hp=>exact(Reps.one (show Kd.M (Kd.int .i64) _ _ _ 0 [.int .i64 0]from rfl) (Reps.none _ _)));intro avg uQ xA hb hg_ hnew_;clear hg_ hnew_;(first|rw[<-KH.out]at xA|(simp only[Int.reduceToNat]at xA;rw[<-KH.out]at xA));have KJ:=Az (Kd.a7 (Kd.aD (Kd.aD (Kd.aD (Kd.aD xA (Kd.ar (rU qq.out))) (Kd.ar (rU tb.out))) (Kd.ar (rU wq.out))) (Kd.ar (rU BX.out))) sI);replace qq:=Az (Kd.aW (rU qq.out) (Kd.ax xA) hb);replace tb:=Az (Kd.aW (rU tb.out) (Kd.ax xA) hb);replace wq:=Az (Kd.aW (rU wq.out) (Kd.ax xA) hb);replace BX:=Az (Kd.aW (rU BX.out) (Kd.ax xA) hb);replace d9:=kB d9.out hb;replace HB:=Az Dj;clear hb xA)|((with_reducible refine gd 22 rfl ?_);refine Kd.ji (Kd.int .i64) _ 3 rfl (N:=22) rfl (xs:=([]:List Int)) (inner:=[]) (ok:=fun _=>True) (okp:=fun _=>True) hS ?hp (fun _ hk=>hk) trivial (Below.refl _ _) (Nat.le_refl _) (by simp) ?_;(case hp=>exact(Reps.none _ _));intro avh w16 wu hb hg_ hnew_;clear hg_ hnew_;(first|rw[<-KI.out]at wu|(simp only[Int.reduceToNat]at wu;rw[<-KI.out]at wu));have alR:=Az (Kd.a7 (Kd.aD (Kd.aD (Kd.aD (Kd.aD (Kd.aD wu (Kd.ar (rU qq.out))) (Kd.ar (rU tb.out))) (Kd.ar (rU wq.out))) (Kd.ar (rU BX.out))) (Kd.ar (rU KJ.out))) sI);replace qq:=Az (Kd.aW (rU qq.out) (Kd.ax wu) hb);replace tb:=Az (Kd.aW (rU tb.out) (Kd.ax wu) hb);replace wq:=Az (Kd.aW (rU wq.out) (Kd.ax wu) hb);replace BX:=Az (Kd.aW (rU BX.out) (Kd.ax wu) hb);replace KJ:=Az (Kd.aW (rU KJ.out) (Kd.ax wu) hb);replace d9:=kB d9.out hb;replace HB:=Az Dj;clear hb wu))
 go_loopg [5,6,8,9,10,11,12] k (fun kq v5 v6 v8 v9 v10 v11 v12 w'=>∃(bg:List Int) (en:List Int) (eH:List Int) (bA:List Int) (e6:List Int) (iz:List Int) (dW:Int) (lq:Int),v11= .int .i64 dW/\v12= .int .i64 lq/\ae (fv.l0 kq bg en eH bA e6 iz dW lq cr ag=some (r1,r2,r3))/\ae (kq<=k)/\ae (Kd.R (Kd.int .i64) 3 w' w.heap.size (fun k_=>oV k_ v6/\oV k_ ga/\oV k_ v8/\oV k_ v9/\oV k_ v10) v5 bg)/\ae (Kd.R (Kd.int .i64) 3 w' w.heap.size (fun k_=>oV k_ v5/\oV k_ ga/\oV k_ v8/\oV k_ v9/\oV k_ v10) v6 en)/\ae (Kd.R (Kd.int .i64) 3 w' w.heap.size (fun k_=>oV k_ v5/\oV k_ v6/\oV k_ v8/\oV k_ v9/\oV k_ v10) ga eH)/\ae (Kd.R (Kd.int .i64) 3 w' w.heap.size (fun k_=>oV k_ v5/\oV k_ v6/\oV k_ ga/\oV k_ v9/\oV k_ v10) v8 bA)/\ae (Kd.R (Kd.int .i64) 3 w' w.heap.size (fun k_=>oV k_ v5/\oV k_ v6/\oV k_ ga/\oV k_ v8/\oV k_ v10) v9 e6)/\ae (Kd.R (Kd.int .i64) 3 w' w.heap.size (fun k_=>oV k_ v5/\oV k_ v6/\oV k_ ga/\oV k_ v8/\oV k_ v9) v10 iz)/\ae (w'.heap[QZ]?=some (.cells #[.string cr,(.slice ak ag.length aj)] 25 (0,0)))/\ae (Below w.heap.size w w'))
 case atStart=>exact⟨(KF),(QW),(y701),(ab8),(y707),(y710),(0),(0),rS,rS,H',⟨Nat.le_refl _⟩,⟨rA (Kd.ah qq.out (fun _ hk=>⟨hk.1.1.1.1.2,⟨hk.1.1.1.2,⟨hk.1.1.2,⟨hk.1.2,hk.2⟩⟩⟩⟩))⟩,⟨rA (Kd.ah tb.out (fun _ hk=>⟨hk.1.1.1.1.2,⟨hk.1.1.1.2,⟨hk.1.1.2,⟨hk.1.2,hk.2⟩⟩⟩⟩))⟩,⟨rA (Kd.ah wq.out (fun _ hk=>⟨hk.1.1.1.1.2,⟨hk.1.1.1.2,⟨hk.1.1.2,⟨hk.1.2,hk.2⟩⟩⟩⟩))⟩,⟨rA (Kd.ah BX.out (fun _ hk=>⟨hk.1.1.1.1.2,⟨hk.1.1.1.2,⟨hk.1.1.2,⟨hk.1.2,hk.2⟩⟩⟩⟩))⟩,⟨rA (Kd.ah KJ.out (fun _ hk=>⟨hk.1.1.1.1.2,⟨hk.1.1.1.2,⟨hk.1.1.2,⟨hk.1.2,hk.2⟩⟩⟩⟩))⟩,⟨rA (Kd.ah alR.out (fun _ hk=>⟨hk.1.1.1.1.2,⟨hk.1.1.1.2,⟨hk.1.1.2,⟨hk.1.2,hk.2⟩⟩⟩⟩))⟩,⟨kU d9.out⟩,⟨bU1 HB.out sZ.out⟩⟩
 case round=>
  clear H';obtain⟨bg,en,eH,bA,e6,iz,dW,lq,rfl,rfl,HA,eZ,aG,aM,aC,cB,lp,fp,d9,HB⟩:=hrel
  rcases gk with _|k1
  exact(nN HA.out).elim;have H:=HA.out;clear HA;simp only[fv.l0]at H
  replace H:=gB H;rcases H with⟨Ef,H⟩|⟨Ef,H⟩
  ·
   obtain⟨il,zz⟩:∃j_:Int,(wrap64 ((bA.length:Int)-1))=j_:=⟨_,rfl⟩;(first|rw[zz]at H|simp only[zz]at H);have alS:(IntKind.i64.wrap ((bA.length:Int)-1))=il:=(bo _).trans zz;replace H:=gD2 H;obtain⟨GC,DZ,H⟩:=H;replace H:=gP H;obtain⟨xB,H⟩:=H;have aca:=Az xB;clear xB;generalize KL:(bg++[rd bA (il)]:List Int)=GD at H;simp only[Option.bind_some]at H;replace KL:=Ay KL;obtain⟨nY,Q0⟩:∃j_:Int,(wrap64 ((e6.length:Int)-1))=j_:=⟨_,rfl⟩;(first|rw[Q0]at H|simp only[Q0]at H);have avi:(IntKind.i64.wrap ((e6.length:Int)-1))=nY:=(bo _).trans Q0;replace H:=gD2 H;obtain⟨DK,O8,H⟩:=H;replace H:=gP H;obtain⟨lR,H⟩:=H;have acb:=Az lR;clear lR;generalize KM:(en++[rd e6 (nY)]:List Int)=GE at H;replace KM:=Ay KM;replace H:=gD1 H;obtain⟨O9,H⟩:=H
   replace H:=gQ H;rcases H with⟨KN,alT,H⟩|⟨KN,alT,H⟩
   ·
    replace H:=gD2 H;obtain⟨Q1,acd,H⟩:=H;replace H:=gP H;obtain⟨c32,H⟩:=H;have Q2:=Az c32;clear c32;generalize Q3:(e6++[wrap64 ((rd e6 (nY))+(rd ag dW))]:List Int)=y723 at H;replace Q3:=Ay Q3;replace H:=gP H;obtain⟨xC,H⟩:=H;have alU:=Az xC;clear xC;generalize Q4:(bA++[wrap64 (dW+1)]:List Int)=y726 at H;replace Q4:=Ay Q4;replace H:=gP H;obtain⟨c34,H⟩:=H;have alV:=Az c34;clear c34;generalize Q5:(iz++[lq]:List Int)=y729 at H;replace Q5:=Ay Q5;have H':=Az H;clear H;have alW:=bc2 d9.out;obtain⟨pS,iG,xD⟩:=Kd.aH cB.out;subst xD;obtain⟨gp,Q6,alX,alY,alZ⟩:=aI (Kd.au cB.out).2.2 (il)
    cases Q6
    try go_wp2_with (first|((with_reducible refine mf (b:=.append) (xs:=#[.tmp 30,.tmp 37]) rfl ?_);at_builtin;refine Kd.na (Kd.int .i64) (w0:=w) w.heap.size rfl (.tmp 30) (.tmp 37) 23 3 (.int .i64 0) 8 rfl Try.underlying23 dE rfl (by decide) (by omega) u5 bg (rd bA (il)) [.int .i64 (rd bA (il))] (fun k_=>oV k_ u6/\oV k_ ga/\some k_≠(.slice (some gp) bA.length iG:Value).ownBlock/\oV k_ u9/\oV k_ u10) (fun _=>False) rfl rfl ?aP (fun _ hk=>hk.elim) ?aF ?aO ?aB ?aS ?aL ?_;(case aP=>exact rfl);(case aB=>exact(bU1 HB.out sZ.out));(case aF=>exact(fun k_ hk=>⟨Kd.dD (Kd.ar (rU aM.out)) k_ hk,Kd.dD (Kd.ar (rU aC.out)) k_ hk,Kd.dD (Kd.ar (rU cB.out)) k_ hk,Kd.dD (Kd.ar (rU lp.out)) k_ hk,Kd.dD (Kd.ar (rU fp.out)) k_ hk⟩));(case aO=>exact(rU aG.out));(case aS=>exact sI);(case aL=>have:=aca.out;omega);intro gz wv ho hb hg hat;rw[<-KL.out]at ho;replace aM:=Az (Kd.cA (ok:=(fun k_=>oV k_ ga/\some k_≠(.slice (some gp) bA.length iG:Value).ownBlock/\oV k_ u9/\oV k_ u10)) Za hg hat);replace aC:=Az (Kd.cA (ok:=(fun k_=>oV k_ u6/\some k_≠(.slice (some gp) bA.length iG:Value).ownBlock/\oV k_ u9/\oV k_ u10)) Yu hg hat);replace cB:=Az WK;replace lp:=Az (Kd.cA (ok:=(fun k_=>oV k_ u6/\oV k_ ga/\some k_≠(.slice (some gp) bA.length iG:Value).ownBlock/\oV k_ u10)) XJ hg hat);replace fp:=Az (Kd.cA (ok:=(fun k_=>oV k_ u6/\oV k_ ga/\some k_≠(.slice (some gp) bA.length iG:Value).ownBlock/\oV k_ u9)) XN hg hat);replace d9:=Az (kG d9.out hg (Kd.cG aG.out d9.out (by decide)));replace HB:=Az (hb);have lX:=Az (ho);clear aG ho hb hg hat;obtain⟨al0,BZ,Q7⟩:=Kd.aH lp.out;subst Q7;obtain⟨kN,Q8,al1,al2,al3⟩:=aI (Kd.au lp.out).2.2 (nY);cases Q8)|((with_reducible refine mf (b:=.append) (xs:=#[.tmp 39,.tmp 46]) rfl ?_);at_builtin;refine Kd.na (Kd.int .i64) (w0:=w) w.heap.size rfl (.tmp 39) (.tmp 46) 23 3 (.int .i64 0) 8 rfl Try.underlying23 dE rfl (by decide) (by omega) u6 en (rd e6 (nY)) [.int .i64 (rd e6 (nY))] (fun k_=>oV k_ ga/\some k_≠(.slice (some gp) bA.length iG:Value).ownBlock/\some k_≠(.slice (some kN) e6.length BZ:Value).ownBlock/\oV k_ u10/\oV k_ gz) (fun _=>False) rfl rfl ?aP (fun _ hk=>hk.elim) ?aF ?aO ?aB ?aS ?aL ?_;(case aP=>exact rfl);(case aB=>exact(bU1 HB.out sZ.out));(case aF=>exact(fun k_ hk=>⟨Kd.dD (Kd.ar (rU aC.out)) k_ hk,Kd.dD (Kd.ar (rU cB.out)) k_ hk,Kd.dD (Kd.ar (rU lp.out)) k_ hk,Kd.dD (Kd.ar (rU fp.out)) k_ hk,Kd.dD (Kd.ar (rU lX.out)) k_ hk⟩));(case aO=>exact X8);(case aS=>exact sI);(case aL=>have:=acb.out;omega);intro jV Km ho hb hg hat;rw[<-KM.out]at ho;replace aC:=Az (Kd.cA (ok:=(fun k_=>some k_≠(.slice (some gp) bA.length iG:Value).ownBlock/\some k_≠(.slice (some kN) e6.length BZ:Value).ownBlock/\oV k_ u10/\oV k_ gz)) IU hg hat);replace cB:=Az (Kd.cA (ok:=(fun k_=>oV k_ ga/\some k_≠(.slice (some kN) e6.length BZ:Value).ownBlock/\oV k_ u10/\oV k_ gz)) Zy hg hat);replace lp:=Az (Kd.cA (ok:=(fun k_=>oV k_ ga/\some k_≠(.slice (some gp) bA.length iG:Value).ownBlock/\oV k_ u10/\oV k_ gz)) Yp hg hat);replace fp:=Az (Kd.cA (ok:=(fun k_=>oV k_ ga/\some k_≠(.slice (some gp) bA.length iG:Value).ownBlock/\some k_≠(.slice (some kN) e6.length BZ:Value).ownBlock/\oV k_ gz)) Xs hg hat);replace d9:=Az (kG d9.out hg (Kd.cG aM.out d9.out (by decide)));replace lX:=Az (Kd.cA (ok:=(fun k_=>oV k_ ga/\some k_≠(.slice (some gp) bA.length iG:Value).ownBlock/\some k_≠(.slice (some kN) e6.length BZ:Value).ownBlock/\oV k_ u10)) WP hg hat);replace HB:=Az (hb);have o6:=Az (ho);clear aM ho hb hg hat;have al4:=bc2 d9.out;have p28:0<=(lq:Int):=oA;have xE:lq<(cr.size:Int):=oA;have hx28:=yH cr lq;replace p28:=eq_true p28;replace xE:=eq_true xE))
    replace aC:=Az (Kd.bK aC.out);replace cB:=Az (Kd.bK cB.out);replace lp:=Az (Kd.bK lp.out);replace fp:=Az (Kd.bK fp.out);replace lX:=Az (Kd.bK lX.out);replace o6:=Az (Kd.bK o6.out);replace d9:=Az (ce d9.out);replace HB:=Az (a8 HB.out);obtain⟨_,_,ace⟩:=aJ (Kd.au lp.out).2.2 (nY);obtain⟨acf,al5,_,_,KO⟩:=aI bP.out dW;have Q9:=KO
    cases al5
    replace KO:=hT HB.out KO;refine eX (n:=16) (S:=fun w'=>w'.cell? ⟨QZ,0,none⟩=some (.string cr)/\w'.cell? ⟨QZ,1,none⟩=some (.slice (some acf) ag.length aj)/\w'.cell? (kN.add ((nY)).toNat)=some (.int .i64 (rd e6 (nY)))/\w'.cell? (acf.add (dW).toNat)=some (.int .i64 (rd ag dW))) (ds:=[13,14]) (bv 16 0) (by kernel_rfl) rfl rfl ⟨(ai d9.out 0).trans rfl,(ai d9.out 1).trans rfl,ace,(by first|exact Q9|exact(HB.out.cell (World.block_lt_of_cell? w _ Q9)).trans Q9)⟩ (fun hHeld=>?_);refine fL fv.FC fv.Fs (fun HT_ HW_=>?_);generalize Km.drew=w41 at aC cB lp fp lX o6 d9 HB ace KO hHeld ⊢;refine av (i:=0) (N:=some 53) (v:=?_) (a':=?_) (bv 16 1) rfl rfl (ao HT_.out (by kernel_rfl)) (fun _ _ _ h=>h) (Or.inl ⟨by rfl,?_⟩) ?_ ?_;rotate_left;(exact yP);rotate_left;(exact aP);refine av (i:=1) (N:=some 54) (v:=?_) (a':=?_) (bv 16 3) rfl rfl (ao HT_.out (by kernel_rfl)) (fun _ _ _ h=>h) (Or.inl ⟨by rfl,?_⟩) ?_ ?_;rotate_left;(exact yP);rotate_left;(exact aP);refine av (i:=2) (N:=some 55) (v:=?_) (a':=?_) (bv 16 7) rfl rfl (ao HT_.out (by kernel_rfl)) (fun _ _ _ h=>h) (Or.inl ⟨by rfl,?_⟩) ?_ ?_;rotate_left;(exact yP);rotate_left;(exact aP);refine av (i:=3) (N:=some 56) (v:=?_) (a':=?_) (bv 16 15) rfl rfl (ao HT_.out (by kernel_rfl)) (fun _ _ _ h=>h) (Or.inl ⟨by rfl,?_⟩) ?_ ?_;rotate_left;(exact yP);rotate_left;(exact aP);refine av (i:=4) (N:=some 57) (v:=?_) (a':=?_) (bv 16 31) rfl rfl (ao HT_.out (by kernel_rfl)) (fun _ _ _ h=>h) (Or.inl ⟨by rfl,?_⟩) ?_ ?_;rotate_left;(exact yP);rotate_left;(exact aP);refine av (i:=5) (N:=some 58) (v:=?_) (a':=?_) (bv 16 63) rfl rfl (ao HT_.out (by kernel_rfl)) (fun _ _ _ h=>h) (Or.inl ⟨by rfl,?_⟩) ?_ ?_;rotate_left;(exact yP);rotate_left;(exact aP);refine av (i:=7) (N:=some 60) (v:=?_) (a':=?_) (bv 16 191) rfl rfl (ao HT_.out (by kernel_rfl)) (fun _ _ _ h=>h) (Or.inl ⟨by rfl,?_⟩) ?_ ?_;rotate_left;(exact yP);rotate_left;(exact aP);refine av (i:=9) (N:=some 62) (v:=?_) (a':=?_) (bv 16 703) rfl rfl (ao HT_.out (by kernel_rfl)) (fun _ _ _ h=>h) (Or.inl ⟨by rfl,?_⟩) ?_ ?_;rotate_left;(exact yP);rotate_left;(exact aP);refine bS (i:=6) (N:=some 59) (v:=?_) (a':=?_) (bv 16 767) rfl rfl (bW HT_.out HW_.out (by kernel_rfl)) (fun _ _ _ h=>h) (Or.inl ⟨by rfl,?_⟩) hHeld ?_ ?_;rotate_left
    ·
     rintro w' ⟨s0,s1,s2,s3⟩;go_simp
     with_reducible rfl
    rotate_left;(exact aP);refine bS (i:=8) (N:=some 61) (v:=?_) (a':=?_) (bv 16 1023) rfl rfl (bW HT_.out HW_.out (by kernel_rfl)) (fun _ _ _ h=>h) (Or.inl ⟨by rfl,?_⟩) hHeld ?_ ?_;rotate_left
    ·
     rintro w' ⟨s0,s1,s2,s3⟩;go_simp
     with_reducible rfl
    rotate_left;(exact aP);refine av (i:=10) (N:=some 63) (v:=?_) (a':=?_) (bv 16 2047) rfl rfl (ao HT_.out (by kernel_rfl)) (fun _ _ _ h=>h) (Or.inl ⟨by rfl,?_⟩) ?_ ?_;rotate_left;(exact yP);rotate_left;(exact aP);refine bS (i:=11) (N:=some 64) (v:=?_) (a':=?_) (bv 16 4095) rfl rfl (bW HT_.out HW_.out (by kernel_rfl)) (fun _ _ _ h=>h) (Or.inl ⟨by rfl,?_⟩) hHeld ?_ ?_;rotate_left
    ·
     rintro w' ⟨s0,s1,s2,s3⟩;go_simp
     with_reducible rfl
    rotate_left;(exact aP);refine av (i:=12) (N:=some 65) (v:=?_) (a':=?_) (bv 16 8191) rfl rfl (ao HT_.out (by kernel_rfl)) (fun _ _ _ h=>h) (Or.inl ⟨by rfl,?_⟩) ?_ ?_;rotate_left;(exact yP);rotate_left;(exact aP);refine k9 (i:=13) (N:=some 66) (bv 16 16383) rfl rfl (cJ HT_.out (by kernel_rfl)) (by decide) (fun K hK=>?_);refine Dq (w1:=?_) (v:=?_) (by rfl) rfl ?_ ?_;rotate_left 2
    ·
     go_simp
     constructor
     ·rfl
     ·rfl
    refine hK.out _ _ ?_;clear hK K;refine aX (a':=?_) ?_ ?_;rotate_left
    ·
     show Act.put _ (some 66) _=_
     simp only[Act.put,List.setIfInBounds_toArray,List.set_cons_zero,List.set_cons_succ,bo,bD];rfl
    refine k9 (i:=14) (N:=some 67) (bv 16 32767) rfl rfl (cJ HT_.out (by kernel_rfl)) (by decide) (fun K hK=>?_);refine Kd.Nz (Kd.int .i64) (w0:=w) w.heap.size (by rfl) (.tmp 53) (.tmp 66) 23 3 (.int .i64 0) 8 rfl Try.underlying23 dE rfl (by decide) (by omega) (.slice (some kN) e6.length BZ) e6 (wrap64 ((rd e6 (nY))+(rd ag dW))) [.int .i64 (wrap64 ((rd e6 (nY))+(rd ag dW)))] (fun k_=>oV k_ ga/\some k_≠(.slice (some gp) bA.length iG:Value).ownBlock/\oV k_ u10/\oV k_ gz/\oV k_ jV) (fun _=>False) rfl rfl ?aP (fun _ hk=>hk.elim) ?aF ?aO ?aB ?aS ?aL ?_
    (case aP=>exact rfl)
    (case aB=>exact(bU1 HB.out sZ.out))
    (case aF=>exact(fun k_ hk=>⟨Kd.dD (Kd.ar (rU aC.out)) k_ hk,Kd.dD (Kd.ar (rU cB.out)) k_ hk,Kd.dD (Kd.ar (rU fp.out)) k_ hk,Kd.dD (Kd.ar (rU lX.out)) k_ hk,Kd.dD (Kd.ar (rU o6.out)) k_ hk⟩))
    (case aO=>exact(rA (Kd.ah lp.out (fun _ hk=>⟨hk.1.1,⟨hk.1.2.1,⟨hk.1.2.2.1,⟨hk.1.2.2.2,hk.2⟩⟩⟩⟩))))
    (case aS=>exact sI)
    (case aL=>have:=Q2.out;omega)
    intro ww B0 ho hb hg hat;rw[<-Q3.out]at ho;replace aC:=Az (Kd.cA (ok:=(fun k_=>some k_≠(.slice (some gp) bA.length iG:Value).ownBlock/\oV k_ u10/\oV k_ gz/\oV k_ jV)) (rA (Kd.ah aC.out (fun _ hk=>⟨⟨hk.1.1,⟨hk.1.2.2.1,⟨hk.1.2.2.2,hk.2⟩⟩⟩,hk.1.2.1⟩))) hg hat);replace cB:=Az (Kd.cA (ok:=(fun k_=>oV k_ ga/\oV k_ u10/\oV k_ gz/\oV k_ jV)) (rA (Kd.ah cB.out (fun _ hk=>⟨⟨hk.1.1,⟨hk.1.2.2.1,⟨hk.1.2.2.2,hk.2⟩⟩⟩,hk.1.2.1⟩))) hg hat);replace fp:=Az (Kd.cA (ok:=(fun k_=>oV k_ ga/\some k_≠(.slice (some gp) bA.length iG:Value).ownBlock/\oV k_ gz/\oV k_ jV)) (rA (Kd.ah fp.out (fun _ hk=>⟨⟨hk.1.1,⟨hk.1.2.1,⟨hk.1.2.2.2,hk.2⟩⟩⟩,hk.1.2.2.1⟩))) hg hat);replace d9:=Az (kG d9.out hg (Kd.cG lp.out d9.out (by decide)));replace lX:=Az (Kd.cA (ok:=(fun k_=>oV k_ ga/\some k_≠(.slice (some gp) bA.length iG:Value).ownBlock/\oV k_ u10/\oV k_ jV)) (rA (Kd.ah lX.out (fun _ hk=>⟨⟨hk.1.1,⟨hk.1.2.1,⟨hk.1.2.2.2,hk.2⟩⟩⟩,hk.1.2.2.1⟩))) hg hat);replace o6:=Az (Kd.cA (ok:=(fun k_=>oV k_ ga/\some k_≠(.slice (some gp) bA.length iG:Value).ownBlock/\oV k_ u10/\oV k_ gz)) (rA (Kd.ah o6.out (fun _ hk=>⟨⟨hk.1,⟨hk.2.1,⟨hk.2.2.2.1,hk.2.2.2.2⟩⟩⟩,hk.2.2.1⟩))) hg hat);replace HB:=Az (hb);have B2:=Az (ho);clear lp ho hb hg hat;refine hK.out _ _ ?_;clear hK K;refine aX (a':=?_) ?_ ?_;rotate_left
    ·
     show Act.put _ (some 67) _=_
     simp only[Act.put,List.setIfInBounds_toArray,List.set_cons_zero,List.set_cons_succ,bo,bD];rfl
    refine av (i:=15) (N:=some 9) (v:=?_) (a':=?_) (bv 16 65535) rfl rfl (ao HT_.out (by kernel_rfl)) (fun _ _ _ h=>h) (Or.inl ⟨by rfl,?_⟩) ?_ ?_;rotate_left;(exact yP);rotate_left;(exact aP);refine eY (fN HT_.out (by kernel_rfl)) ?_
    try go_wp2_with (first|((with_reducible refine mf (b:=.append) (xs:=#[.tmp 70,.tmp 72]) rfl ?_);at_builtin;refine Kd.na (Kd.int .i64) (w0:=w) w.heap.size rfl (.tmp 70) (.tmp 72) 23 3 (.int .i64 0) 8 rfl Try.underlying23 dE rfl (by decide) (by omega) (.slice (some gp) bA.length iG) bA (wrap64 (dW+1)) [.int .i64 (wrap64 (dW+1))] (fun k_=>oV k_ ga/\oV k_ u10/\oV k_ gz/\oV k_ jV/\oV k_ ww) (fun _=>False) rfl rfl ?aP (fun _ hk=>hk.elim) ?aF ?aO ?aB ?aS ?aL ?_;(case aP=>exact rfl);(case aB=>exact(bU1 HB.out sZ.out));(case aF=>exact(fun k_ hk=>⟨Kd.dD (Kd.ar (rU aC.out)) k_ hk,Kd.dD (Kd.ar (rU fp.out)) k_ hk,Kd.dD (Kd.ar (rU lX.out)) k_ hk,Kd.dD (Kd.ar (rU o6.out)) k_ hk,Kd.dD (Kd.ar (rU B2.out)) k_ hk⟩));(case aO=>exact(rA (Kd.ah cB.out (fun _ hk=>⟨hk.1.1,⟨hk.1.2.1,⟨hk.1.2.2.1,⟨hk.1.2.2.2,hk.2⟩⟩⟩⟩))));(case aS=>exact sI);(case aL=>have:=alU.out;omega);intro GF GH ho hb hg hat;rw[<-Q4.out]at ho;replace aC:=Az (Kd.cA (ok:=(fun k_=>oV k_ u10/\oV k_ gz/\oV k_ jV/\oV k_ ww)) IU hg hat);replace fp:=Az (Kd.cA (ok:=(fun k_=>oV k_ ga/\oV k_ gz/\oV k_ jV/\oV k_ ww)) (rA (Kd.ah fp.out (fun _ hk=>⟨⟨hk.1.1,⟨hk.1.2.2.1,⟨hk.1.2.2.2,hk.2⟩⟩⟩,hk.1.2.1⟩))) hg hat);replace d9:=Az (kG d9.out hg (Kd.cG cB.out d9.out (by decide)));replace lX:=Az (Kd.cA (ok:=(fun k_=>oV k_ ga/\oV k_ u10/\oV k_ jV/\oV k_ ww)) W6 hg hat);replace o6:=Az (Kd.cA (ok:=(fun k_=>oV k_ ga/\oV k_ u10/\oV k_ gz/\oV k_ ww)) VG hg hat);replace B2:=Az (Kd.cA (ok:=(fun k_=>oV k_ ga/\oV k_ u10/\oV k_ gz/\oV k_ jV)) (rA (Kd.ah B2.out (fun _ hk=>⟨⟨hk.1,⟨hk.2.2.1,⟨hk.2.2.2.1,hk.2.2.2.2⟩⟩⟩,hk.2.1⟩))) hg hat);replace HB:=Az (hb);have KP:=Az (ho);clear cB ho hb hg hat)|((with_reducible refine mf (b:=.append) (xs:=#[.tmp 74,.tmp 76]) rfl ?_);at_builtin;refine Kd.na (Kd.int .i64) (w0:=w) w.heap.size rfl (.tmp 74) (.tmp 76) 23 3 (.int .i64 0) 8 rfl Try.underlying23 dE rfl (by decide) (by omega) u10 iz lq [.int .i64 lq] (fun k_=>oV k_ ga/\oV k_ gz/\oV k_ jV/\oV k_ ww/\oV k_ GF) (fun _=>False) rfl rfl ?aP (fun _ hk=>hk.elim) ?aF ?aO ?aB ?aS ?aL ?_;(case aP=>exact rfl);(case aB=>exact(bU1 HB.out sZ.out));(case aF=>exact(fun k_ hk=>⟨Kd.dD (Kd.ar (rU aC.out)) k_ hk,Kd.dD (Kd.ar (rU lX.out)) k_ hk,Kd.dD (Kd.ar (rU o6.out)) k_ hk,Kd.dD (Kd.ar (rU B2.out)) k_ hk,Kd.dD (Kd.ar (rU KP.out)) k_ hk⟩));(case aO=>exact(rA (Kd.ah fp.out (fun _ hk=>⟨hk.1.1,⟨hk.1.2.1,⟨hk.1.2.2.1,⟨hk.1.2.2.2,hk.2⟩⟩⟩⟩))));(case aS=>exact sI);(case aL=>have:=alV.out;omega);intro avj Ra ho hb hg hat;rw[<-Q5.out]at ho;replace aC:=Az (Kd.cA (ok:=(fun k_=>oV k_ gz/\oV k_ jV/\oV k_ ww/\oV k_ GF)) IU hg hat);replace d9:=Az (kG d9.out hg (Kd.cG fp.out d9.out (by decide)));replace lX:=Az (Kd.cA (ok:=(fun k_=>oV k_ ga/\oV k_ jV/\oV k_ ww/\oV k_ GF)) W6 hg hat);replace o6:=Az (Kd.cA (ok:=(fun k_=>oV k_ ga/\oV k_ gz/\oV k_ ww/\oV k_ GF)) VG hg hat);replace B2:=Az (Kd.cA (ok:=(fun k_=>oV k_ ga/\oV k_ gz/\oV k_ jV/\oV k_ GF)) (rA (Kd.ah B2.out (fun _ hk=>⟨⟨hk.1.1,⟨hk.1.2.2.1,⟨hk.1.2.2.2,hk.2⟩⟩⟩,hk.1.2.1⟩))) hg hat);replace KP:=Az (Kd.cA (ok:=(fun k_=>oV k_ ga/\oV k_ gz/\oV k_ jV/\oV k_ ww)) (rA (Kd.ah KP.out (fun _ hk=>⟨⟨hk.1,⟨hk.2.2.1,⟨hk.2.2.2.1,hk.2.2.2.2⟩⟩⟩,hk.2.1⟩))) hg hat);replace HB:=Az (hb);have al7:=Az (ho);clear fp ho hb hg hat))
    go_roundg k1
    case measure=>exact mO
    case rel=>exact⟨(GD),(GE),(eH),(y726),(y723),(y729),(wrap64 (dW+1)),(wrap64 (lq+1)),rS,rS,H',⟨mO⟩,⟨rA (Kd.ah lX.out (fun _ hk=>⟨hk.1.2.1,⟨hk.1.1,⟨hk.1.2.2.2,⟨hk.1.2.2.1,hk.2⟩⟩⟩⟩))⟩,⟨rA (Kd.ah o6.out (fun _ hk=>⟨hk.1.2.1,⟨hk.1.1,⟨hk.1.2.2.2,⟨hk.1.2.2.1,hk.2⟩⟩⟩⟩))⟩,⟨rA (Kd.ah aC.out (fun _ hk=>⟨hk.1.1,⟨hk.1.2.1,⟨hk.1.2.2.2,⟨hk.1.2.2.1,hk.2⟩⟩⟩⟩))⟩,⟨rA (Kd.ah KP.out (fun _ hk=>⟨hk.1.2.1,⟨hk.1.2.2.1,⟨hk.1.1,⟨hk.1.2.2.2,hk.2⟩⟩⟩⟩))⟩,⟨rA (Kd.ah B2.out (fun _ hk=>⟨hk.1.2.1,⟨hk.1.2.2.1,⟨hk.1.1,⟨hk.1.2.2.2,hk.2⟩⟩⟩⟩))⟩,⟨rA (Kd.ah al7.out (fun _ hk=>⟨hk.2.1,⟨hk.2.2.1,⟨hk.1,⟨hk.2.2.2.2,hk.2.2.2.1⟩⟩⟩⟩))⟩,⟨kU d9.out⟩,⟨bU1 HB.out sZ.out⟩⟩
   ·
    replace H:=gE H;obtain⟨Rb,Rc,H⟩:=H;generalize KQ:(bA.take ((il):Int).toNat:List Int)=y732 at H;replace KQ:=Ay KQ;replace H:=gE H;obtain⟨al8,avk,H⟩:=H;generalize KR:(e6.take ((nY):Int).toNat:List Int)=y735 at H;replace KR:=Ay KR;obtain⟨pT,Re⟩:∃j_:Int,(wrap64 ((iz.length:Int)-1))=j_:=⟨_,rfl⟩;(first|rw[Re]at H|simp only[Re]at H);have avl:(IntKind.i64.wrap ((iz.length:Int)-1))=pT:=(bo _).trans Re;replace H:=gD2 H;obtain⟨avm,al9,H⟩:=H;replace H:=gE H;obtain⟨ama,avn,H⟩:=H;generalize KS:(iz.take ((pT):Int).toNat:List Int)=y739 at H;replace KS:=Ay KS;replace H:=gD1 H;obtain⟨amb,H⟩:=H;generalize Rf:(eH.set (lq:Int).toNat (rd iz (pT)):List Int)=y742 at H;replace Rf:=Ay Rf;replace H:=gD2 H;obtain⟨abu,abv,H⟩:=H;generalize Rh:(y742.set ((rd iz (pT)):Int).toNat lq:List Int)=y743 at H;replace Rh:=Ay Rh;have H':=Az H;clear H;have amc:=bc2 d9.out;obtain⟨avo,mq,amd⟩:=Kd.aH cB.out;subst amd;obtain⟨gp,Q6,alX,alY,alZ⟩:=aI (Kd.au cB.out).2.2 (il)
    cases Q6
    go_wp2_with (first|((with_reducible refine mf (b:=.append) (xs:=#[.tmp 30,.tmp 37]) rfl ?_);at_builtin;refine Kd.na (Kd.int .i64) (w0:=w) w.heap.size rfl (.tmp 30) (.tmp 37) 23 3 (.int .i64 0) 8 rfl Try.underlying23 dE rfl (by decide) (by omega) u5 bg (rd bA (il)) [.int .i64 (rd bA (il))] (fun k_=>oV k_ u6/\oV k_ ga/\some k_≠(.slice (some gp) bA.length mq:Value).ownBlock/\oV k_ u9/\oV k_ u10) (fun _=>False) rfl rfl ?aP (fun _ hk=>hk.elim) ?aF ?aO ?aB ?aS ?aL ?_;(case aP=>exact rfl);(case aB=>exact(bU1 HB.out sZ.out));(case aF=>exact(fun k_ hk=>⟨Kd.dD (Kd.ar (rU aM.out)) k_ hk,Kd.dD (Kd.ar (rU aC.out)) k_ hk,Kd.dD (Kd.ar (rU cB.out)) k_ hk,Kd.dD (Kd.ar (rU lp.out)) k_ hk,Kd.dD (Kd.ar (rU fp.out)) k_ hk⟩));(case aO=>exact(rU aG.out));(case aS=>exact sI);(case aL=>have:=aca.out;omega);intro gz w58 ho hb hg hat;rw[<-KL.out]at ho;replace aM:=Az (Kd.cA (ok:=(fun k_=>oV k_ ga/\some k_≠(.slice (some gp) bA.length mq:Value).ownBlock/\oV k_ u9/\oV k_ u10)) Za hg hat);replace aC:=Az (Kd.cA (ok:=(fun k_=>oV k_ u6/\some k_≠(.slice (some gp) bA.length mq:Value).ownBlock/\oV k_ u9/\oV k_ u10)) Yu hg hat);replace cB:=Az WK;replace lp:=Az (Kd.cA (ok:=(fun k_=>oV k_ u6/\oV k_ ga/\some k_≠(.slice (some gp) bA.length mq:Value).ownBlock/\oV k_ u10)) XJ hg hat);replace fp:=Az (Kd.cA (ok:=(fun k_=>oV k_ u6/\oV k_ ga/\some k_≠(.slice (some gp) bA.length mq:Value).ownBlock/\oV k_ u9)) XN hg hat);replace d9:=Az (kG d9.out hg (Kd.cG aG.out d9.out (by decide)));replace HB:=Az (hb);have lX:=Az (ho);clear aG ho hb hg hat;obtain⟨ame,o8,Ri⟩:=Kd.aH lp.out;subst Ri;obtain⟨kN,Q8,al1,al2,al3⟩:=aI (Kd.au lp.out).2.2 (nY);cases Q8)|((with_reducible refine mf (b:=.append) (xs:=#[.tmp 39,.tmp 46]) rfl ?_);at_builtin;refine Kd.na (Kd.int .i64) (w0:=w) w.heap.size rfl (.tmp 39) (.tmp 46) 23 3 (.int .i64 0) 8 rfl Try.underlying23 dE rfl (by decide) (by omega) u6 en (rd e6 (nY)) [.int .i64 (rd e6 (nY))] (fun k_=>oV k_ ga/\some k_≠(.slice (some gp) bA.length mq:Value).ownBlock/\some k_≠(.slice (some kN) e6.length o8:Value).ownBlock/\oV k_ u10/\oV k_ gz) (fun _=>False) rfl rfl ?aP (fun _ hk=>hk.elim) ?aF ?aO ?aB ?aS ?aL ?_;(case aP=>exact rfl);(case aB=>exact(bU1 HB.out sZ.out));(case aF=>exact(fun k_ hk=>⟨Kd.dD (Kd.ar (rU aC.out)) k_ hk,Kd.dD (Kd.ar (rU cB.out)) k_ hk,Kd.dD (Kd.ar (rU lp.out)) k_ hk,Kd.dD (Kd.ar (rU fp.out)) k_ hk,Kd.dD (Kd.ar (rU lX.out)) k_ hk⟩));(case aO=>exact X8);(case aS=>exact sI);(case aL=>have:=acb.out;omega);intro jV nv ho hb hg hat;rw[<-KM.out]at ho;replace aC:=Az (Kd.cA (ok:=(fun k_=>some k_≠(.slice (some gp) bA.length mq:Value).ownBlock/\some k_≠(.slice (some kN) e6.length o8:Value).ownBlock/\oV k_ u10/\oV k_ gz)) IU hg hat);replace cB:=Az (Kd.cA (ok:=(fun k_=>oV k_ ga/\some k_≠(.slice (some kN) e6.length o8:Value).ownBlock/\oV k_ u10/\oV k_ gz)) Zy hg hat);replace lp:=Az (Kd.cA (ok:=(fun k_=>oV k_ ga/\some k_≠(.slice (some gp) bA.length mq:Value).ownBlock/\oV k_ u10/\oV k_ gz)) Yp hg hat);replace fp:=Az (Kd.cA (ok:=(fun k_=>oV k_ ga/\some k_≠(.slice (some gp) bA.length mq:Value).ownBlock/\some k_≠(.slice (some kN) e6.length o8:Value).ownBlock/\oV k_ gz)) Xs hg hat);replace d9:=Az (kG d9.out hg (Kd.cG aM.out d9.out (by decide)));replace lX:=Az (Kd.cA (ok:=(fun k_=>oV k_ ga/\some k_≠(.slice (some gp) bA.length mq:Value).ownBlock/\some k_≠(.slice (some kN) e6.length o8:Value).ownBlock/\oV k_ u10)) WP hg hat);replace HB:=Az (hb);have o6:=Az (ho);clear aM ho hb hg hat;have avp:=bc2 d9.out;have p28:0<=(lq:Int):=oA;have xE:lq<(cr.size:Int):=oA;have hx28:=yH cr lq;replace p28:=eq_true p28;replace xE:=eq_true xE;have B4:((il):Int)<=((bA.length:Int):Int):=oA;obtain⟨avq,acg,_,amf,_⟩:=info_parts dE;have amg:=N2 (P:=Try.prog) 23 3 .i64 Try.underlying23 acg (some gp) bA.length mq (il) (oA) B4 (Kd.au cB.out).2.1;have KT:=Kd.MY (m:=((il):Int).toNat) cB.out (by omega);have ach:y732.length=((il):Int).toNat:=(by rw[KQ.out,List.length_take];omega);rw[<-KQ.out]at KT;rw[<-ach]at KT amg;clear ach acg amf cB;have GI:=Az KT;clear KT;replace B4:=eq_true B4;have Ca:((nY):Int)<=((e6.length:Int):Int):=oA;obtain⟨avr,aci,_,amh,_⟩:=info_parts dE;have ami:=N2 (P:=Try.prog) 23 3 .i64 Try.underlying23 aci (some kN) e6.length o8 (nY) (oA) Ca (Kd.au lp.out).2.1;have KU:=Kd.MY (m:=((nY):Int).toNat) lp.out (by omega);have acj:y735.length=((nY):Int).toNat:=(by rw[KR.out,List.length_take];omega);rw[<-KR.out]at KU;rw[<-acj]at KU ami;clear acj aci amh lp;have GJ:=Az KU;clear KU;replace Ca:=eq_true Ca;obtain⟨sY,iY,r9⟩:=Kd.aH fp.out;subst r9;obtain⟨uh,amj,_,_,avs⟩:=aI (Kd.au fp.out).2.2 (pT);cases amj;have Rj:((pT):Int)<=((iz.length:Int):Int):=oA;obtain⟨avt,ack,_,amk,_⟩:=info_parts dE;have aml:=N2 (P:=Try.prog) 23 3 .i64 Try.underlying23 ack (some uh) iz.length iY (pT) (oA) Rj (Kd.au fp.out).2.1;have KV:=Kd.MY (m:=((pT):Int).toNat) fp.out (by omega);have acl:y739.length=((pT):Int).toNat:=(by rw[KS.out,List.length_take];omega);rw[<-KS.out]at KV;rw[<-acl]at KV aml;clear acl ack amk fp;have GK:=Az KV;clear KV;replace Rj:=eq_true Rj;have p52:0<=(lq:Int):=oA;have Cb:(lq:Int)<((eH.length:Int):Int):=oA;obtain⟨eI,dR,wx,GL,Rk,amm,GN⟩:=Kd.jQ aC.out (by omega);(first|cases wx|(injection wx with ea_ en_ ec_;(first|subst ea_|(injection ea_ with ea_;subst ea_));subst ec_;clear en_));have GQ:=Az GL;have acm:=Az GN;clear GL Rk GN;obtain⟨acn,aco⟩:=Kd.dd 0 aC.out (lq:Int) p52 Cb;replace p52:=eq_true p52;replace Cb:=eq_true Cb;have n_:=Az (Kd.ah (ok':=(fun k_=>some k_≠(.slice (some gp) y732.length mq:Value).ownBlock/\some k_≠(.slice (some kN) y735.length o8:Value).ownBlock/\some k_≠(.slice (some uh) y739.length iY:Value).ownBlock/\oV k_ gz/\oV k_ jV)) aC.out (fun k_ hk=>⟨hk.1.1,⟨hk.1.2.1,⟨hk.1.2.2.1,⟨hk.1.2.2.2,hk.2⟩⟩⟩⟩));clear aC;have aC:=n_;clear n_;obtain⟨avu,avv⟩:=Kd.dd 0 aC.out (lq:Int) (oA) (oA);have Rl:=Kd.jy aC.out (lq:Int) (rd iz (pT)))|((with_reducible refine gs 3 102 rfl ?_);refine sE 3 102 (nv.setCell ⟨eI,(lq:Int).toNat,none⟩ (.int .i64 (rd iz (pT)))) ?_;intro D6 hw;have hg:nv.grownBy D6 (some eI):=(by rw[hw];exact Rl.2);have hp_:Kd.R (Kd.int .i64) 3 D6 w.heap.size (fun k_=>some k_≠(.slice (some gp) y732.length mq:Value).ownBlock/\some k_≠(.slice (some kN) y735.length o8:Value).ownBlock/\some k_≠(.slice (some uh) y739.length iY:Value).ownBlock/\oV k_ gz/\oV k_ jV) (.slice (some ⟨eI,0,none⟩) eH.length dR) y742:=(by rw[hw,Rf.out];exact Rl.1);clear Rl;replace GI:=Az (Kd.cA (v:=(.slice (some ⟨eI,0,none⟩) eH.length dR)) (v1:=(.slice (some ⟨eI,0,none⟩) eH.length dR)) (ok:=(fun k_=>some k_≠(.slice (some kN) y735.length o8:Value).ownBlock/\some k_≠(.slice (some uh) y739.length iY:Value).ownBlock/\oV k_ gz/\oV k_ jV)) (rA (Kd.ah GI.out (fun _ hk=>⟨⟨hk.1.2.1,⟨hk.1.2.2.1,⟨hk.1.2.2.2,hk.2⟩⟩⟩,hk.1.1⟩))) hg (.inl rfl));replace GJ:=Az (Kd.cA (v:=(.slice (some ⟨eI,0,none⟩) eH.length dR)) (v1:=(.slice (some ⟨eI,0,none⟩) eH.length dR)) (ok:=(fun k_=>some k_≠(.slice (some gp) y732.length mq:Value).ownBlock/\some k_≠(.slice (some uh) y739.length iY:Value).ownBlock/\oV k_ gz/\oV k_ jV)) (rA (Kd.ah GJ.out (fun _ hk=>⟨⟨hk.1.2.1,⟨hk.1.2.2.1,⟨hk.1.2.2.2,hk.2⟩⟩⟩,hk.1.1⟩))) hg (.inl rfl));replace GK:=Az (Kd.cA (v:=(.slice (some ⟨eI,0,none⟩) eH.length dR)) (v1:=(.slice (some ⟨eI,0,none⟩) eH.length dR)) (ok:=(fun k_=>some k_≠(.slice (some gp) y732.length mq:Value).ownBlock/\some k_≠(.slice (some kN) y735.length o8:Value).ownBlock/\oV k_ gz/\oV k_ jV)) (rA (Kd.ah GK.out (fun _ hk=>⟨⟨hk.1.2.1,⟨hk.1.2.2.1,⟨hk.1.2.2.2,hk.2⟩⟩⟩,hk.1.1⟩))) hg (.inl rfl));replace d9:=Az (kG d9.out hg (Kd.cG aC.out d9.out (by decide)));replace aC:=Az (hp_);replace lX:=Az (Kd.cA (v:=(.slice (some ⟨eI,0,none⟩) eH.length dR)) (v1:=(.slice (some ⟨eI,0,none⟩) eH.length dR)) (ok:=(fun k_=>some k_≠(.slice (some gp) y732.length mq:Value).ownBlock/\some k_≠(.slice (some kN) y735.length o8:Value).ownBlock/\some k_≠(.slice (some uh) y739.length iY:Value).ownBlock/\oV k_ jV)) (rA (Kd.ah lX.out (fun _ hk=>⟨⟨hk.1.2.1,⟨hk.1.2.2.1,⟨hk.1.2.2.2,hk.2⟩⟩⟩,hk.1.1⟩))) hg (.inl rfl));replace o6:=Az (Kd.cA (v:=(.slice (some ⟨eI,0,none⟩) eH.length dR)) (v1:=(.slice (some ⟨eI,0,none⟩) eH.length dR)) (ok:=(fun k_=>some k_≠(.slice (some gp) y732.length mq:Value).ownBlock/\some k_≠(.slice (some kN) y735.length o8:Value).ownBlock/\some k_≠(.slice (some uh) y739.length iY:Value).ownBlock/\oV k_ gz)) (rA (Kd.ah o6.out (fun _ hk=>⟨⟨hk.2.1,⟨hk.2.2.1,⟨hk.2.2.2.1,hk.2.2.2.2⟩⟩⟩,hk.1⟩))) hg (.inl rfl));replace HB:=Az ((by rw[hw];exact ap (HB.out) GQ.out:Below w.heap.size w D6));clear hg hw hp_;have p55:0<=((rd iz (pT)):Int):=oA;have Cc:((rd iz (pT)):Int)<((eH.length:Int):Int):=oA;obtain⟨acp,acr⟩:=Kd.dd 0 aC.out ((rd iz (pT)):Int) p55 Cc;replace p55:=eq_true p55;replace Cc:=eq_true Cc;obtain⟨avw,avx⟩:=Kd.dd 0 aC.out ((rd iz (pT)):Int) (oA) (oA);have Rm:=Kd.jy aC.out ((rd iz (pT)):Int) lq)|((with_reducible refine gs 3 106 rfl ?_);refine sE 3 106 (D6.setCell ⟨eI,((rd iz (pT)):Int).toNat,none⟩ (.int .i64 lq)) ?_;intro GR hw;have hg:D6.grownBy GR (some eI):=(by rw[hw];exact Rm.2);have hp_:Kd.R (Kd.int .i64) 3 GR w.heap.size (fun k_=>some k_≠(.slice (some gp) y732.length mq:Value).ownBlock/\some k_≠(.slice (some kN) y735.length o8:Value).ownBlock/\some k_≠(.slice (some uh) y739.length iY:Value).ownBlock/\oV k_ gz/\oV k_ jV) (.slice (some ⟨eI,0,none⟩) eH.length dR) y743:=(by rw[hw,Rh.out];exact Rm.1);clear Rm;replace GI:=Az (Kd.cA (v:=(.slice (some ⟨eI,0,none⟩) eH.length dR)) (v1:=(.slice (some ⟨eI,0,none⟩) eH.length dR)) (ok:=(fun k_=>some k_≠(.slice (some kN) y735.length o8:Value).ownBlock/\some k_≠(.slice (some uh) y739.length iY:Value).ownBlock/\oV k_ gz/\oV k_ jV)) (rU GI.out) hg (.inl rfl));replace GJ:=Az (Kd.cA (v:=(.slice (some ⟨eI,0,none⟩) eH.length dR)) (v1:=(.slice (some ⟨eI,0,none⟩) eH.length dR)) (ok:=(fun k_=>some k_≠(.slice (some gp) y732.length mq:Value).ownBlock/\some k_≠(.slice (some uh) y739.length iY:Value).ownBlock/\oV k_ gz/\oV k_ jV)) (rU GJ.out) hg (.inl rfl));replace GK:=Az (Kd.cA (v:=(.slice (some ⟨eI,0,none⟩) eH.length dR)) (v1:=(.slice (some ⟨eI,0,none⟩) eH.length dR)) (ok:=(fun k_=>some k_≠(.slice (some gp) y732.length mq:Value).ownBlock/\some k_≠(.slice (some kN) y735.length o8:Value).ownBlock/\oV k_ gz/\oV k_ jV)) (rU GK.out) hg (.inl rfl));replace d9:=Az (kG d9.out hg (Kd.cG aC.out d9.out (by decide)));replace aC:=Az (hp_);replace lX:=Az (Kd.cA (v:=(.slice (some ⟨eI,0,none⟩) eH.length dR)) (v1:=(.slice (some ⟨eI,0,none⟩) eH.length dR)) (ok:=(fun k_=>some k_≠(.slice (some gp) y732.length mq:Value).ownBlock/\some k_≠(.slice (some kN) y735.length o8:Value).ownBlock/\some k_≠(.slice (some uh) y739.length iY:Value).ownBlock/\oV k_ jV)) (rU lX.out) hg (.inl rfl));replace o6:=Az (Kd.cA (v:=(.slice (some ⟨eI,0,none⟩) eH.length dR)) (v1:=(.slice (some ⟨eI,0,none⟩) eH.length dR)) (ok:=(fun k_=>some k_≠(.slice (some gp) y732.length mq:Value).ownBlock/\some k_≠(.slice (some kN) y735.length o8:Value).ownBlock/\some k_≠(.slice (some uh) y739.length iY:Value).ownBlock/\oV k_ gz)) (rU o6.out) hg (.inl rfl));replace HB:=Az ((by rw[hw];exact ap (HB.out) GQ.out:Below w.heap.size w GR));clear hg hw hp_))
    go_roundg k1
    case measure=>exact mO
    case rel=>exact⟨(GD),(GE),(y743),(y732),(y735),(y739),(dW),(wrap64 (lq+1)),rS,rS,H',⟨mO⟩,⟨rA (Kd.ah lX.out (fun _ hk=>⟨hk.1.2.2.2,⟨hk.2,⟨hk.1.1,⟨hk.1.2.1,hk.1.2.2.1⟩⟩⟩⟩))⟩,⟨rA (Kd.ah o6.out (fun _ hk=>⟨hk.1.2.2.2,⟨hk.2,⟨hk.1.1,⟨hk.1.2.1,hk.1.2.2.1⟩⟩⟩⟩))⟩,⟨rA (Kd.ah aC.out (fun _ hk=>⟨hk.2.2.2.1,⟨hk.2.2.2.2,⟨hk.1,⟨hk.2.1,hk.2.2.1⟩⟩⟩⟩))⟩,⟨rA (Kd.ah GI.out (fun _ hk=>⟨hk.1.2.2.1,⟨hk.1.2.2.2,⟨hk.2,⟨hk.1.1,hk.1.2.1⟩⟩⟩⟩))⟩,⟨rA (Kd.ah GJ.out (fun _ hk=>⟨hk.1.2.2.1,⟨hk.1.2.2.2,⟨hk.2,⟨hk.1.1,hk.1.2.1⟩⟩⟩⟩))⟩,⟨rA (Kd.ah GK.out (fun _ hk=>⟨hk.1.2.2.1,⟨hk.1.2.2.2,⟨hk.2,⟨hk.1.1,hk.1.2.1⟩⟩⟩⟩))⟩,⟨kU d9.out⟩,⟨bU1 HB.out sZ.out⟩⟩
  ·
   simp only[Option.some.injEq,Prod.mk.injEq]at H;obtain⟨rfl,rfl,rfl⟩:=H;have avy:=bc2 d9.out;go_wp2
   go_ret3
   exact⟨_,_,_,rE,by refine rA ?_;exact Kd.ah aG.out (fun _ hk=>⟨hk.1,hk.2.1⟩),by refine rA ?_;exact Kd.ah aM.out (fun _ hk=>⟨hk.1,hk.2.1⟩),by refine rA ?_;exact Kd.ah aC.out (fun _ hk=>⟨hk.1,hk.2.1⟩),bU1 HB.out sZ.out⟩
mutual
def eD.l0:Nat->List Int->List Int->Int->Option (List Int)
 |0,_,_,_=>none
 |k+1,x0,x3,x4=>if x4<(x0.length:Int)then(eD.l1 k x0 x3 x4 (-1) 1)else(some x3)
def eD.l1:Nat->List Int->List Int->Int->Int->Int->Option (List Int)
 |0,_,_,_,_,_=>none
 |k+1,x0,x3,x4,x5,x6=>if x6<(x0.length:Int)then(eD.j2 k x0 x3 x4 x5 x6 (decide (x5<0)))else(eD.j2 k x0 x3 x4 x5 x6 false)
def eD.j2:Nat->List Int->List Int->Int->Int->Int->Bool->Option (List Int)
 |0,_,_,_,_,_,_=>none
 |k+1,x0,x3,x4,x5,x6,nK=>if nK=true then(if(x0.length:Int)=0 then(none)else(if 0<=(Int.tmod (wrap64 (x4+x6)) (x0.length:Int))then(if(Int.tmod (wrap64 (x4+x6)) (x0.length:Int))<(x0.length:Int)then(if 0<=x4 then(if x4<(x0.length:Int)then(if(rd x0 (Int.tmod (wrap64 (x4+x6)) (x0.length:Int)))=(wrap64 ((rd x0 x4)-1))then(eD.l1 k x0 x3 x4 (Int.tmod (wrap64 (x4+x6)) (x0.length:Int)) (wrap64 (x6+1)))else(eD.l1 k x0 x3 x4 x5 (wrap64 (x6+1))))else(none))else(none))else(none))else(none)))else(if x3.length<17592186044416 then(eD.l0 k x0 (x3++[x5]) (wrap64 (x4+1)))else(none))
end
def eD.f (k:Nat) (l0:List Int):Option (List Int):=eD.l0 k l0 (([]:List Int)) 0
theorem eD.mono_l:∀k,(∀y0 y1 y2,LeO (eD.l0 k y0 y1 y2) (eD.l0 (k+1) y0 y1 y2))/\(∀y0 y1 y2 y3 y4,LeO (eD.l1 k y0 y1 y2 y3 y4) (eD.l1 (k+1) y0 y1 y2 y3 y4))/\(∀y0 y1 y2 y3 y4 y5,LeO (eD.j2 k y0 y1 y2 y3 y4 y5) (eD.j2 (k+1) y0 y1 y2 y3 y4 y5))
 |0=>⟨fun _ _ _ r h=>by simp[eD.l0]at h,fun _ _ _ _ _ r h=>by simp[eD.l1]at h,fun _ _ _ _ _ _ r h=>by simp[eD.j2]at h⟩
 |k+1=>by
  obtain⟨eV,ih1,ih2⟩:=eD.mono_l k;refine⟨?_,?_,?_⟩
  ·
   intro y0 y1 y2
   unfold eD.l0
   repeat' first
   |(with_reducible exact eV _ _ _)
   |(with_reducible exact ih1 _ _ _ _ _)
   |(with_reducible exact ih2 _ _ _ _ _ _)
   |(with_reducible exact LeO.refl _)
   |(with_reducible exact LeO.none _)
   |(with_reducible refine LeO.ite ?_ ?_)
   |(with_reducible refine LeO.bind ?_ (fun _=>?_))
   |exact eV _ _ _
   |exact ih1 _ _ _ _ _
   |exact ih2 _ _ _ _ _ _
   |exact LeO.none _
   |refine LeO.ite ?_ ?_
   |refine LeO.bind ?_ (fun _=>?_)
  ·
   intro y0 y1 y2 y3 y4
   unfold eD.l1
   repeat' first
   |(with_reducible exact eV _ _ _)
   |(with_reducible exact ih1 _ _ _ _ _)
   |(with_reducible exact ih2 _ _ _ _ _ _)
   |(with_reducible exact LeO.refl _)
   |(with_reducible exact LeO.none _)
   |(with_reducible refine LeO.ite ?_ ?_)
   |(with_reducible refine LeO.bind ?_ (fun _=>?_))
   |exact eV _ _ _
   |exact ih1 _ _ _ _ _
   |exact ih2 _ _ _ _ _ _
   |exact LeO.none _
   |refine LeO.ite ?_ ?_
   |refine LeO.bind ?_ (fun _=>?_)
  ·
   intro y0 y1 y2 y3 y4 y5
   unfold eD.j2
   repeat' first
   |(with_reducible exact eV _ _ _)
   |(with_reducible exact ih1 _ _ _ _ _)
   |(with_reducible exact ih2 _ _ _ _ _ _)
   |(with_reducible exact LeO.refl _)
   |(with_reducible exact LeO.none _)
   |(with_reducible refine LeO.ite ?_ ?_)
   |(with_reducible refine LeO.bind ?_ (fun _=>?_))
   |exact eV _ _ _
   |exact ih1 _ _ _ _ _
   |exact ih2 _ _ _ _ _ _
   |exact LeO.none _
   |refine LeO.ite ?_ ?_
   |refine LeO.bind ?_ (fun _=>?_)
theorem eD.mono:∀a0 k,LeO (eD.f k a0) (eD.f (k+1) a0):=by
 intro a0 k;obtain⟨eV,ih1,ih2⟩:=eD.mono_l k
 unfold eD.f
 repeat' first
  |(with_reducible exact eV _ _ _)
  |(with_reducible exact ih1 _ _ _ _ _)
  |(with_reducible exact ih2 _ _ _ _ _ _)
  |(with_reducible exact LeO.refl _)
  |(with_reducible exact LeO.none _)
  |(with_reducible refine LeO.ite ?_ ?_)
  |(with_reducible refine LeO.bind ?_ (fun _=>?_))
  |exact eV _ _ _
  |exact ih1 _ _ _ _ _
  |exact ih2 _ _ _ _ _ _
  |exact LeO.none _
  |refine LeO.ite ?_ ?_
  |refine LeO.bind ?_ (fun _=>?_)
set_option maxHeartbeats 8000000 in
set_option maxRecDepth 100000 in
theorem eD.calls (k:Nat) (A0:Option Addr) (c0:Nat) (l0:List Int) (r:List Int) (w:World) (hr0:Kd.C (Kd.int .i64) w A0 l0.length l0) (hc0:l0.length<=c0) (h:eD.f k l0=some r):
 Calls Try.prog 71 #[.slice A0 l0.length c0] w fun e w'=>∃bC:Value,e= .returned (bC)/\Kd.R (Kd.int .i64) 3 w' w.heap.size (fun _=>True) bC r/\Below w.heap.size w w':=by
 have dt:=Az hr0;have iX:=Az hc0;clear hr0 hc0;have HB:=bZ w;have H:=h;clear h;unfold eD.f at H;generalize KW:(([]:List Int):List Int)=y744 at H;replace KW:=Ay KW;have H':=Az H;clear H;go_enter Try.func71,Try.ntmps71
 go_wp2_with (first|((with_reducible refine gd 8 rfl ?_);refine Kd.ji (Kd.int .i64) _ 3 rfl (N:=8) rfl (xs:=([]:List Int)) (inner:=[]) (ok:=fun _=>True) (okp:=fun _=>True) hS ?hp (fun _ hk=>hk) trivial (Below.refl _ _) (Nat.le_refl _) (by simp) ?_;(case hp=>exact(Reps.none _ _));intro avz w2 ho3 hb hg_ hnew_;clear hg_ hnew_;(first|rw[<-KW.out]at ho3|(simp only[Int.reduceToNat]at ho3;rw[<-KW.out]at ho3));have amn:=Az (Kd.a7 ho3 (aQ (bU0 HB.out)));replace HB:=Az (ay (bU0 HB.out) hb);clear hb ho3))
 repeat (go_quiet (fail);try go_wp2_with (fail))
 go_loopg [3,4] k (fun kq v3 v4 w'=>∃(bc:List Int) (bF:Int),v4= .int .i64 bF/\ae (eD.l0 kq l0 bc bF=some r)/\ae (kq<=k)/\ae (Kd.R (Kd.int .i64) 3 w' w.heap.size (fun _=>True) v3 bc)/\ae (Below w.heap.size w w'))
 case atStart=>exact⟨(y744),(0),rS,H',⟨Nat.le_refl _⟩,⟨rU amn.out⟩,⟨bU0 HB.out⟩⟩
 case round=>
  clear H';obtain⟨bc,bF,rfl,HA,eZ,aZ,HB⟩:=hrel
  rcases gk with _|k1
  exact(nN HA.out).elim;have H:=HA.out;clear HA;simp only[eD.l0]at H
  by_cases c4:bF<(l0.length:Int)
  ·
   rw[if_pos c4]at H;have kL:=decide_eq_true c4;clear c4;have H':=Az H;clear H;go_wp2
   repeat (go_quiet (fail);try go_wp2)
   go_loopg [5,6] k1 (fun kq v5 v6 w'=>∃(dx:Int) (cm:Int),v5= .int .i64 dx/\v6= .int .i64 cm/\ae (eD.l1 kq l0 bc bF dx cm=some r)/\ae (kq<=k1)/\ae (Kd.R (Kd.int .i64) 3 w' w.heap.size (fun _=>True) u3 bc)/\ae (Below w.heap.size w w'))
   case atStart=>exact⟨((-1)),(1),rS,rS,H',⟨Nat.le_refl _⟩,⟨rU aZ.out⟩,⟨bU0 HB.out⟩⟩
   case round=>
    clear H';obtain⟨dx,cm,rfl,rfl,HA,eE,aZ,HB⟩:=hrel
    rcases gk with _|k2
    exact(nN HA.out).elim;have H:=HA.out;clear HA;simp only[eD.l1]at H;have Rn:=Az H;clear H
    go_upto_region 7 with(fail)
    repeat (go_quiet (fail);go_upto_region 7 with(fail))
    go_cut [22] (fun v22 wc=>∃(kq:Nat) (KX:Bool),v22= .bool KX/\ae (eD.j2 kq l0 bc bF dx cm KX=some r)/\ae (kq<=k2)/\ae (Kd.R (Kd.int .i64) 3 wc w.heap.size (fun _=>True) u3 bc)/\ae (Below w.heap.size w wc))
    case first=>
     have H:=Rn.out;clear Rn
     replace H:=gB H;rcases H with⟨kk,H⟩|⟨kk,H⟩
     ·
      have H':=Az H;clear H;go_wp2
      repeat (go_quiet (fail);try go_wp2)
      go_meet
      case rel=>exact⟨_,(decide (dx<0)),rS,H',⟨mO⟩,⟨rU aZ.out⟩,⟨bU0 HB.out⟩⟩
     ·
      have H':=Az H;clear H;go_wp2
      repeat (go_quiet (fail);try go_wp2)
      go_meet
      case rel=>exact⟨_,(false),rS,H',⟨mO⟩,⟨rU aZ.out⟩,⟨bU0 HB.out⟩⟩
    case rest=>
     clear Rn;obtain⟨kq,KX,rfl,HA,Eg,aZ,HB⟩:=hcut
     rcases kq with _|Ro
     exact(nN HA.out).elim;have H:=HA.out;clear HA;simp only[eD.j2]at H
     by_cases c7:KX=true
     ·
      subst c7;rw[if_pos rfl]at H
      by_cases c8:(l0.length:Int)=0
      ·rw[if_pos c8]at H;exact absurd H (by simp)
      ·
       rw[if_neg c8]at H;have jS:=beq_eq_false_iff_ne.mpr c8;have Rp:=bne_iff_ne.mpr c8
       have avA:¬(l0=[]):=fun h_=>c8 (by rw[h_];rfl)
       obtain⟨Ee,xz⟩:∃j_:Int,(Int.tmod (wrap64 (bF+cm)) (l0.length:Int))=j_:=⟨_,rfl⟩;(first|rw[xz]at H|simp only[xz]at H);replace H:=gD4 H;obtain⟨ni,rT,yW,vW,H⟩:=H
       replace H:=gQ H;rcases H with⟨yZ,amo,H⟩|⟨yZ,amo,H⟩
       ·
        have H':=Az H;clear H;obtain⟨amq,Rq,amr,ams,GT⟩:=aI dt.out (Ee)
        cases Rq
        replace GT:=hT HB.out GT;obtain⟨amt,amu,GU⟩:=aJ dt.out bF;replace GU:=hT HB.out GU;go_wp2
        repeat (go_quiet (fail);try go_wp2)
        go_roundg Ro
        case measure=>have:=eZ.out;have:=eE.out;have:=Eg.out;omega
        case rel=>exact⟨(Ee),(wrap64 (cm+1)),(by first|rfl|(simp;done)|(simp only[<-xz]<;>(first|rfl|simp))|(simp[*];done)),rS,H',⟨by have:=eZ.out;have:=eE.out;have:=Eg.out;omega⟩,⟨rU aZ.out⟩,⟨bU0 HB.out⟩⟩
       ·
        have H':=Az H;clear H;obtain⟨amq,Rq,amr,ams,GT⟩:=aI dt.out (Ee)
        cases Rq
        replace GT:=hT HB.out GT;obtain⟨amt,amu,GU⟩:=aJ dt.out bF;replace GU:=hT HB.out GU;go_wp2
        repeat (go_quiet (fail);try go_wp2)
        go_roundg Ro
        case measure=>have:=eZ.out;have:=eE.out;have:=Eg.out;omega
        case rel=>exact⟨(dx),(wrap64 (cm+1)),rS,rS,H',⟨by have:=eZ.out;have:=eE.out;have:=Eg.out;omega⟩,⟨rU aZ.out⟩,⟨bU0 HB.out⟩⟩
     ·
      replace c7:=Bool.eq_false_iff.mpr c7;subst c7;rw[if_neg nT]at H;replace H:=gP H;obtain⟨c15,H⟩:=H;have amv:=Az c15;clear c15;generalize Rs:(bc++[dx]:List Int)=y749 at H;replace Rs:=Ay Rs;have H':=Az H;clear H
      go_wp2_with (first|((with_reducible refine mf (b:=.append) (xs:=#[.tmp 42,.tmp 44]) rfl ?_);at_builtin;refine Kd.na (Kd.int .i64) (w0:=w) w.heap.size rfl (.tmp 42) (.tmp 44) 23 3 (.int .i64 0) 8 rfl Try.underlying23 dE rfl (by decide) (by omega) u3 bc dx [.int .i64 dx] (fun _=>True) (fun _=>False) rfl rfl ?aP (fun _ hk=>hk.elim) ?aF ?aO ?aB ?aS ?aL ?_;(case aP=>exact rfl);(case aB=>exact(bU0 HB.out));(case aF=>exact(fun _ _=>trivial));(case aO=>exact(rU aZ.out));(case aS=>exact(aQ (bU0 HB.out)));(case aL=>have:=amv.out;omega);intro avB w16 ho hb hg hat;rw[<-Rs.out]at ho;replace HB:=Az (hb);have amw:=Az (ho);clear aZ ho hb hg hat))
      repeat (go_quiet (fail);try go_wp2_with (fail))
      go_roundg Ro
      case measure=>have:=eZ.out;have:=eE.out;have:=Eg.out;omega
      case rel=>exact⟨(y749),(wrap64 (bF+1)),rS,H',⟨by have:=eZ.out;have:=eE.out;have:=Eg.out;omega⟩,⟨rU amw.out⟩,⟨bU0 HB.out⟩⟩
  ·
   rw[if_neg c4]at H;have kL:=decide_eq_false c4;clear c4;obtain rfl:=Option.some.inj H;go_wp2
   repeat (go_quiet (fail);try go_wp2)
   go_ret;exact⟨_,rE,rU aZ.out,bU0 HB.out⟩
def fJ.l0:Nat->Int->List Int->Int->Option (List Int)
 |0,_,_,_=>none
 |k+1,x0,x3,x4=>if x4<x0 then((some (([wrap64 ((wrap64 (2*x4))+1),wrap64 (2*x4)]:List Int):List Int)).bind fun Eh=>(if x3.length+Eh.length<17592186044416 then(fJ.l0 k x0 (x3++Eh) (wrap64 (x4+1)))else(none)))else(some x3)
def fJ.f (k:Nat) (a0:Int):Option (List Int):=fJ.l0 k a0 (([]:List Int)) 0
theorem fJ.mono_l:∀k,(∀y0 y1 y2,LeO (fJ.l0 k y0 y1 y2) (fJ.l0 (k+1) y0 y1 y2))
 |0=>fun _ _ _ r h=>by simp[fJ.l0]at h
 |k+1=>by
  have eV:=fJ.mono_l k
  ·
   intro y0 y1 y2
   unfold fJ.l0
   repeat' first
   |(with_reducible exact eV _ _ _)
   |(with_reducible exact LeO.refl _)
   |(with_reducible exact LeO.none _)
   |(with_reducible refine LeO.ite ?_ ?_)
   |(with_reducible refine LeO.bind ?_ (fun _=>?_))
   |exact eV _ _ _
   |exact LeO.none _
   |refine LeO.ite ?_ ?_
   |refine LeO.bind ?_ (fun _=>?_)
theorem fJ.mono:∀a0 k,LeO (fJ.f k a0) (fJ.f (k+1) a0):=by
 intro a0 k;have eV:=fJ.mono_l k
 unfold fJ.f
 repeat' first
  |(with_reducible exact eV _ _ _)
  |(with_reducible exact LeO.refl _)
  |(with_reducible exact LeO.none _)
  |(with_reducible refine LeO.ite ?_ ?_)
  |(with_reducible refine LeO.bind ?_ (fun _=>?_))
  |exact eV _ _ _
  |exact LeO.none _
  |refine LeO.ite ?_ ?_
  |refine LeO.bind ?_ (fun _=>?_)
set_option maxHeartbeats 8000000 in
set_option maxRecDepth 100000 in
theorem fJ.calls (k:Nat) (a0:Int) (r:List Int) (w:World) (h:fJ.f k a0=some r):
 Calls Try.prog 72 #[.int .i64 a0] w fun e w'=>∃bC:Value,e= .returned (bC)/\Kd.R (Kd.int .i64) 3 w' w.heap.size (fun _=>True) bC r/\Below w.heap.size w w':=by
 have HB:=bZ w;have H:=h;clear h;unfold fJ.f at H;generalize KY:(([]:List Int):List Int)=y752 at H;replace KY:=Ay KY;have H':=Az H;clear H;go_enter Try.func72,Try.ntmps72
 go_wp2_with (first|((with_reducible refine gd 5 rfl ?_);refine Kd.ji (Kd.int .i64) _ 3 rfl (N:=5) rfl (xs:=([]:List Int)) (inner:=[]) (ok:=fun _=>True) (okp:=fun _=>True) hS ?hp (fun _ hk=>hk) trivial (Below.refl _ _) (Nat.le_refl _) (by simp) ?_;(case hp=>exact(Reps.none _ _));intro avC w2 ho3 hb hg_ hnew_;clear hg_ hnew_;(first|rw[<-KY.out]at ho3|(simp only[Int.reduceToNat]at ho3;rw[<-KY.out]at ho3));have amx:=Az (Kd.a7 ho3 (aQ (bU0 HB.out)));replace HB:=Az (ay (bU0 HB.out) hb);clear hb ho3))
 go_loopg [3,4] k (fun kq v3 v4 w'=>∃(bc:List Int) (bF:Int),v4= .int .i64 bF/\ae (fJ.l0 kq a0 bc bF=some r)/\ae (kq<=k)/\ae (Kd.R (Kd.int .i64) 3 w' w.heap.size (fun _=>True) v3 bc)/\ae (Below w.heap.size w w'))
 case atStart=>exact⟨(y752),(0),rS,H',⟨Nat.le_refl _⟩,⟨rU amx.out⟩,⟨bU0 HB.out⟩⟩
 case round=>
  clear H';obtain⟨bc,bF,rfl,HA,eZ,aZ,HB⟩:=hrel
  rcases gk with _|k1
  exact(nN HA.out).elim;have H:=HA.out;clear HA;simp only[fJ.l0]at H
  replace H:=gB H;rcases H with⟨kL,H⟩|⟨kL,H⟩
  ·
   generalize KZ:(([wrap64 ((wrap64 (2*bF))+1),wrap64 (2*bF)]:List Int):List Int)=Eh at H;simp only[Option.bind_some]at H;replace KZ:=Ay KZ;replace H:=gP H;obtain⟨c5,H⟩:=H;have Py:=Az c5;clear c5;generalize Rt:(bc++Eh:List Int)=y758 at H;replace Rt:=Ay Rt;have H':=Az H;clear H
   go_wp2_with (first|((with_reducible refine gd 17 rfl ?_);refine Kd.ji (Kd.int .i64) _ 3 rfl (N:=17) rfl (xs:=([wrap64 ((wrap64 (2*bF))+1),wrap64 (2*bF)]:List Int)) (inner:=[.int .i64 (wrap64 ((wrap64 (2*bF))+1)),.int .i64 (wrap64 (2*bF))]) (ok:=fun _=>True) (okp:=fun _=>True) hS ?hp (fun _ hk=>hk) trivial (Below.refl _ _) (Nat.le_refl _) (by simp) ?_;(case hp=>exact(Reps.one (show Kd.M (Kd.int .i64) _ _ _ (wrap64 ((wrap64 (2*bF))+1)) [.int .i64 (wrap64 ((wrap64 (2*bF))+1))]from rfl) (Reps.one (show Kd.M (Kd.int .i64) _ _ _ (wrap64 (2*bF)) [.int .i64 (wrap64 (2*bF))]from rfl) (Reps.none _ _))));intro avD w6 lc hb hg_ hnew_;clear hg_ hnew_;(first|rw[<-KZ.out]at lc|(simp only[Int.reduceToNat]at lc;rw[<-KZ.out]at lc));have GV:=Az (Kd.a7 (Kd.aD lc (Kd.ar (rU aZ.out))) (aQ (bU0 HB.out)));replace aZ:=Az (Kd.aW (rU aZ.out) (Kd.ax lc) hb);replace HB:=Az (ay (bU0 HB.out) hb);clear hb lc;obtain⟨df,cd,pP⟩:=Kd.aH GV.out;subst pP)|((with_reducible refine mf (b:=.append) (xs:=#[.tmp 11,.tmp 17]) rfl ?_);at_builtin;refine Kd.ahF (Kd.int .i64) (w0:=w) w.heap.size rfl (.tmp 11) (.tmp 17) 23 3 (.int .i64 0) 8 rfl Try.underlying23 dE rfl (by decide) (by omega) u3 bc Eh _ _ _ (fun k_=>oS k_ df Eh.length cd) (fun _=>False) rfl rfl ?aO ?aR (fun _ _ h=>h) (fun _ h=>h.elim) ?aF ?aB ?aS ?aL ?_;(case aR=>exact cU ((Kd.au GV.out).2.2));(case aB=>exact(bU0 HB.out));(case aF=>exact(fun k_ hk=>Kd.dD (Kd.ar (rU GV.out)) k_ hk));(case aO=>exact(rU (Kd.ah aZ.out (fun _ hk=>hk.2))));(case aS=>exact(aQ (bU0 HB.out)));(case aL=>have:=Py.out;omega);intro avE w8 ho hb hg hat;rw[<-Rt.out]at ho;replace GV:=Az (Kd.cA (ok:=(fun _=>True)) (rU GV.out) hg hat);replace HB:=Az (hb);have amy:=Az (ho);clear aZ ho hb hg hat))
   go_roundg k1
   case measure=>exact mO
   case rel=>exact⟨(y758),(wrap64 (bF+1)),rS,H',⟨mO⟩,⟨rM amy.out⟩,⟨bU0 HB.out⟩⟩
  ·obtain rfl:=Option.some.inj H;go_wp2;go_ret;exact⟨_,rE,rU aZ.out,bU0 HB.out⟩
def fG.l0:Nat->List Int->List Int->Int->Option (List Int)
 |0,_,_,_=>none
 |k+1,x0,x1,x4=>if x4<(x1.length:Int)then(if 0<=x4 then(if(x1.length:Int)=0 then(none)else(if 0<=(Int.tmod (wrap64 (x4+1)) (x1.length:Int))then(if(Int.tmod (wrap64 (x4+1)) (x1.length:Int))<(x1.length:Int)then(if 0<=(rd x1 x4)then(if(rd x1 x4)<(x0.length:Int)then(fG.l0 k (x0.set ((rd x1 x4):Int).toNat (rd x1 (Int.tmod (wrap64 (x4+1)) (x1.length:Int)))) x1 (wrap64 (x4+1)))else(none))else(none))else(none))else(none)))else(none))else(some x0)
def fG.f (k:Nat) (l0:List Int) (l1:List Int):Option (List Int):=fG.l0 k l0 l1 0
theorem fG.mono_l:∀k,(∀y0 y1 y2,LeO (fG.l0 k y0 y1 y2) (fG.l0 (k+1) y0 y1 y2))
 |0=>fun _ _ _ r h=>by simp[fG.l0]at h
 |k+1=>by
  have eV:=fG.mono_l k
  ·
   intro y0 y1 y2
   unfold fG.l0
   repeat' first
   |(with_reducible exact eV _ _ _)
   |(with_reducible exact LeO.refl _)
   |(with_reducible exact LeO.none _)
   |(with_reducible refine LeO.ite ?_ ?_)
   |(with_reducible refine LeO.bind ?_ (fun _=>?_))
   |exact eV _ _ _
   |exact LeO.none _
   |refine LeO.ite ?_ ?_
   |refine LeO.bind ?_ (fun _=>?_)
theorem fG.mono:∀a0 a1 k,LeO (fG.f k a0 a1) (fG.f (k+1) a0 a1):=by
 intro a0 a1 k;have eV:=fG.mono_l k
 unfold fG.f
 repeat' first
  |(with_reducible exact eV _ _ _)
  |(with_reducible exact LeO.refl _)
  |(with_reducible exact LeO.none _)
  |(with_reducible refine LeO.ite ?_ ?_)
  |(with_reducible refine LeO.bind ?_ (fun _=>?_))
  |exact eV _ _ _
  |exact LeO.none _
  |refine LeO.ite ?_ ?_
  |refine LeO.bind ?_ (fun _=>?_)
def fG.T3:Bool×List (List Nat×List Nat):=(true,[([],[]),([],[]),([],[]),([1,2],[1,2]),([3],[3]),([],[]),([],[]),([6],[6]),([],[]),([8],[8]),([7,9],[7,9]),([5,10],[5,10]),([11],[11]),([0,4,0,1,2,3,4,5,6,7,8,9,10,11,12],[0,4]),([13,12,0,1,2,3,4,5,6,7,8,9,10,11,12],[12,13])])
def fG.B3:List Nat:=[0,0,0,6,14,0,0,64,0,256,960,2016,4064,8191,16383]
theorem fG.AC:rtab .any (opsOf Try.f73 3)=fG.T3:=by kernel_rfl
theorem fG.AU:gG fG.T3.2 fG.B3=true:=by kernel_rfl
set_option maxHeartbeats 8000000 in
set_option maxRecDepth 100000 in
theorem fG.calls (k:Nat) (lL:Nat->Prop) (rX:Value) (l0:List Int) (A1:Option Addr) (c1:Nat) (l1:List Int) (r:List Int) (w0 w:World) (hB:Below w0.heap.size w0 w) (ho0:Kd.R (Kd.int .i64) 3 w w0.heap.size lL rX l0) (hr1:∀W_,Kept w W_ (fun k_=>lL k_)->Kd.C (Kd.int .i64) W_ A1 l1.length l1) (hc1:l1.length<=c1) (h:fG.f k l0 l1=some r):
 Calls Try.prog 73 #[rX,.slice A1 l1.length c1] w fun e w'=>e= .returned (.tuple #[])/\Kd.R (Kd.int .i64) 3 w' w0.heap.size (fun k_=>(lL k_\/w.heap.size<=k_)) rX r/\Below w0.heap.size w0 w'/\Kept w w' (fun k_=>lL k_):=by
 have JH:=Az (show Kd.R (Kd.int .i64) 3 w w0.heap.size (fun k_=>(lL k_\/w.heap.size<=k_)) rX l0 from Kd.ah ho0 (fun k_ hk=>(.inl hk)));have HR1:=Az hr1;have ml:=Az hc1;clear hr1 hc1;have HK:=Az (Kept.refl w (fun k_=>lL k_));have HW0:=Az hB.size;have HB:=Az hB;clear hB;have H:=h;clear h;unfold fG.f at H;have H':=Az H;clear H;go_enter Try.func73,Try.ntmps73;go_wp2
 go_loopg [4] k (fun kq v4 w'=>∃(oP:List Int) (bF:Int),v4= .int .i64 bF/\ae (fG.l0 kq oP l1 bF=some r)/\ae (kq<=k)/\ae (Kd.R (Kd.int .i64) 3 w' w0.heap.size (fun k_=>(lL k_\/w.heap.size<=k_)) rX oP)/\ae (Kept w w' (fun k_=>lL k_))/\ae (Below w0.heap.size w0 w'))
 case atStart=>exact⟨(l0),(0),rS,H',⟨Nat.le_refl _⟩,⟨rU JH.out⟩,⟨qr_⟩,⟨bU0 HB.out⟩⟩
 case round=>
  clear H';obtain⟨oP,bF,rfl,HA,eZ,lM,HK,HB⟩:=hrel
  rcases gk with _|k1
  exact(nN HA.out).elim;have H:=HA.out;clear HA;simp only[fG.l0]at H
  replace H:=gB H;rcases H with⟨lJ,H⟩|⟨lJ,H⟩
  ·
   replace H:=gD1 H;obtain⟨kL,H⟩:=H
   by_cases c5:(l1.length:Int)=0
   ·rw[if_pos c5]at H;exact absurd H (by simp)
   ·
    rw[if_neg c5]at H;have qZ:=beq_eq_false_iff_ne.mpr c5;have avF:=bne_iff_ne.mpr c5
    have avG:¬(l1=[]):=fun h_=>c5 (by rw[h_];rfl)
    obtain⟨nk,t6⟩:∃j_:Int,(Int.tmod (wrap64 (bF+1)) (l1.length:Int))=j_:=⟨_,rfl⟩;(first|rw[t6]at H|simp only[t6]at H);replace H:=gD4 H;obtain⟨jl,jS,mK,ni,H⟩:=H;generalize Ru:(oP.set ((rd l1 bF):Int).toNat (rd l1 (nk)):List Int)=y763 at H;replace Ru:=Ay Ru;have H':=Az H;clear H
    try go_wp2
    replace lM:=Az (Kd.bK lM.out);replace HK:=Az (Kept.drew HK.out);replace HB:=Az (a8 HB.out);obtain⟨Rv,amz,amA,amB,acs⟩:=aI (Kd.WW HR1.out HK.out) bF;have avH:=acs
    cases amz;obtain⟨amC,amD,amE,amF,acu⟩:=aI (Kd.WW HR1.out HK.out) (nk);have avI:=acu;obtain rfl:Rv=amC:=(by injection amD);have t8:0<=((rd l1 bF):Int):=oA;have uT:((rd l1 bF):Int)<((oP.length:Int):Int):=oA;obtain⟨wb,fj,qo,zn,Gf,aaW,zo⟩:=Kd.jQ lM.out (by omega);(first|cases qo|(injection qo with ea_ en_ ec_;(first|subst ea_|(injection ea_ with ea_;subst ea_));subst ec_;clear en_));have Gg:=Az zn;have PW:=Az zo;clear zn Gf zo;have Rw:=Az (show(lL wb\/w.heap.size<=wb)from(lM.out.1 _ rfl));obtain⟨PX,PY⟩:=Kd.dd 0 lM.out ((rd l1 bF):Int) t8 uT;replace t8:=eq_true t8;replace uT:=eq_true uT;have Cd:=Kd.qY lM.out ((rd l1 bF):Int) (rd l1 (nk));rw[<-Ru.out]at Cd;have acv:=Az Cd;clear Cd;refine eX (n:=15) (S:=fun w'=>w'.cell? (Rv.add (bF).toNat)=some (.int .i64 (rd l1 bF))/\w'.cell? (Rv.add ((nk)).toNat)=some (.int .i64 (rd l1 (nk)))) (ds:=[14]) (bv 15 0) (by kernel_rfl) rfl rfl ⟨(Kd.Y3 (HR1.out _ (by repeat (first|exact HK.out|apply Kept.alloc|apply Kept.drewN|apply Kept.drew|refine Kept.setCell ?_ Rw.out _))) bF (of_eq_true amA) (of_eq_true amB)),(Kd.Y3 (HR1.out _ (by repeat (first|exact HK.out|apply Kept.alloc|apply Kept.drewN|apply Kept.drew|refine Kept.setCell ?_ Rw.out _))) (nk) (of_eq_true amE) (of_eq_true amF))⟩ (fun hHeld=>?_);refine fL fG.AC fG.AU (fun HT_ HW_=>?_);generalize wr.drew=nJ at lM HK HB PW acv PY PX acs acu hHeld ⊢;refine av (i:=0) (N:=some 11) (v:=?_) (a':=?_) (bv 15 1) rfl rfl (ao HT_.out (by kernel_rfl)) (fun _ _ _ h=>h) (Or.inl ⟨by rfl,?_⟩) ?_ ?_;rotate_left;(exact yP);rotate_left;(exact aP);refine av (i:=1) (N:=some 12) (v:=?_) (a':=?_) (bv 15 3) rfl rfl (ao HT_.out (by kernel_rfl)) (fun _ _ _ h=>h) (Or.inl ⟨by rfl,?_⟩) ?_ ?_;rotate_left;(exact yP);rotate_left;(exact aP);refine av (i:=2) (N:=some 13) (v:=?_) (a':=?_) (bv 15 7) rfl rfl (ao HT_.out (by kernel_rfl)) (fun _ _ _ h=>h) (Or.inl ⟨by rfl,?_⟩) ?_ ?_;rotate_left;(exact yP);rotate_left;(exact aP);refine av (i:=3) (N:=some 14) (v:=?_) (a':=?_) (bv 15 15) rfl rfl (ao HT_.out (by kernel_rfl)) (fun _ _ _ h=>h) (Or.inl ⟨by rfl,?_⟩) ?_ ?_;rotate_left;(exact yP);rotate_left;(exact aP);refine av (i:=5) (N:=some 16) (v:=?_) (a':=?_) (bv 15 47) rfl rfl (ao HT_.out (by kernel_rfl)) (fun _ _ _ h=>h) (Or.inl ⟨by rfl,?_⟩) ?_ ?_;rotate_left;(exact yP);rotate_left;(exact aP);refine av (i:=6) (N:=some 17) (v:=?_) (a':=?_) (bv 15 111) rfl rfl (ao HT_.out (by kernel_rfl)) (fun _ _ _ h=>h) (Or.inl ⟨by rfl,?_⟩) ?_ ?_;rotate_left;(exact yP);rotate_left;(exact aP);refine av (i:=7) (N:=some 18) (v:=?_) (a':=?_) (bv 15 239) rfl rfl (ao HT_.out (by kernel_rfl)) (fun _ _ _ h=>h) (Or.inl ⟨by rfl,?_⟩) ?_ ?_;rotate_left;(exact yP);rotate_left;(exact aP);refine av (i:=8) (N:=some 19) (v:=?_) (a':=?_) (bv 15 495) rfl rfl (ao HT_.out (by kernel_rfl)) (fun _ _ _ h=>h) (Or.inl ⟨by rfl,?_⟩) ?_ ?_;rotate_left;(exact yP);rotate_left;(exact aP);refine av (i:=9) (N:=some 20) (v:=?_) (a':=?_) (bv 15 1007) rfl rfl (ao HT_.out (by kernel_rfl)) (fun _ _ _ h=>h) (Or.inl ⟨by rfl,?_⟩) ?_ ?_;rotate_left;(exact yP);rotate_left;(exact aP);refine av (i:=10) (N:=some 21) (v:=?_) (a':=?_) (bv 15 2031) rfl rfl (ao HT_.out (by kernel_rfl)) (fun _ _ _ h=>h) (Or.inl ⟨by rfl,?_⟩) ?_ ?_;rotate_left;(exact yP);rotate_left;(exact aP);refine av (i:=11) (N:=some 22) (v:=?_) (a':=?_) (bv 15 4079) rfl rfl (ao HT_.out (by kernel_rfl)) (fun _ _ _ h=>h) (Or.inl ⟨by rfl,?_⟩) ?_ ?_;rotate_left;(exact yP);rotate_left;(exact aP);refine bS (i:=4) (N:=some 15) (v:=?_) (a':=?_) (bv 15 4095) rfl rfl (bW HT_.out HW_.out (by kernel_rfl)) (fun _ _ _ h=>h) (Or.inl ⟨by rfl,?_⟩) hHeld ?_ ?_;rotate_left
    ·
     rintro w' ⟨s0,s1⟩;go_simp
     with_reducible rfl
    rotate_left;(exact aP);refine bS (i:=12) (N:=some 23) (v:=?_) (a':=?_) (bv 15 8191) rfl rfl (bW HT_.out HW_.out (by kernel_rfl)) (fun _ _ _ h=>h) (Or.inl ⟨by rfl,?_⟩) hHeld ?_ ?_;rotate_left
    ·
     rintro w' ⟨s0,s1⟩;go_simp
     with_reducible rfl
    rotate_left;(exact aP);refine av (i:=13) (N:=some 24) (v:=?_) (a':=?_) (bv 15 16383) rfl rfl (ao HT_.out (by kernel_rfl)) (fun _ _ _ h=>h) (Or.inl ⟨by rfl,?_⟩) ?_ ?_;rotate_left;(exact yP);rotate_left;(exact aP);refine k9 (i:=14) (N:=none) (bv 15 32767) rfl rfl (cJ HT_.out (by kernel_rfl)) (by decide) (fun K hK=>?_);refine iW (w1:=?_) (by rfl) rfl ?_ ?_;rotate_left
    ·go_simp;rfl
    refine hK.out _ _ ?_;clear hK K;refine eY (fN HT_.out (by kernel_rfl)) ?_
    try go_wp2
    go_roundg k1
    case measure=>exact mO
    case rel=>exact⟨(y763),(wrap64 (bF+1)),rS,H',⟨mO⟩,⟨rU acv.out⟩,⟨by repeat (first|(with_reducible first|exact HK.out|apply Kept.alloc|apply Kept.drewN|apply Kept.drew|refine Kept.setCell ?_ Rw.out _)|exact HK.out)⟩,⟨bU1 HB.out Gg.out⟩⟩
  ·
   obtain rfl:=Option.some.inj H;go_wp2
   first|go_end0|((try simp only[Exit.inBlock,Exit.then]);refine bodyPost_ret (results_none rfl _ _ _) rfl ?_)
   exact⟨rE,rU lM.out,bU0 HB.out,qr_⟩
end Go.Proofs.Ytlpbalebodlipaa.PL
