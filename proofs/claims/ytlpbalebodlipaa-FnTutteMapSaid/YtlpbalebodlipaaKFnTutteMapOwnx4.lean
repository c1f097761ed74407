/- A part of the proof of FnTutteMap. There are no conditions. -/
import Derived.Test.YtlpbalebodlipaaKFnTutteMapOwnx3
namespace Go.Proofs.Ytlpbalebodlipaa.PL
open Go.RowKit Go.Proofs.YtlpbalebodlipaaW.PrintWords Go.Proofs.YtlpbalebodlipaaW.PrintLast Go.Proofs.YtlpbalebodlipaaW.PrintMore
theorem tx {p:Prop} (h:p:=by first|(simp only[gv,Act.put,List.setIfInBounds_toArray,List.set_cons_zero,List.set_cons_succ];done)|(simp only[gv,Act.put,List.setIfInBounds_toArray,List.set_cons_zero,List.set_cons_succ];rfl)):p:=h
theorem j6 {p:Prop} (h:p:=by exact(bU3 HB.out mr.out o9.out jf.out)):p:=h
theorem iI {p:Prop} (h:p:=by exact(bU2 HB.out mr.out o9.out)):p:=h
theorem I3 {p:Prop} (h:p:=by exact(Kd.aD (Kd.aD (Kd.aD (Kd.aD ho0 (Kd.ar (rU ee.out))) (Kd.ar (rU dZ.out))) (Kd.ar (rU eu.out))) (Kd.ar (rU d6.out)))):p:=h
theorem WS {p:Prop} (h:p:=by first|exact Kd.FB (Kd.cG nZ.out bu.out (by decide))|(rw[add_block];exact Kd.FB (Kd.cG nZ.out bu.out (by decide)))|(show(Addr.add _ _).block≠_;rw[add_block];exact Kd.FB (Kd.cG nZ.out bu.out (by decide)))|(dsimp only;exact Kd.FB (Kd.cG nZ.out bu.out (by decide)))):p:=h
theorem XB {p:Prop} (h:p:=by exact(Kd.cA (ok:=(fun k_=>some k_≠(.slice (some tc) bg.length qt:Value).ownBlock/\oV k_ fC/\oV k_ da)) (rA (Kd.ah cB.out (fun _ hk=>⟨⟨hk.1,⟨hk.2.2.1,hk.2.2.2⟩⟩,hk.2.1⟩))) hg hat)):p:=h
theorem Wz {p:Prop} (h:p:=by exact rA (Kd.ah jq.out (fun _ hk=>⟨hk.1.1.1.1.2,⟨hk.1.1.1.2,⟨hk.1.1.2,⟨hk.1.2,hk.2⟩⟩⟩⟩))):p:=h
theorem Xo {p:Prop} (h:p:=by exact rA (Kd.ah jr.out (fun _ hk=>⟨hk.1.1.1.1.2,⟨hk.1.1.1.2,⟨hk.1.1.2,⟨hk.1.2,hk.2⟩⟩⟩⟩))):p:=h
theorem Yy {p:Prop} (h:p:=by exact rA (Kd.ah ee.out (fun _ hk=>⟨hk.1.1,⟨hk.1.2.1,⟨hk.1.2.2.1,⟨hk.2,hk.1.2.2.2⟩⟩⟩⟩))):p:=h
theorem WY {p:Prop} (h:p:=by exact rA (Kd.ah dZ.out (fun _ hk=>⟨hk.1.1,⟨hk.1.2.1,⟨hk.1.2.2.1,⟨hk.2,hk.1.2.2.2⟩⟩⟩⟩))):p:=h
theorem Xn {p:Prop} (h:p:=by exact rA (Kd.ah eu.out (fun _ hk=>⟨hk.1.1,⟨hk.1.2.1,⟨hk.1.2.2.1,⟨hk.2,hk.1.2.2.2⟩⟩⟩⟩))):p:=h
theorem Yc {p:Prop} (h:p:=by exact rA (Kd.ah d6.out (fun _ hk=>⟨hk.1.1,⟨hk.1.2.1,⟨hk.1.2.2.1,⟨hk.2,hk.1.2.2.2⟩⟩⟩⟩))):p:=h
theorem Yi {p:Prop} (h:p:=by exact rA (Kd.ah jr.out (fun _ hk=>⟨hk.1.1,⟨hk.1.2.1,⟨hk.1.2.2.1,⟨hk.1.2.2.2,hk.2⟩⟩⟩⟩))):p:=h
theorem Xk {p:Prop} (h:p:=by exact rA (Kd.ah ee.out (fun _ hk=>⟨hk.1.1,⟨hk.1.2.1,⟨hk.1.2.2.1,⟨hk.1.2.2.2,hk.2⟩⟩⟩⟩))):p:=h
theorem YG {p:Prop} (h:p:=by exact rA (Kd.ah dZ.out (fun _ hk=>⟨hk.1.1,⟨hk.1.2.1,⟨hk.1.2.2.1,⟨hk.1.2.2.2,hk.2⟩⟩⟩⟩))):p:=h
theorem Zc {p:Prop} (h:p:=by exact rA (Kd.ah eu.out (fun _ hk=>⟨hk.1.1,⟨hk.1.2.1,⟨hk.1.2.2.1,⟨hk.1.2.2.2,hk.2⟩⟩⟩⟩))):p:=h
theorem VD {p:Prop} (h:p:=by exact rA (Kd.ah d6.out (fun _ hk=>⟨hk.1.1,⟨hk.1.2.1,⟨hk.1.2.2.1,⟨hk.1.2.2.2,hk.2⟩⟩⟩⟩))):p:=h
theorem Zv {p:Prop} (h:p:=by exact rA (Kd.ah jq.out (fun _ hk=>⟨hk.1.1,⟨hk.1.2.1,⟨hk.1.2.2.1,⟨hk.1.2.2.2,hk.2⟩⟩⟩⟩))):p:=h
theorem Vp {p:Prop} (h:p:=by exact rA (Kd.ah d6.out (fun _ hk=>⟨hk.1.1.1.2,⟨hk.1.1.2,⟨hk.1.2,hk.2⟩⟩⟩))):p:=h
theorem Vw {p:Prop} (h:p:=by exact rA (Kd.ah jq.out (fun _ hk=>⟨hk.1.1.1.2,⟨hk.1.1.2,⟨hk.1.2,hk.2⟩⟩⟩))):p:=h
theorem Xz {p:Prop} (h:p:=by exact rA (Kd.ah jr.out (fun _ hk=>⟨hk.1.1.1.2,⟨hk.1.1.2,⟨hk.1.2,hk.2⟩⟩⟩))):p:=h
theorem V2 {p:Prop} (h:p:=by exact rA (Kd.ah ee.out (fun _ hk=>⟨hk.1.1.1,⟨hk.1.1.2,⟨hk.1.2,hk.2⟩⟩⟩))):p:=h
theorem Zq {p:Prop} (h:p:=by exact rA (Kd.ah dZ.out (fun _ hk=>⟨hk.1.1.1,⟨hk.1.1.2,⟨hk.1.2,hk.2⟩⟩⟩))):p:=h
theorem WO {p:Prop} (h:p:=by exact rA (Kd.ah eu.out (fun _ hk=>⟨hk.1.1.1,⟨hk.1.1.2,⟨hk.1.2,hk.2⟩⟩⟩))):p:=h
theorem VF {p:Prop} (h:p:=by exact rA (Kd.ah ee.out (fun _ hk=>⟨hk.1.1,⟨hk.1.2.1,⟨hk.1.2.2,hk.2⟩⟩⟩))):p:=h
theorem Zj {p:Prop} (h:p:=by exact rA (Kd.ah dZ.out (fun _ hk=>⟨hk.1.1,⟨hk.1.2.1,⟨hk.1.2.2,hk.2⟩⟩⟩))):p:=h
theorem Y9 {p:Prop} (h:p:=by exact rA (Kd.ah eu.out (fun _ hk=>⟨hk.1.1,⟨hk.1.2.1,⟨hk.1.2.2,hk.2⟩⟩⟩))):p:=h
theorem YT {p:Prop} (h:p:=by exact rA (Kd.ah d6.out (fun _ hk=>⟨hk.1.1,⟨hk.1.2.1,⟨hk.1.2.2,hk.2⟩⟩⟩))):p:=h
theorem XE {p:Prop} (h:p:=by exact rA (Kd.ah bl.out (fun _ hk=>⟨⟨hk.1,⟨hk.2.1,hk.2.2.2⟩⟩,hk.2.2.1⟩))):p:=h
theorem Xx {p:Prop} (h:p:=by exact rA (Kd.ah aK.out (fun _ hk=>⟨⟨hk.1,⟨hk.2.1,hk.2.2.2⟩⟩,hk.2.2.1⟩))):p:=h
theorem Vv {p:Prop} (h:p:=by exact rA (Kd.ah aG.out (fun _ hk=>⟨⟨hk.1,⟨hk.2.2.1,hk.2.2.2⟩⟩,hk.2.1⟩))):p:=h
theorem E7 {p:Prop} (h:p:=by exact(Kd.aW (rU ee.out) (Kd.ax ho0) hb)):p:=h
theorem FO {p:Prop} (h:p:=by exact(Kd.aW (rU dZ.out) (Kd.ax ho0) hb)):p:=h
theorem E6 {p:Prop} (h:p:=by exact(Kd.aW (rU eu.out) (Kd.ax ho0) hb)):p:=h
theorem YD {p:Prop} (h:p:=by exact(Kd.aD (Kd.aD (Kd.aD (Kd.aD oa (Kd.ar (rU ee.out))) (Kd.ar (rU dZ.out))) (Kd.ar (rU eu.out))) (Kd.ar (rU d6.out)))):p:=h
attribute [local go_sem] tH tW tL tB tJ tE tM tP
set_option linter.unusedVariables false
set_option linter.unusedSimpArgs false
def qe (L:List (Nat×Option Tmp)) (n:Nat):Array Bool:=((List.range n).map (fun i=>!(L.map Prod.fst).contains i)).toArray
section
variable {P:Program} {ops:Array Oper} {Q:Exit->Act->World->Prop} {md:Region.Mode} {S:World->Prop} {ds:List Nat}
theorem YY {i n:Nat} {N:Option Tmp} {L:List (Nat×Option Tmp)} {oi:Oper} {v:Value} {fuel:Nat} {a:Act} {w:World} (hi:ops[i]?=some oi) (hN:oi.dst=N) (hc:yM md ops (qe ((i,N)::L) n) (qe L n) i=true)
 (hQ:∀c a w,Q (.panic c) (a.put oi.dst v) w->Q (.panic c) a w) (hw:Region.wanted oi (yielded ops a.tmps)=true) (hy:∀w,(execOp a.eval oi).run P w= .ok (.value v) w) {a':Act} (ha:a.put N v=a')
 (h:dA P md ops Q S ds fuel (qe L n) a' w):dA P md ops Q S ds (fuel+1) (qe ((i,N)::L) n) a w:=av (qe L n) hi hN hc hQ (Or.inl ⟨hw,hy⟩) ha h
theorem ahn {i n:Nat} {N:Option Tmp} {L:List (Nat×Option Tmp)} {oi:Oper} {v:Value} {fuel:Nat} {a:Act} {w:World} (hi:ops[i]?=some oi) (hN:oi.dst=N) (hc:takeB md ops ds (qe ((i,N)::L) n) (qe L n) i=true)
 (hQ:∀c a w,Q (.panic c) (a.put oi.dst v) w->Q (.panic c) a w) (hw:Region.wanted oi (yielded ops a.tmps)=true) (hy:∀w,S w->(execOp a.eval oi).run P w= .ok (.value v) w) (hS:S w) {a':Act} (ha:a.put N v=a')
 (h:dA P md ops Q S ds fuel (qe L n) a' w):dA P md ops Q S ds (fuel+1) (qe ((i,N)::L) n) a w:=bS (qe L n) hi hN hc hQ (Or.inl ⟨hw,hy⟩) hS ha h
theorem agE {i n:Nat} {N:Option Tmp} {L:List (Nat×Option Tmp)} {oi:Oper} {fuel:Nat} {a:Act} {w:World} (hi:ops[i]?=some oi) (hN:oi.dst=N) (hc:vM md ops (qe ((i,N)::L) n) (qe L n) i=true) (hd:i∉ds)
 (h:∀K:Act->World->Prop,Shut (∀a' w',S w'->(S w'->dA P md ops Q S ds fuel (qe L n) a' w')->K a' w')->if Region.wanted oi (yielded ops a.tmps)=true then Oper.wp P oi a w K Q else K (a.put N undef) w):
 dA P md ops Q S ds (fuel+1) (qe ((i,N)::L) n) a w:=dm (qe L n) hi hN hc hd h
end
mutual
def cW.l0:Nat->List Int->List Int->Int->Int->List Int->List Int->Option (List Int×List Int×Int×Bool)
 |0,_,_,_,_,_,_=>none
 |k+1,x5,x8,x9,cu,bT,bQ=>if cu<=(wrap64 (Int.tdiv x9 2))then(cW.l1 k x5 x8 x9 cu (([]:List Int)) 0 bT bQ)else(cW.l3 k x8 (([]:List Int)) (wrap64 (x9-1)) bT bQ)
def cW.l1:Nat->List Int->List Int->Int->Int->List Int->Int->List Int->List Int->Option (List Int×List Int×Int×Bool)
 |0,_,_,_,_,_,_,_,_=>none
 |k+1,x5,x8,x9,cu,fO,dK,bT,bQ=>if dK<x9 then(if 0<=dK then(if dK<(x5.length:Int)then(if(rd x5 dK)=cu then(cW.l2 k x5 x8 x9 cu fO dK 1 bT bQ)else(cW.l1 k x5 x8 x9 cu fO (wrap64 (dK+1)) bT bQ))else(none))else(none))else((fG.f k bT fO).bind fun K0=>(cW.l0 k x5 x8 x9 (wrap64 (cu+1)) K0 bQ))
def cW.l2:Nat->List Int->List Int->Int->Int->List Int->Int->Int->List Int->List Int->Option (List Int×List Int×Int×Bool)
 |0,_,_,_,_,_,_,_,_,_=>none
 |k+1,x5,x8,x9,cu,fO,dK,oO,bT,bQ=>if oO<x9 then(if x9=0 then(none)else(if 0<=(Int.tmod (wrap64 ((wrap64 (dK-oO))+x9)) x9)then(if(Int.tmod (wrap64 ((wrap64 (dK-oO))+x9)) x9)<(x8.length:Int)then(if(rd x8 (Int.tmod (wrap64 ((wrap64 (dK-oO))+x9)) x9))=dK then(if fO.length<17592186044416 then(cW.l2 k x5 x8 x9 cu (fO++[wrap64 ((wrap64 (2*(Int.tmod (wrap64 ((wrap64 (dK-oO))+x9)) x9)))+1)]) dK (wrap64 (oO+1)) bT bQ)else(none))else(cW.l2 k x5 x8 x9 cu fO dK (wrap64 (oO+1)) bT bQ))else(none))else(none)))else(if fO.length<17592186044416 then(cW.l1 k x5 x8 x9 cu (fO++[wrap64 (2*dK)]) (wrap64 (dK+1)) bT bQ)else(none))
def cW.l3:Nat->List Int->List Int->Int->List Int->List Int->Option (List Int×List Int×Int×Bool)
 |0,_,_,_,_,_=>none
 |k+1,x8,lh,mL,bT,bQ=>if mL>=0 then(if 0<=mL then(if mL<(x8.length:Int)then(if(rd x8 mL)<0 then(if lh.length<17592186044416 then(cW.l3 k x8 (lh++[wrap64 ((wrap64 (2*mL))+1)]) (wrap64 (mL-1)) bT bQ)else(none))else(cW.l3 k x8 lh (wrap64 (mL-1)) bT bQ))else(none))else(none))else((fG.f k bT lh).bind fun Rx=>(if 0<=(wrap64 ((lh.length:Int)-1))then(if(wrap64 ((lh.length:Int)-1))<(lh.length:Int)then(some (Rx,bQ,rd lh (wrap64 ((lh.length:Int)-1)),true))else(none))else(none)))
end
def cW.f (k:Nat) (cr:ByteArray) (ag:List Int):Option (List Int×List Int×Int×Bool):=(dJ.f k cr ag).bind fun Ry=>(if Ry=true then((fv.f k cr ag).bind fun acw=>((eD.f k acw.2.1).bind fun bp=>(if 0<=(wrap64 (2*(bp.length:Int)))then(if(wrap64 (2*(bp.length:Int)):Int).toNat<=35184372088832 then((fJ.f k (bp.length:Int)).bind fun kO=>(cW.l0 k acw.1 bp (bp.length:Int) 0 (List.replicate (wrap64 (2*(bp.length:Int)):Int).toNat 0) kO))else(none))else(none))))else(some (([]:List Int),([]:List Int),0,false)))
theorem cW.mono_l:∀k,(∀y0 y1 y2 y3 y4 y5,LeO (cW.l0 k y0 y1 y2 y3 y4 y5) (cW.l0 (k+1) y0 y1 y2 y3 y4 y5))/\(∀y0 y1 y2 y3 y4 y5 y6 y7,LeO (cW.l1 k y0 y1 y2 y3 y4 y5 y6 y7) (cW.l1 (k+1) y0 y1 y2 y3 y4 y5 y6 y7))/\(∀y0 y1 y2 y3 y4 y5 y6 y7 y8,LeO (cW.l2 k y0 y1 y2 y3 y4 y5 y6 y7 y8) (cW.l2 (k+1) y0 y1 y2 y3 y4 y5 y6 y7 y8))/\(∀y0 y1 y2 y3 y4,LeO (cW.l3 k y0 y1 y2 y3 y4) (cW.l3 (k+1) y0 y1 y2 y3 y4))
 |0=>⟨fun _ _ _ _ _ _ r h=>by simp[cW.l0]at h,fun _ _ _ _ _ _ _ _ r h=>by simp[cW.l1]at h,fun _ _ _ _ _ _ _ _ _ r h=>by simp[cW.l2]at h,fun _ _ _ _ _ r h=>by simp[cW.l3]at h⟩
 |k+1=>by
  obtain⟨eV,ih1,ih2,ih3⟩:=cW.mono_l k;refine⟨?_,?_,?_,?_⟩
  ·
   intro y0 y1 y2 y3 y4 y5
   unfold cW.l0
   repeat' first
   |(with_reducible exact eV _ _ _ _ _ _)
   |(with_reducible exact ih1 _ _ _ _ _ _ _ _)
   |(with_reducible exact ih2 _ _ _ _ _ _ _ _ _)
   |(with_reducible exact ih3 _ _ _ _ _)
   |(with_reducible exact dJ.mono _ _ _)
   |(with_reducible exact fJ.mono _ _)
   |(with_reducible exact eD.mono _ _)
   |(with_reducible exact fG.mono _ _ _)
   |(with_reducible exact fv.mono _ _ _)
   |(with_reducible exact LeO.refl _)
   |(with_reducible exact LeO.none _)
   |(with_reducible refine LeO.ite ?_ ?_)
   |(with_reducible refine LeO.bind ?_ (fun _=>?_))
   |exact eV _ _ _ _ _ _
   |exact ih1 _ _ _ _ _ _ _ _
   |exact ih2 _ _ _ _ _ _ _ _ _
   |exact ih3 _ _ _ _ _
   |exact dJ.mono _ _ _
   |exact fJ.mono _ _
   |exact eD.mono _ _
   |exact fG.mono _ _ _
   |exact fv.mono _ _ _
   |exact LeO.none _
   |refine LeO.ite ?_ ?_
   |refine LeO.bind ?_ (fun _=>?_)
  ·
   intro y0 y1 y2 y3 y4 y5 y6 y7
   unfold cW.l1
   repeat' first
   |(with_reducible exact eV _ _ _ _ _ _)
   |(with_reducible exact ih1 _ _ _ _ _ _ _ _)
   |(with_reducible exact ih2 _ _ _ _ _ _ _ _ _)
   |(with_reducible exact ih3 _ _ _ _ _)
   |(with_reducible exact dJ.mono _ _ _)
   |(with_reducible exact fJ.mono _ _)
   |(with_reducible exact eD.mono _ _)
   |(with_reducible exact fG.mono _ _ _)
   |(with_reducible exact fv.mono _ _ _)
   |(with_reducible exact LeO.refl _)
   |(with_reducible exact LeO.none _)
   |(with_reducible refine LeO.ite ?_ ?_)
   |(with_reducible refine LeO.bind ?_ (fun _=>?_))
   |exact eV _ _ _ _ _ _
   |exact ih1 _ _ _ _ _ _ _ _
   |exact ih2 _ _ _ _ _ _ _ _ _
   |exact ih3 _ _ _ _ _
   |exact dJ.mono _ _ _
   |exact fJ.mono _ _
   |exact eD.mono _ _
   |exact fG.mono _ _ _
   |exact fv.mono _ _ _
   |exact LeO.none _
   |refine LeO.ite ?_ ?_
   |refine LeO.bind ?_ (fun _=>?_)
  ·
   intro y0 y1 y2 y3 y4 y5 y6 y7 y8
   unfold cW.l2
   repeat' first
   |(with_reducible exact eV _ _ _ _ _ _)
   |(with_reducible exact ih1 _ _ _ _ _ _ _ _)
   |(with_reducible exact ih2 _ _ _ _ _ _ _ _ _)
   |(with_reducible exact ih3 _ _ _ _ _)
   |(with_reducible exact dJ.mono _ _ _)
   |(with_reducible exact fJ.mono _ _)
   |(with_reducible exact eD.mono _ _)
   |(with_reducible exact fG.mono _ _ _)
   |(with_reducible exact fv.mono _ _ _)
   |(with_reducible exact LeO.refl _)
   |(with_reducible exact LeO.none _)
   |(with_reducible refine LeO.ite ?_ ?_)
   |(with_reducible refine LeO.bind ?_ (fun _=>?_))
   |exact eV _ _ _ _ _ _
   |exact ih1 _ _ _ _ _ _ _ _
   |exact ih2 _ _ _ _ _ _ _ _ _
   |exact ih3 _ _ _ _ _
   |exact dJ.mono _ _ _
   |exact fJ.mono _ _
   |exact eD.mono _ _
   |exact fG.mono _ _ _
   |exact fv.mono _ _ _
   |exact LeO.none _
   |refine LeO.ite ?_ ?_
   |refine LeO.bind ?_ (fun _=>?_)
  ·
   intro y0 y1 y2 y3 y4
   unfold cW.l3
   repeat' first
   |(with_reducible exact eV _ _ _ _ _ _)
   |(with_reducible exact ih1 _ _ _ _ _ _ _ _)
   |(with_reducible exact ih2 _ _ _ _ _ _ _ _ _)
   |(with_reducible exact ih3 _ _ _ _ _)
   |(with_reducible exact dJ.mono _ _ _)
   |(with_reducible exact fJ.mono _ _)
   |(with_reducible exact eD.mono _ _)
   |(with_reducible exact fG.mono _ _ _)
   |(with_reducible exact fv.mono _ _ _)
   |(with_reducible exact LeO.refl _)
   |(with_reducible exact LeO.none _)
   |(with_reducible refine LeO.ite ?_ ?_)
   |(with_reducible refine LeO.bind ?_ (fun _=>?_))
   |exact eV _ _ _ _ _ _
   |exact ih1 _ _ _ _ _ _ _ _
   |exact ih2 _ _ _ _ _ _ _ _ _
   |exact ih3 _ _ _ _ _
   |exact dJ.mono _ _ _
   |exact fJ.mono _ _
   |exact eD.mono _ _
   |exact fG.mono _ _ _
   |exact fv.mono _ _ _
   |exact LeO.none _
   |refine LeO.ite ?_ ?_
   |refine LeO.bind ?_ (fun _=>?_)
theorem cW.mono:∀a0 a1 k,LeO (cW.f k a0 a1) (cW.f (k+1) a0 a1):=by
 intro a0 a1 k;obtain⟨eV,ih1,ih2,ih3⟩:=cW.mono_l k
 unfold cW.f
 repeat' first
  |(with_reducible exact eV _ _ _ _ _ _)
  |(with_reducible exact ih1 _ _ _ _ _ _ _ _)
  |(with_reducible exact ih2 _ _ _ _ _ _ _ _ _)
  |(with_reducible exact ih3 _ _ _ _ _)
  |(with_reducible exact dJ.mono _ _ _)
  |(with_reducible exact fJ.mono _ _)
  |(with_reducible exact eD.mono _ _)
  |(with_reducible exact fG.mono _ _ _)
  |(with_reducible exact fv.mono _ _ _)
  |(with_reducible exact LeO.refl _)
  |(with_reducible exact LeO.none _)
  |(with_reducible refine LeO.ite ?_ ?_)
  |(with_reducible refine LeO.bind ?_ (fun _=>?_))
  |exact eV _ _ _ _ _ _
  |exact ih1 _ _ _ _ _ _ _ _
  |exact ih2 _ _ _ _ _ _ _ _ _
  |exact ih3 _ _ _ _ _
  |exact dJ.mono _ _ _
  |exact fJ.mono _ _
  |exact eD.mono _ _
  |exact fG.mono _ _ _
  |exact fv.mono _ _ _
  |exact LeO.none _
  |refine LeO.ite ?_ ?_
  |refine LeO.bind ?_ (fun _=>?_)
def cW.T6:Bool×List (List Nat×List Nat):=(true,[([],[]),([0],[0]),([1,1],[1]),([],[]),([3],[3]),([2,4],[2,4]),([],[]),([6,5,4,0,1,2,3,4,5,6],[5,6])])
def cW.B6:List Nat:=[0,1,3,0,8,31,0,127]
theorem cW.afw:rtab .any (opsOf Try.f21 6)=cW.T6:=by kernel_rfl
theorem cW.afl:gG cW.T6.2 cW.B6=true:=by kernel_rfl
def cW.T30:Bool×List (List Nat×List Nat):=(true,[([],[]),([],[]),([],[]),([2],[2]),([3],[3]),([1,4],[1,4]),([5],[5]),([0,0],[0]),([6,7,0,1,2,3,4,5,6,7],[6]),([8,0,1,2,3,4,5,6,7,8],[])])
def cW.B30:List Nat:=[0,0,0,4,12,30,62,1,255,511]
theorem cW.afM:rtab .any (opsOf Try.f21 30)=cW.T30:=by kernel_rfl
theorem cW.afS:gG cW.T30.2 cW.B30=true:=by kernel_rfl
set_option maxHeartbeats 8000000 in
set_option maxRecDepth 100000 in
theorem cW.calls (k:Nat) (cr:ByteArray) (ak:Option Addr) (aj:Nat) (ag:List Int) (r1:List Int) (r2:List Int) (r3:Int) (r4:Bool) (w:World) (de:Kd.C (Kd.int .i64) w ak ag.length ag) (dk:ag.length<=aj) (h:cW.f k cr ag=some (r1,r2,r3,r4)):
 Calls Try.prog 21 #[.agg #[.string cr,.slice ak ag.length aj]] w fun e w'=>∃bC v1_:Value,e= .returned (.tuple #[.agg #[bC,v1_],.int .i64 r3,.bool r4])/\Kd.R (Kd.int .i64) 3 w' w.heap.size (fun k_=>oV k_ v1_) bC r1/\Kd.R (Kd.int .i64) 3 w' w.heap.size (fun k_=>oV k_ bC) v1_ r2/\Below w.heap.size w w':=by
 have PS:=Try.underlying25;have jT:=Try.underlying29;have bP:=Az de;have cx:=Az dk;clear de dk;have HB:=bZ w;have H:=h;clear h;unfold cW.f at H;replace H:=bd H;obtain⟨Ry,A2,H⟩:=H
 by_cases c3:Ry=true
 ·
  subst c3;rw[if_pos rfl]at H;replace H:=bd H;obtain⟨⟨qu,b8,rp⟩,A4,H⟩:=H;dsimp only at H;replace H:=bd H;obtain⟨bp,A5,H⟩:=H;obtain⟨nk,t6⟩:∃j_:Int,(wrap64 (2*(bp.length:Int)))=j_:=⟨_,rfl⟩;(first|rw[t6]at H|simp only[t6]at H);have avJ:(IntKind.i64.wrap (2*(bp.length:Int)))=nk:=(bo _).trans t6;replace H:=gE H;obtain⟨jl,GX,H⟩:=H;replace H:=gE H;obtain⟨jS,Rp,H⟩:=H;generalize wy:(List.replicate (nk:Int).toNat 0:List Int)=y779 at H;replace wy:=Ay wy;replace H:=bd H;obtain⟨kO,A9,H⟩:=H;have H':=Az H;clear H;go_enter Try.func21,Try.ntmps21
  try go_wp2_with (first|((with_reducible refine gd 1 rfl ?_);refine bE 1 #[.string cr,.slice ak ag.length aj] 25 ?_;intro hG hg rc hbox hb;have bB:=Az (hbox);have mr:=gW hg (bU0 HB.out);replace HB:=Az (ay (bU0 HB.out) hb);clear hb hbox hg)|((with_reducible refine gd 2 rfl ?_);refine bE 2 #[.slice none 0 0,.slice none 0 0] 29 ?_;intro eS hg lg hbox hb;have bu:=Az (hbox);have o9:=gW hg (bU1 HB.out mr.out);replace HB:=Az (ay (bU1 HB.out mr.out) hb);have xF:=nL hg (kU bB.out);replace bB:=kB bB.out hb;clear hb hbox hg;have akG:=xF.out;have akH:=(xF.out).symm;have F3:=bc2 bB.out)|((with_reducible refine gK 17 rfl ?_);refine gC (some 19) Try.func17 #[.agg #[.string cr,.slice ak ag.length aj]] ?_;(with_reducible refine(dJ.calls k cr _ _ ag true _ ?_ ?_ A2.out).mono ?_);exact cU (Kd.bn bP.out HB.out);exact cx.out;rintro e uQ ⟨rfl,hb⟩;refine⟨_,rfl,?_⟩;replace bB:=kB bB.out hb;replace bu:=kB bu.out hb;replace HB:=Az (ay iI hb);clear hb;have Bj:=bc2 bB.out)|((with_reducible refine gK 70 rfl ?_);refine gC (some 24) Try.func70 #[.agg #[.string cr,.slice ak ag.length aj]] ?_;(with_reducible refine(fv.calls k cr _ _ ag qu b8 rp _ ?_ ?_ A4.out).mono ?_);exact cU (Kd.bn bP.out HB.out);exact cx.out;rintro e w16 ⟨cq,avK,db,rfl,ho0,ho1,ho2,hb⟩;refine⟨_,rfl,?_⟩;have ee:=Az (Kd.a7 ho0 (aQ iI));have dZ:=Az (Kd.a7 ho1 (aQ iI));have eu:=Az (Kd.a7 ho2 (aQ iI));replace bB:=kB bB.out hb;replace bu:=kB bu.out hb;replace HB:=Az (ay iI hb);clear hb ho0 ho1 ho2;obtain⟨bI,bG,vS⟩:=Kd.aH dZ.out;subst vS)|((with_reducible refine gK 71 rfl ?_);refine gC (some 29) Try.func71 #[.slice bI b8.length bG] ?_;(with_reducible refine(eD.calls k _ _ b8 bp _ ?_ ?_ A5.out).mono ?_);exact cU ((Kd.au dZ.out).2.2);exact(Kd.au dZ.out).2.1;rintro e Bl ⟨avL,rfl,ho0,hb⟩;refine⟨_,rfl,?_⟩;have d6:=Az (Kd.a7 (Kd.aD (Kd.aD (Kd.aD ho0 (Kd.ar (rU ee.out))) (Kd.ar (rU dZ.out))) (Kd.ar (rU eu.out))) (aQ iI));replace ee:=Az E7;replace dZ:=Az FO;replace eu:=Az E6;replace bB:=kB bB.out hb;replace bu:=kB bu.out hb;replace HB:=Az (ay iI hb);clear hb ho0;obtain⟨bH,bz,zc⟩:=Kd.aH d6.out;subst zc))
  replace ee:=Az (Kd.bK ee.out);replace dZ:=Az (Kd.bK dZ.out);replace eu:=Az (Kd.bK eu.out);replace d6:=Az (Kd.bK d6.out);replace bB:=Az (ce bB.out);replace bu:=Az (ce bu.out);replace HB:=Az (a8 HB.out);refine eX (n:=8) (S:=fun w'=>True) (ds:=[]) (bv 8 0) (by kernel_rfl) rfl rfl trivial (fun hHeld=>?_);refine fL cW.afw cW.afl (fun HT_ HW_=>?_);generalize Bl.drew=re at ee dZ eu d6 bB bu HB hHeld ⊢;refine av (i:=0) (N:=some 32) (v:=?_) (a':=?_) (bv 8 1) rfl rfl (ao HT_.out (by kernel_rfl)) (fun _ _ _ h=>h) (Or.inl ⟨by rfl,?_⟩) ?_ ?_;rotate_left;(exact yP);rotate_left;(exact aP);refine av (i:=1) (N:=some 33) (v:=?_) (a':=?_) (bv 8 3) rfl rfl (ao HT_.out (by kernel_rfl)) (fun _ _ _ h=>h) (Or.inl ⟨by rfl,?_⟩) ?_ ?_;rotate_left;(exact yP);rotate_left;(exact aP);refine av (i:=3) (N:=some 35) (v:=?_) (a':=?_) (bv 8 11) rfl rfl (ao HT_.out (by kernel_rfl)) (fun _ _ _ h=>h) (Or.inl ⟨by rfl,?_⟩) ?_ ?_;rotate_left;(exact yP);rotate_left;(exact aP);refine kH (σ:=Value×Value×Nat) 1 (bv 8 127) (fun s_=>[(34,s_.1),(36,s_.2.1),(10,.pointer (some ⟨s_.2.2,0,none⟩)),(37,.agg #[s_.1,s_.2.1])]) (fun s_ w'=>(Kd.R (Kd.int .i64) 3 w' w.heap.size (fun k_=>oS k_ bI b8.length bG/\oV k_ db/\oS k_ bH bp.length bz/\some k_≠(s_.1:Value).ownBlock/\some k_≠(s_.2.1:Value).ownBlock) cq qu)/\(Kd.R (Kd.int .i64) 3 w' w.heap.size (fun k_=>oV k_ cq/\oV k_ db/\oS k_ bH bp.length bz/\some k_≠(s_.1:Value).ownBlock/\some k_≠(s_.2.1:Value).ownBlock) (.slice bI b8.length bG) b8)/\(Kd.R (Kd.int .i64) 3 w' w.heap.size (fun k_=>oV k_ cq/\oS k_ bI b8.length bG/\oS k_ bH bp.length bz/\some k_≠(s_.1:Value).ownBlock/\some k_≠(s_.2.1:Value).ownBlock) db rp)/\(Kd.R (Kd.int .i64) 3 w' w.heap.size (fun k_=>oV k_ cq/\oS k_ bI b8.length bG/\oV k_ db/\some k_≠(s_.1:Value).ownBlock/\some k_≠(s_.2.1:Value).ownBlock) (.slice bH bp.length bz) bp)/\(Kd.R (Kd.int .i64) 3 w' w.heap.size (fun k_=>oV k_ cq/\oS k_ bI b8.length bG/\oV k_ db/\oS k_ bH bp.length bz/\some k_≠(s_.2.1:Value).ownBlock) s_.1 y779)/\(Kd.R (Kd.int .i64) 3 w' w.heap.size (fun k_=>oV k_ cq/\oS k_ bI b8.length bG/\oV k_ db/\oS k_ bH bp.length bz/\some k_≠(s_.1:Value).ownBlock) s_.2.1 kO)/\(w'.heap[hG]?=some (.cells #[.string cr,.slice ak ag.length aj] 25 (0,0)))/\(w'.heap[eS]?=some (.cells #[.slice none 0 0,.slice none 0 0] 29 (0,0)))/\(w'.heap[s_.2.2]?=some (.cells #[.slice none 0 0,.slice none 0 0] 29 (0,0)))/\(w.heap.size<=s_.2.2)/\(w.heap.size<=s_.2.2)/\(hG≠s_.2.2)/\(s_.2.2≠hG)/\(eS≠s_.2.2)/\(s_.2.2≠eS)/\(Below w.heap.size w w')) ?_ ?_;rotate_left
  ·
   intro Rz;refine kH (σ:=Value×Value) 2 (bv 8 63) (fun s_=>[(34,s_.1),(36,s_.2),(37,.agg #[s_.1,s_.2])]) (fun s_ w'=>(Kd.R (Kd.int .i64) 3 w' w.heap.size (fun k_=>oS k_ bI b8.length bG/\oV k_ db/\oS k_ bH bp.length bz/\some k_≠(s_.1:Value).ownBlock/\some k_≠(s_.2:Value).ownBlock) cq qu)/\(Kd.R (Kd.int .i64) 3 w' w.heap.size (fun k_=>oV k_ cq/\oV k_ db/\oS k_ bH bp.length bz/\some k_≠(s_.1:Value).ownBlock/\some k_≠(s_.2:Value).ownBlock) (.slice bI b8.length bG) b8)/\(Kd.R (Kd.int .i64) 3 w' w.heap.size (fun k_=>oV k_ cq/\oS k_ bI b8.length bG/\oS k_ bH bp.length bz/\some k_≠(s_.1:Value).ownBlock/\some k_≠(s_.2:Value).ownBlock) db rp)/\(Kd.R (Kd.int .i64) 3 w' w.heap.size (fun k_=>oV k_ cq/\oS k_ bI b8.length bG/\oV k_ db/\some k_≠(s_.1:Value).ownBlock/\some k_≠(s_.2:Value).ownBlock) (.slice bH bp.length bz) bp)/\(Kd.R (Kd.int .i64) 3 w' w.heap.size (fun k_=>oV k_ cq/\oS k_ bI b8.length bG/\oV k_ db/\oS k_ bH bp.length bz/\some k_≠(s_.2:Value).ownBlock) s_.1 y779)/\(Kd.R (Kd.int .i64) 3 w' w.heap.size (fun k_=>oV k_ cq/\oS k_ bI b8.length bG/\oV k_ db/\oS k_ bH bp.length bz/\some k_≠(s_.1:Value).ownBlock) s_.2 kO)/\(w'.heap[hG]?=some (.cells #[.string cr,.slice ak ag.length aj] 25 (0,0)))/\(w'.heap[eS]?=some (.cells #[.slice none 0 0,.slice none 0 0] 29 (0,0)))/\(Below w.heap.size w w')) ?_ ?_;rotate_left
   ·
    intro acx;refine kH (σ:=Value×Nat) 3 (bv 8 79) (fun s_=>[(34,s_.1),(10,.pointer (some ⟨s_.2,0,none⟩))]) (fun s_ w'=>(Kd.R (Kd.int .i64) 3 w' w.heap.size (fun k_=>oS k_ bI b8.length bG/\oV k_ db/\oS k_ bH bp.length bz/\some k_≠(s_.1:Value).ownBlock) cq qu)/\(Kd.R (Kd.int .i64) 3 w' w.heap.size (fun k_=>oV k_ cq/\oV k_ db/\oS k_ bH bp.length bz/\some k_≠(s_.1:Value).ownBlock) (.slice bI b8.length bG) b8)/\(Kd.R (Kd.int .i64) 3 w' w.heap.size (fun k_=>oV k_ cq/\oS k_ bI b8.length bG/\oS k_ bH bp.length bz/\some k_≠(s_.1:Value).ownBlock) db rp)/\(Kd.R (Kd.int .i64) 3 w' w.heap.size (fun k_=>oV k_ cq/\oS k_ bI b8.length bG/\oV k_ db/\some k_≠(s_.1:Value).ownBlock) (.slice bH bp.length bz) bp)/\(Kd.R (Kd.int .i64) 3 w' w.heap.size (fun k_=>oV k_ cq/\oS k_ bI b8.length bG/\oV k_ db/\oS k_ bH bp.length bz) s_.1 y779)/\(w'.heap[hG]?=some (.cells #[.string cr,.slice ak ag.length aj] 25 (0,0)))/\(w'.heap[eS]?=some (.cells #[.slice none 0 0,.slice none 0 0] 29 (0,0)))/\(w'.heap[s_.2]?=some (.cells #[.slice none 0 0,.slice none 0 0] 29 (0,0)))/\(w.heap.size<=s_.2)/\(w.heap.size<=s_.2)/\(hG≠s_.2)/\(s_.2≠hG)/\(eS≠s_.2)/\(s_.2≠eS)/\(Below w.heap.size w w')) ?_ ?_;rotate_left
    ·
     intro acy;refine kH (σ:=Value×Nat) 3 (bv 8 91) (fun s_=>[(36,s_.1),(10,.pointer (some ⟨s_.2,0,none⟩))]) (fun s_ w'=>(Kd.R (Kd.int .i64) 3 w' w.heap.size (fun k_=>oS k_ bI b8.length bG/\oV k_ db/\oS k_ bH bp.length bz/\some k_≠(s_.1:Value).ownBlock) cq qu)/\(Kd.R (Kd.int .i64) 3 w' w.heap.size (fun k_=>oV k_ cq/\oV k_ db/\oS k_ bH bp.length bz/\some k_≠(s_.1:Value).ownBlock) (.slice bI b8.length bG) b8)/\(Kd.R (Kd.int .i64) 3 w' w.heap.size (fun k_=>oV k_ cq/\oS k_ bI b8.length bG/\oS k_ bH bp.length bz/\some k_≠(s_.1:Value).ownBlock) db rp)/\(Kd.R (Kd.int .i64) 3 w' w.heap.size (fun k_=>oV k_ cq/\oS k_ bI b8.length bG/\oV k_ db/\some k_≠(s_.1:Value).ownBlock) (.slice bH bp.length bz) bp)/\(Kd.R (Kd.int .i64) 3 w' w.heap.size (fun k_=>oV k_ cq/\oS k_ bI b8.length bG/\oV k_ db/\oS k_ bH bp.length bz) s_.1 kO)/\(w'.heap[hG]?=some (.cells #[.string cr,.slice ak ag.length aj] 25 (0,0)))/\(w'.heap[eS]?=some (.cells #[.slice none 0 0,.slice none 0 0] 29 (0,0)))/\(w'.heap[s_.2]?=some (.cells #[.slice none 0 0,.slice none 0 0] 29 (0,0)))/\(w.heap.size<=s_.2)/\(w.heap.size<=s_.2)/\(hG≠s_.2)/\(s_.2≠hG)/\(eS≠s_.2)/\(s_.2≠eS)/\(Below w.heap.size w w')) ?_ ?_;rotate_left
     ·
      intro acz;refine kH (σ:=Value) 4 (bv 8 15) (fun s_=>[(34,s_)]) (fun s_ w'=>(Kd.R (Kd.int .i64) 3 w' w.heap.size (fun k_=>oS k_ bI b8.length bG/\oV k_ db/\oS k_ bH bp.length bz/\oV k_ s_) cq qu)/\(Kd.R (Kd.int .i64) 3 w' w.heap.size (fun k_=>oV k_ cq/\oV k_ db/\oS k_ bH bp.length bz/\oV k_ s_) (.slice bI b8.length bG) b8)/\(Kd.R (Kd.int .i64) 3 w' w.heap.size (fun k_=>oV k_ cq/\oS k_ bI b8.length bG/\oS k_ bH bp.length bz/\oV k_ s_) db rp)/\(Kd.R (Kd.int .i64) 3 w' w.heap.size (fun k_=>oV k_ cq/\oS k_ bI b8.length bG/\oV k_ db/\oV k_ s_) (.slice bH bp.length bz) bp)/\(Kd.R (Kd.int .i64) 3 w' w.heap.size (fun k_=>oV k_ cq/\oS k_ bI b8.length bG/\oV k_ db/\oS k_ bH bp.length bz) s_ y779)/\(w'.heap[hG]?=some (.cells #[.string cr,.slice ak ag.length aj] 25 (0,0)))/\(w'.heap[eS]?=some (.cells #[.slice none 0 0,.slice none 0 0] 29 (0,0)))/\(Below w.heap.size w w')) ?_ ?_;rotate_left
      ·
       intro hJ2;refine kH (σ:=Value) 4 (bv 8 27) (fun s_=>[(36,s_)]) (fun s_ w'=>(Kd.R (Kd.int .i64) 3 w' w.heap.size (fun k_=>oS k_ bI b8.length bG/\oV k_ db/\oS k_ bH bp.length bz/\oV k_ s_) cq qu)/\(Kd.R (Kd.int .i64) 3 w' w.heap.size (fun k_=>oV k_ cq/\oV k_ db/\oS k_ bH bp.length bz/\oV k_ s_) (.slice bI b8.length bG) b8)/\(Kd.R (Kd.int .i64) 3 w' w.heap.size (fun k_=>oV k_ cq/\oS k_ bI b8.length bG/\oS k_ bH bp.length bz/\oV k_ s_) db rp)/\(Kd.R (Kd.int .i64) 3 w' w.heap.size (fun k_=>oV k_ cq/\oS k_ bI b8.length bG/\oV k_ db/\oV k_ s_) (.slice bH bp.length bz) bp)/\(Kd.R (Kd.int .i64) 3 w' w.heap.size (fun k_=>oV k_ cq/\oS k_ bI b8.length bG/\oV k_ db/\oS k_ bH bp.length bz) s_ kO)/\(w'.heap[hG]?=some (.cells #[.string cr,.slice ak ag.length aj] 25 (0,0)))/\(w'.heap[eS]?=some (.cells #[.slice none 0 0,.slice none 0 0] 29 (0,0)))/\(Below w.heap.size w w')) ?_ ?_;rotate_left
       ·
        intro hJ4;refine kH (σ:=Nat) 4 (bv 8 75) (fun s_=>[(10,.pointer (some ⟨s_,0,none⟩))]) (fun s_ w'=>(Kd.R (Kd.int .i64) 3 w' w.heap.size (fun k_=>oS k_ bI b8.length bG/\oV k_ db/\oS k_ bH bp.length bz) cq qu)/\(Kd.R (Kd.int .i64) 3 w' w.heap.size (fun k_=>oV k_ cq/\oV k_ db/\oS k_ bH bp.length bz) (.slice bI b8.length bG) b8)/\(Kd.R (Kd.int .i64) 3 w' w.heap.size (fun k_=>oV k_ cq/\oS k_ bI b8.length bG/\oS k_ bH bp.length bz) db rp)/\(Kd.R (Kd.int .i64) 3 w' w.heap.size (fun k_=>oV k_ cq/\oS k_ bI b8.length bG/\oV k_ db) (.slice bH bp.length bz) bp)/\(w'.heap[hG]?=some (.cells #[.string cr,.slice ak ag.length aj] 25 (0,0)))/\(w'.heap[eS]?=some (.cells #[.slice none 0 0,.slice none 0 0] 29 (0,0)))/\(w'.heap[s_]?=some (.cells #[.slice none 0 0,.slice none 0 0] 29 (0,0)))/\(w.heap.size<=s_)/\(w.heap.size<=s_)/\(hG≠s_)/\(s_≠hG)/\(eS≠s_)/\(s_≠eS)/\(Below w.heap.size w w')) ?_ ?_;rotate_left
        ·
         intro hJ6;refine MR (i:=2) (j:=4) (k:=6) (Ni:=some 34) (Nj:=some 36) (Nk:=some 10) (bv 8 15) (bv 8 27) (bv 8 75) rfl rfl rfl rfl rfl rfl (Wx HT_.out (by kernel_rfl)) (by decide) (by decide) (by decide) (fun K hK=>?_) (fun K hK=>?_) (fun K hK=>?_)
         ·
          skip
          refine Kd.mZ (Kd.int .i64) _ 3 (by rfl) (N:=34) rfl 23 _ _ rfl nk rfl rfl Try.underlying23 (.int .i64 0) 8 dE rfl (by decide) (by omega) 0 (ok:=fun _=>True) (okp:=fun _=>True) rfl (fun _ hk=>hk) trivial (oA) (Nat.le_trans (Nat.mul_le_mul_right _ (oA:nk.toNat<=35184372088832)) (by omega)) (Below.refl _ _) (Nat.le_refl _) ?_;intro iO rh qv hb hg_ hnew_;clear hg_ hnew_;(first|rw[<-wy.out]at qv|(simp only[Int.reduceToNat]at qv;rw[<-wy.out]at qv));have jq:=Az (Kd.a7 (Kd.aD (Kd.aD (Kd.aD (Kd.aD qv (Kd.ar (rU ee.out))) (Kd.ar (rU dZ.out))) (Kd.ar (rU eu.out))) (Kd.ar (rU d6.out))) (aQ iI));replace ee:=Az (Kd.aW (rU ee.out) (Kd.ax qv) hb);replace dZ:=Az (Kd.aW (rU dZ.out) (Kd.ax qv) hb);replace eu:=Az (Kd.aW (rU eu.out) (Kd.ax qv) hb);replace d6:=Az (Kd.aW (rU d6.out) (Kd.ax qv) hb);replace bB:=kB bB.out hb;replace bu:=kB bu.out hb;replace HB:=Az (ay iI hb);clear hb qv;refine hK.out _ _ trivial (fun hHeld=>?_);clear hK K;refine aX (a':=?_) ?_ ?_;rotate_left
          ·
           show Act.put _ (some 34) _=_
           simp only[Act.put,List.setIfInBounds_toArray,List.set_cons_zero,List.set_cons_succ,bo,bD];rfl
          exact aX tx (hJ2 (iO) _ ⟨V2,Zq,WO,Vp,Vw,(kU bB.out),(kU bu.out),iI⟩)
         ·
          skip
          refine eQ Try.func72 (by kernel_rfl) rfl #[.int .i64 (bp.length:Int)] (by rfl) rfl rfl lQ ?_
          with_reducible refine(fJ.calls k (bp.length:Int) kO _ A9.out).mono ?_
          rintro e rh ⟨iP,rfl,ho0,hb⟩;refine⟨_,rfl,?_⟩;have jr:=Az (Kd.a7 I3 (aQ iI));replace ee:=Az E7;replace dZ:=Az FO;replace eu:=Az E6;replace d6:=Az (Kd.aW (rU d6.out) (Kd.ax ho0) hb);replace bB:=kB bB.out hb;replace bu:=kB bu.out hb;replace HB:=Az (ay iI hb);clear hb ho0;refine hK.out _ _ trivial (fun hHeld=>?_);clear hK K;refine aX (a':=?_) ?_ ?_;rotate_left
          ·
           show Act.put _ (some 36) _=_
           simp only[Act.put,List.setIfInBounds_toArray,List.set_cons_zero,List.set_cons_succ,bo,bD];rfl
          exact aX tx (hJ4 (iP) _ ⟨V2,Zq,WO,Vp,Xz,(kU bB.out),(kU bu.out),iI⟩)
         ·
          skip
          refine mF ?hg (N:=10) ?hd (cs:=#[.slice none 0 0,.slice none 0 0]) (t:=29) ?hr ?_;(case hd=>rfl);(case hg=>rfl);(case hr=>first|(go_simp;done)|(go_simp;rfl));intro dB hg rh hbox hb;replace ee:=rB ee.out hb;replace dZ:=rB dZ.out hb;replace eu:=rB eu.out hb;replace d6:=rB d6.out hb;have dc:=Az (hbox);have rq:=gW hg iI;have jf:=Az ((by rw[hg];exact(aQ iI):w.heap.size<=dB));replace HB:=Az (ay iI hb);have kP:=nL hg (kU bB.out);have ob:=nS kP;replace bB:=kB bB.out hb;have jW:=nL hg (kU bu.out);have kQ:=nS jW;replace bu:=kB bu.out hb;clear hb hbox hg;refine hK.out _ _ trivial (fun hHeld=>?_);clear hK K;refine aX (a':=?_) ?_ ?_;rotate_left
          ·
           show Act.put _ (some 10) _=_
           simp only[Act.put,List.setIfInBounds_toArray,List.set_cons_zero,List.set_cons_succ,bo,bD];rfl
          exact aX tx (hJ6 (dB) _ ⟨(rA (Kd.ah ee.out (fun _ hk=>⟨hk.1.1,⟨hk.1.2,hk.2⟩⟩))),(rA (Kd.ah dZ.out (fun _ hk=>⟨hk.1.1,⟨hk.1.2,hk.2⟩⟩))),(rA (Kd.ah eu.out (fun _ hk=>⟨hk.1.1,⟨hk.1.2,hk.2⟩⟩))),(rA (Kd.ah d6.out (fun _ hk=>⟨hk.1.1.2,⟨hk.1.2,hk.2⟩⟩))),(kU bB.out),(kU bu.out),(kU dc.out),rq.out,jf.out,kP.out,ob.out,jW.out,kQ.out,j6⟩)
        ·
         skip
         rintro dB oc ⟨cY,cK,cL,cM,cN,cO,dj,du,eG,fw,fx,fy,fT,iN⟩;have n0:ae (Kd.R (Kd.int .i64) 3 oc w.heap.size (fun k_=>oS k_ bI b8.length bG/\oV k_ db/\oS k_ bH bp.length bz) cq qu):=⟨cY⟩;have n1:ae (Kd.R (Kd.int .i64) 3 oc w.heap.size (fun k_=>oV k_ cq/\oV k_ db/\oS k_ bH bp.length bz) (.slice bI b8.length bG) b8):=⟨cK⟩;have n2:ae (Kd.R (Kd.int .i64) 3 oc w.heap.size (fun k_=>oV k_ cq/\oS k_ bI b8.length bG/\oS k_ bH bp.length bz) db rp):=⟨cL⟩;have n3:ae (Kd.R (Kd.int .i64) 3 oc w.heap.size (fun k_=>oV k_ cq/\oS k_ bI b8.length bG/\oV k_ db) (.slice bH bp.length bz) bp):=⟨cM⟩;have n4:ae (oc.heap[hG]?=some (.cells #[.string cr,.slice ak ag.length aj] 25 (0,0))):=⟨cN⟩;have n5:ae (oc.heap[eS]?=some (.cells #[.slice none 0 0,.slice none 0 0] 29 (0,0))):=⟨cO⟩;have n6:ae (oc.heap[dB]?=some (.cells #[.slice none 0 0,.slice none 0 0] 29 (0,0))):=⟨dj⟩;have n7:ae (w.heap.size<=dB):=⟨du⟩;have n8:ae (w.heap.size<=dB):=⟨eG⟩;have n9:ae (hG≠dB):=⟨fw⟩;have n10:ae (dB≠hG):=⟨fx⟩;have n11:ae (eS≠dB):=⟨fy⟩;have n12:ae (dB≠eS):=⟨fT⟩;have n13:ae (Below w.heap.size w oc):=⟨iN⟩;clear ee dZ eu d6 bB bu HB cY cK cL cM cN cO dj du eG fw fx fy fT iN;have ee:=n0;have dZ:=n1;have eu:=n2;have d6:=n3;have bB:=n4;have bu:=n5;have dc:=n6;have rq:=n7;have jf:=n8;have kP:=n9;have ob:=n10;have jW:=n11;have kQ:=n12;have HB:=n13;clear n0 n1 n2 n3 n4 n5 n6 n7 n8 n9 n10 n11 n12 n13;have hHeld:=trivial;refine aX (a':=?_) ?_ ?_;rotate_left
         ·simp only[gv,Act.put,List.setIfInBounds_toArray,List.set_cons_zero,List.set_cons_succ];rfl
         refine qg (i:=2) (j:=4) (Ni:=some 34) (Nj:=some 36) (bv 8 79) (bv 8 91) rfl rfl rfl rfl (AO HT_.out (by kernel_rfl)) (by decide) (by decide) (fun K hK=>?_) (fun K hK=>?_)
         ·
          skip
          refine Kd.mZ (Kd.int .i64) _ 3 (by rfl) (N:=34) rfl 23 _ _ rfl nk rfl rfl Try.underlying23 (.int .i64 0) 8 dE rfl (by decide) (by omega) 0 (ok:=fun _=>True) (okp:=fun _=>True) rfl (fun _ hk=>hk) trivial (oA) (Nat.le_trans (Nat.mul_le_mul_right _ (oA:nk.toNat<=35184372088832)) (by omega)) (Below.refl _ _) (Nat.le_refl _) ?_;intro iO ig oa hb hg_ hnew_;clear hg_ hnew_;(first|rw[<-wy.out]at oa|(simp only[Int.reduceToNat]at oa;rw[<-wy.out]at oa));have jq:=Az (Kd.a7 YD (aQ j6));replace ee:=Az (Kd.aW (rU ee.out) (Kd.ax oa) hb);replace dZ:=Az (Kd.aW (rU dZ.out) (Kd.ax oa) hb);replace eu:=Az (Kd.aW (rU eu.out) (Kd.ax oa) hb);replace d6:=Az (Kd.aW (rU d6.out) (Kd.ax oa) hb);replace bB:=kB bB.out hb;replace bu:=kB bu.out hb;replace dc:=kB dc.out hb;replace HB:=Az (ay j6 hb);clear hb oa;refine hK.out _ _ trivial (fun hHeld=>?_);clear hK K;refine aX (a':=?_) ?_ ?_;rotate_left
          ·
           show Act.put _ (some 34) _=_
           simp only[Act.put,List.setIfInBounds_toArray,List.set_cons_zero,List.set_cons_succ,bo,bD];rfl
          exact aX tx (acy (iO,dB) _ ⟨VF,Zj,Y9,YT,Vw,(kU bB.out),(kU bu.out),(kU dc.out),rq.out,jf.out,kP.out,ob.out,jW.out,kQ.out,j6⟩)
         ·
          skip
          refine eQ Try.func72 (by kernel_rfl) rfl #[.int .i64 (bp.length:Int)] (by rfl) rfl rfl lQ ?_
          with_reducible refine(fJ.calls k (bp.length:Int) kO _ A9.out).mono ?_
          rintro e ig ⟨iP,rfl,ho0,hb⟩;refine⟨_,rfl,?_⟩;have jr:=Az (Kd.a7 I3 (aQ j6));replace ee:=Az E7;replace dZ:=Az FO;replace eu:=Az E6;replace d6:=Az (Kd.aW (rU d6.out) (Kd.ax ho0) hb);replace bB:=kB bB.out hb;replace bu:=kB bu.out hb;replace dc:=kB dc.out hb;replace HB:=Az (ay j6 hb);clear hb ho0;refine hK.out _ _ trivial (fun hHeld=>?_);clear hK K;refine aX (a':=?_) ?_ ?_;rotate_left
          ·
           show Act.put _ (some 36) _=_
           simp only[Act.put,List.setIfInBounds_toArray,List.set_cons_zero,List.set_cons_succ,bo,bD];rfl
          exact aX tx (acz (iP,dB) _ ⟨VF,Zj,Y9,YT,Xz,(kU bB.out),(kU bu.out),(kU dc.out),rq.out,jf.out,kP.out,ob.out,jW.out,kQ.out,j6⟩)
       ·
        skip
        rintro iP oc ⟨cY,cK,cL,cM,cN,cO,dj,du⟩;have n0:ae (Kd.R (Kd.int .i64) 3 oc w.heap.size (fun k_=>oS k_ bI b8.length bG/\oV k_ db/\oS k_ bH bp.length bz/\oV k_ iP) cq qu):=⟨cY⟩;have n1:ae (Kd.R (Kd.int .i64) 3 oc w.heap.size (fun k_=>oV k_ cq/\oV k_ db/\oS k_ bH bp.length bz/\oV k_ iP) (.slice bI b8.length bG) b8):=⟨cK⟩;have n2:ae (Kd.R (Kd.int .i64) 3 oc w.heap.size (fun k_=>oV k_ cq/\oS k_ bI b8.length bG/\oS k_ bH bp.length bz/\oV k_ iP) db rp):=⟨cL⟩;have n3:ae (Kd.R (Kd.int .i64) 3 oc w.heap.size (fun k_=>oV k_ cq/\oS k_ bI b8.length bG/\oV k_ db/\oV k_ iP) (.slice bH bp.length bz) bp):=⟨cM⟩;have n4:ae (Kd.R (Kd.int .i64) 3 oc w.heap.size (fun k_=>oV k_ cq/\oS k_ bI b8.length bG/\oV k_ db/\oS k_ bH bp.length bz) iP kO):=⟨cN⟩;have n5:ae (oc.heap[hG]?=some (.cells #[.string cr,.slice ak ag.length aj] 25 (0,0))):=⟨cO⟩;have n6:ae (oc.heap[eS]?=some (.cells #[.slice none 0 0,.slice none 0 0] 29 (0,0))):=⟨dj⟩;have n7:ae (Below w.heap.size w oc):=⟨du⟩;clear ee dZ eu d6 bB bu HB cY cK cL cM cN cO dj du;have ee:=n0;have dZ:=n1;have eu:=n2;have d6:=n3;have jr:=n4;have bB:=n5;have bu:=n6;have HB:=n7;clear n0 n1 n2 n3 n4 n5 n6 n7;have hHeld:=trivial;refine aX (a':=?_) ?_ ?_;rotate_left
        ·simp only[gv,Act.put,List.setIfInBounds_toArray,List.set_cons_zero,List.set_cons_succ];rfl
        refine qg (i:=2) (j:=6) (Ni:=some 34) (Nj:=some 10) (bv 8 31) (bv 8 91) rfl rfl rfl rfl (AO HT_.out (by kernel_rfl)) (by decide) (by decide) (fun K hK=>?_) (fun K hK=>?_)
        ·
         skip
         refine Kd.mZ (Kd.int .i64) _ 3 (by rfl) (N:=34) rfl 23 _ _ rfl nk rfl rfl Try.underlying23 (.int .i64 0) 8 dE rfl (by decide) (by omega) 0 (ok:=fun _=>True) (okp:=fun _=>True) rfl (fun _ hk=>hk) trivial (oA) (Nat.le_trans (Nat.mul_le_mul_right _ (oA:nk.toNat<=35184372088832)) (by omega)) (Below.refl _ _) (Nat.le_refl _) ?_;intro iO ig oa hb hg_ hnew_;clear hg_ hnew_;(first|rw[<-wy.out]at oa|(simp only[Int.reduceToNat]at oa;rw[<-wy.out]at oa));have jq:=Az (Kd.a7 (Kd.aD YD (Kd.ar (rU jr.out))) (aQ iI));replace ee:=Az (Kd.aW (rU ee.out) (Kd.ax oa) hb);replace dZ:=Az (Kd.aW (rU dZ.out) (Kd.ax oa) hb);replace eu:=Az (Kd.aW (rU eu.out) (Kd.ax oa) hb);replace d6:=Az (Kd.aW (rU d6.out) (Kd.ax oa) hb);replace jr:=Az (Kd.aW (rU jr.out) (Kd.ax oa) hb);replace bB:=kB bB.out hb;replace bu:=kB bu.out hb;replace HB:=Az (ay iI hb);clear hb oa;obtain⟨cP,cC,uM⟩:=Kd.aH jr.out;(first|subst uM|(injection uM with al aT am;have aU:=al.symm;have aV:=am.symm;clear al aT am;subst aU;subst aV));obtain⟨ku,e7,ll⟩:=Kd.aH jq.out;(first|subst ll|(injection ll with al aT am;have aU:=al.symm;have aV:=am.symm;clear al aT am;subst aU;subst aV));refine hK.out _ _ trivial (fun hHeld=>?_);clear hK K;refine aX (a':=?_) ?_ ?_;rotate_left
         ·
          show Act.put _ (some 34) _=_
          simp only[Act.put,List.setIfInBounds_toArray,List.set_cons_zero,List.set_cons_succ,bo,bD];rfl
         refine av (i:=5) (N:=some 37) (v:=?_) (a':=?_) (bv 8 63) rfl rfl (ao HT_.out (by kernel_rfl)) (fun _ _ _ h=>h) (Or.inl ⟨by rfl,?_⟩) ?_ ?_;rotate_left;(exact yP);rotate_left;(exact aP);exact aX tx (acx (.slice ku y779.length e7,.slice cP kO.length cC) _ ⟨Yy,WY,Xn,Yc,Wz,Yi,(kU bB.out),(kU bu.out),iI⟩)
        ·
         skip
         refine mF ?hg (N:=10) ?hd (cs:=#[.slice none 0 0,.slice none 0 0]) (t:=29) ?hr ?_;(case hd=>rfl);(case hg=>rfl);(case hr=>first|(go_simp;done)|(go_simp;rfl));intro dB hg ig hbox hb;replace ee:=rB ee.out hb;replace dZ:=rB dZ.out hb;replace eu:=rB eu.out hb;replace d6:=rB d6.out hb;replace jr:=rB jr.out hb;have dc:=Az (hbox);have rq:=gW hg iI;have jf:=Az ((by rw[hg];exact(aQ iI):w.heap.size<=dB));replace HB:=Az (ay iI hb);have kP:=nL hg (kU bB.out);have ob:=nS kP;replace bB:=kB bB.out hb;have jW:=nL hg (kU bu.out);have kQ:=nS jW;replace bu:=kB bu.out hb;clear hb hbox hg;refine hK.out _ _ trivial (fun hHeld=>?_);clear hK K;refine aX (a':=?_) ?_ ?_;rotate_left
         ·
          show Act.put _ (some 10) _=_
          simp only[Act.put,List.setIfInBounds_toArray,List.set_cons_zero,List.set_cons_succ,bo,bD];rfl
         exact aX tx (acz (iP,dB) _ ⟨(rU ee.out),(rU dZ.out),(rU eu.out),(rU d6.out),(rU jr.out),(kU bB.out),(kU bu.out),(kU dc.out),rq.out,jf.out,kP.out,ob.out,jW.out,kQ.out,j6⟩)
      ·
       skip
       rintro iO ig ⟨cY,cK,cL,cM,cN,cO,dj,du⟩;have n0:ae (Kd.R (Kd.int .i64) 3 ig w.heap.size (fun k_=>oS k_ bI b8.length bG/\oV k_ db/\oS k_ bH bp.length bz/\oV k_ iO) cq qu):=⟨cY⟩;have n1:ae (Kd.R (Kd.int .i64) 3 ig w.heap.size (fun k_=>oV k_ cq/\oV k_ db/\oS k_ bH bp.length bz/\oV k_ iO) (.slice bI b8.length bG) b8):=⟨cK⟩;have n2:ae (Kd.R (Kd.int .i64) 3 ig w.heap.size (fun k_=>oV k_ cq/\oS k_ bI b8.length bG/\oS k_ bH bp.length bz/\oV k_ iO) db rp):=⟨cL⟩;have n3:ae (Kd.R (Kd.int .i64) 3 ig w.heap.size (fun k_=>oV k_ cq/\oS k_ bI b8.length bG/\oV k_ db/\oV k_ iO) (.slice bH bp.length bz) bp):=⟨cM⟩;have n4:ae (Kd.R (Kd.int .i64) 3 ig w.heap.size (fun k_=>oV k_ cq/\oS k_ bI b8.length bG/\oV k_ db/\oS k_ bH bp.length bz) iO y779):=⟨cN⟩;have n5:ae (ig.heap[hG]?=some (.cells #[.string cr,.slice ak ag.length aj] 25 (0,0))):=⟨cO⟩;have n6:ae (ig.heap[eS]?=some (.cells #[.slice none 0 0,.slice none 0 0] 29 (0,0))):=⟨dj⟩;have n7:ae (Below w.heap.size w ig):=⟨du⟩;clear ee dZ eu d6 bB bu HB cY cK cL cM cN cO dj du;have ee:=n0;have dZ:=n1;have eu:=n2;have d6:=n3;have jq:=n4;have bB:=n5;have bu:=n6;have HB:=n7;clear n0 n1 n2 n3 n4 n5 n6 n7;have hHeld:=trivial;refine aX (a':=?_) ?_ ?_;rotate_left
       ·simp only[gv,Act.put,List.setIfInBounds_toArray,List.set_cons_zero,List.set_cons_succ];rfl
       refine qg (i:=4) (j:=6) (Ni:=some 36) (Nj:=some 10) (bv 8 31) (bv 8 79) rfl rfl rfl rfl (AO HT_.out (by kernel_rfl)) (by decide) (by decide) (fun K hK=>?_) (fun K hK=>?_)
       ·
        skip
        refine eQ Try.func72 (by kernel_rfl) rfl #[.int .i64 (bp.length:Int)] (by rfl) rfl rfl lQ ?_
        with_reducible refine(fJ.calls k (bp.length:Int) kO _ A9.out).mono ?_
        rintro e pU ⟨iP,rfl,ho0,hb⟩;refine⟨_,rfl,?_⟩;have jr:=Az (Kd.a7 (Kd.aD I3 (Kd.ar (rU jq.out))) (aQ iI));replace ee:=Az E7;replace dZ:=Az FO;replace eu:=Az E6;replace d6:=Az (Kd.aW (rU d6.out) (Kd.ax ho0) hb);replace jq:=Az (Kd.aW (rU jq.out) (Kd.ax ho0) hb);replace bB:=kB bB.out hb;replace bu:=kB bu.out hb;replace HB:=Az (ay iI hb);clear hb ho0;obtain⟨cP,cC,uM⟩:=Kd.aH jr.out;(first|subst uM|(injection uM with al aT am;have aU:=al.symm;have aV:=am.symm;clear al aT am;subst aU;subst aV));obtain⟨ku,e7,ll⟩:=Kd.aH jq.out;(first|subst ll|(injection ll with al aT am;have aU:=al.symm;have aV:=am.symm;clear al aT am;subst aU;subst aV));refine hK.out _ _ trivial (fun hHeld=>?_);clear hK K;refine aX (a':=?_) ?_ ?_;rotate_left
        ·
         show Act.put _ (some 36) _=_
         simp only[Act.put,List.setIfInBounds_toArray,List.set_cons_zero,List.set_cons_succ,bo,bD];rfl
        refine av (i:=5) (N:=some 37) (v:=?_) (a':=?_) (bv 8 63) rfl rfl (ao HT_.out (by kernel_rfl)) (fun _ _ _ h=>h) (Or.inl ⟨by rfl,?_⟩) ?_ ?_;rotate_left;(exact yP);rotate_left;(exact aP);exact aX tx (acx (.slice ku y779.length e7,.slice cP kO.length cC) _ ⟨Xk,YG,Zc,VD,Zv,Xo,(kU bB.out),(kU bu.out),iI⟩)
       ·
        skip
        refine mF ?hg (N:=10) ?hd (cs:=#[.slice none 0 0,.slice none 0 0]) (t:=29) ?hr ?_;(case hd=>rfl);(case hg=>rfl);(case hr=>first|(go_simp;done)|(go_simp;rfl));intro dB hg pU hbox hb;replace ee:=rB ee.out hb;replace dZ:=rB dZ.out hb;replace eu:=rB eu.out hb;replace d6:=rB d6.out hb;replace jq:=rB jq.out hb;have dc:=Az (hbox);have rq:=gW hg iI;have jf:=Az ((by rw[hg];exact(aQ iI):w.heap.size<=dB));replace HB:=Az (ay iI hb);have kP:=nL hg (kU bB.out);have ob:=nS kP;replace bB:=kB bB.out hb;have jW:=nL hg (kU bu.out);have kQ:=nS jW;replace bu:=kB bu.out hb;clear hb hbox hg;refine hK.out _ _ trivial (fun hHeld=>?_);clear hK K;refine aX (a':=?_) ?_ ?_;rotate_left
        ·
         show Act.put _ (some 10) _=_
         simp only[Act.put,List.setIfInBounds_toArray,List.set_cons_zero,List.set_cons_succ,bo,bD];rfl
        exact aX tx (acy (iO,dB) _ ⟨(rU ee.out),(rU dZ.out),(rU eu.out),(rU d6.out),(rU jq.out),(kU bB.out),(kU bu.out),(kU dc.out),rq.out,jf.out,kP.out,ob.out,jW.out,kQ.out,j6⟩)
     ·
      skip
      rintro⟨iP,dB⟩ ig ⟨cY,cK,cL,cM,cN,cO,dj,du,eG,fw,fx,fy,fT,iN,lV⟩;have n0:ae (Kd.R (Kd.int .i64) 3 ig w.heap.size (fun k_=>oS k_ bI b8.length bG/\oV k_ db/\oS k_ bH bp.length bz/\oV k_ iP) cq qu):=⟨cY⟩;have n1:ae (Kd.R (Kd.int .i64) 3 ig w.heap.size (fun k_=>oV k_ cq/\oV k_ db/\oS k_ bH bp.length bz/\oV k_ iP) (.slice bI b8.length bG) b8):=⟨cK⟩;have n2:ae (Kd.R (Kd.int .i64) 3 ig w.heap.size (fun k_=>oV k_ cq/\oS k_ bI b8.length bG/\oS k_ bH bp.length bz/\oV k_ iP) db rp):=⟨cL⟩;have n3:ae (Kd.R (Kd.int .i64) 3 ig w.heap.size (fun k_=>oV k_ cq/\oS k_ bI b8.length bG/\oV k_ db/\oV k_ iP) (.slice bH bp.length bz) bp):=⟨cM⟩;have n4:ae (Kd.R (Kd.int .i64) 3 ig w.heap.size (fun k_=>oV k_ cq/\oS k_ bI b8.length bG/\oV k_ db/\oS k_ bH bp.length bz) iP kO):=⟨cN⟩;have n5:ae (ig.heap[hG]?=some (.cells #[.string cr,.slice ak ag.length aj] 25 (0,0))):=⟨cO⟩;have n6:ae (ig.heap[eS]?=some (.cells #[.slice none 0 0,.slice none 0 0] 29 (0,0))):=⟨dj⟩;have n7:ae (ig.heap[dB]?=some (.cells #[.slice none 0 0,.slice none 0 0] 29 (0,0))):=⟨du⟩;have n8:ae (w.heap.size<=dB):=⟨eG⟩;have n9:ae (w.heap.size<=dB):=⟨fw⟩;have n10:ae (hG≠dB):=⟨fx⟩;have n11:ae (dB≠hG):=⟨fy⟩;have n12:ae (eS≠dB):=⟨fT⟩;have n13:ae (dB≠eS):=⟨iN⟩;have n14:ae (Below w.heap.size w ig):=⟨lV⟩;clear ee dZ eu d6 bB bu HB cY cK cL cM cN cO dj du eG fw fx fy fT iN lV;have ee:=n0;have dZ:=n1;have eu:=n2;have d6:=n3;have jr:=n4;have bB:=n5;have bu:=n6;have dc:=n7;have rq:=n8;have jf:=n9;have kP:=n10;have ob:=n11;have jW:=n12;have kQ:=n13;have HB:=n14;clear n0 n1 n2 n3 n4 n5 n6 n7 n8 n9 n10 n11 n12 n13 n14;have hHeld:=trivial;refine aX (a':=?_) ?_ ?_;rotate_left
      ·simp only[gv,Act.put,List.setIfInBounds_toArray,List.set_cons_zero,List.set_cons_succ];rfl
      refine dm (i:=2) (N:=some 34) (bv 8 95) rfl rfl (cJ HT_.out (by kernel_rfl)) (by decide) (fun K hK=>?_);refine Kd.mZ (Kd.int .i64) _ 3 (by rfl) (N:=34) rfl 23 _ _ rfl nk rfl rfl Try.underlying23 (.int .i64 0) 8 dE rfl (by decide) (by omega) 0 (ok:=fun _=>True) (okp:=fun _=>True) rfl (fun _ hk=>hk) trivial (oA) (Nat.le_trans (Nat.mul_le_mul_right _ (oA:nk.toNat<=35184372088832)) (by omega)) (Below.refl _ _) (Nat.le_refl _) ?_;intro iO pU wz hb hg_ hnew_;clear hg_ hnew_;(first|rw[<-wy.out]at wz|(simp only[Int.reduceToNat]at wz;rw[<-wy.out]at wz));have jq:=Az (Kd.a7 (Kd.aD (Kd.aD (Kd.aD (Kd.aD (Kd.aD wz (Kd.ar (rU ee.out))) (Kd.ar (rU dZ.out))) (Kd.ar (rU eu.out))) (Kd.ar (rU d6.out))) (Kd.ar (rU jr.out))) (aQ j6));replace ee:=Az (Kd.aW (rU ee.out) (Kd.ax wz) hb);replace dZ:=Az (Kd.aW (rU dZ.out) (Kd.ax wz) hb);replace eu:=Az (Kd.aW (rU eu.out) (Kd.ax wz) hb);replace d6:=Az (Kd.aW (rU d6.out) (Kd.ax wz) hb);replace jr:=Az (Kd.aW (rU jr.out) (Kd.ax wz) hb);replace bB:=kB bB.out hb;replace bu:=kB bu.out hb;replace dc:=kB dc.out hb;replace HB:=Az (ay j6 hb);clear hb wz;obtain⟨ku,e7,ll⟩:=Kd.aH jr.out;(first|subst ll|(injection ll with al aT am;have aU:=al.symm;have aV:=am.symm;clear al aT am;subst aU;subst aV));obtain⟨ru,ry,qw⟩:=Kd.aH jq.out;(first|subst qw|(injection qw with al aT am;have aU:=al.symm;have aV:=am.symm;clear al aT am;subst aU;subst aV));refine hK.out _ _ trivial (fun hHeld=>?_);clear hK K;refine aX (a':=?_) ?_ ?_;rotate_left
      ·
       show Act.put _ (some 34) _=_
       simp only[Act.put,List.setIfInBounds_toArray,List.set_cons_zero,List.set_cons_succ,bo,bD];rfl
      refine av (i:=5) (N:=some 37) (v:=?_) (a':=?_) (bv 8 127) rfl rfl (ao HT_.out (by kernel_rfl)) (fun _ _ _ h=>h) (Or.inl ⟨by rfl,?_⟩) ?_ ?_;rotate_left;(exact yP);rotate_left;(exact aP);exact aX tx (Rz (.slice ru y779.length ry,.slice ku kO.length e7,dB) _ ⟨Yy,WY,Xn,Yc,Wz,Yi,(kU bB.out),(kU bu.out),(kU dc.out),rq.out,jf.out,kP.out,ob.out,jW.out,kQ.out,j6⟩)
    ·
     skip
     rintro⟨iO,dB⟩ pU ⟨cY,cK,cL,cM,cN,cO,dj,du,eG,fw,fx,fy,fT,iN,lV⟩;have n0:ae (Kd.R (Kd.int .i64) 3 pU w.heap.size (fun k_=>oS k_ bI b8.length bG/\oV k_ db/\oS k_ bH bp.length bz/\oV k_ iO) cq qu):=⟨cY⟩;have n1:ae (Kd.R (Kd.int .i64) 3 pU w.heap.size (fun k_=>oV k_ cq/\oV k_ db/\oS k_ bH bp.length bz/\oV k_ iO) (.slice bI b8.length bG) b8):=⟨cK⟩;have n2:ae (Kd.R (Kd.int .i64) 3 pU w.heap.size (fun k_=>oV k_ cq/\oS k_ bI b8.length bG/\oS k_ bH bp.length bz/\oV k_ iO) db rp):=⟨cL⟩;have n3:ae (Kd.R (Kd.int .i64) 3 pU w.heap.size (fun k_=>oV k_ cq/\oS k_ bI b8.length bG/\oV k_ db/\oV k_ iO) (.slice bH bp.length bz) bp):=⟨cM⟩;have n4:ae (Kd.R (Kd.int .i64) 3 pU w.heap.size (fun k_=>oV k_ cq/\oS k_ bI b8.length bG/\oV k_ db/\oS k_ bH bp.length bz) iO y779):=⟨cN⟩;have n5:ae (pU.heap[hG]?=some (.cells #[.string cr,.slice ak ag.length aj] 25 (0,0))):=⟨cO⟩;have n6:ae (pU.heap[eS]?=some (.cells #[.slice none 0 0,.slice none 0 0] 29 (0,0))):=⟨dj⟩;have n7:ae (pU.heap[dB]?=some (.cells #[.slice none 0 0,.slice none 0 0] 29 (0,0))):=⟨du⟩;have n8:ae (w.heap.size<=dB):=⟨eG⟩;have n9:ae (w.heap.size<=dB):=⟨fw⟩;have n10:ae (hG≠dB):=⟨fx⟩;have n11:ae (dB≠hG):=⟨fy⟩;have n12:ae (eS≠dB):=⟨fT⟩;have n13:ae (dB≠eS):=⟨iN⟩;have n14:ae (Below w.heap.size w pU):=⟨lV⟩;clear ee dZ eu d6 bB bu HB cY cK cL cM cN cO dj du eG fw fx fy fT iN lV;have ee:=n0;have dZ:=n1;have eu:=n2;have d6:=n3;have jq:=n4;have bB:=n5;have bu:=n6;have dc:=n7;have rq:=n8;have jf:=n9;have kP:=n10;have ob:=n11;have jW:=n12;have kQ:=n13;have HB:=n14;clear n0 n1 n2 n3 n4 n5 n6 n7 n8 n9 n10 n11 n12 n13 n14;have hHeld:=trivial;refine aX (a':=?_) ?_ ?_;rotate_left
     ·simp only[gv,Act.put,List.setIfInBounds_toArray,List.set_cons_zero,List.set_cons_succ];rfl
     refine dm (i:=4) (N:=some 36) (bv 8 95) rfl rfl (cJ HT_.out (by kernel_rfl)) (by decide) (fun K hK=>?_);refine eQ Try.func72 (by kernel_rfl) rfl #[.int .i64 (bp.length:Int)] (by rfl) rfl rfl lQ ?_
     with_reducible refine(fJ.calls k (bp.length:Int) kO _ A9.out).mono ?_
     rintro e nl ⟨iP,rfl,ho0,hb⟩;refine⟨_,rfl,?_⟩;have jr:=Az (Kd.a7 (Kd.aD I3 (Kd.ar (rU jq.out))) (aQ j6));replace ee:=Az E7;replace dZ:=Az FO;replace eu:=Az E6;replace d6:=Az (Kd.aW (rU d6.out) (Kd.ax ho0) hb);replace jq:=Az (Kd.aW (rU jq.out) (Kd.ax ho0) hb);replace bB:=kB bB.out hb;replace bu:=kB bu.out hb;replace dc:=kB dc.out hb;replace HB:=Az (ay j6 hb);clear hb ho0;obtain⟨ku,e7,ll⟩:=Kd.aH jr.out;(first|subst ll|(injection ll with al aT am;have aU:=al.symm;have aV:=am.symm;clear al aT am;subst aU;subst aV));obtain⟨ru,ry,qw⟩:=Kd.aH jq.out;(first|subst qw|(injection qw with al aT am;have aU:=al.symm;have aV:=am.symm;clear al aT am;subst aU;subst aV));refine hK.out _ _ trivial (fun hHeld=>?_);clear hK K;refine aX (a':=?_) ?_ ?_;rotate_left
     ·
      show Act.put _ (some 36) _=_
      simp only[Act.put,List.setIfInBounds_toArray,List.set_cons_zero,List.set_cons_succ,bo,bD];rfl
     refine av (i:=5) (N:=some 37) (v:=?_) (a':=?_) (bv 8 127) rfl rfl (ao HT_.out (by kernel_rfl)) (fun _ _ _ h=>h) (Or.inl ⟨by rfl,?_⟩) ?_ ?_;rotate_left;(exact yP);rotate_left;(exact aP);exact aX tx (Rz (.slice ru y779.length ry,.slice ku kO.length e7,dB) _ ⟨Xk,YG,Zc,VD,Zv,Xo,(kU bB.out),(kU bu.out),(kU dc.out),rq.out,jf.out,kP.out,ob.out,jW.out,kQ.out,j6⟩)
   ·
    skip
    rintro⟨iO,iP⟩ td ⟨cY,cK,cL,cM,cN,cO,dj,du,eG⟩;have n0:ae (Kd.R (Kd.int .i64) 3 td w.heap.size (fun k_=>oS k_ bI b8.length bG/\oV k_ db/\oS k_ bH bp.length bz/\oV k_ iO/\oV k_ iP) cq qu):=⟨cY⟩;have n1:ae (Kd.R (Kd.int .i64) 3 td w.heap.size (fun k_=>oV k_ cq/\oV k_ db/\oS k_ bH bp.length bz/\oV k_ iO/\oV k_ iP) (.slice bI b8.length bG) b8):=⟨cK⟩;have n2:ae (Kd.R (Kd.int .i64) 3 td w.heap.size (fun k_=>oV k_ cq/\oS k_ bI b8.length bG/\oS k_ bH bp.length bz/\oV k_ iO/\oV k_ iP) db rp):=⟨cL⟩;have n3:ae (Kd.R (Kd.int .i64) 3 td w.heap.size (fun k_=>oV k_ cq/\oS k_ bI b8.length bG/\oV k_ db/\oV k_ iO/\oV k_ iP) (.slice bH bp.length bz) bp):=⟨cM⟩;have n4:ae (Kd.R (Kd.int .i64) 3 td w.heap.size (fun k_=>oV k_ cq/\oS k_ bI b8.length bG/\oV k_ db/\oS k_ bH bp.length bz/\oV k_ iP) iO y779):=⟨cN⟩;have n5:ae (Kd.R (Kd.int .i64) 3 td w.heap.size (fun k_=>oV k_ cq/\oS k_ bI b8.length bG/\oV k_ db/\oS k_ bH bp.length bz/\oV k_ iO) iP kO):=⟨cO⟩;have n6:ae (td.heap[hG]?=some (.cells #[.string cr,.slice ak ag.length aj] 25 (0,0))):=⟨dj⟩;have n7:ae (td.heap[eS]?=some (.cells #[.slice none 0 0,.slice none 0 0] 29 (0,0))):=⟨du⟩;have n8:ae (Below w.heap.size w td):=⟨eG⟩;clear ee dZ eu d6 bB bu HB cY cK cL cM cN cO dj du eG;have ee:=n0;have dZ:=n1;have eu:=n2;have d6:=n3;have jq:=n4;have jr:=n5;have bB:=n6;have bu:=n7;have HB:=n8;clear n0 n1 n2 n3 n4 n5 n6 n7 n8;have hHeld:=trivial;obtain⟨ru,ry,qw⟩:=Kd.aH jr.out;(first|subst qw|(injection qw with al aT am;have aU:=al.symm;have aV:=am.symm;clear al aT am;subst aU;subst aV));obtain⟨bY,bJ,uO⟩:=Kd.aH jq.out;(first|subst uO|(injection uO with al aT am;have aU:=al.symm;have aV:=am.symm;clear al aT am;subst aU;subst aV));refine aX (a':=?_) ?_ ?_;rotate_left
    ·simp only[gv,Act.put,List.setIfInBounds_toArray,List.set_cons_zero,List.set_cons_succ];rfl
    refine dm (i:=6) (N:=some 10) (bv 8 127) rfl rfl (cJ HT_.out (by kernel_rfl)) (by decide) (fun K hK=>?_);refine mF ?hg (N:=10) ?hd (cs:=#[.slice none 0 0,.slice none 0 0]) (t:=29) ?hr ?_;(case hd=>rfl);(case hg=>rfl);(case hr=>first|(go_simp;done)|(go_simp;rfl));intro dB hg jB hbox hb;replace ee:=rB ee.out hb;replace dZ:=rB dZ.out hb;replace eu:=rB eu.out hb;replace d6:=rB d6.out hb;replace jq:=rB jq.out hb;replace jr:=rB jr.out hb;have dc:=Az (hbox);have rq:=gW hg iI;have jf:=Az ((by rw[hg];exact(aQ iI):w.heap.size<=dB));replace HB:=Az (ay iI hb);have kP:=nL hg (kU bB.out);have ob:=nS kP;replace bB:=kB bB.out hb;have jW:=nL hg (kU bu.out);have kQ:=nS jW;replace bu:=kB bu.out hb;clear hb hbox hg;refine hK.out _ _ trivial (fun hHeld=>?_);clear hK K;refine aX (a':=?_) ?_ ?_;rotate_left
    ·
     show Act.put _ (some 10) _=_
     simp only[Act.put,List.setIfInBounds_toArray,List.set_cons_zero,List.set_cons_succ,bo,bD];rfl
    exact aX tx (Rz (.slice bY y779.length bJ,.slice ru kO.length ry,dB) _ ⟨(rU ee.out),(rU dZ.out),(rU eu.out),(rU d6.out),(rU jq.out),(rU jr.out),(kU bB.out),(kU bu.out),(kU dc.out),rq.out,jf.out,kP.out,ob.out,jW.out,kQ.out,j6⟩)
  rintro⟨iO,iP,dB⟩ nh ⟨cY,cK,cL,cM,cN,cO,dj,du,eG,fw,fx,fy,fT,iN,lV,uZ⟩;have n0:ae (Kd.R (Kd.int .i64) 3 nh w.heap.size (fun k_=>oS k_ bI b8.length bG/\oV k_ db/\oS k_ bH bp.length bz/\oV k_ iO/\oV k_ iP) cq qu):=⟨cY⟩;have n1:ae (Kd.R (Kd.int .i64) 3 nh w.heap.size (fun k_=>oV k_ cq/\oV k_ db/\oS k_ bH bp.length bz/\oV k_ iO/\oV k_ iP) (.slice bI b8.length bG) b8):=⟨cK⟩;have n2:ae (Kd.R (Kd.int .i64) 3 nh w.heap.size (fun k_=>oV k_ cq/\oS k_ bI b8.length bG/\oS k_ bH bp.length bz/\oV k_ iO/\oV k_ iP) db rp):=⟨cL⟩;have n3:ae (Kd.R (Kd.int .i64) 3 nh w.heap.size (fun k_=>oV k_ cq/\oS k_ bI b8.length bG/\oV k_ db/\oV k_ iO/\oV k_ iP) (.slice bH bp.length bz) bp):=⟨cM⟩;have n4:ae (Kd.R (Kd.int .i64) 3 nh w.heap.size (fun k_=>oV k_ cq/\oS k_ bI b8.length bG/\oV k_ db/\oS k_ bH bp.length bz/\oV k_ iP) iO y779):=⟨cN⟩;have n5:ae (Kd.R (Kd.int .i64) 3 nh w.heap.size (fun k_=>oV k_ cq/\oS k_ bI b8.length bG/\oV k_ db/\oS k_ bH bp.length bz/\oV k_ iO) iP kO):=⟨cO⟩;have n6:ae (nh.heap[hG]?=some (.cells #[.string cr,.slice ak ag.length aj] 25 (0,0))):=⟨dj⟩;have n7:ae (nh.heap[eS]?=some (.cells #[.slice none 0 0,.slice none 0 0] 29 (0,0))):=⟨du⟩;have n8:ae (nh.heap[dB]?=some (.cells #[.slice none 0 0,.slice none 0 0] 29 (0,0))):=⟨eG⟩;have n9:ae (w.heap.size<=dB):=⟨fw⟩;have n10:ae (w.heap.size<=dB):=⟨fx⟩;have n11:ae (hG≠dB):=⟨fy⟩;have n12:ae (dB≠hG):=⟨fT⟩;have n13:ae (eS≠dB):=⟨iN⟩;have n14:ae (dB≠eS):=⟨lV⟩;have n15:ae (Below w.heap.size w nh):=⟨uZ⟩;clear ee dZ eu d6 bB bu HB cY cK cL cM cN cO dj du eG fw fx fy fT iN lV uZ;have ee:=n0;have dZ:=n1;have eu:=n2;have d6:=n3;have jq:=n4;have jr:=n5;have bB:=n6;have bu:=n7;have dc:=n8;have rq:=n9;have jf:=n10;have kP:=n11;have ob:=n12;have jW:=n13;have kQ:=n14;have HB:=n15;clear n0 n1 n2 n3 n4 n5 n6 n7 n8 n9 n10 n11 n12 n13 n14 n15;have hHeld:=trivial;obtain⟨bY,bJ,uO⟩:=Kd.aH jr.out;(first|subst uO|(injection uO with al aT am;have aU:=al.symm;have aV:=am.symm;clear al aT am;subst aU;subst aV));obtain⟨my,mz,K1⟩:=Kd.aH jq.out;(first|subst K1|(injection K1 with al aT am;have aU:=al.symm;have aV:=am.symm;clear al aT am;subst aU;subst aV));refine aX (a':=?_) ?_ ?_;rotate_left
  ·simp only[gv,Act.put,List.setIfInBounds_toArray,List.set_cons_zero,List.set_cons_succ];rfl
  refine dm (i:=7) (N:=none) (bv 8 255) rfl rfl (cJ HT_.out (by kernel_rfl)) (by decide) (fun K hK=>?_);have avM:nh.cell? ⟨dB,0,none⟩=some (.slice none 0 0):=(ai dc.out 0).trans rfl;have avN:=gJ dc.out 0;have avO:=kP.out;have avP:=jW.out;have avQ:=ob.out;have avR:=kQ.out;have amI:nh.cell? ⟨dB,1,none⟩=some (.slice none 0 0):=(ai dc.out 1).trans rfl;have amJ:=gJ dc.out 1;have amK:=kP.out;have amL:=jW.out;have amM:=ob.out;have amN:=kQ.out;refine iW (w1:=?_) (by rfl) rfl ?_ ?_;rotate_left
  ·go_simp;rfl
  refine hK.out _ _ trivial (fun hHeld=>?_);clear hK K;refine eY (fN HT_.out (by kernel_rfl)) ?_
  try go_wp2
  go_loopg [11] k (fun kq v11 w'=>∃(bg:List Int) (bA:List Int) (dW:Int) (bN:List Int) (dG:List Int) (fC:Value) (da:Value),v11= .int .i64 dW/\ae (cW.l0 kq bg bA (bp.length:Int) dW bN dG=some (r1,r2,r3,r4))/\ae (kq<=k)/\ae (Kd.R (Kd.int .i64) 3 w' w.heap.size (fun k_=>some k_≠((.slice bH bp.length bz):Value).ownBlock/\oV k_ fC/\oV k_ da) cq bg)/\ae (Kd.R (Kd.int .i64) 3 w' w.heap.size (fun k_=>oV k_ cq/\oV k_ fC/\oV k_ da) (.slice bH bp.length bz) bA)/\ae (Kd.R (Kd.int .i64) 3 w' w.heap.size (fun k_=>oV k_ cq/\some k_≠((.slice bH bp.length bz):Value).ownBlock/\oV k_ da) fC bN)/\ae (Kd.R (Kd.int .i64) 3 w' w.heap.size (fun k_=>oV k_ cq/\some k_≠((.slice bH bp.length bz):Value).ownBlock/\oV k_ fC) da dG)/\ae (w'.heap[hG]?=some (.cells #[.string cr,(.slice ak ag.length aj)] 25 (0,0)))/\ae (w'.heap[eS]?=some (.cells #[(.slice none 0 0),(.slice none 0 0)] 29 (0,0)))/\ae (w'.heap[dB]?=some (.cells #[fC,da] 29 (0,0)))/\ae (Below w.heap.size w w'))
  case atStart=>exact⟨(qu),(bp),(0),(y779),(kO),(.slice my y779.length mz),(.slice bY kO.length bJ),rS,H',⟨Nat.le_refl _⟩,⟨rA (Kd.ah (Kd.aY (p:=⟨dB,1,none⟩) (Kd.aY (p:=⟨dB,0,none⟩) (Kd.cj ee.out dc.out (by decide)) (fun _ hk=>hk.2) (.slice my y779.length mz)) (fun _ hk=>hk.2) (.slice bY kO.length bJ)) (fun _ hk=>⟨hk.1.2.2.1,⟨hk.1.2.2.2.1,hk.1.2.2.2.2⟩⟩))⟩,⟨rA (Kd.ah (Kd.aY (p:=⟨dB,1,none⟩) (Kd.aY (p:=⟨dB,0,none⟩) (Kd.cj d6.out dc.out (by decide)) (fun _ hk=>hk.2) (.slice my y779.length mz)) (fun _ hk=>hk.2) (.slice bY kO.length bJ)) (fun _ hk=>⟨hk.1.1,⟨hk.1.2.2.2.1,hk.1.2.2.2.2⟩⟩))⟩,⟨rA (Kd.ah (Kd.aY (p:=⟨dB,1,none⟩) (Kd.aY (p:=⟨dB,0,none⟩) (Kd.cj jq.out dc.out (by decide)) (fun _ hk=>hk.2) (.slice my y779.length mz)) (fun _ hk=>hk.2) (.slice bY kO.length bJ)) (fun _ hk=>⟨hk.1.1,⟨hk.1.2.2.2.1,hk.1.2.2.2.2⟩⟩))⟩,⟨rA (Kd.ah (Kd.aY (p:=⟨dB,1,none⟩) (Kd.aY (p:=⟨dB,0,none⟩) (Kd.cj jr.out dc.out (by decide)) (fun _ hk=>hk.2) (.slice my y779.length mz)) (fun _ hk=>hk.2) (.slice bY kO.length bJ)) (fun _ hk=>⟨hk.1.1,⟨hk.1.2.2.2.1,hk.1.2.2.2.2⟩⟩))⟩,⟨by refine sA ?_;refine bU ?_ kP.out _;refine sA ?_;refine bU ?_ kP.out _;refine sA ?_;exact bB.out⟩,⟨by refine sA ?_;refine bU ?_ jW.out _;refine sA ?_;refine bU ?_ jW.out _;refine sA ?_;exact bu.out⟩,⟨by refine sA ?_;refine bL (cs:=#[.slice my y779.length mz,.slice none 0 0]) ?_ 1 _ rfl;refine sA ?_;refine bL (cs:=#[.slice none 0 0,.slice none 0 0]) ?_ 0 _ rfl;refine sA ?_;exact dc.out⟩,⟨bU3 HB.out mr.out o9.out jf.out⟩⟩
  case round=>
   clear H';obtain⟨bg,bA,dW,bN,dG,fC,da,rfl,HA,eZ,aG,cB,bl,aK,bB,bu,dc,HB⟩:=hrel;have oe:=(Kd.au cB.out).1;rw[oe]at cB;simp only[oe];simp only[oe]at aG;simp only[oe]at bl;simp only[oe]at aK
   rcases gk with _|k1
   exact(nN HA.out).elim;have H:=HA.out;clear HA;simp only[cW.l0]at H
   by_cases c32:dW<=(wrap64 (Int.tdiv (bp.length:Int) 2))
   ·
    rw[if_pos c32]at H;have Ea:=decide_eq_true c32;(have GY:=Ea;rw[oe]at GY);(have RA:=GY;rw[Int.tdiv_eq_ediv_of_nonneg (Int.natCast_nonneg _)]at RA);clear c32;generalize K2:(([]:List Int):List Int)=y786 at H;replace K2:=Ay K2;have H':=Az H;clear H
    go_wp2_with (first|((with_reducible refine gd 44 rfl ?_);refine Kd.ji (Kd.int .i64) _ 3 rfl (N:=44) rfl (xs:=([]:List Int)) (inner:=[]) (ok:=fun _=>True) (okp:=fun _=>True) hS ?hp (fun _ hk=>hk) trivial (Below.refl _ _) (Nat.le_refl _) (by simp) ?_;(case hp=>exact(Reps.none _ _));intro avS w33 oN hb hg_ hnew_;clear hg_ hnew_;(first|rw[<-K2.out]at oN|(simp only[Int.reduceToNat]at oN;rw[<-K2.out]at oN));have amO:=Az (Kd.a7 (Kd.aD (Kd.aD (Kd.aD (Kd.aD oN (Kd.ar (rU aG.out))) (Kd.ar (rU cB.out))) (Kd.ar (rU bl.out))) (Kd.ar (rU aK.out))) (aQ j6));replace aG:=Az (Kd.aW (rU aG.out) (Kd.ax oN) hb);replace cB:=Az (Kd.aW (rU cB.out) (Kd.ax oN) hb);replace bl:=Az (Kd.aW (rU bl.out) (Kd.ax oN) hb);replace aK:=Az (Kd.aW (rU aK.out) (Kd.ax oN) hb);replace bB:=kB bB.out hb;replace bu:=kB bu.out hb;replace dc:=kB dc.out hb;replace HB:=Az (ay j6 hb);clear hb oN))
    go_loopg [12,13] k1 (fun kq v12 v13 w'=>∃(wA:List Int) (si:Int),v13= .int .i64 si/\ae (cW.l1 kq bg bA (bp.length:Int) dW wA si bN dG=some (r1,r2,r3,r4))/\ae (kq<=k1)/\ae (Kd.R (Kd.int .i64) 3 w' w.heap.size (fun k_=>some k_≠((.slice bH bA.length bz):Value).ownBlock/\oV k_ v12/\oV k_ fC/\oV k_ da) cq bg)/\ae (Kd.R (Kd.int .i64) 3 w' w.heap.size (fun k_=>oV k_ cq/\oV k_ v12/\oV k_ fC/\oV k_ da) (.slice bH bA.length bz) bA)/\ae (Kd.R (Kd.int .i64) 3 w' w.heap.size (fun k_=>oV k_ cq/\some k_≠((.slice bH bA.length bz):Value).ownBlock/\oV k_ fC/\oV k_ da) v12 wA)/\ae (Kd.R (Kd.int .i64) 3 w' w.heap.size (fun k_=>oV k_ cq/\some k_≠((.slice bH bA.length bz):Value).ownBlock/\oV k_ v12/\oV k_ da) fC bN)/\ae (Kd.R (Kd.int .i64) 3 w' w.heap.size (fun k_=>oV k_ cq/\some k_≠((.slice bH bA.length bz):Value).ownBlock/\oV k_ v12/\oV k_ fC) da dG)/\ae (w'.heap[hG]?=some (.cells #[.string cr,(.slice ak ag.length aj)] 25 (0,0)))/\ae (w'.heap[eS]?=some (.cells #[(.slice none 0 0),(.slice none 0 0)] 29 (0,0)))/\ae (w'.heap[dB]?=some (.cells #[fC,da] 29 (0,0)))/\ae (Below w.heap.size w w'))
    case atStart=>exact⟨(y786),(0),rS,H',⟨Nat.le_refl _⟩,⟨rA (Kd.ah aG.out (fun _ hk=>⟨hk.1.1,⟨hk.2,⟨hk.1.2.1,hk.1.2.2⟩⟩⟩))⟩,⟨rA (Kd.ah cB.out (fun _ hk=>⟨hk.1.1,⟨hk.2,⟨hk.1.2.1,hk.1.2.2⟩⟩⟩))⟩,⟨rA (Kd.ah amO.out (fun _ hk=>⟨hk.1.1.1.2,⟨hk.1.1.2,⟨hk.1.2,hk.2⟩⟩⟩))⟩,⟨rA (Kd.ah bl.out (fun _ hk=>⟨hk.1.1,⟨hk.1.2.1,⟨hk.2,hk.1.2.2⟩⟩⟩))⟩,⟨rA (Kd.ah aK.out (fun _ hk=>⟨hk.1.1,⟨hk.1.2.1,⟨hk.2,hk.1.2.2⟩⟩⟩))⟩,⟨sA bB.out⟩,⟨sA bu.out⟩,⟨sA dc.out⟩,⟨bU3 HB.out mr.out o9.out jf.out⟩⟩
    case round=>
     clear H';obtain⟨wA,si,rfl,HA,eE,aG,cB,iE,bl,aK,bB,bu,dc,HB⟩:=hrel
     rcases gk with _|k2
     exact(nN HA.out).elim;have H:=HA.out;clear HA;simp only[cW.l1]at H
     by_cases xG:si<(bp.length:Int)
     ·
      rw[if_pos xG]at H;have BO:=decide_eq_true xG;(have RB:=BO;rw[oe]at RB);clear xG;replace H:=gD1 H;obtain⟨Qr,H⟩:=H;replace H:=gP H;obtain⟨c37,H⟩:=H;have Qs:=decide_eq_true c37;clear c37
      by_cases wB:(rd bg si)=dW
      ·
       rw[if_pos wB]at H;have Eb:=beq_iff_eq.mpr wB;have Qt:=bne_eq_false_iff_eq.mpr wB;clear wB;have H':=Az H;clear H;obtain⟨avT,qt,K3⟩:=Kd.aH aG.out;subst K3;obtain⟨tc,RD,amP,amQ,amR⟩:=aI (Kd.au aG.out).2.2 si
       cases RD;go_wp2
       go_loopg [12,14] k2 (fun kq v12 v14 w'=>∃(kr:List Int) (Ce:Int),v14= .int .i64 Ce/\ae (cW.l2 kq bg bA (bp.length:Int) dW kr si Ce bN dG=some (r1,r2,r3,r4))/\ae (kq<=k2)/\ae (Kd.R (Kd.int .i64) 3 w' w.heap.size (fun k_=>some k_≠((.slice bH bA.length bz):Value).ownBlock/\oV k_ v12/\oV k_ fC/\oV k_ da) (.slice (some tc) bg.length qt) bg)/\ae (Kd.R (Kd.int .i64) 3 w' w.heap.size (fun k_=>some k_≠((.slice (some tc) bg.length qt):Value).ownBlock/\oV k_ v12/\oV k_ fC/\oV k_ da) (.slice bH bA.length bz) bA)/\ae (Kd.R (Kd.int .i64) 3 w' w.heap.size (fun k_=>some k_≠((.slice (some tc) bg.length qt):Value).ownBlock/\some k_≠((.slice bH bA.length bz):Value).ownBlock/\oV k_ fC/\oV k_ da) v12 kr)/\ae (Kd.R (Kd.int .i64) 3 w' w.heap.size (fun k_=>some k_≠((.slice (some tc) bg.length qt):Value).ownBlock/\some k_≠((.slice bH bA.length bz):Value).ownBlock/\oV k_ v12/\oV k_ da) fC bN)/\ae (Kd.R (Kd.int .i64) 3 w' w.heap.size (fun k_=>some k_≠((.slice (some tc) bg.length qt):Value).ownBlock/\some k_≠((.slice bH bA.length bz):Value).ownBlock/\oV k_ v12/\oV k_ fC) da dG)/\ae (w'.heap[hG]?=some (.cells #[.string cr,(.slice ak ag.length aj)] 25 (0,0)))/\ae (w'.heap[eS]?=some (.cells #[(.slice none 0 0),(.slice none 0 0)] 29 (0,0)))/\ae (w'.heap[dB]?=some (.cells #[fC,da] 29 (0,0)))/\ae (Below w.heap.size w w'))
       case atStart=>exact⟨(wA),(1),rS,H',⟨Nat.le_refl _⟩,⟨rA aG.out⟩,⟨rA cB.out⟩,⟨rA iE.out⟩,⟨rA bl.out⟩,⟨rA aK.out⟩,⟨sA bB.out⟩,⟨sA bu.out⟩,⟨sA dc.out⟩,⟨bU3 HB.out mr.out o9.out jf.out⟩⟩
       case round=>
        clear H';obtain⟨kr,Ce,rfl,HA,rR,aG,cB,iE,bl,aK,bB,bu,dc,HB⟩:=hrel
        rcases gk with _|k3
        exact(nN HA.out).elim;have H:=HA.out;clear HA;simp only[cW.l2]at H
        by_cases c40:Ce<(bp.length:Int)
        ·
         rw[if_pos c40]at H;have Cf:=decide_eq_true c40;(have RE:=Cf;rw[oe]at RE);clear c40
         by_cases rk:(bp.length:Int)=0
         ·rw[if_pos rk]at H;exact absurd H (by simp)
         ·
          rw[if_neg rk]at H;have amS:=beq_eq_false_iff_ne.mpr rk;(have amT:=amS;rw[oe]at amT);have amU:=bne_iff_ne.mpr rk;(have amV:=amU;rw[oe]at amV)
          have avU:¬(bp=[]):=fun h_=>rk (by rw[h_];rfl)
          obtain⟨GZ,RF⟩:∃j_:Int,(Int.tmod (wrap64 ((wrap64 (si-Ce))+(bp.length:Int))) (bp.length:Int))=j_:=⟨_,rfl⟩;(have amW:=RF;rw[oe]at amW);(first|rw[RF]at H|simp only[RF]at H);replace H:=gD1 H;obtain⟨amX,H⟩:=H;replace H:=gP H;obtain⟨c44,H⟩:=H;have abt:=decide_eq_true c44;clear c44
          replace H:=gQ H;rcases H with⟨Rb,Rc,H⟩|⟨Rb,Rc,H⟩
          ·
           replace H:=gP H;obtain⟨c46,H⟩:=H;have amY:=Az c46;clear c46;generalize RG:(kr++[wrap64 ((wrap64 (2*(GZ)))+1)]:List Int)=y792 at H;replace RG:=Ay RG;have H':=Az H;clear H;obtain⟨G0,RH,amZ,am0,am1⟩:=aI (Kd.au cB.out).2.2 (GZ)
           cases RH
           go_wp2_with (first|((with_reducible refine mf (b:=.append) (xs:=#[.tmp 74,.tmp 78]) rfl ?_);at_builtin;refine Kd.na (Kd.int .i64) (w0:=w) w.heap.size rfl (.tmp 74) (.tmp 78) 23 3 (.int .i64 0) 8 rfl Try.underlying23 dE rfl (by decide) (by omega) u12 kr (wrap64 ((wrap64 (2*(GZ)))+1)) [.int .i64 (wrap64 ((wrap64 (2*(GZ)))+1))] (fun k_=>some k_≠(.slice (some tc) bg.length qt:Value).ownBlock/\some k_≠(.slice (some G0) bA.length bz:Value).ownBlock/\oV k_ fC/\oV k_ da) (fun _=>False) rfl rfl ?aP (fun _ hk=>hk.elim) ?aF ?aO ?aB ?aS ?aL ?_;(case aP=>exact rfl);(case aB=>exact j6);(case aF=>exact(fun k_ hk=>⟨Kd.dD (Kd.ar (rU aG.out)) k_ hk,Kd.dD (Kd.ar (rU cB.out)) k_ hk,Kd.dD (Kd.ar (rU bl.out)) k_ hk,Kd.dD (Kd.ar (rU aK.out)) k_ hk⟩));(case aO=>exact(rU iE.out));(case aS=>exact(aQ j6));(case aL=>have:=amY.out;omega);intro avV oY ho hb hg hat;rw[<-RG.out]at ho;replace aG:=Az (Kd.cA (ok:=(fun k_=>some k_≠(.slice (some G0) bA.length bz:Value).ownBlock/\oV k_ fC/\oV k_ da)) Vv hg hat);replace cB:=Az XB;replace bl:=Az (Kd.cA (ok:=(fun k_=>some k_≠(.slice (some tc) bg.length qt:Value).ownBlock/\some k_≠(.slice (some G0) bA.length bz:Value).ownBlock/\oV k_ da)) XE hg hat);replace aK:=Az (Kd.cA (ok:=(fun k_=>some k_≠(.slice (some tc) bg.length qt:Value).ownBlock/\some k_≠(.slice (some G0) bA.length bz:Value).ownBlock/\oV k_ fC)) Xx hg hat);replace bB:=Az (kG bB.out hg (Kd.cG iE.out bB.out (by decide)));replace bu:=Az (kG bu.out hg (Kd.cG iE.out bu.out (by decide)));replace dc:=Az (kG dc.out hg (Kd.cG iE.out dc.out (by decide)));replace HB:=Az (hb);have am2:=Az (ho);clear iE ho hb hg hat))
           go_roundg k3
           case measure=>exact mO
           case rel=>exact⟨(y792),(wrap64 (Ce+1)),rS,H',⟨mO⟩,⟨rA (Kd.ah aG.out (fun _ hk=>⟨hk.1.1,⟨hk.2,⟨hk.1.2.1,hk.1.2.2⟩⟩⟩))⟩,⟨rA (Kd.ah cB.out (fun _ hk=>⟨hk.1.1,⟨hk.2,⟨hk.1.2.1,hk.1.2.2⟩⟩⟩))⟩,⟨rA am2.out⟩,⟨rA (Kd.ah bl.out (fun _ hk=>⟨hk.1.1,⟨hk.1.2.1,⟨hk.2,hk.1.2.2⟩⟩⟩))⟩,⟨rA (Kd.ah aK.out (fun _ hk=>⟨hk.1.1,⟨hk.1.2.1,⟨hk.2,hk.1.2.2⟩⟩⟩))⟩,⟨sA bB.out⟩,⟨sA bu.out⟩,⟨sA dc.out⟩,⟨bU3 HB.out mr.out o9.out jf.out⟩⟩
          ·
           have H':=Az H;clear H;obtain⟨G0,RH,amZ,am0,am1⟩:=aI (Kd.au cB.out).2.2 (GZ)
           cases RH;go_wp2;go_roundg k3
           case measure=>exact mO
           case rel=>exact⟨(kr),(wrap64 (Ce+1)),rS,H',⟨mO⟩,⟨rA aG.out⟩,⟨rA cB.out⟩,⟨rA iE.out⟩,⟨rA bl.out⟩,⟨rA aK.out⟩,⟨sA bB.out⟩,⟨sA bu.out⟩,⟨sA dc.out⟩,⟨bU3 HB.out mr.out o9.out jf.out⟩⟩
        ·
         rw[if_neg c40]at H;have Cf:=decide_eq_false c40;(have RE:=Cf;rw[oe]at RE);clear c40;replace H:=gP H;obtain⟨Cg,H⟩:=H;have am3:=Az Cg;clear Cg;generalize RI:(kr++[wrap64 (2*si)]:List Int)=y795 at H;replace RI:=Ay RI;have H':=Az H;clear H
         go_wp2_with (first|((with_reducible refine mf (b:=.append) (xs:=#[.tmp 80,.tmp 83]) rfl ?_);at_builtin;refine Kd.na (Kd.int .i64) (w0:=w) w.heap.size rfl (.tmp 80) (.tmp 83) 23 3 (.int .i64 0) 8 rfl Try.underlying23 dE rfl (by decide) (by omega) u12 kr (wrap64 (2*si)) [.int .i64 (wrap64 (2*si))] (fun k_=>some k_≠(.slice (some tc) bg.length qt:Value).ownBlock/\oS k_ bH bA.length bz/\oV k_ fC/\oV k_ da) (fun _=>False) rfl rfl ?aP (fun _ hk=>hk.elim) ?aF ?aO ?aB ?aS ?aL ?_;(case aP=>exact rfl);(case aB=>exact j6);(case aF=>exact(fun k_ hk=>⟨Kd.dD (Kd.ar (rU aG.out)) k_ hk,Kd.dD (Kd.ar (rU cB.out)) k_ hk,Kd.dD (Kd.ar (rU bl.out)) k_ hk,Kd.dD (Kd.ar (rU aK.out)) k_ hk⟩));(case aO=>exact(rU iE.out));(case aS=>exact(aQ j6));(case aL=>have:=am3.out;omega);intro avW Qb ho hb hg hat;rw[<-RI.out]at ho;replace aG:=Az (Kd.cA (ok:=(fun k_=>oS k_ bH bA.length bz/\oV k_ fC/\oV k_ da)) Vv hg hat);replace cB:=Az XB;replace bl:=Az (Kd.cA (ok:=(fun k_=>some k_≠(.slice (some tc) bg.length qt:Value).ownBlock/\oS k_ bH bA.length bz/\oV k_ da)) XE hg hat);replace aK:=Az (Kd.cA (ok:=(fun k_=>some k_≠(.slice (some tc) bg.length qt:Value).ownBlock/\oS k_ bH bA.length bz/\oV k_ fC)) Xx hg hat);replace bB:=Az (kG bB.out hg (Kd.cG iE.out bB.out (by decide)));replace bu:=Az (kG bu.out hg (Kd.cG iE.out bu.out (by decide)));replace dc:=Az (kG dc.out hg (Kd.cG iE.out dc.out (by decide)));replace HB:=Az (hb);have am4:=Az (ho);clear iE ho hb hg hat))
         go_roundg k3
         case measure=>exact mO
         case rel=>exact⟨(y795),(wrap64 (si+1)),rS,H',⟨mO⟩,⟨rA (Kd.ah aG.out (fun _ hk=>⟨hk.1.1,⟨hk.2,⟨hk.1.2.1,hk.1.2.2⟩⟩⟩))⟩,⟨rA (Kd.ah cB.out (fun _ hk=>⟨hk.1.1,⟨hk.2,⟨hk.1.2.1,hk.1.2.2⟩⟩⟩))⟩,⟨rA am4.out⟩,⟨rA (Kd.ah bl.out (fun _ hk=>⟨hk.1.1,⟨hk.1.2.1,⟨hk.2,hk.1.2.2⟩⟩⟩))⟩,⟨rA (Kd.ah aK.out (fun _ hk=>⟨hk.1.1,⟨hk.1.2.1,⟨hk.2,hk.1.2.2⟩⟩⟩))⟩,⟨sA bB.out⟩,⟨sA bu.out⟩,⟨sA dc.out⟩,⟨bU3 HB.out mr.out o9.out jf.out⟩⟩
      ·
       rw[if_neg wB]at H;have Eb:=beq_eq_false_iff_ne.mpr wB;have Qt:=bne_iff_ne.mpr wB;have H':=Az H;clear H;obtain⟨avX,avY,am5⟩:=Kd.aH aG.out;subst am5;obtain⟨tc,RD,amP,amQ,amR⟩:=aI (Kd.au aG.out).2.2 si
       cases RD;go_wp2;go_roundg k2
       case measure=>exact mO
       case rel=>exact⟨(wA),(wrap64 (si+1)),rS,H',⟨mO⟩,⟨rA aG.out⟩,⟨rA cB.out⟩,⟨rA iE.out⟩,⟨rA bl.out⟩,⟨rA aK.out⟩,⟨sA bB.out⟩,⟨sA bu.out⟩,⟨sA dc.out⟩,⟨bU3 HB.out mr.out o9.out jf.out⟩⟩
     ·
      rw[if_neg xG]at H;have BO:=decide_eq_false xG;(have RB:=BO;rw[oe]at RB);clear xG;replace H:=bd H;obtain⟨K0,Gj,H⟩:=H;have H':=Az H;clear H;have avZ:=ob.out;have av0:=kP.out;have am6:=kQ.out;have av1:=jW.out;have am7:=bc2 dc.out;obtain⟨kR,kS,zA⟩:=Kd.aH bl.out;subst zA;obtain⟨Ei,Ej,K4⟩:=Kd.aH iE.out;subst K4
      go_wp2_with (first|((with_reducible refine gK 73 rfl ?_);refine gC (some 88) Try.func73 #[.slice kR bN.length kS,.slice Ei wA.length Ej] ?_;(with_reducible refine(fG.calls k2 (fun k_=>some k_=(.slice kR bN.length kS:Value).ownBlock) (.slice kR bN.length kS) bN _ _ wA K0 w _ ?side1 ?side2 ?side3 ?side4 Gj.out).mono ?_);(case side1=>repeat (first|(with_reducible first|exact HB.out|apply bm|apply bw|apply a8|refine ap ?_ mr.out|refine ap ?_ o9.out|refine ap ?_ jf.out)|exact HB.out));(case side2=>exact Kd.yJ rfl bl.out);(case side3=>exact Kd.ZD (iE.out) (fun k_ hk_ hs_=>(hk_.2.2.1) hs_));(case side4=>exact(Kd.au iE.out).2.1);rintro e Gz ⟨rfl,hy0,hb,hkp⟩;refine⟨_,rfl,?_⟩;replace aG:=Az (Kd.ah (ok':=fun k_=>oS k_ bH bA.length bz/\oS k_ Ei wA.length Ej/\oS k_ kR bN.length kS/\oV k_ da) (Kd.Aw (aG.out) hkp (fun k_ hk_ hs_=>(hk_.2.2.1) hs_)) (fun k_ hk_=>⟨hk_.1.1,hk_.1.2.1,hk_.1.2.2.1,hk_.1.2.2.2⟩));replace cB:=Az (Kd.ah (ok':=fun k_=>oV k_ cq/\oS k_ Ei wA.length Ej/\oS k_ kR bN.length kS/\oV k_ da) (Kd.Aw (cB.out) hkp (fun k_ hk_ hs_=>(hk_.2.2.1) hs_)) (fun k_ hk_=>⟨hk_.1.1,hk_.1.2.1,hk_.1.2.2.1,hk_.1.2.2.2⟩));replace iE:=Az (Kd.ah (ok':=fun k_=>oV k_ cq/\oS k_ bH bA.length bz/\oS k_ kR bN.length kS/\oV k_ da) (Kd.Aw (iE.out) hkp (fun k_ hk_ hs_=>(hk_.2.2.1) hs_)) (fun k_ hk_=>⟨hk_.1.1,hk_.1.2.1,hk_.1.2.2.1,hk_.1.2.2.2⟩));replace aK:=Az (Kd.ah (ok':=fun k_=>oV k_ cq/\oS k_ bH bA.length bz/\oS k_ Ei wA.length Ej/\oS k_ kR bN.length kS) (Kd.Aw (aK.out) hkp (fun k_ hk_ hs_=>(hk_.2.2.2) hs_)) (fun k_ hk_=>⟨hk_.1.1,hk_.1.2.1,hk_.1.2.2.1,hk_.1.2.2.2⟩));replace bB:=Az (Ap (kU bB.out) hkp (fun hs_=>(fun e_=>(Kd.cG bl.out bB.out (by decide)) e_) hs_));replace bu:=Az (Ap (kU bu.out) hkp (fun hs_=>(fun e_=>(Kd.cG bl.out bu.out (by decide)) e_) hs_));replace dc:=Az (Ap (kU dc.out) hkp (fun hs_=>(fun e_=>(Kd.cG bl.out dc.out (by decide)) e_) hs_));replace bl:=Az (Kd.IR rfl hy0 (fun k_ e_=>bl.out.1 k_ e_));replace HB:=Az (hb);clear hb))
      simp only[<-oe];go_roundg k2
      case measure=>exact mO
      case rel=>exact⟨(bg),(bA),(wrap64 (dW+1)),(K0),(dG),(.slice kR bN.length kS),(da),rS,H',⟨mO⟩,⟨by simp only[oe];refine rA ?_;exact Kd.ah aG.out (fun _ hk=>⟨hk.1,⟨hk.2.2.1,hk.2.2.2⟩⟩)⟩,⟨by simp only[oe];refine rA ?_;exact Kd.ah cB.out (fun _ hk=>⟨hk.1,⟨hk.2.2.1,hk.2.2.2⟩⟩)⟩,⟨by simp only[oe];refine rA ?_;exact Kd.ah bl.out (fun _ hk=>⟨hk.1,⟨hk.2.1,hk.2.2.2⟩⟩)⟩,⟨by simp only[oe];refine rA ?_;exact Kd.ah aK.out (fun _ hk=>⟨hk.1,⟨hk.2.1,hk.2.2.2⟩⟩)⟩,⟨sA bB.out⟩,⟨sA bu.out⟩,⟨sA dc.out⟩,⟨bU3 HB.out mr.out o9.out jf.out⟩⟩
   ·
    rw[if_neg c32]at H;have Ea:=decide_eq_false c32;(have GY:=Ea;rw[oe]at GY);(have RA:=GY;rw[Int.tdiv_eq_ediv_of_nonneg (Int.natCast_nonneg _)]at RA);clear c32;generalize K5:(([]:List Int):List Int)=y798 at H;replace K5:=Ay K5;have H':=Az H;clear H
    go_wp2_with (first|((with_reducible refine gd 89 rfl ?_);refine Kd.ji (Kd.int .i64) _ 3 rfl (N:=89) rfl (xs:=([]:List Int)) (inner:=[]) (ok:=fun _=>True) (okp:=fun _=>True) hS ?hp (fun _ hk=>hk) trivial (Below.refl _ _) (Nat.le_refl _) (by simp) ?_;(case hp=>exact(Reps.none _ _));intro av2 w58 xH hb hg_ hnew_;clear hg_ hnew_;(first|rw[<-K5.out]at xH|(simp only[Int.reduceToNat]at xH;rw[<-K5.out]at xH));have am8:=Az (Kd.a7 (Kd.aD (Kd.aD (Kd.aD (Kd.aD xH (Kd.ar (rU aG.out))) (Kd.ar (rU cB.out))) (Kd.ar (rU bl.out))) (Kd.ar (rU aK.out))) (aQ j6));replace aG:=Az (Kd.aW (rU aG.out) (Kd.ax xH) hb);replace cB:=Az (Kd.aW (rU cB.out) (Kd.ax xH) hb);replace bl:=Az (Kd.aW (rU bl.out) (Kd.ax xH) hb);replace aK:=Az (Kd.aW (rU aK.out) (Kd.ax xH) hb);replace bB:=kB bB.out hb;replace bu:=kB bu.out hb;replace dc:=kB dc.out hb;replace HB:=Az (ay j6 hb);clear hb xH))
    go_loopg [16,17] k1 (fun kq v16 v17 w'=>∃(te:List Int) (wC:Int),v17= .int .i64 wC/\ae (cW.l3 kq bA te wC bN dG=some (r1,r2,r3,r4))/\ae (kq<=k1)/\ae (Kd.R (Kd.int .i64) 3 w' w.heap.size (fun k_=>oV k_ v16/\oV k_ fC/\oV k_ da) (.slice bH bA.length bz) bA)/\ae (Kd.R (Kd.int .i64) 3 w' w.heap.size (fun k_=>some k_≠((.slice bH bA.length bz):Value).ownBlock/\oV k_ fC/\oV k_ da) v16 te)/\ae (Kd.R (Kd.int .i64) 3 w' w.heap.size (fun k_=>some k_≠((.slice bH bA.length bz):Value).ownBlock/\oV k_ v16/\oV k_ da) fC bN)/\ae (Kd.R (Kd.int .i64) 3 w' w.heap.size (fun k_=>some k_≠((.slice bH bA.length bz):Value).ownBlock/\oV k_ v16/\oV k_ fC) da dG)/\ae (w'.heap[hG]?=some (.cells #[.string cr,(.slice ak ag.length aj)] 25 (0,0)))/\ae (w'.heap[eS]?=some (.cells #[(.slice none 0 0),(.slice none 0 0)] 29 (0,0)))/\ae (w'.heap[dB]?=some (.cells #[fC,da] 29 (0,0)))/\ae (Below w.heap.size w w'))
    case atStart=>exact⟨(y798),(wrap64 ((bp.length:Int)-1)),rS,H',⟨Nat.le_refl _⟩,⟨rA (Kd.ah cB.out (fun _ hk=>⟨hk.2,⟨hk.1.2.1,hk.1.2.2⟩⟩))⟩,⟨rA (Kd.ah am8.out (fun _ hk=>⟨hk.1.1.2,⟨hk.1.2,hk.2⟩⟩))⟩,⟨rA (Kd.ah bl.out (fun _ hk=>⟨hk.1.2.1,⟨hk.2,hk.1.2.2⟩⟩))⟩,⟨rA (Kd.ah aK.out (fun _ hk=>⟨hk.1.2.1,⟨hk.2,hk.1.2.2⟩⟩))⟩,⟨sA bB.out⟩,⟨sA bu.out⟩,⟨sA dc.out⟩,⟨bU3 HB.out mr.out o9.out jf.out⟩⟩
    case round=>
     clear H';obtain⟨te,wC,rfl,HA,eE,cB,nZ,bl,aK,bB,bu,dc,HB⟩:=hrel
     rcases gk with _|k2
     exact(nN HA.out).elim;have H:=HA.out;clear HA;simp only[cW.l3]at H
     replace H:=gB H;rcases H with⟨BD,H⟩|⟨BD,H⟩
     ·
      replace H:=gD1 H;obtain⟨acB,H⟩:=H;replace H:=gP H;obtain⟨c62,H⟩:=H;have acD:=decide_eq_true c62;clear c62
      replace H:=gB H;rcases H with⟨acE,H⟩|⟨acE,H⟩
      ·
       replace H:=gP H;obtain⟨c64,H⟩:=H;have am9:=Az c64;clear c64;generalize RJ:(te++[wrap64 ((wrap64 (2*wC))+1)]:List Int)=y802 at H;replace RJ:=Ay RJ;have H':=Az H;clear H;obtain⟨K6,RL,ana,anb,anc⟩:=aI (Kd.au cB.out).2.2 wC
       cases RL
       go_wp2_with (first|((with_reducible refine mf (b:=.append) (xs:=#[.tmp 101,.tmp 105]) rfl ?_);at_builtin;refine Kd.na (Kd.int .i64) (w0:=w) w.heap.size rfl (.tmp 101) (.tmp 105) 23 3 (.int .i64 0) 8 rfl Try.underlying23 dE rfl (by decide) (by omega) u16 te (wrap64 ((wrap64 (2*wC))+1)) [.int .i64 (wrap64 ((wrap64 (2*wC))+1))] (fun k_=>some k_≠(.slice (some K6) bA.length bz:Value).ownBlock/\oV k_ fC/\oV k_ da) (fun _=>False) rfl rfl ?aP (fun _ hk=>hk.elim) ?aF ?aO ?aB ?aS ?aL ?_;(case aP=>exact rfl);(case aB=>exact j6);(case aF=>exact(fun k_ hk=>⟨Kd.dD (Kd.ar (rU cB.out)) k_ hk,Kd.dD (Kd.ar (rU bl.out)) k_ hk,Kd.dD (Kd.ar (rU aK.out)) k_ hk⟩));(case aO=>exact(rU nZ.out));(case aS=>exact(aQ j6));(case aL=>have:=am9.out;omega);intro av3 sc ho hb hg hat;rw[<-RJ.out]at ho;replace cB:=Az (Kd.cA (ok:=(fun k_=>oV k_ fC/\oV k_ da)) (rA (Kd.ah cB.out (fun _ hk=>⟨⟨hk.2.1,hk.2.2⟩,hk.1⟩))) hg hat);replace bl:=Az (Kd.cA (ok:=(fun k_=>some k_≠(.slice (some K6) bA.length bz:Value).ownBlock/\oV k_ da)) (rA (Kd.ah bl.out (fun _ hk=>⟨⟨hk.1,hk.2.2⟩,hk.2.1⟩))) hg hat);replace aK:=Az (Kd.cA (ok:=(fun k_=>some k_≠(.slice (some K6) bA.length bz:Value).ownBlock/\oV k_ fC)) (rA (Kd.ah aK.out (fun _ hk=>⟨⟨hk.1,hk.2.2⟩,hk.2.1⟩))) hg hat);replace bB:=Az (kG bB.out hg (Kd.cG nZ.out bB.out (by decide)));replace bu:=Az (kG bu.out hg (Kd.cG nZ.out bu.out (by decide)));replace dc:=Az (kG dc.out hg (Kd.cG nZ.out dc.out (by decide)));replace HB:=Az (hb);have ane:=Az (ho);clear nZ ho hb hg hat))
       go_roundg k2
       case measure=>exact mO
       case rel=>exact⟨(y802),(wrap64 (wC-1)),rS,H',⟨mO⟩,⟨rA (Kd.ah cB.out (fun _ hk=>⟨hk.2,⟨hk.1.1,hk.1.2⟩⟩))⟩,⟨rA ane.out⟩,⟨rA (Kd.ah bl.out (fun _ hk=>⟨hk.1.1,⟨hk.2,hk.1.2⟩⟩))⟩,⟨rA (Kd.ah aK.out (fun _ hk=>⟨hk.1.1,⟨hk.2,hk.1.2⟩⟩))⟩,⟨sA bB.out⟩,⟨sA bu.out⟩,⟨sA dc.out⟩,⟨bU3 HB.out mr.out o9.out jf.out⟩⟩
      ·
       have H':=Az H;clear H;obtain⟨K6,RL,ana,anb,anc⟩:=aI (Kd.au cB.out).2.2 wC
       cases RL;go_wp2;go_roundg k2
       case measure=>exact mO
       case rel=>exact⟨(te),(wrap64 (wC-1)),rS,H',⟨mO⟩,⟨rA cB.out⟩,⟨rA nZ.out⟩,⟨rA bl.out⟩,⟨rA aK.out⟩,⟨sA bB.out⟩,⟨sA bu.out⟩,⟨sA dc.out⟩,⟨bU3 HB.out mr.out o9.out jf.out⟩⟩
     ·
      replace H:=bd H;obtain⟨Rx,A66,H⟩:=H;obtain⟨K7,K8⟩:∃j_:Int,(wrap64 ((te.length:Int)-1))=j_:=⟨_,rfl⟩;(first|rw[K8]at H|simp only[K8]at H);have av4:(IntKind.i64.wrap ((te.length:Int)-1))=K7:=(bo _).trans K8;replace H:=gD1 H;obtain⟨ang,H⟩:=H;replace H:=gP H;obtain⟨c69,H⟩:=H;have anh:=decide_eq_true c69;clear c69;simp only[Option.some.injEq,Prod.mk.injEq]at H;obtain⟨rfl,rfl,rfl,rfl⟩:=H;have Qd:=ob.out;have av5:=kP.out;have akk:=kQ.out;have av6:=jW.out;have akl:=bc2 dc.out;obtain⟨mR,mS,Qe⟩:=Kd.aH bl.out;subst Qe;obtain⟨Ek,El,RN⟩:=Kd.aH nZ.out;subst RN
      try go_wp2_with (first|((with_reducible refine gK 73 rfl ?_);refine gC (some 110) Try.func73 #[.slice mR bN.length mS,.slice Ek te.length El] ?_;(with_reducible refine(fG.calls k2 (fun k_=>some k_=(.slice mR bN.length mS:Value).ownBlock) (.slice mR bN.length mS) bN _ _ te Rx w _ ?side1 ?side2 ?side3 ?side4 A66.out).mono ?_);(case side1=>repeat (first|(with_reducible first|exact HB.out|apply bm|apply bw|apply a8|refine ap ?_ mr.out|refine ap ?_ o9.out|refine ap ?_ jf.out)|exact HB.out));(case side2=>exact Kd.yJ rfl bl.out);(case side3=>exact Kd.ZD (nZ.out) (fun k_ hk_ hs_=>(hk_.2.1) hs_));(case side4=>exact(Kd.au nZ.out).2.1);rintro e w75 ⟨rfl,hy0,hb,hkp⟩;refine⟨_,rfl,?_⟩;replace cB:=Az (Kd.ah (ok':=fun k_=>oS k_ Ek te.length El/\oS k_ mR bN.length mS/\oV k_ da) (Kd.Aw (cB.out) hkp (fun k_ hk_ hs_=>(hk_.2.1) hs_)) (fun k_ hk_=>⟨hk_.1.1,hk_.1.2.1,hk_.1.2.2⟩));replace nZ:=Az (Kd.ah (ok':=fun k_=>oS k_ bH bA.length bz/\oS k_ mR bN.length mS/\oV k_ da) (Kd.Aw (nZ.out) hkp (fun k_ hk_ hs_=>(hk_.2.1) hs_)) (fun k_ hk_=>⟨hk_.1.1,hk_.1.2.1,hk_.1.2.2⟩));replace aK:=Az (Kd.ah (ok':=fun k_=>oS k_ bH bA.length bz/\oS k_ Ek te.length El/\oS k_ mR bN.length mS) (Kd.Aw (aK.out) hkp (fun k_ hk_ hs_=>(hk_.2.2) hs_)) (fun k_ hk_=>⟨hk_.1.1,hk_.1.2.1,hk_.1.2.2⟩));replace bB:=Az (Ap (kU bB.out) hkp (fun hs_=>(fun e_=>(Kd.cG bl.out bB.out (by decide)) e_) hs_));replace bu:=Az (Ap (kU bu.out) hkp (fun hs_=>(fun e_=>(Kd.cG bl.out bu.out (by decide)) e_) hs_));replace dc:=Az (Ap (kU dc.out) hkp (fun hs_=>(fun e_=>(Kd.cG bl.out dc.out (by decide)) e_) hs_));replace bl:=Az (Kd.IR rfl hy0 (fun k_ e_=>bl.out.1 k_ e_));replace HB:=Az (hb);clear hb))
      replace cB:=Az (Kd.bK cB.out);replace nZ:=Az (Kd.bK nZ.out);replace bl:=Az (Kd.bK bl.out);replace aK:=Az (Kd.bK aK.out);replace bB:=Az (ce bB.out);replace bu:=Az (ce bu.out);replace dc:=Az (ce dc.out);replace HB:=Az (a8 HB.out);obtain⟨ani,anj,_,_,acH⟩:=aI (Kd.au nZ.out).2.2 (K7)
      cases anj;obtain⟨gA,gD,G1⟩:=Kd.aH aK.out;(first|subst G1|(injection G1 with al aT am;have aU:=al.symm;have aV:=am.symm;clear al aT am;subst aU;subst aV));refine eX (n:=10) (S:=fun w'=>w'.cell? ⟨dB,0,none⟩=some (.slice mR bN.length mS)/\w'.cell? ⟨dB,1,none⟩=some (.slice gA dG.length gD)/\w'.cell? (ani.add ((K7)).toNat)=some (.int .i64 (rd te (K7)))) (ds:=[]) (qe [(1,some 112),(2,some 113),(3,some 114),(4,some 115),(5,some 116),(0,some 111),(6,some 117),(7,none),(8,some 3),(9,some 4)] 10) (by kernel_rfl) rfl rfl ⟨(ai dc.out 0).trans rfl,(ai dc.out 1).trans rfl,acH⟩ (fun hHeld=>?_);refine fL cW.afM cW.afS (fun HT_ HW_=>?_);generalize w75.drew=Qf at cB nZ bl aK bB bu dc HB acH hHeld ⊢
      repeat (first|(refine YY rfl rfl (ao HT_.out (by kernel_rfl)) (fun _ _ _ h=>h) (by rfl) (v:=?_) (a':=?_) ?_ ?_ ?_;rotate_left;(·intro w';go_simp;with_reducible rfl);rotate_left;(·exact aP))|(refine ahn rfl rfl (bW HT_.out HW_.out (by kernel_rfl)) (fun _ _ _ h=>h) (by rfl) (v:=?_) (a':=?_) ?_ hHeld ?_ ?_;rotate_left;(·rintro w' ⟨s0,s1,s2⟩;go_simp;with_reducible rfl);rotate_left;(·exact aP)))
      refine agE rfl rfl (cJ HT_.out (by kernel_rfl)) (by decide) (fun K hK=>?_);have av7:Qf.cell? ⟨eS,0,none⟩=some (.slice none 0 0):=(ai bu.out 0).trans rfl;have av8:=gJ bu.out 0;have av9:=xF.out;have awa:=kQ.out;have awb:=(xF.out).symm;have awc:=jW.out;have ank:Qf.cell? ⟨eS,1,none⟩=some (.slice none 0 0):=(ai bu.out 1).trans rfl;have anl:=gJ bu.out 1;have anm:=xF.out;have awd:=kQ.out;have ann:=(xF.out).symm;have awe:=jW.out;refine iW (w1:=?_) (by rfl) rfl ?_ ?_;rotate_left
      ·go_simp;rfl
      refine hK.out _ _ ⟨((cell_far (p:=⟨eS,_,none⟩) kQ.out _).trans (((cell_far (p:=⟨eS,_,none⟩) kQ.out _).trans (hHeld.1)))),((cell_far (p:=⟨eS,_,none⟩) kQ.out _).trans (((cell_far (p:=⟨eS,_,none⟩) kQ.out _).trans (hHeld.2.1)))),((cell_far (p:=⟨eS,_,none⟩) WS _).trans (((cell_far (p:=⟨eS,_,none⟩) WS _).trans (hHeld.2.2))))⟩ (fun hHeld=>?_);clear hK K
      repeat (first|(refine YY rfl rfl (ao HT_.out (by kernel_rfl)) (fun _ _ _ h=>h) (by rfl) (v:=?_) (a':=?_) ?_ ?_ ?_;rotate_left;(·intro w';go_simp;with_reducible rfl);rotate_left;(·exact aP)))
      refine eY (fN HT_.out (by kernel_rfl)) ?_
      try go_wp2
      refine bodyPost_ret (Ym rfl _ _ eS 29 #[.slice mR bN.length mS,.slice gA dG.length gD] (0,0) _ rfl (by refine sA ?_;refine bL (cs:=#[.slice mR bN.length mS,.slice none 0 0]) ?_ 1 _ rfl;refine sA ?_;refine bL (cs:=#[.slice none 0 0,.slice none 0 0]) ?_ 0 _ rfl;refine sA ?_;exact bu.out) Try.underlying29 rfl (by kernel_rfl)) rfl ?_;exact⟨_,_,by first|rfl|(simp[kg,j9]<;>rfl)|(simp only[<-t6,<-K8];first|rfl|(simp[kg,j9]<;>rfl))|(simp[*,kg,j9]<;>rfl),by refine rA ?_;exact Kd.ah (Kd.aY (p:=⟨eS,1,none⟩) (Kd.aY (p:=⟨eS,0,none⟩) (Kd.cj bl.out bu.out (by decide)) (fun _ hk=>hk.2) (.slice mR bN.length mS)) (fun _ hk=>hk.2) (.slice gA dG.length gD)) (fun _ hk=>hk.1.2.2),by refine rA ?_;exact Kd.ah (Kd.aY (p:=⟨eS,1,none⟩) (Kd.aY (p:=⟨eS,0,none⟩) (Kd.cj aK.out bu.out (by decide)) (fun _ hk=>hk.2) (.slice mR bN.length mS)) (fun _ hk=>hk.2) (.slice gA dG.length gD)) (fun _ hk=>hk.1.2.2),bU3 HB.out mr.out o9.out jf.out⟩
 ·
  replace c3:=Bool.eq_false_iff.mpr c3;subst c3;rw[if_neg nT]at H;simp only[Option.some.injEq,Prod.mk.injEq]at H;obtain⟨rfl,rfl,rfl,rfl⟩:=H;go_enter Try.func21,Try.ntmps21
  go_wp2_with (first|((with_reducible refine gd 1 rfl ?_);refine bE 1 #[.string cr,.slice ak ag.length aj] 25 ?_;intro hG hg Qk hbox hb;have bB:=Az (hbox);have mr:=gW hg (bU0 HB.out);replace HB:=Az (ay (bU0 HB.out) hb);clear hb hbox hg)|((with_reducible refine gd 2 rfl ?_);refine bE 2 #[.slice none 0 0,.slice none 0 0] 29 ?_;intro eS hg w81 hbox hb;have bu:=Az (hbox);have o9:=gW hg (bU1 HB.out mr.out);replace HB:=Az (ay (bU1 HB.out mr.out) hb);have xF:=nL hg (kU bB.out);replace bB:=kB bB.out hb;clear hb hbox hg;have anp:=xF.out;have anq:=(xF.out).symm;have anr:=bc2 bB.out)|((with_reducible refine gK 17 rfl ?_);refine gC (some 19) Try.func17 #[.agg #[.string cr,.slice ak ag.length aj]] ?_;(with_reducible refine(dJ.calls k cr _ _ ag false _ ?_ ?_ A2.out).mono ?_);exact cU (Kd.bn bP.out HB.out);exact cx.out;rintro e Gr ⟨rfl,hb⟩;refine⟨_,rfl,?_⟩;replace bB:=kB bB.out hb;replace bu:=kB bu.out hb;replace HB:=Az (ay iI hb);clear hb;have awf:=bc2 bu.out))
  refine bodyPost_ret (Ym rfl _ _ eS 29 #[.slice none 0 0,.slice none 0 0] (0,0) _ rfl (by refine sA ?_;refine bL (cs:=#[.slice none 0 0,.slice none 0 0]) ?_ 1 _ rfl;refine sA ?_;refine bL (cs:=#[.slice none 0 0,.slice none 0 0]) ?_ 0 _ rfl;refine sA ?_;exact bu.out) Try.underlying29 rfl (by kernel_rfl)) rfl ?_;exact⟨_,_,rE,by first|exact Kd.oJ _ _ _ _ _|exact Kd.qL _ _ _ _ _|exact Kd.qT _ _ _ _ _|exact Kd.qS _ _ _ _ _|exact Kd.qR _ _ _ _ _,by first|exact Kd.oJ _ _ _ _ _|exact Kd.qL _ _ _ _ _|exact Kd.qT _ _ _ _ _|exact Kd.qS _ _ _ _ _|exact Kd.qR _ _ _ _ _,bU2 HB.out mr.out o9.out⟩
end Go.Proofs.Ytlpbalebodlipaa.PL
