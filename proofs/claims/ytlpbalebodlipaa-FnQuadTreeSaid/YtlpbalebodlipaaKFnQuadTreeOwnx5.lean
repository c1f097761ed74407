/- A part of the proof of FnQuadTree. There are no conditions. -/
import Derived.Test.YtlpbalebodlipaaKFnQuadTreeOwnx4
set_option maxHeartbeats 0
namespace Go.Proofs.Ytlpbalebodlipaa.PL
open Go.RowKit Go.Proofs.YtlpbalebodlipaaW.PrintWords Go.Proofs.YtlpbalebodlipaaW.PrintLast Go.Proofs.YtlpbalebodlipaaW.PrintMore
theorem jW{p:Prop}(h:p:=by first|(simp only[jR,Act.put,List.setIfInBounds_toArray,List.set_cons_zero,List.set_cons_succ];done)|(simp only[jR,Act.put,List.setIfInBounds_toArray,List.set_cons_zero,List.set_cons_succ];rfl)):p:=h
theorem fv{p:Prop}(h:p:=by exact(bP HB.1 dk.1 dK.1 cp.1)):p:=h
theorem ga{p:Prop}(h:p:=by exact(bO HB.1 dk.1 dK.1)):p:=h
theorem r9{p:Prop}(h:p:=by exact(Kd.ax (Kd.ax (Kd.ax (Kd.ax ho0 (Kd.aj (rU bm.1))) (Kd.aj (rU bj.1))) (Kd.aj (rU bo.1))) (Kd.aj (rU bu.1)))):p:=h
theorem Dx{p:Prop}(h:p:=by first|exact Kd.ou (Kd.bg dD.1 J.1 af)|(rw[add_block];exact Kd.ou (Kd.bg dD.1 J.1 af))|(show(Addr.add _ _).block≠_;rw[add_block];exact Kd.ou (Kd.bg dD.1 J.1 af))|(dsimp only;exact Kd.ou (Kd.bg dD.1 J.1 af))):p:=h
theorem zD{p:Prop}(h:p:=by exact(Kd.aQ (ok:=(fun k_=>oS k_ (some en) G.length ep/\oV k_ bW/\oV k_ bc)) (rA (Kd.ag z.1 (fun _ hk=>⟨⟨hk.1,hk.2.2.1,hk.2.2.2⟩,hk.2.1⟩))) hg hat)):p:=h
theorem zJ{p:Prop}(h:p:=by exact rA (Kd.ag cr.1 (fun _ hk=>⟨hk.1.1.1.1.2,hk.1.1.1.2,hk.1.1.2,hk.1.2,hk.2⟩))):p:=h
theorem AZ{p:Prop}(h:p:=by exact rA (Kd.ag cq.1 (fun _ hk=>⟨hk.1.1.1.1.2,hk.1.1.1.2,hk.1.1.2,hk.1.2,hk.2⟩))):p:=h
theorem Ce{p:Prop}(h:p:=by exact rA (Kd.ag bm.1 (fun _ hk=>⟨hk.1.1,hk.1.2.1,hk.1.2.2.1,hk.2,hk.1.2.2.2⟩))):p:=h
theorem Dk{p:Prop}(h:p:=by exact rA (Kd.ag bj.1 (fun _ hk=>⟨hk.1.1,hk.1.2.1,hk.1.2.2.1,hk.2,hk.1.2.2.2⟩))):p:=h
theorem yu{p:Prop}(h:p:=by exact rA (Kd.ag bo.1 (fun _ hk=>⟨hk.1.1,hk.1.2.1,hk.1.2.2.1,hk.2,hk.1.2.2.2⟩))):p:=h
theorem Aa{p:Prop}(h:p:=by exact rA (Kd.ag bu.1 (fun _ hk=>⟨hk.1.1,hk.1.2.1,hk.1.2.2.1,hk.2,hk.1.2.2.2⟩))):p:=h
theorem Dt{p:Prop}(h:p:=by exact rA (Kd.ag cq.1 (fun _ hk=>⟨hk.1.1,hk.1.2.1,hk.1.2.2.1,hk.1.2.2.2,hk.2⟩))):p:=h
theorem yd{p:Prop}(h:p:=by exact rA (Kd.ag bm.1 (fun _ hk=>⟨hk.1.1,hk.1.2.1,hk.1.2.2.1,hk.1.2.2.2,hk.2⟩))):p:=h
theorem CY{p:Prop}(h:p:=by exact rA (Kd.ag bj.1 (fun _ hk=>⟨hk.1.1,hk.1.2.1,hk.1.2.2.1,hk.1.2.2.2,hk.2⟩))):p:=h
theorem AE{p:Prop}(h:p:=by exact rA (Kd.ag bo.1 (fun _ hk=>⟨hk.1.1,hk.1.2.1,hk.1.2.2.1,hk.1.2.2.2,hk.2⟩))):p:=h
theorem CS{p:Prop}(h:p:=by exact rA (Kd.ag bu.1 (fun _ hk=>⟨hk.1.1,hk.1.2.1,hk.1.2.2.1,hk.1.2.2.2,hk.2⟩))):p:=h
theorem BV{p:Prop}(h:p:=by exact rA (Kd.ag cr.1 (fun _ hk=>⟨hk.1.1,hk.1.2.1,hk.1.2.2.1,hk.1.2.2.2,hk.2⟩))):p:=h
theorem An{p:Prop}(h:p:=by exact rA (Kd.ag bu.1 (fun _ hk=>⟨hk.1.1.1.2,hk.1.1.2,hk.1.2,hk.2⟩))):p:=h
theorem Du{p:Prop}(h:p:=by exact rA (Kd.ag cr.1 (fun _ hk=>⟨hk.1.1.1.2,hk.1.1.2,hk.1.2,hk.2⟩))):p:=h
theorem BE{p:Prop}(h:p:=by exact rA (Kd.ag cq.1 (fun _ hk=>⟨hk.1.1.1.2,hk.1.1.2,hk.1.2,hk.2⟩))):p:=h
theorem Aj{p:Prop}(h:p:=by exact rA (Kd.ag bm.1 (fun _ hk=>⟨hk.1.1.1,hk.1.1.2,hk.1.2,hk.2⟩))):p:=h
theorem yo{p:Prop}(h:p:=by exact rA (Kd.ag bj.1 (fun _ hk=>⟨hk.1.1.1,hk.1.1.2,hk.1.2,hk.2⟩))):p:=h
theorem yq{p:Prop}(h:p:=by exact rA (Kd.ag bo.1 (fun _ hk=>⟨hk.1.1.1,hk.1.1.2,hk.1.2,hk.2⟩))):p:=h
theorem zG{p:Prop}(h:p:=by exact rA (Kd.ag bm.1 (fun _ hk=>⟨hk.1.1,hk.1.2.1,hk.1.2.2,hk.2⟩))):p:=h
theorem BD{p:Prop}(h:p:=by exact rA (Kd.ag bj.1 (fun _ hk=>⟨hk.1.1,hk.1.2.1,hk.1.2.2,hk.2⟩))):p:=h
theorem yD{p:Prop}(h:p:=by exact rA (Kd.ag bo.1 (fun _ hk=>⟨hk.1.1,hk.1.2.1,hk.1.2.2,hk.2⟩))):p:=h
theorem xh{p:Prop}(h:p:=by exact rA (Kd.ag bu.1 (fun _ hk=>⟨hk.1.1,hk.1.2.1,hk.1.2.2,hk.2⟩))):p:=h
theorem zM{p:Prop}(h:p:=by exact rA (Kd.ag Z.1 (fun _ hk=>⟨⟨hk.1,hk.2.1,hk.2.2.2⟩,hk.2.2.1⟩))):p:=h
theorem xV{p:Prop}(h:p:=by exact rA (Kd.ag L.1 (fun _ hk=>⟨⟨hk.1,hk.2.1,hk.2.2.2⟩,hk.2.2.1⟩))):p:=h
theorem zH{p:Prop}(h:p:=by exact rA (Kd.ag E.1 (fun _ hk=>⟨⟨hk.1,hk.2.2.1,hk.2.2.2⟩,hk.2.1⟩))):p:=h
theorem qE{p:Prop}(h:p:=by exact(Kd.aC (rU bm.1) (Kd.ar ho0) hb)):p:=h
theorem pK{p:Prop}(h:p:=by exact(Kd.aC (rU bj.1) (Kd.ar ho0) hb)):p:=h
theorem qu{p:Prop}(h:p:=by exact(Kd.aC (rU bo.1) (Kd.ar ho0) hb)):p:=h
theorem xk{p:Prop}(h:p:=by exact(Kd.ax (Kd.ax (Kd.ax (Kd.ax cn (Kd.aj (rU bm.1))) (Kd.aj (rU bj.1))) (Kd.aj (rU bo.1))) (Kd.aj (rU bu.1)))):p:=h
attribute [local go_sem] jp jv jl jo jC jy ji je
set_option linter.unusedVariables false
set_option linter.unusedSimpArgs false
mutual
def ce.l0:Nat->List Int->List Int->Int->Option (List Int)
 |0,_,_,_=>none
 |k+1,x0,x3,x4=>if x4<(x0.length:Int)then(ce.l1 k x0 x3 x4 (-1) 1)else(some x3)
def ce.l1:Nat->List Int->List Int->Int->Int->Int->Option (List Int)
 |0,_,_,_,_,_=>none
 |k+1,x0,x3,x4,x5,x6=>if x6<(x0.length:Int)then(ce.j2 k x0 x3 x4 x5 x6 (decide (x5<0)))else(ce.j2 k x0 x3 x4 x5 x6 false)
def ce.j2:Nat->List Int->List Int->Int->Int->Int->Bool->Option (List Int)
 |0,_,_,_,_,_,_=>none
 |k+1,x0,x3,x4,x5,x6,b=>if b=true then(if(x0.length:Int)=0 then(none)else(if 0<=(Int.tmod (wrap64 (x4+x6)) (x0.length:Int))then(if(Int.tmod (wrap64 (x4+x6)) (x0.length:Int))<(x0.length:Int)then(if 0<=x4 then(if x4<(x0.length:Int)then(if(rd x0 (Int.tmod (wrap64 (x4+x6)) (x0.length:Int)))=(wrap64 ((rd x0 x4)-1))then(ce.l1 k x0 x3 x4 (Int.tmod (wrap64 (x4+x6)) (x0.length:Int)) (wrap64 (x6+1)))else(ce.l1 k x0 x3 x4 x5 (wrap64 (x6+1))))else(none))else(none))else(none))else(none)))else(if x3.length<17592186044416 then(ce.l0 k x0 (x3++[x5]) (wrap64 (x4+1)))else(none))
end
def ce.f(k:Nat)(l0:List Int):Option (List Int):=ce.l0 k l0 (([]:List Int)) 0
theorem ce.mono_l:∀k,(∀y0 y1 y2,bo (ce.l0 k y0 y1 y2) (ce.l0 (k+1) y0 y1 y2))/\(∀y0 y1 y2 y3 y4,bo (ce.l1 k y0 y1 y2 y3 y4) (ce.l1 (k+1) y0 y1 y2 y3 y4))/\(∀y0 y1 y2 y3 y4 y5,bo (ce.j2 k y0 y1 y2 y3 y4 y5) (ce.j2 (k+1) y0 y1 y2 y3 y4 y5))
 |0=>⟨fun _ _ _ r h=>by simp[ce.l0]at h,fun _ _ _ _ _ r h=>by simp[ce.l1]at h,fun _ _ _ _ _ _ r h=>by simp[ce.j2]at h⟩
 |k+1=>by
  obtain⟨a,b,c⟩:=ce.mono_l k;refine⟨?_,?_,?_⟩
  ·
   intro y0 y1 y2;unfold ce.l0
   repeat' first
   |(with_reducible exact a _ _ _)
   |(with_reducible exact b _ _ _ _ _)
   |(with_reducible exact c _ _ _ _ _ _)
   |exact cN
   |refine cJ ?_ ?_
   |refine cG ?_ ?_
   |intro _
   |exact a _ _ _
   |exact b _ _ _ _ _
   |exact c _ _ _ _ _ _
  ·
   intro y0 y1 y2 y3 y4;unfold ce.l1
   repeat' first
   |(with_reducible exact a _ _ _)
   |(with_reducible exact b _ _ _ _ _)
   |(with_reducible exact c _ _ _ _ _ _)
   |exact cN
   |refine cJ ?_ ?_
   |refine cG ?_ ?_
   |intro _
   |exact a _ _ _
   |exact b _ _ _ _ _
   |exact c _ _ _ _ _ _
  ·
   intro y0 y1 y2 y3 y4 y5;unfold ce.j2
   repeat' first
   |(with_reducible exact a _ _ _)
   |(with_reducible exact b _ _ _ _ _)
   |(with_reducible exact c _ _ _ _ _ _)
   |exact cN
   |refine cJ ?_ ?_
   |refine cG ?_ ?_
   |intro _
   |exact a _ _ _
   |exact b _ _ _ _ _
   |exact c _ _ _ _ _ _
theorem ce.mono:∀a0 k,bo (ce.f k a0) (ce.f (k+1) a0):=by
 intro a0 k;obtain⟨a,b,c⟩:=ce.mono_l k;unfold ce.f
 repeat' first
  |(with_reducible exact a _ _ _)
  |(with_reducible exact b _ _ _ _ _)
  |(with_reducible exact c _ _ _ _ _ _)
  |exact cN
  |refine cJ ?_ ?_
  |refine cG ?_ ?_
  |intro _
  |exact a _ _ _
  |exact b _ _ _ _ _
  |exact c _ _ _ _ _ _
set_option maxRecDepth 100000 in
theorem ce.calls(k:Nat)(A0:Option Addr)(c0:Nat)(l0:List Int)(r:List Int)(w:World)(j:Kd.C al w A0 l0.length l0)(F:l0.length<=c0)(h:ce.f k l0=some r):
 Calls Try.prog 71 #[.slice A0 l0.length c0] w fun e w'=>∃aZ:Value,e= .returned (aZ)/\ai w' w (fun _=>True) aZ r/\Below w.heap.size w w':=by
 have M:=Az j;have aX:=Az F;clear j F;have HB:=bY;have H:=h;clear h;unfold ce.f at H;generalize s:(([]:List Int):List Int)=L at H;replace s:=Ay s;have H':=Az H;clear H;go_enter Try.func71,Try.ntmps71;go_wp2_with (first|((with_reducible refine gd 8 rfl ?_);refine Kd.du al _ 3 rfl (N:=8) rfl (xs:=([]:List Int)) (inner:=[]) (ok:=fun _=>True) (okp:=fun _=>True) hS ?hp (fun _ hk=>hk) trivial (Below.refl _ _) (Nat.le_refl _) ay ?_;(case hp=>exact(aD.none _ _));intro U w2 m hb Y X;clear Y X;(first|rw[<-s.1]at m|(simp only[Int.reduceToNat]at m;rw[<-s.1]at m));have D:=Az (Kd.aH m (aK (aT HB.1)));replace HB:=bs;clear hb m))
 repeat (go_quiet (fail);try go_wp2_with (fail))
 go_loopg [3,4] k (fun kq v3 v4 w'=>∃(E:List Int) (z:Int),v4= .int .i64 z/\ae (ce.l0 kq l0 E z=some r)/\ae (kq<=k)/\ae (ai w' w (fun _=>True) v3 E)/\ae (Below w.heap.size w w'))
 case atStart=>exact⟨(L),(0),rS,H',⟨Nat.le_refl _⟩,⟨rU D.1⟩,⟨aT HB.1⟩⟩
 case round=>
  clear H';obtain⟨E,z,rfl,HA,ca,c,HB⟩:=hrel;rcases gk with _|k1;exact(nN HA.1).elim;have H:=HA.1;clear HA;simp only[ce.l0]at H;by_cases c4:z<(l0.length:Int)
  ·
   rw[if_pos c4]at H;have bn:=decide_eq_true c4;clear c4;have H':=Az H;clear H;go_wp2
   repeat (go_quiet (fail);try go_wp2)
   go_loopg [5,6] k1 (fun kq v5 v6 w'=>∃(Z:Int) (bf:Int),v5= .int .i64 Z/\v6= .int .i64 bf/\ae (ce.l1 kq l0 E z Z bf=some r)/\ae (kq<=k1)/\ae (ai w' w (fun _=>True) u3 E)/\ae (Below w.heap.size w w'))
   case atStart=>exact⟨((-1)),(1),rS,rS,H',⟨Nat.le_refl _⟩,⟨rU c.1⟩,⟨aT HB.1⟩⟩
   case round=>
    clear H';obtain⟨Z,bf,rfl,rfl,HA,bM,c,HB⟩:=hrel;rcases gk with _|k2;exact(nN HA.1).elim;have H:=HA.1;clear HA;simp only[ce.l1]at H;have u:=Az H;clear H;go_upto_region 7 with(fail)
    repeat (go_quiet (fail);go_upto_region 7 with(fail))
    go_cut [22] (fun Q wc=>∃(kq:Nat) (t:Bool),Q= .bool t/\ae (ce.j2 kq l0 E z Z bf t=some r)/\ae (kq<=k2)/\ae (ai wc w (fun _=>True) u3 E)/\ae (Below w.heap.size w wc))
    case first=>
     have H:=u.1;clear u;replace H:=bR;rcases H with⟨bP,H⟩|⟨bP,H⟩
     ·
      have H':=Az H;clear H;go_wp2
      repeat (go_quiet (fail);try go_wp2)
      go_meet
      case rel=>exact⟨_,(decide (Z<0)),rS,H',⟨mO⟩,⟨rU c.1⟩,⟨aT HB.1⟩⟩
     ·
      have H':=Az H;clear H;go_wp2
      repeat (go_quiet (fail);try go_wp2)
      go_meet
      case rel=>exact⟨_,(false),rS,H',⟨mO⟩,⟨rU c.1⟩,⟨aT HB.1⟩⟩
    case rest=>
     clear u;obtain⟨kq,t,rfl,HA,d,c,HB⟩:=hcut;rcases kq with _|v;exact(nN HA.1).elim;have H:=HA.1;clear HA;simp only[ce.j2]at H;by_cases c7:t=true
     ·
      subst c7;rw[if_pos rfl]at H;by_cases c8:(l0.length:Int)=0
      ·rw[if_pos c8]at H;exact kX H
      ·
       rw[if_neg c8]at H;have cZ:=beq_eq_false_iff_ne.mpr c8;have ih:=bne_iff_ne.mpr c8;have T:¬(l0=[]):=fun h_=>c8 (by rw[h_];rfl)
       obtain⟨l,a⟩:∃j_:Int,(Int.tmod (wrap64 (z+bf)) (l0.length:Int))=j_:=⟨_,rfl⟩;(first|rw[a]at H|simp only[a]at H);replace H:=lM H;obtain⟨bw,bT,bO,dc,H⟩:=H;replace H:=gQ H;rcases H with⟨ci,ak,H⟩|⟨ci,ak,H⟩
       ·
        have H':=Az H;clear H;obtain⟨S,y,I,J,o⟩:=aI M.1 (l);cases y;replace o:=hT HB.1 o;obtain⟨K,R,g⟩:=aJ M.1 z;replace g:=hT HB.1 g;go_wp2
        repeat (go_quiet (fail);try go_wp2)
        go_roundg v
        case measure=>have:=ca.1;have:=bM.1;have:=d.1;omega
        case rel=>exact⟨(l),(wrap64 (bf+1)),(by first|rfl|(simp;done)|(simp only[<-a]<;>(first|rfl|simp))|(simp[*];done)),rS,H',⟨by have:=ca.1;have:=bM.1;have:=d.1;omega⟩,⟨rU c.1⟩,⟨aT HB.1⟩⟩
       ·
        have H':=Az H;clear H;obtain⟨S,y,I,J,o⟩:=aI M.1 (l);cases y;replace o:=hT HB.1 o;obtain⟨K,R,g⟩:=aJ M.1 z;replace g:=hT HB.1 g;go_wp2
        repeat (go_quiet (fail);try go_wp2)
        go_roundg v
        case measure=>have:=ca.1;have:=bM.1;have:=d.1;omega
        case rel=>exact⟨(Z),(wrap64 (bf+1)),rS,rS,H',⟨by have:=ca.1;have:=bM.1;have:=d.1;omega⟩,⟨rU c.1⟩,⟨aT HB.1⟩⟩
     ·
      replace c7:=Bool.eq_false_iff.mpr c7;subst c7;rw[if_neg nT]at H;replace H:=aY;obtain⟨c15,H⟩:=H;have P:=Az c15;clear c15;generalize B:(E++[Z]:List Int)=O at H;replace B:=Ay B;have H':=Az H;clear H;go_wp2_with (first|((with_reducible refine dB (b:=.append) (xs:=#[.tmp 42,.tmp 44]) rfl ?_);at_builtin;refine Kd.dH al (w0:=w) w.heap.size rfl (.tmp 42) (.tmp 44) 23 3 (.int .i64 0) 8 rfl Try.underlying23 bA rfl af ac u3 E Z [.int .i64 Z] (fun _=>True) (fun _=>False) rfl rfl ?aP (fun _ hk=>hk.elim) ?aF ?aO ?aB ?aS ?aL ?_;(case aP=>exact rfl);(case aB=>exact(aT HB.1));(case aF=>exact(fun _ _=>trivial));(case aO=>exact(rU c.1));(case aS=>exact(aK (aT HB.1)));(case aL=>have:=P.1;omega);intro V dU ho hb hg hat;rw[<-B.1]at ho;replace HB:=br;have G:=cS;clear c ho hb hg hat))
      repeat (go_quiet (fail);try go_wp2_with (fail))
      go_roundg v
      case measure=>have:=ca.1;have:=bM.1;have:=d.1;omega
      case rel=>exact⟨(O),(wrap64 (z+1)),rS,H',⟨by have:=ca.1;have:=bM.1;have:=d.1;omega⟩,⟨rU G.1⟩,⟨aT HB.1⟩⟩
  ·
   rw[if_neg c4]at H;have bn:=decide_eq_false c4;clear c4;obtain rfl:=bc H;go_wp2
   repeat (go_quiet (fail);try go_wp2)
   go_ret;exact⟨_,rE,rU c.1,aT HB.1⟩
def cL.l0:Nat->Int->List Int->Int->Option (List Int)
 |0,_,_,_=>none
 |k+1,x0,x3,x4=>if x4<x0 then((some (([wrap64 ((wrap64 (2*x4))+1),wrap64 (2*x4)]:List Int):List Int)).bind fun a=>(if x3.length+a.length<17592186044416 then(cL.l0 k x0 (x3++a) (wrap64 (x4+1)))else(none)))else(some x3)
def cL.f(k:Nat)(a0:Int):Option (List Int):=cL.l0 k a0 (([]:List Int)) 0
theorem cL.mono_l:∀k,(∀y0 y1 y2,bo (cL.l0 k y0 y1 y2) (cL.l0 (k+1) y0 y1 y2))
 |0=>fun _ _ _ r h=>by simp[cL.l0]at h
 |k+1=>by
  have a:=cL.mono_l k
  ·
   intro y0 y1 y2;unfold cL.l0
   repeat' first
   |(with_reducible exact a _ _ _)
   |exact cN
   |refine cJ ?_ ?_
   |refine cG ?_ ?_
   |intro _
   |exact a _ _ _
theorem cL.mono:∀a0 k,bo (cL.f k a0) (cL.f (k+1) a0):=by
 intro a0 k;have a:=cL.mono_l k;unfold cL.f
 repeat' first
  |(with_reducible exact a _ _ _)
  |exact cN
  |refine cJ ?_ ?_
  |refine cG ?_ ?_
  |intro _
  |exact a _ _ _
set_option maxRecDepth 100000 in
theorem cL.calls(k:Nat)(a0:Int)(r:List Int)(w:World)(h:cL.f k a0=some r):
 Calls Try.prog 72 #[.int .i64 a0] w fun e w'=>∃aZ:Value,e= .returned (aZ)/\ai w' w (fun _=>True) aZ r/\Below w.heap.size w w':=by
 have HB:=bY;have H:=h;clear h;unfold cL.f at H;generalize g:(([]:List Int):List Int)=s at H;replace g:=Ay g;have H':=Az H;clear H;go_enter Try.func72,Try.ntmps72;go_wp2_with (first|((with_reducible refine gd 5 rfl ?_);refine Kd.du al _ 3 rfl (N:=5) rfl (xs:=([]:List Int)) (inner:=[]) (ok:=fun _=>True) (okp:=fun _=>True) hS ?hp (fun _ hk=>hk) trivial (Below.refl _ _) (Nat.le_refl _) ay ?_;(case hp=>exact(aD.none _ _));intro D w2 m hb Y X;clear Y X;(first|rw[<-g.1]at m|(simp only[Int.reduceToNat]at m;rw[<-g.1]at m));have v:=Az (Kd.aH m (aK (aT HB.1)));replace HB:=bs;clear hb m));go_loopg [3,4] k (fun kq v3 v4 w'=>∃(E:List Int) (z:Int),v4= .int .i64 z/\ae (cL.l0 kq a0 E z=some r)/\ae (kq<=k)/\ae (ai w' w (fun _=>True) v3 E)/\ae (Below w.heap.size w w'))
 case atStart=>exact⟨(s),(0),rS,H',⟨Nat.le_refl _⟩,⟨rU v.1⟩,⟨aT HB.1⟩⟩
 case round=>
  clear H';obtain⟨E,z,rfl,HA,ca,c,HB⟩:=hrel;rcases gk with _|k1;exact(nN HA.1).elim;have H:=HA.1;clear HA;simp only[cL.l0]at H;replace H:=bR;rcases H with⟨bn,H⟩|⟨bn,H⟩
  ·
   generalize j:(([wrap64 ((wrap64 (2*z))+1),wrap64 (2*z)]:List Int):List Int)=a at H;simp only[Option.bind_some]at H;replace j:=Ay j;replace H:=aY;obtain⟨c5,H⟩:=H;have l:=Az c5;clear c5;generalize o:(E++a:List Int)=u at H;replace o:=Ay o;have H':=Az H;clear H;go_wp2_with (first|((with_reducible refine gd 17 rfl ?_);refine Kd.du al _ 3 rfl (N:=17) rfl (xs:=([wrap64 ((wrap64 (2*z))+1),wrap64 (2*z)]:List Int)) (inner:=[.int .i64 (wrap64 ((wrap64 (2*z))+1)),.int .i64 (wrap64 (2*z))]) (ok:=fun _=>True) (okp:=fun _=>True) hS ?hp (fun _ hk=>hk) trivial (Below.refl _ _) (Nat.le_refl _) ay ?_;(case hp=>exact(aD.one (show Kd.M al _ _ _ (wrap64 ((wrap64 (2*z))+1)) [.int .i64 (wrap64 ((wrap64 (2*z))+1))]from rfl) (aD.one (show Kd.M al _ _ _ (wrap64 (2*z)) [.int .i64 (wrap64 (2*z))]from rfl) (aD.none _ _))));intro y w6 I hb Y X;clear Y X;(first|rw[<-j.1]at I|(simp only[Int.reduceToNat]at I;rw[<-j.1]at I));have d:=Az (Kd.aH (Kd.ax I (Kd.aj (rU c.1))) (aK (aT HB.1)));replace c:=Az (Kd.aC (rU c.1) (Kd.ar I) hb);replace HB:=bs;clear hb I;obtain⟨bH,bf,ci⟩:=Kd.az d.1;subst ci)|((with_reducible refine dB (b:=.append) (xs:=#[.tmp 11,.tmp 17]) rfl ?_);at_builtin;refine Kd.F4 al (w0:=w) w.heap.size rfl (.tmp 11) (.tmp 17) 23 3 (.int .i64 0) 8 rfl Try.underlying23 bA rfl af ac u3 E a _ _ _ (fun k_=>oS k_ bH a.length bf) (fun _=>False) rfl rfl ?aO ?aR (fun _ _ h=>h) (fun _ h=>h.elim) ?aF ?aB ?aS ?aL ?_;(case aR=>exact cU ((Kd.am d.1).2.2));(case aB=>exact(aT HB.1));(case aF=>exact(fun k_ hk=>Kd.be (Kd.aj (rU d.1)) k_ hk));(case aO=>exact(rU (Kd.ag c.1 au)));(case aS=>exact(aK (aT HB.1)));(case aL=>have:=l.1;omega);intro B w8 ho hb hg hat;rw[<-o.1]at ho;replace d:=Az (Kd.aQ (ok:=(fun _=>True)) (rU d.1) hg hat);replace HB:=br;have t:=cS;clear c ho hb hg hat));go_roundg k1
   case measure=>exact mO
   case rel=>exact⟨(u),(wrap64 (z+1)),rS,H',⟨mO⟩,⟨rM t.1⟩,⟨aT HB.1⟩⟩
  ·obtain rfl:=bc H;go_wp2;go_ret;exact⟨_,rE,rU c.1,aT HB.1⟩
def cB.l0:Nat->List Int->List Int->Int->Option (List Int)
 |0,_,_,_=>none
 |k+1,x0,x1,x4=>if x4<(x1.length:Int)then(if 0<=x4 then(if(x1.length:Int)=0 then(none)else(if 0<=(Int.tmod (wrap64 (x4+1)) (x1.length:Int))then(if(Int.tmod (wrap64 (x4+1)) (x1.length:Int))<(x1.length:Int)then(if 0<=(rd x1 x4)then(if(rd x1 x4)<(x0.length:Int)then(cB.l0 k (x0.set ((rd x1 x4):Int).toNat (rd x1 (Int.tmod (wrap64 (x4+1)) (x1.length:Int)))) x1 (wrap64 (x4+1)))else(none))else(none))else(none))else(none)))else(none))else(some x0)
def cB.f(k:Nat)(l0:List Int)(l1:List Int):Option (List Int):=cB.l0 k l0 l1 0
theorem cB.mono_l:∀k,(∀y0 y1 y2,bo (cB.l0 k y0 y1 y2) (cB.l0 (k+1) y0 y1 y2))
 |0=>fun _ _ _ r h=>by simp[cB.l0]at h
 |k+1=>by
  have a:=cB.mono_l k
  ·
   intro y0 y1 y2;unfold cB.l0
   repeat' first
   |(with_reducible exact a _ _ _)
   |exact cN
   |refine cJ ?_ ?_
   |refine cG ?_ ?_
   |intro _
   |exact a _ _ _
theorem cB.mono:∀a0 a1 k,bo (cB.f k a0 a1) (cB.f (k+1) a0 a1):=by
 intro a0 a1 k;have a:=cB.mono_l k;unfold cB.f
 repeat' first
  |(with_reducible exact a _ _ _)
  |exact cN
  |refine cJ ?_ ?_
  |refine cG ?_ ?_
  |intro _
  |exact a _ _ _
def cB.T3:Bool×List (List Nat×List Nat):=(true,[([],[]),([],[]),([],[]),([1,2],[1,2]),([3],[3]),([],[]),([],[]),([6],[6]),([],[]),([8],[8]),([7,9],[7,9]),([5,10],[5,10]),([11],[11]),([0,4,0,1,2,3,4,5,6,7,8,9,10,11,12],[0,4]),([13,12,0,1,2,3,4,5,6,7,8,9,10,11,12],[12,13])])
def cB.B3:List Nat:=[0,0,0,6,14,0,0,64,0,256,960,2016,4064,8191,16383]
theorem cB.tX:bT .any (opsOf Try.f73 3)=cB.T3:=by kernel_rfl
theorem cB.uv:de cB.T3.2 cB.B3=true:=by kernel_rfl
set_option maxRecDepth 100000 in
theorem cB.calls(k:Nat)(j:Nat->Prop)(o:Value)(l0:List Int)(A1:Option Addr)(c1:Nat)(l1:List Int)(r:List Int)(w0 w:World)(hB:Below w0.heap.size w0 w)(ho0:ai w w0 j o l0)(bj:∀W_,Kept w W_ (fun k_=>j k_)->Kd.C al W_ A1 l1.length l1)(bk:l1.length<=c1)(h:cB.f k l0 l1=some r):
 Calls Try.prog 73 #[o,.slice A1 l1.length c1] w fun e w'=>e= .returned (.tuple #[])/\ai w' w0 (fun k_=>(j k_\/w.heap.size<=k_)) o r/\Below w0.heap.size w0 w'/\Kept w w' (fun k_=>j k_):=by
 have y:=zv;have be:=Az bj;have bq:=Az bk;clear bj bk;have HK:=Az (Kept.refl w (fun k_=>j k_));have bL:=gJ;have HB:=Az hB;clear hB;have H:=h;clear h;unfold cB.f at H;have H':=Az H;clear H;go_enter Try.func73,Try.ntmps73;go_wp2;go_loopg [4] k (fun kq v4 w'=>∃(g:List Int) (z:Int),v4= .int .i64 z/\ae (cB.l0 kq g l1 z=some r)/\ae (kq<=k)/\ae (ai w' w0 (fun k_=>(j k_\/w.heap.size<=k_)) o g)/\ae (Kept w w' (fun k_=>j k_))/\ae (Below w0.heap.size w0 w'))
 case atStart=>exact⟨(l0),(0),rS,H',⟨Nat.le_refl _⟩,⟨rU y.1⟩,⟨sX⟩,⟨aT HB.1⟩⟩
 case round=>
  clear H';obtain⟨g,z,rfl,HA,ca,b,HK,HB⟩:=hrel;rcases gk with _|k1;exact(nN HA.1).elim;have H:=HA.1;clear HA;simp only[cB.l0]at H;replace H:=bR;rcases H with⟨cc,H⟩|⟨cc,H⟩
  ·
   replace H:=bF;obtain⟨bn,H⟩:=H;by_cases c5:(l1.length:Int)=0
   ·rw[if_pos c5]at H;exact kX H
   ·
    rw[if_neg c5]at H;have U:=beq_eq_false_iff_ne.mpr c5;have V:=bne_iff_ne.mpr c5;have Z:¬(l1=[]):=fun h_=>c5 (by rw[h_];rfl)
    obtain⟨ck,ej⟩:∃j_:Int,(Int.tmod (wrap64 (z+1)) (l1.length:Int))=j_:=⟨_,rfl⟩;(first|rw[ej]at H|simp only[ej]at H);replace H:=lM H;obtain⟨cW,cZ,cn,bw,H⟩:=H;generalize d:(g.set ((rd l1 z):Int).toNat (rd l1 (ck)):List Int)=X at H;replace d:=Ay d;have H':=Az H;clear H;try go_wp2
    replace b:=Az (Kd.bD b.1);replace HK:=Az (Kept.drew HK.1);replace HB:=cX;obtain⟨s,M,O,L,u⟩:=aI (Kd.xm be.1 HK.1) z;have aa:=u;cases M;obtain⟨G,W,I,R,E⟩:=aI (Kd.xm be.1 HK.1) (ck);have Y:=E;obtain rfl:s=G:=(by injection W);have aj:0<=((rd l1 z):Int):=oA;have ar:((rd l1 z):Int)<((g.length:Int):Int):=oA;obtain⟨au,T,bT,ax,aS,dr,ay⟩:=Kd.dv b.1 ac;(first|cases bT|(injection bT with J bo aR;(first|subst J|(injection J with J;subst J));subst aR;clear bo));have aP:=Az ax;have bX:=Az ay;clear ax aS ay;have t:=Az (show(j au\/w.heap.size<=au)from(b.1.1 _ rfl));obtain⟨cE,cP⟩:=Kd.bm 0 b.1 ((rd l1 z):Int) aj ar;replace aj:=eq_true aj;replace ar:=eq_true ar;have aC:=Kd.jI b.1 ((rd l1 z):Int) (rd l1 (ck));rw[<-d.1]at aC;have F:=Az aC;clear aC;refine cA (n:=15) (S:=fun w'=>w'.cell? (s.add (z).toNat)=some (.int .i64 (rd l1 z))/\w'.cell? (s.add ((ck)).toNat)=some (.int .i64 (rd l1 (ck)))) (ds:=[14]) (bv 15 0) aM rfl rfl ⟨(Kd.CF (be.1 _ (by repeat (first|exact HK.1|apply Kept.alloc|apply Kept.drewN|apply Kept.drew|refine Kept.setCell ?_ t.1 _))) z (of_eq_true O) (of_eq_true L)),(Kd.CF (be.1 _ (by repeat (first|exact HK.1|apply Kept.alloc|apply Kept.drewN|apply Kept.drew|refine Kept.setCell ?_ t.1 _))) (ck) (of_eq_true I) (of_eq_true R))⟩ (fun B=>?_);refine cT cB.tX cB.uv (fun ba bU=>?_);generalize wr.drew=cp at b HK HB bX F cP cE u E B ⊢;refine XP 0 11 15 1 ?_;refine XP 1 12 15 3 ?_;refine XP 2 13 15 7 ?_;refine XP 3 14 15 15 ?_;refine XP 5 16 15 47 ?_;refine XP 6 17 15 111 ?_;refine XP 7 18 15 239 ?_;refine XP 8 19 15 495 ?_;refine XP 9 20 15 1007 ?_;refine XP 10 21 15 2031 ?_;refine XP 11 22 15 4079 ?_;refine XT 4 15 15 4095 ?_;refine XT 12 23 15 8191 ?_;refine XP 13 24 15 16383 ?_;refine XL 14 15 32767 (fun K hK=>?_);refine eh (w1:=?_) aW rfl ?_ ?_;rotate_left
    ·go_simp;rfl
    refine hK.out _ _ ?_;clear hK K;refine XD ?_;try go_wp2
    go_roundg k1
    case measure=>exact mO
    case rel=>exact⟨(X),(wrap64 (z+1)),rS,H',⟨mO⟩,⟨rU F.1⟩,⟨by repeat (first|(with_reducible first|exact HK.1|apply Kept.alloc|apply Kept.drewN|apply Kept.drew|refine Kept.setCell ?_ t.1 _)|exact HK.1)⟩,⟨av HB.1 aP.1⟩⟩
  ·
   obtain rfl:=bc H;go_wp2;first|go_end0|((try simp only[Exit.inBlock,Exit.then]);refine bodyPost_ret (results_none rfl _ _ _) rfl ?_)
   exact⟨rE,rU b.1,aT HB.1,sX⟩
mutual
def bw.l0:Nat->List Int->List Int->Int->Int->List Int->List Int->Option (List Int×List Int×Int×Bool)
 |0,_,_,_,_,_,_=>none
 |k+1,x5,x8,x9,e,b,a=>if e<=(wrap64 (Int.tdiv x9 2))then(bw.l1 k x5 x8 x9 e (([]:List Int)) 0 b a)else(bw.l3 k x8 (([]:List Int)) (wrap64 (x9-1)) b a)
def bw.l1:Nat->List Int->List Int->Int->Int->List Int->Int->List Int->List Int->Option (List Int×List Int×Int×Bool)
 |0,_,_,_,_,_,_,_,_=>none
 |k+1,x5,x8,x9,e,d,c,b,a=>if c<x9 then(if 0<=c then(if c<(x5.length:Int)then(if(rd x5 c)=e then(bw.l2 k x5 x8 x9 e d c 1 b a)else(bw.l1 k x5 x8 x9 e d (wrap64 (c+1)) b a))else(none))else(none))else((cB.f k b d).bind fun fJ=>(bw.l0 k x5 x8 x9 (wrap64 (e+1)) fJ a))
def bw.l2:Nat->List Int->List Int->Int->Int->List Int->Int->Int->List Int->List Int->Option (List Int×List Int×Int×Bool)
 |0,_,_,_,_,_,_,_,_,_=>none
 |k+1,x5,x8,x9,e,d,c,h,b,a=>if h<x9 then(if x9=0 then(none)else(if 0<=(Int.tmod (wrap64 ((wrap64 (c-h))+x9)) x9)then(if(Int.tmod (wrap64 ((wrap64 (c-h))+x9)) x9)<(x8.length:Int)then(if(rd x8 (Int.tmod (wrap64 ((wrap64 (c-h))+x9)) x9))=c then(if d.length<17592186044416 then(bw.l2 k x5 x8 x9 e (d++[wrap64 ((wrap64 (2*(Int.tmod (wrap64 ((wrap64 (c-h))+x9)) x9)))+1)]) c (wrap64 (h+1)) b a)else(none))else(bw.l2 k x5 x8 x9 e d c (wrap64 (h+1)) b a))else(none))else(none)))else(if d.length<17592186044416 then(bw.l1 k x5 x8 x9 e (d++[wrap64 (2*c)]) (wrap64 (c+1)) b a)else(none))
def bw.l3:Nat->List Int->List Int->Int->List Int->List Int->Option (List Int×List Int×Int×Bool)
 |0,_,_,_,_,_=>none
 |k+1,x8,j,g,b,a=>if g>=0 then(if 0<=g then(if g<(x8.length:Int)then(if(rd x8 g)<0 then(if j.length<17592186044416 then(bw.l3 k x8 (j++[wrap64 ((wrap64 (2*g))+1)]) (wrap64 (g-1)) b a)else(none))else(bw.l3 k x8 j (wrap64 (g-1)) b a))else(none))else(none))else((cB.f k b j).bind fun gf=>(if 0<=(wrap64 ((j.length:Int)-1))then(if(wrap64 ((j.length:Int)-1))<(j.length:Int)then(some (gf,a,rd j (wrap64 ((j.length:Int)-1)),true))else(none))else(none)))
end
def bw.f(k:Nat)(F:ByteArray)(s:List Int):Option (List Int×List Int×Int×Bool):=(bN.f k F s).bind fun fV=>(if fV=true then((cv.f k F s).bind fun a=>((ce.f k a.2.1).bind fun aJ=>(if 0<=(wrap64 (2*(aJ.length:Int)))then(if(wrap64 (2*(aJ.length:Int)):Int).toNat<=35184372088832 then((cL.f k (aJ.length:Int)).bind fun dp=>(bw.l0 k a.1 aJ (aJ.length:Int) 0 (List.replicate (wrap64 (2*(aJ.length:Int)):Int).toNat 0) dp))else(none))else(none))))else(some (([]:List Int),([]:List Int),0,false)))
theorem bw.mono_l:∀k,(∀y0 y1 y2 y3 y4 y5,bo (bw.l0 k y0 y1 y2 y3 y4 y5) (bw.l0 (k+1) y0 y1 y2 y3 y4 y5))/\(∀y0 y1 y2 y3 y4 y5 y6 y7,bo (bw.l1 k y0 y1 y2 y3 y4 y5 y6 y7) (bw.l1 (k+1) y0 y1 y2 y3 y4 y5 y6 y7))/\(∀y0 y1 y2 y3 y4 y5 y6 y7 y8,bo (bw.l2 k y0 y1 y2 y3 y4 y5 y6 y7 y8) (bw.l2 (k+1) y0 y1 y2 y3 y4 y5 y6 y7 y8))/\(∀y0 y1 y2 y3 y4,bo (bw.l3 k y0 y1 y2 y3 y4) (bw.l3 (k+1) y0 y1 y2 y3 y4))
 |0=>⟨fun _ _ _ _ _ _ r h=>by simp[bw.l0]at h,fun _ _ _ _ _ _ _ _ r h=>by simp[bw.l1]at h,fun _ _ _ _ _ _ _ _ _ r h=>by simp[bw.l2]at h,fun _ _ _ _ _ r h=>by simp[bw.l3]at h⟩
 |k+1=>by
  obtain⟨a,b,c,d⟩:=bw.mono_l k;refine⟨?_,?_,?_,?_⟩
  ·
   intro y0 y1 y2 y3 y4 y5;unfold bw.l0
   repeat' first
   |(with_reducible exact a _ _ _ _ _ _)
   |(with_reducible exact b _ _ _ _ _ _ _ _)
   |(with_reducible exact c _ _ _ _ _ _ _ _ _)
   |(with_reducible exact d _ _ _ _ _)
   |(with_reducible exact bN.mono _ _ _)
   |(with_reducible exact cL.mono _ _)
   |(with_reducible exact ce.mono _ _)
   |(with_reducible exact cB.mono _ _ _)
   |(with_reducible exact cv.mono _ _ _)
   |exact cN
   |refine cJ ?_ ?_
   |refine cG ?_ ?_
   |intro _
   |exact a _ _ _ _ _ _
   |exact b _ _ _ _ _ _ _ _
   |exact c _ _ _ _ _ _ _ _ _
   |exact d _ _ _ _ _
   |exact bN.mono _ _ _
   |exact cL.mono _ _
   |exact ce.mono _ _
   |exact cB.mono _ _ _
   |exact cv.mono _ _ _
  ·
   intro y0 y1 y2 y3 y4 y5 y6 y7;unfold bw.l1
   repeat' first
   |(with_reducible exact a _ _ _ _ _ _)
   |(with_reducible exact b _ _ _ _ _ _ _ _)
   |(with_reducible exact c _ _ _ _ _ _ _ _ _)
   |(with_reducible exact d _ _ _ _ _)
   |(with_reducible exact bN.mono _ _ _)
   |(with_reducible exact cL.mono _ _)
   |(with_reducible exact ce.mono _ _)
   |(with_reducible exact cB.mono _ _ _)
   |(with_reducible exact cv.mono _ _ _)
   |exact cN
   |refine cJ ?_ ?_
   |refine cG ?_ ?_
   |intro _
   |exact a _ _ _ _ _ _
   |exact b _ _ _ _ _ _ _ _
   |exact c _ _ _ _ _ _ _ _ _
   |exact d _ _ _ _ _
   |exact bN.mono _ _ _
   |exact cL.mono _ _
   |exact ce.mono _ _
   |exact cB.mono _ _ _
   |exact cv.mono _ _ _
  ·
   intro y0 y1 y2 y3 y4 y5 y6 y7 y8;unfold bw.l2
   repeat' first
   |(with_reducible exact a _ _ _ _ _ _)
   |(with_reducible exact b _ _ _ _ _ _ _ _)
   |(with_reducible exact c _ _ _ _ _ _ _ _ _)
   |(with_reducible exact d _ _ _ _ _)
   |(with_reducible exact bN.mono _ _ _)
   |(with_reducible exact cL.mono _ _)
   |(with_reducible exact ce.mono _ _)
   |(with_reducible exact cB.mono _ _ _)
   |(with_reducible exact cv.mono _ _ _)
   |exact cN
   |refine cJ ?_ ?_
   |refine cG ?_ ?_
   |intro _
   |exact a _ _ _ _ _ _
   |exact b _ _ _ _ _ _ _ _
   |exact c _ _ _ _ _ _ _ _ _
   |exact d _ _ _ _ _
   |exact bN.mono _ _ _
   |exact cL.mono _ _
   |exact ce.mono _ _
   |exact cB.mono _ _ _
   |exact cv.mono _ _ _
  ·
   intro y0 y1 y2 y3 y4;unfold bw.l3
   repeat' first
   |(with_reducible exact a _ _ _ _ _ _)
   |(with_reducible exact b _ _ _ _ _ _ _ _)
   |(with_reducible exact c _ _ _ _ _ _ _ _ _)
   |(with_reducible exact d _ _ _ _ _)
   |(with_reducible exact bN.mono _ _ _)
   |(with_reducible exact cL.mono _ _)
   |(with_reducible exact ce.mono _ _)
   |(with_reducible exact cB.mono _ _ _)
   |(with_reducible exact cv.mono _ _ _)
   |exact cN
   |refine cJ ?_ ?_
   |refine cG ?_ ?_
   |intro _
   |exact a _ _ _ _ _ _
   |exact b _ _ _ _ _ _ _ _
   |exact c _ _ _ _ _ _ _ _ _
   |exact d _ _ _ _ _
   |exact bN.mono _ _ _
   |exact cL.mono _ _
   |exact ce.mono _ _
   |exact cB.mono _ _ _
   |exact cv.mono _ _ _
theorem bw.mono:∀a0 a1 k,bo (bw.f k a0 a1) (bw.f (k+1) a0 a1):=by
 intro a0 a1 k;obtain⟨a,b,c,d⟩:=bw.mono_l k;unfold bw.f
 repeat' first
  |(with_reducible exact a _ _ _ _ _ _)
  |(with_reducible exact b _ _ _ _ _ _ _ _)
  |(with_reducible exact c _ _ _ _ _ _ _ _ _)
  |(with_reducible exact d _ _ _ _ _)
  |(with_reducible exact bN.mono _ _ _)
  |(with_reducible exact cL.mono _ _)
  |(with_reducible exact ce.mono _ _)
  |(with_reducible exact cB.mono _ _ _)
  |(with_reducible exact cv.mono _ _ _)
  |exact cN
  |refine cJ ?_ ?_
  |refine cG ?_ ?_
  |intro _
  |exact a _ _ _ _ _ _
  |exact b _ _ _ _ _ _ _ _
  |exact c _ _ _ _ _ _ _ _ _
  |exact d _ _ _ _ _
  |exact bN.mono _ _ _
  |exact cL.mono _ _
  |exact ce.mono _ _
  |exact cB.mono _ _ _
  |exact cv.mono _ _ _
def bw.T6:Bool×List (List Nat×List Nat):=(true,[([],[]),([0],[0]),([1,1],[1]),([],[]),([3],[3]),([2,4],[2,4]),([],[]),([6,5,4,0,1,2,3,4,5,6],[5,6])])
def bw.B6:List Nat:=[0,1,3,0,8,31,0,127]
theorem bw.wv:bT .any (opsOf Try.f21 6)=bw.T6:=by kernel_rfl
theorem bw.wK:de bw.T6.2 bw.B6=true:=by kernel_rfl
def bw.T30:Bool×List (List Nat×List Nat):=(true,[([],[]),([],[]),([],[]),([2],[2]),([3],[3]),([1,4],[1,4]),([5],[5]),([0,0],[0]),([6,7,0,1,2,3,4,5,6,7],[6]),([8,0,1,2,3,4,5,6,7,8],[])])
def bw.B30:List Nat:=[0,0,0,4,12,30,62,1,255,511]
theorem bw.G6:bT .any (opsOf Try.f21 30)=bw.T30:=by kernel_rfl
theorem bw.GU:de bw.T30.2 bw.B30=true:=by kernel_rfl
set_option maxRecDepth 100000 in
theorem bw.calls(k:Nat)(F:ByteArray)(y:Option Addr)(u:Nat)(s:List Int)(r1:List Int)(r2:List Int)(r3:Int)(r4:Bool)(w:World)(bz:Kd.C al w y s.length s)(bL:s.length<=u)(h:bw.f k F s=some (r1,r2,r3,r4)):
 Calls Try.prog 21 #[.agg #[.string F,.slice y s.length u]] w fun e w'=>∃aZ bT:Value,e= .returned (.tuple #[.agg #[aZ,bT],.int .i64 r3,.bool r4])/\ai w' w (fun k_=>oV k_ bT) aZ r1/\ai w' w (fun k_=>oV k_ aZ) bT r2/\Below w.heap.size w w':=by
 have eT:=Try.underlying25;have da:=Try.underlying29;have ah:=dL;have aG:=dQ;clear bz bL;have HB:=bY;have H:=h;clear h;unfold bw.f at H;replace H:=aV;obtain⟨fV,A2,H⟩:=H;by_cases c3:fV=true
 ·
  subst c3;rw[if_pos rfl]at H;replace H:=aV;obtain⟨⟨eJ,bS,eP⟩,A4,H⟩:=H;dsimp only at H;replace H:=aV;obtain⟨aJ,A5,H⟩:=H;obtain⟨ck,ej⟩:∃j_:Int,(wrap64 (2*(aJ.length:Int)))=j_:=⟨_,rfl⟩;(first|rw[ej]at H|simp only[ej]at H);have pm:(IntKind.i64.wrap (2*(aJ.length:Int)))=ck:=(fY _).trans ej;replace H:=gE H;obtain⟨cW,gA,H⟩:=H;replace H:=gE H;obtain⟨cZ,ih,H⟩:=H;generalize eF:(List.replicate (ck:Int).toNat 0:List Int)=dO at H;replace eF:=Ay eF;replace H:=aV;obtain⟨dp,A9,H⟩:=H;have H':=Az H;clear H;go_enter Try.func21,Try.ntmps21;try go_wp2_with (first|((with_reducible refine gd 1 rfl ?_);refine bE 1 #[.string F,.slice y s.length u] 25 ?_;intro dv hg dT O hb;have M:=bp;have dk:=cy;replace HB:=bs;clear hb O hg)|((with_reducible refine gd 2 rfl ?_);refine bE 2 #[.slice none 0 0,.slice none 0 0] 29 ?_;intro cd hg dY O hb;have J:=bp;have dK:=gW hg (av HB.1 dk.1);replace HB:=Az (bh (av HB.1 dk.1) hb);have eL:=nL hg (kU M.1);replace M:=kB M.1 hb;clear hb O hg;have fM:=eL.1;have fI:=(eL.1).symm;have eZ:=bc2 M.1)|((with_reducible refine gK 17 rfl ?_);refine gC (some 19) Try.func17 #[.agg #[.string F,.slice y s.length u]] ?_;(with_reducible refine(bN.calls k F _ _ s true _ ?_ ?_ A2.1).mono ?_);exact cU (Kd.aU ah.1 HB.1);exact aG.1;rintro e eu ⟨rfl,hb⟩;refine⟨_,rfl,?_⟩;replace M:=kB M.1 hb;replace J:=kB J.1 hb;replace HB:=jZ;clear hb;have eM:=bc2 M.1)|((with_reducible refine gK 70 rfl ?_);refine gC (some 24) Try.func70 #[.agg #[.string F,.slice y s.length u]] ?_;(with_reducible refine(cv.calls k F _ _ s eJ bS eP _ ?_ ?_ A4.1).mono ?_);exact cU (Kd.aU ah.1 HB.1);exact aG.1;rintro e dU ⟨bJ,jh,cc,rfl,ho0,ho1,eg,hb⟩;refine⟨_,rfl,?_⟩;have bm:=Az (Kd.aH ho0 (aK ga));have bj:=Az (Kd.aH ho1 (aK ga));have bo:=Az (Kd.aH eg (aK ga));replace M:=kB M.1 hb;replace J:=kB J.1 hb;replace HB:=jZ;clear hb ho0 ho1 eg;obtain⟨bX,bB,eH⟩:=Kd.az bj.1;subst eH)|((with_reducible refine gK 71 rfl ?_);refine gC (some 29) Try.func71 #[.slice bX bS.length bB] ?_;(with_reducible refine(ce.calls k _ _ bS aJ _ ?_ ?_ A5.1).mono ?_);exact cU ((Kd.am bj.1).2.2);exact(Kd.am bj.1).2.1;rintro e er ⟨iL,rfl,ho0,hb⟩;refine⟨_,rfl,?_⟩;have bu:=Az (Kd.aH (Kd.ax (Kd.ax (Kd.ax ho0 (Kd.aj (rU bm.1))) (Kd.aj (rU bj.1))) (Kd.aj (rU bo.1))) (aK ga));replace bm:=Az qE;replace bj:=Az pK;replace bo:=Az qu;replace M:=kB M.1 hb;replace J:=kB J.1 hb;replace HB:=jZ;clear hb ho0;obtain⟨bi,bb,eO⟩:=Kd.az bu.1;subst eO))
  replace bm:=Az (Kd.bD bm.1);replace bj:=Az (Kd.bD bj.1);replace bo:=Az (Kd.bD bo.1);replace bu:=Az (Kd.bD bu.1);replace M:=Az (bC M.1);replace J:=Az (bC J.1);replace HB:=cX;refine cA (n:=8) (S:=fun w'=>True) (ds:=[]) (bv 8 0) aM rfl rfl trivial (fun B=>?_);refine cT bw.wv bw.wK (fun ba bU=>?_);generalize er.drew=ee at bm bj bo bu M J HB B ⊢;refine XP 0 32 8 1 ?_;refine XP 1 33 8 3 ?_;refine XP 3 35 8 11 ?_;refine eX (σ:=Value×Value×Nat) 1 (bv 8 127) (fun s_=>[(34,s_.1),(36,s_.2.1),(10,.pointer (some ⟨s_.2.2,0,none⟩)),(37,.agg #[s_.1,s_.2.1])]) (fun s_ w'=>(ai w' w (fun k_=>oS k_ bX bS.length bB/\oV k_ cc/\oS k_ bi aJ.length bb/\oV k_ s_.1/\oV k_ s_.2.1) bJ eJ)/\(ai w' w (fun k_=>oV k_ bJ/\oV k_ cc/\oS k_ bi aJ.length bb/\oV k_ s_.1/\oV k_ s_.2.1) (.slice bX bS.length bB) bS)/\(ai w' w (fun k_=>oV k_ bJ/\oS k_ bX bS.length bB/\oS k_ bi aJ.length bb/\oV k_ s_.1/\oV k_ s_.2.1) cc eP)/\(ai w' w (fun k_=>oV k_ bJ/\oS k_ bX bS.length bB/\oV k_ cc/\oV k_ s_.1/\oV k_ s_.2.1) (.slice bi aJ.length bb) aJ)/\(ai w' w (fun k_=>oV k_ bJ/\oS k_ bX bS.length bB/\oV k_ cc/\oS k_ bi aJ.length bb/\oV k_ s_.2.1) s_.1 dO)/\(ai w' w (fun k_=>oV k_ bJ/\oS k_ bX bS.length bB/\oV k_ cc/\oS k_ bi aJ.length bb/\oV k_ s_.1) s_.2.1 dp)/\(w'.heap[dv]?=some (.cells #[.string F,.slice y s.length u] 25 (0,0)))/\(w'.heap[cd]?=some (.cells #[.slice none 0 0,.slice none 0 0] 29 (0,0)))/\(w'.heap[s_.2.2]?=some (.cells #[.slice none 0 0,.slice none 0 0] 29 (0,0)))/\(w.heap.size<=s_.2.2)/\(w.heap.size<=s_.2.2)/\(dv≠s_.2.2)/\(s_.2.2≠dv)/\(cd≠s_.2.2)/\(s_.2.2≠cd)/\(Below w.heap.size w w')) ?_ ?_;rotate_left
  ·
   intro gm;refine eX (σ:=Value×Value) 2 (bv 8 63) (fun s_=>[(34,s_.1),(36,s_.2),(37,.agg #[s_.1,s_.2])]) (fun s_ w'=>(ai w' w (fun k_=>oS k_ bX bS.length bB/\oV k_ cc/\oS k_ bi aJ.length bb/\oV k_ s_.1/\oV k_ s_.2) bJ eJ)/\(ai w' w (fun k_=>oV k_ bJ/\oV k_ cc/\oS k_ bi aJ.length bb/\oV k_ s_.1/\oV k_ s_.2) (.slice bX bS.length bB) bS)/\(ai w' w (fun k_=>oV k_ bJ/\oS k_ bX bS.length bB/\oS k_ bi aJ.length bb/\oV k_ s_.1/\oV k_ s_.2) cc eP)/\(ai w' w (fun k_=>oV k_ bJ/\oS k_ bX bS.length bB/\oV k_ cc/\oV k_ s_.1/\oV k_ s_.2) (.slice bi aJ.length bb) aJ)/\(ai w' w (fun k_=>oV k_ bJ/\oS k_ bX bS.length bB/\oV k_ cc/\oS k_ bi aJ.length bb/\oV k_ s_.2) s_.1 dO)/\(ai w' w (fun k_=>oV k_ bJ/\oS k_ bX bS.length bB/\oV k_ cc/\oS k_ bi aJ.length bb/\oV k_ s_.1) s_.2 dp)/\(w'.heap[dv]?=some (.cells #[.string F,.slice y s.length u] 25 (0,0)))/\(w'.heap[cd]?=some (.cells #[.slice none 0 0,.slice none 0 0] 29 (0,0)))/\(Below w.heap.size w w')) ?_ ?_;rotate_left
   ·
    intro gI;refine eX (σ:=Value×Nat) 3 (bv 8 79) (fun s_=>[(34,s_.1),(10,.pointer (some ⟨s_.2,0,none⟩))]) (fun s_ w'=>(ai w' w (fun k_=>oS k_ bX bS.length bB/\oV k_ cc/\oS k_ bi aJ.length bb/\oV k_ s_.1) bJ eJ)/\(ai w' w (fun k_=>oV k_ bJ/\oV k_ cc/\oS k_ bi aJ.length bb/\oV k_ s_.1) (.slice bX bS.length bB) bS)/\(ai w' w (fun k_=>oV k_ bJ/\oS k_ bX bS.length bB/\oS k_ bi aJ.length bb/\oV k_ s_.1) cc eP)/\(ai w' w (fun k_=>oV k_ bJ/\oS k_ bX bS.length bB/\oV k_ cc/\oV k_ s_.1) (.slice bi aJ.length bb) aJ)/\(ai w' w (fun k_=>oV k_ bJ/\oS k_ bX bS.length bB/\oV k_ cc/\oS k_ bi aJ.length bb) s_.1 dO)/\(w'.heap[dv]?=some (.cells #[.string F,.slice y s.length u] 25 (0,0)))/\(w'.heap[cd]?=some (.cells #[.slice none 0 0,.slice none 0 0] 29 (0,0)))/\(w'.heap[s_.2]?=some (.cells #[.slice none 0 0,.slice none 0 0] 29 (0,0)))/\(w.heap.size<=s_.2)/\(w.heap.size<=s_.2)/\(dv≠s_.2)/\(s_.2≠dv)/\(cd≠s_.2)/\(s_.2≠cd)/\(Below w.heap.size w w')) ?_ ?_;rotate_left
    ·
     intro gD;refine eX (σ:=Value×Nat) 3 (bv 8 91) (fun s_=>[(36,s_.1),(10,.pointer (some ⟨s_.2,0,none⟩))]) (fun s_ w'=>(ai w' w (fun k_=>oS k_ bX bS.length bB/\oV k_ cc/\oS k_ bi aJ.length bb/\oV k_ s_.1) bJ eJ)/\(ai w' w (fun k_=>oV k_ bJ/\oV k_ cc/\oS k_ bi aJ.length bb/\oV k_ s_.1) (.slice bX bS.length bB) bS)/\(ai w' w (fun k_=>oV k_ bJ/\oS k_ bX bS.length bB/\oS k_ bi aJ.length bb/\oV k_ s_.1) cc eP)/\(ai w' w (fun k_=>oV k_ bJ/\oS k_ bX bS.length bB/\oV k_ cc/\oV k_ s_.1) (.slice bi aJ.length bb) aJ)/\(ai w' w (fun k_=>oV k_ bJ/\oS k_ bX bS.length bB/\oV k_ cc/\oS k_ bi aJ.length bb) s_.1 dp)/\(w'.heap[dv]?=some (.cells #[.string F,.slice y s.length u] 25 (0,0)))/\(w'.heap[cd]?=some (.cells #[.slice none 0 0,.slice none 0 0] 29 (0,0)))/\(w'.heap[s_.2]?=some (.cells #[.slice none 0 0,.slice none 0 0] 29 (0,0)))/\(w.heap.size<=s_.2)/\(w.heap.size<=s_.2)/\(dv≠s_.2)/\(s_.2≠dv)/\(cd≠s_.2)/\(s_.2≠cd)/\(Below w.heap.size w w')) ?_ ?_;rotate_left
     ·
      intro gF;refine eX (σ:=Value) 4 (bv 8 15) (fun s_=>[(34,s_)]) (fun s_ w'=>(ai w' w (fun k_=>oS k_ bX bS.length bB/\oV k_ cc/\oS k_ bi aJ.length bb/\oV k_ s_) bJ eJ)/\(ai w' w (fun k_=>oV k_ bJ/\oV k_ cc/\oS k_ bi aJ.length bb/\oV k_ s_) (.slice bX bS.length bB) bS)/\(ai w' w (fun k_=>oV k_ bJ/\oS k_ bX bS.length bB/\oS k_ bi aJ.length bb/\oV k_ s_) cc eP)/\(ai w' w (fun k_=>oV k_ bJ/\oS k_ bX bS.length bB/\oV k_ cc/\oV k_ s_) (.slice bi aJ.length bb) aJ)/\(ai w' w (fun k_=>oV k_ bJ/\oS k_ bX bS.length bB/\oV k_ cc/\oS k_ bi aJ.length bb) s_ dO)/\(w'.heap[dv]?=some (.cells #[.string F,.slice y s.length u] 25 (0,0)))/\(w'.heap[cd]?=some (.cells #[.slice none 0 0,.slice none 0 0] 29 (0,0)))/\(Below w.heap.size w w')) ?_ ?_;rotate_left
      ·
       intro jY;refine eX (σ:=Value) 4 (bv 8 27) (fun s_=>[(36,s_)]) (fun s_ w'=>(ai w' w (fun k_=>oS k_ bX bS.length bB/\oV k_ cc/\oS k_ bi aJ.length bb/\oV k_ s_) bJ eJ)/\(ai w' w (fun k_=>oV k_ bJ/\oV k_ cc/\oS k_ bi aJ.length bb/\oV k_ s_) (.slice bX bS.length bB) bS)/\(ai w' w (fun k_=>oV k_ bJ/\oS k_ bX bS.length bB/\oS k_ bi aJ.length bb/\oV k_ s_) cc eP)/\(ai w' w (fun k_=>oV k_ bJ/\oS k_ bX bS.length bB/\oV k_ cc/\oV k_ s_) (.slice bi aJ.length bb) aJ)/\(ai w' w (fun k_=>oV k_ bJ/\oS k_ bX bS.length bB/\oV k_ cc/\oS k_ bi aJ.length bb) s_ dp)/\(w'.heap[dv]?=some (.cells #[.string F,.slice y s.length u] 25 (0,0)))/\(w'.heap[cd]?=some (.cells #[.slice none 0 0,.slice none 0 0] 29 (0,0)))/\(Below w.heap.size w w')) ?_ ?_;rotate_left
       ·
        intro im;refine eX (σ:=Nat) 4 (bv 8 75) (fun s_=>[(10,.pointer (some ⟨s_,0,none⟩))]) (fun s_ w'=>(ai w' w (fun k_=>oS k_ bX bS.length bB/\oV k_ cc/\oS k_ bi aJ.length bb) bJ eJ)/\(ai w' w (fun k_=>oV k_ bJ/\oV k_ cc/\oS k_ bi aJ.length bb) (.slice bX bS.length bB) bS)/\(ai w' w (fun k_=>oV k_ bJ/\oS k_ bX bS.length bB/\oS k_ bi aJ.length bb) cc eP)/\(ai w' w (fun k_=>oV k_ bJ/\oS k_ bX bS.length bB/\oV k_ cc) (.slice bi aJ.length bb) aJ)/\(w'.heap[dv]?=some (.cells #[.string F,.slice y s.length u] 25 (0,0)))/\(w'.heap[cd]?=some (.cells #[.slice none 0 0,.slice none 0 0] 29 (0,0)))/\(w'.heap[s_]?=some (.cells #[.slice none 0 0,.slice none 0 0] 29 (0,0)))/\(w.heap.size<=s_)/\(w.heap.size<=s_)/\(dv≠s_)/\(s_≠dv)/\(cd≠s_)/\(s_≠cd)/\(Below w.heap.size w w')) ?_ ?_;rotate_left
        ·
         intro gR;refine tV (i:=2) (j:=4) (k:=6) (Ni:=some 34) (Nj:=some 36) (Nk:=some 10) (bv 8 15) (bv 8 27) (bv 8 75) rfl rfl rfl rfl rfl rfl (xF ba.1 aM) af af af (fun K hK=>?_) (fun K hK=>?_) (fun K hK=>?_)
         ·
          skip
          refine Kd.hD al _ 3 aW (N:=34) rfl 23 _ _ rfl ck rfl rfl Try.underlying23 (.int .i64 0) 8 bA rfl af ac 0 (ok:=fun _=>True) (okp:=fun _=>True) rfl (fun _ hk=>hk) trivial (oA) (Nat.le_trans (Nat.mul_le_mul_right _ (oA:ck.toNat<=35184372088832)) ac) (Below.refl _ _) (Nat.le_refl _) ?_;intro eE ea dV hb Y X;clear Y X;(first|rw[<-eF.1]at dV|(simp only[Int.reduceToNat]at dV;rw[<-eF.1]at dV));have cr:=Az (Kd.aH (Kd.ax (Kd.ax (Kd.ax (Kd.ax dV (Kd.aj (rU bm.1))) (Kd.aj (rU bj.1))) (Kd.aj (rU bo.1))) (Kd.aj (rU bu.1))) (aK ga));replace bm:=Az (Kd.aC (rU bm.1) (Kd.ar dV) hb);replace bj:=Az (Kd.aC (rU bj.1) (Kd.ar dV) hb);replace bo:=Az (Kd.aC (rU bo.1) (Kd.ar dV) hb);replace bu:=Az (Kd.aC (rU bu.1) (Kd.ar dV) hb);replace M:=kB M.1 hb;replace J:=kB J.1 hb;replace HB:=jZ;clear hb dV;refine hK.out _ _ trivial (fun B=>?_);clear hK K;refine XN 34 ?_;exact cQ jW (jY (eE) _ ⟨Aj,yo,yq,An,Du,(kU M.1),(kU J.1),ga⟩)
         ·
          skip
          refine XG Try.func72 #[.int .i64 (aJ.length:Int)] ?_;(with_reducible refine(cL.calls k (aJ.length:Int) dp _ A9.1).mono ?_);rintro e ea ⟨eD,rfl,ho0,hb⟩;refine⟨_,rfl,?_⟩;have cq:=Az (Kd.aH r9 (aK ga));replace bm:=Az qE;replace bj:=Az pK;replace bo:=Az qu;replace bu:=qV;replace M:=kB M.1 hb;replace J:=kB J.1 hb;replace HB:=jZ;clear hb ho0;refine hK.out _ _ trivial (fun B=>?_);clear hK K;refine XN 36 ?_;exact cQ jW (im (eD) _ ⟨Aj,yo,yq,An,BE,(kU M.1),(kU J.1),ga⟩)
         ·
          skip
          refine lT ?hg (N:=10) ?hd (cs:=#[.slice none 0 0,.slice none 0 0]) (t:=29) ?hr ?_;(case hd=>rfl);(case hg=>rfl);(case hr=>exact eV);intro ci hg ea O hb;replace bm:=rB bm.1 hb;replace bj:=rB bj.1 hb;replace bo:=rB bo.1 hb;replace bu:=rB bu.1 hb;have aR:=bp;have ei:=gW hg ga;have cp:=rR;replace HB:=jZ;have cF:=nL hg (kU M.1);have dI:=nS cF;replace M:=kB M.1 hb;have cu:=nL hg (kU J.1);have cE:=nS cu;replace J:=kB J.1 hb;clear hb O hg;refine hK.out _ _ trivial (fun B=>?_);clear hK K;refine XN 10 ?_;exact cQ jW (gR (ci) _ ⟨(rA (Kd.ag bm.1 (fun _ hk=>⟨hk.1.1,hk.1.2,hk.2⟩))),(rA (Kd.ag bj.1 (fun _ hk=>⟨hk.1.1,hk.1.2,hk.2⟩))),(rA (Kd.ag bo.1 (fun _ hk=>⟨hk.1.1,hk.1.2,hk.2⟩))),(rA (Kd.ag bu.1 (fun _ hk=>⟨hk.1.1.2,hk.1.2,hk.2⟩))),(kU M.1),(kU J.1),(kU aR.1),ei.1,cp.1,cF.1,dI.1,cu.1,cE.1,fv⟩)
        ·
         skip
         rintro ci gu bV;obtain⟨cj,cf,cb,cm,cJ,cN,cM,cO,di,dE,dA,dz,dx,dF⟩:=bV;have n0:=fE;have n1:=fw;have n2:=fC;have n3:=gv;have n4:=iD;have n5:=iQ;have n6:=iX;have n7:=iV;have n8:=ae.mk di;have n9:=ae.mk dE;have dl:=ae.mk dA;have dm:=ae.mk dz;have dc:=ae.mk dx;have cY:=ae.mk dF;clear bm bj bo bu M J HB cj cf cb cm cJ cN cM cO di dE dA dz dx dF;have bm:=n0;have bj:=n1;have bo:=n2;have bu:=n3;have M:=n4;have J:=n5;have aR:=n6;have ei:=n7;have cp:=n8;have cF:=n9;have dI:=dl;have cu:=dm;have cE:=dc;have HB:=cY;clear n0 n1 n2 n3 n4 n5 n6 n7 n8 n9 dl dm dc cY;have B:=trivial;refine XJ ?_;refine kR (i:=2) (j:=4) (Ni:=some 34) (Nj:=some 36) (bv 8 79) (bv 8 91) rfl rfl rfl rfl (np ba.1 aM) af af (fun K hK=>?_) (fun K hK=>?_)
         ·
          skip
          refine Kd.hD al _ 3 aW (N:=34) rfl 23 _ _ rfl ck rfl rfl Try.underlying23 (.int .i64 0) 8 bA rfl af ac 0 (ok:=fun _=>True) (okp:=fun _=>True) rfl (fun _ hk=>hk) trivial (oA) (Nat.le_trans (Nat.mul_le_mul_right _ (oA:ck.toNat<=35184372088832)) ac) (Below.refl _ _) (Nat.le_refl _) ?_;intro eE de cn hb Y X;clear Y X;(first|rw[<-eF.1]at cn|(simp only[Int.reduceToNat]at cn;rw[<-eF.1]at cn));have cr:=Az (Kd.aH xk (aK fv));replace bm:=Az (Kd.aC (rU bm.1) (Kd.ar cn) hb);replace bj:=Az (Kd.aC (rU bj.1) (Kd.ar cn) hb);replace bo:=Az (Kd.aC (rU bo.1) (Kd.ar cn) hb);replace bu:=Az (Kd.aC (rU bu.1) (Kd.ar cn) hb);replace M:=kB M.1 hb;replace J:=kB J.1 hb;replace aR:=kB aR.1 hb;replace HB:=nW;clear hb cn;refine hK.out _ _ trivial (fun B=>?_);clear hK K;refine XN 34 ?_;exact cQ jW (gD (eE,ci) _ ⟨zG,BD,yD,xh,Du,(kU M.1),(kU J.1),(kU aR.1),ei.1,cp.1,cF.1,dI.1,cu.1,cE.1,fv⟩)
         ·
          skip
          refine XG Try.func72 #[.int .i64 (aJ.length:Int)] ?_;(with_reducible refine(cL.calls k (aJ.length:Int) dp _ A9.1).mono ?_);rintro e de ⟨eD,rfl,ho0,hb⟩;refine⟨_,rfl,?_⟩;have cq:=Az (Kd.aH r9 (aK fv));replace bm:=Az qE;replace bj:=Az pK;replace bo:=Az qu;replace bu:=qV;replace M:=kB M.1 hb;replace J:=kB J.1 hb;replace aR:=kB aR.1 hb;replace HB:=nW;clear hb ho0;refine hK.out _ _ trivial (fun B=>?_);clear hK K;refine XN 36 ?_;exact cQ jW (gF (eD,ci) _ ⟨zG,BD,yD,xh,BE,(kU M.1),(kU J.1),(kU aR.1),ei.1,cp.1,cF.1,dI.1,cu.1,cE.1,fv⟩)
       ·
        skip
        rintro eD gu bV;obtain⟨cj,cf,cb,cm,cJ,cN,cM,cO⟩:=bV;have n0:=fE;have n1:=fw;have n2:=fC;have n3:=gv;have n4:=iD;have n5:=iQ;have n6:=iX;have n7:=iV;clear bm bj bo bu M J HB cj cf cb cm cJ cN cM cO;have bm:=n0;have bj:=n1;have bo:=n2;have bu:=n3;have cq:=n4;have M:=n5;have J:=n6;have HB:=n7;clear n0 n1 n2 n3 n4 n5 n6 n7;have B:=trivial;refine XJ ?_;refine kR (i:=2) (j:=6) (Ni:=some 34) (Nj:=some 10) (bv 8 31) (bv 8 91) rfl rfl rfl rfl (np ba.1 aM) af af (fun K hK=>?_) (fun K hK=>?_)
        ·
         skip
         refine Kd.hD al _ 3 aW (N:=34) rfl 23 _ _ rfl ck rfl rfl Try.underlying23 (.int .i64 0) 8 bA rfl af ac 0 (ok:=fun _=>True) (okp:=fun _=>True) rfl (fun _ hk=>hk) trivial (oA) (Nat.le_trans (Nat.mul_le_mul_right _ (oA:ck.toNat<=35184372088832)) ac) (Below.refl _ _) (Nat.le_refl _) ?_;intro eE de cn hb Y X;clear Y X;(first|rw[<-eF.1]at cn|(simp only[Int.reduceToNat]at cn;rw[<-eF.1]at cn));have cr:=Az (Kd.aH (Kd.ax xk (Kd.aj (rU cq.1))) (aK ga));replace bm:=Az (Kd.aC (rU bm.1) (Kd.ar cn) hb);replace bj:=Az (Kd.aC (rU bj.1) (Kd.ar cn) hb);replace bo:=Az (Kd.aC (rU bo.1) (Kd.ar cn) hb);replace bu:=Az (Kd.aC (rU bu.1) (Kd.ar cn) hb);replace cq:=Az (Kd.aC (rU cq.1) (Kd.ar cn) hb);replace M:=kB M.1 hb;replace J:=kB J.1 hb;replace HB:=jZ;clear hb cn;obtain⟨fA,eS,eC⟩:=Kd.az cq.1;(first|subst eC|(injection eC with T aX U;have aa:=T.symm;have aE:=U.symm;clear T aX U;subst aa;subst aE));obtain⟨dq,dn,cz⟩:=Kd.az cr.1;(first|subst cz|(injection cz with T aX U;have aa:=T.symm;have aE:=U.symm;clear T aX U;subst aa;subst aE));refine hK.out _ _ trivial (fun B=>?_);clear hK K;refine XN 34 ?_;refine XP 5 37 8 63 ?_;exact cQ jW (gI (.slice dq dO.length dn,.slice fA dp.length eS) _ ⟨Ce,Dk,yu,Aa,zJ,Dt,(kU M.1),(kU J.1),ga⟩)
        ·
         skip
         refine lT ?hg (N:=10) ?hd (cs:=#[.slice none 0 0,.slice none 0 0]) (t:=29) ?hr ?_;(case hd=>rfl);(case hg=>rfl);(case hr=>exact eV);intro ci hg de O hb;replace bm:=rB bm.1 hb;replace bj:=rB bj.1 hb;replace bo:=rB bo.1 hb;replace bu:=rB bu.1 hb;replace cq:=rB cq.1 hb;have aR:=bp;have ei:=gW hg ga;have cp:=rR;replace HB:=jZ;have cF:=nL hg (kU M.1);have dI:=nS cF;replace M:=kB M.1 hb;have cu:=nL hg (kU J.1);have cE:=nS cu;replace J:=kB J.1 hb;clear hb O hg;refine hK.out _ _ trivial (fun B=>?_);clear hK K;refine XN 10 ?_;exact cQ jW (gF (eD,ci) _ ⟨(rU bm.1),(rU bj.1),(rU bo.1),(rU bu.1),(rU cq.1),(kU M.1),(kU J.1),(kU aR.1),ei.1,cp.1,cF.1,dI.1,cu.1,cE.1,fv⟩)
      ·
       skip
       rintro eE de bV;obtain⟨cj,cf,cb,cm,cJ,cN,cM,cO⟩:=bV;have n0:=fE;have n1:=fw;have n2:=fC;have n3:=gv;have n4:=iD;have n5:=iQ;have n6:=iX;have n7:=iV;clear bm bj bo bu M J HB cj cf cb cm cJ cN cM cO;have bm:=n0;have bj:=n1;have bo:=n2;have bu:=n3;have cr:=n4;have M:=n5;have J:=n6;have HB:=n7;clear n0 n1 n2 n3 n4 n5 n6 n7;have B:=trivial;refine XJ ?_;refine kR (i:=4) (j:=6) (Ni:=some 36) (Nj:=some 10) (bv 8 31) (bv 8 79) rfl rfl rfl rfl (np ba.1 aM) af af (fun K hK=>?_) (fun K hK=>?_)
       ·
        skip
        refine XG Try.func72 #[.int .i64 (aJ.length:Int)] ?_;(with_reducible refine(cL.calls k (aJ.length:Int) dp _ A9.1).mono ?_);rintro e fH ⟨eD,rfl,ho0,hb⟩;refine⟨_,rfl,?_⟩;have cq:=Az (Kd.aH (Kd.ax r9 (Kd.aj (rU cr.1))) (aK ga));replace bm:=Az qE;replace bj:=Az pK;replace bo:=Az qu;replace bu:=qV;replace cr:=Az (Kd.aC (rU cr.1) (Kd.ar ho0) hb);replace M:=kB M.1 hb;replace J:=kB J.1 hb;replace HB:=jZ;clear hb ho0;obtain⟨fA,eS,eC⟩:=Kd.az cq.1;(first|subst eC|(injection eC with T aX U;have aa:=T.symm;have aE:=U.symm;clear T aX U;subst aa;subst aE));obtain⟨dq,dn,cz⟩:=Kd.az cr.1;(first|subst cz|(injection cz with T aX U;have aa:=T.symm;have aE:=U.symm;clear T aX U;subst aa;subst aE));refine hK.out _ _ trivial (fun B=>?_);clear hK K;refine XN 36 ?_;refine XP 5 37 8 63 ?_;exact cQ jW (gI (.slice dq dO.length dn,.slice fA dp.length eS) _ ⟨yd,CY,AE,CS,BV,AZ,(kU M.1),(kU J.1),ga⟩)
       ·
        skip
        refine lT ?hg (N:=10) ?hd (cs:=#[.slice none 0 0,.slice none 0 0]) (t:=29) ?hr ?_;(case hd=>rfl);(case hg=>rfl);(case hr=>exact eV);intro ci hg fH O hb;replace bm:=rB bm.1 hb;replace bj:=rB bj.1 hb;replace bo:=rB bo.1 hb;replace bu:=rB bu.1 hb;replace cr:=rB cr.1 hb;have aR:=bp;have ei:=gW hg ga;have cp:=rR;replace HB:=jZ;have cF:=nL hg (kU M.1);have dI:=nS cF;replace M:=kB M.1 hb;have cu:=nL hg (kU J.1);have cE:=nS cu;replace J:=kB J.1 hb;clear hb O hg;refine hK.out _ _ trivial (fun B=>?_);clear hK K;refine XN 10 ?_;exact cQ jW (gD (eE,ci) _ ⟨(rU bm.1),(rU bj.1),(rU bo.1),(rU bu.1),(rU cr.1),(kU M.1),(kU J.1),(kU aR.1),ei.1,cp.1,cF.1,dI.1,cu.1,cE.1,fv⟩)
     ·
      skip
      rintro⟨eD,ci⟩ de bV;dsimp only at bV;obtain⟨cj,cf,cb,cm,cJ,cN,cM,cO,di,dE,dA,dz,dx,dF,eb⟩:=bV;have n0:=fE;have n1:=fw;have n2:=fC;have n3:=gv;have n4:=iD;have n5:=iQ;have n6:=iX;have n7:=iV;have n8:=ae.mk di;have n9:=ae.mk dE;have dl:=ae.mk dA;have dm:=ae.mk dz;have dc:=ae.mk dx;have cY:=ae.mk dF;have dN:=ae.mk eb;clear bm bj bo bu M J HB cj cf cb cm cJ cN cM cO di dE dA dz dx dF eb;have bm:=n0;have bj:=n1;have bo:=n2;have bu:=n3;have cq:=n4;have M:=n5;have J:=n6;have aR:=n7;have ei:=n8;have cp:=n9;have cF:=dl;have dI:=dm;have cu:=dc;have cE:=cY;have HB:=dN;clear n0 n1 n2 n3 n4 n5 n6 n7 n8 n9 dl dm dc cY dN;have B:=trivial;refine XJ ?_;refine XO 2 34 8 95 (fun K hK=>?_);refine Kd.hD al _ 3 aW (N:=34) rfl 23 _ _ rfl ck rfl rfl Try.underlying23 (.int .i64 0) 8 bA rfl af ac 0 (ok:=fun _=>True) (okp:=fun _=>True) rfl (fun _ hk=>hk) trivial (oA) (Nat.le_trans (Nat.mul_le_mul_right _ (oA:ck.toNat<=35184372088832)) ac) (Below.refl _ _) (Nat.le_refl _) ?_;intro eE fH cH hb Y X;clear Y X;(first|rw[<-eF.1]at cH|(simp only[Int.reduceToNat]at cH;rw[<-eF.1]at cH));have cr:=Az (Kd.aH (Kd.ax (Kd.ax (Kd.ax (Kd.ax (Kd.ax cH (Kd.aj (rU bm.1))) (Kd.aj (rU bj.1))) (Kd.aj (rU bo.1))) (Kd.aj (rU bu.1))) (Kd.aj (rU cq.1))) (aK fv));replace bm:=Az (Kd.aC (rU bm.1) (Kd.ar cH) hb);replace bj:=Az (Kd.aC (rU bj.1) (Kd.ar cH) hb);replace bo:=Az (Kd.aC (rU bo.1) (Kd.ar cH) hb);replace bu:=Az (Kd.aC (rU bu.1) (Kd.ar cH) hb);replace cq:=Az (Kd.aC (rU cq.1) (Kd.ar cH) hb);replace M:=kB M.1 hb;replace J:=kB J.1 hb;replace aR:=kB aR.1 hb;replace HB:=nW;clear hb cH;obtain⟨dq,dn,cz⟩:=Kd.az cq.1;(first|subst cz|(injection cz with T aX U;have aa:=T.symm;have aE:=U.symm;clear T aX U;subst aa;subst aE));obtain⟨et,ey,dS⟩:=Kd.az cr.1;(first|subst dS|(injection dS with T aX U;have aa:=T.symm;have aE:=U.symm;clear T aX U;subst aa;subst aE));refine hK.out _ _ trivial (fun B=>?_);clear hK K;refine XN 34 ?_;refine XP 5 37 8 127 ?_;exact cQ jW (gm (.slice et dO.length ey,.slice dq dp.length dn,ci) _ ⟨Ce,Dk,yu,Aa,zJ,Dt,(kU M.1),(kU J.1),(kU aR.1),ei.1,cp.1,cF.1,dI.1,cu.1,cE.1,fv⟩)
    ·
     skip
     rintro⟨eE,ci⟩ fH bV;dsimp only at bV;obtain⟨cj,cf,cb,cm,cJ,cN,cM,cO,di,dE,dA,dz,dx,dF,eb⟩:=bV;have n0:=fE;have n1:=fw;have n2:=fC;have n3:=gv;have n4:=iD;have n5:=iQ;have n6:=iX;have n7:=iV;have n8:=ae.mk di;have n9:=ae.mk dE;have dl:=ae.mk dA;have dm:=ae.mk dz;have dc:=ae.mk dx;have cY:=ae.mk dF;have dN:=ae.mk eb;clear bm bj bo bu M J HB cj cf cb cm cJ cN cM cO di dE dA dz dx dF eb;have bm:=n0;have bj:=n1;have bo:=n2;have bu:=n3;have cr:=n4;have M:=n5;have J:=n6;have aR:=n7;have ei:=n8;have cp:=n9;have cF:=dl;have dI:=dm;have cu:=dc;have cE:=cY;have HB:=dN;clear n0 n1 n2 n3 n4 n5 n6 n7 n8 n9 dl dm dc cY dN;have B:=trivial;refine XJ ?_;refine XO 4 36 8 95 (fun K hK=>?_);refine XG Try.func72 #[.int .i64 (aJ.length:Int)] ?_;(with_reducible refine(cL.calls k (aJ.length:Int) dp _ A9.1).mono ?_);rintro e dW ⟨eD,rfl,ho0,hb⟩;refine⟨_,rfl,?_⟩;have cq:=Az (Kd.aH (Kd.ax r9 (Kd.aj (rU cr.1))) (aK fv));replace bm:=Az qE;replace bj:=Az pK;replace bo:=Az qu;replace bu:=qV;replace cr:=Az (Kd.aC (rU cr.1) (Kd.ar ho0) hb);replace M:=kB M.1 hb;replace J:=kB J.1 hb;replace aR:=kB aR.1 hb;replace HB:=nW;clear hb ho0;obtain⟨dq,dn,cz⟩:=Kd.az cq.1;(first|subst cz|(injection cz with T aX U;have aa:=T.symm;have aE:=U.symm;clear T aX U;subst aa;subst aE));obtain⟨et,ey,dS⟩:=Kd.az cr.1;(first|subst dS|(injection dS with T aX U;have aa:=T.symm;have aE:=U.symm;clear T aX U;subst aa;subst aE));refine hK.out _ _ trivial (fun B=>?_);clear hK K;refine XN 36 ?_;refine XP 5 37 8 127 ?_;exact cQ jW (gm (.slice et dO.length ey,.slice dq dp.length dn,ci) _ ⟨yd,CY,AE,CS,BV,AZ,(kU M.1),(kU J.1),(kU aR.1),ei.1,cp.1,cF.1,dI.1,cu.1,cE.1,fv⟩)
   ·
    skip
    rintro⟨eE,eD⟩ mU bV;dsimp only at bV;obtain⟨cj,cf,cb,cm,cJ,cN,cM,cO,di⟩:=bV;have n0:=fE;have n1:=fw;have n2:=fC;have n3:=gv;have n4:=iD;have n5:=iQ;have n6:=iX;have n7:=iV;have n8:=ae.mk di;clear bm bj bo bu M J HB cj cf cb cm cJ cN cM cO di;have bm:=n0;have bj:=n1;have bo:=n2;have bu:=n3;have cr:=n4;have cq:=n5;have M:=n6;have J:=n7;have HB:=n8;clear n0 n1 n2 n3 n4 n5 n6 n7 n8;have B:=trivial;obtain⟨et,ey,dS⟩:=Kd.az cq.1;(first|subst dS|(injection dS with T aX U;have aa:=T.symm;have aE:=U.symm;clear T aX U;subst aa;subst aE));obtain⟨dJ,dt,dX⟩:=Kd.az cr.1;(first|subst dX|(injection dX with T aX U;have aa:=T.symm;have aE:=U.symm;clear T aX U;subst aa;subst aE));refine XJ ?_;refine XO 6 10 8 127 (fun K hK=>?_);refine lT ?hg (N:=10) ?hd (cs:=#[.slice none 0 0,.slice none 0 0]) (t:=29) ?hr ?_;(case hd=>rfl);(case hg=>rfl);(case hr=>exact eV);intro ci hg gZ O hb;replace bm:=rB bm.1 hb;replace bj:=rB bj.1 hb;replace bo:=rB bo.1 hb;replace bu:=rB bu.1 hb;replace cr:=rB cr.1 hb;replace cq:=rB cq.1 hb;have aR:=bp;have ei:=gW hg ga;have cp:=rR;replace HB:=jZ;have cF:=nL hg (kU M.1);have dI:=nS cF;replace M:=kB M.1 hb;have cu:=nL hg (kU J.1);have cE:=nS cu;replace J:=kB J.1 hb;clear hb O hg;refine hK.out _ _ trivial (fun B=>?_);clear hK K;refine XN 10 ?_;exact cQ jW (gm (.slice dJ dO.length dt,.slice et dp.length ey,ci) _ ⟨(rU bm.1),(rU bj.1),(rU bo.1),(rU bu.1),(rU cr.1),(rU cq.1),(kU M.1),(kU J.1),(kU aR.1),ei.1,cp.1,cF.1,dI.1,cu.1,cE.1,fv⟩)
  rintro⟨eE,eD,ci⟩ eN bV;dsimp only at bV;obtain⟨cj,cf,cb,cm,cJ,cN,cM,cO,di,dE,dA,dz,dx,dF,eb,hh⟩:=bV;have n0:=fE;have n1:=fw;have n2:=fC;have n3:=gv;have n4:=iD;have n5:=iQ;have n6:=iX;have n7:=iV;have n8:=ae.mk di;have n9:=ae.mk dE;have dl:=ae.mk dA;have dm:=ae.mk dz;have dc:=ae.mk dx;have cY:=ae.mk dF;have dN:=ae.mk eb;have fj:=ae.mk hh;clear bm bj bo bu M J HB cj cf cb cm cJ cN cM cO di dE dA dz dx dF eb hh;have bm:=n0;have bj:=n1;have bo:=n2;have bu:=n3;have cr:=n4;have cq:=n5;have M:=n6;have J:=n7;have aR:=n8;have ei:=n9;have cp:=dl;have cF:=dm;have dI:=dc;have cu:=cY;have cE:=dN;have HB:=fj;clear n0 n1 n2 n3 n4 n5 n6 n7 n8 n9 dl dm dc cY dN fj;have B:=trivial;obtain⟨dJ,dt,dX⟩:=Kd.az cq.1;(first|subst dX|(injection dX with T aX U;have aa:=T.symm;have aE:=U.symm;clear T aX U;subst aa;subst aE));obtain⟨dj,df,gp⟩:=Kd.az cr.1;(first|subst gp|(injection gp with T aX U;have aa:=T.symm;have aE:=U.symm;clear T aX U;subst aa;subst aE));refine XJ ?_;refine XQ 7 8 255 (fun K hK=>?_);have px:eN.cell? ⟨ci,0,none⟩=some (.slice none 0 0):=(ap aR.1 0).trans rfl;have nC:=dC aR.1 0;have nF:=cF.1;have nE:=cu.1;have oz:=dI.1;have oD:=cE.1;have kO:eN.cell? ⟨ci,1,none⟩=some (.slice none 0 0):=(ap aR.1 1).trans rfl;have kZ:=dC aR.1 1;have kQ:=cF.1;have ow:=cu.1;have mW:=dI.1;have nH:=cE.1;refine eh (w1:=?_) aW rfl ?_ ?_;rotate_left
  ·go_simp;rfl
  refine hK.out _ _ trivial (fun B=>?_);clear hK K;refine XD ?_;try go_wp2
  go_loopg [11] k (fun kq em w'=>∃(G:List Int) (I:List Int) (bk:Int) (ak:List Int) (bf:List Int) (bW:Value) (bc:Value),em= .int .i64 bk/\ae (bw.l0 kq G I (aJ.length:Int) bk ak bf=some (r1,r2,r3,r4))/\ae (kq<=k)/\ae (ai w' w (fun k_=>oS k_ bi aJ.length bb/\oV k_ bW/\oV k_ bc) bJ G)/\ae (ai w' w (fun k_=>oV k_ bJ/\oV k_ bW/\oV k_ bc) (.slice bi aJ.length bb) I)/\ae (ai w' w (fun k_=>oV k_ bJ/\oS k_ bi aJ.length bb/\oV k_ bc) bW ak)/\ae (ai w' w (fun k_=>oV k_ bJ/\oS k_ bi aJ.length bb/\oV k_ bW) bc bf)/\ae (w'.heap[dv]?=some (.cells #[.string F,(.slice y s.length u)] 25 (0,0)))/\ae (w'.heap[cd]?=some (.cells #[(.slice none 0 0),(.slice none 0 0)] 29 (0,0)))/\ae (w'.heap[ci]?=some (.cells #[bW,bc] 29 (0,0)))/\ae (Below w.heap.size w w'))
  case atStart=>exact⟨(eJ),(aJ),(0),(dO),(dp),(.slice dj dO.length df),(.slice dJ dp.length dt),rS,H',⟨Nat.le_refl _⟩,⟨rA (Kd.ag (Kd.aA (p:=⟨ci,1,none⟩) (Kd.aA (p:=⟨ci,0,none⟩) (Kd.bn bm.1 aR.1 af) au (.slice dj dO.length df)) au (.slice dJ dp.length dt)) (fun _ hk=>⟨hk.1.2.2.1,hk.1.2.2.2.1,hk.1.2.2.2.2⟩))⟩,⟨rA (Kd.ag (Kd.aA (p:=⟨ci,1,none⟩) (Kd.aA (p:=⟨ci,0,none⟩) (Kd.bn bu.1 aR.1 af) au (.slice dj dO.length df)) au (.slice dJ dp.length dt)) (fun _ hk=>⟨hk.1.1,hk.1.2.2.2.1,hk.1.2.2.2.2⟩))⟩,⟨rA (Kd.ag (Kd.aA (p:=⟨ci,1,none⟩) (Kd.aA (p:=⟨ci,0,none⟩) (Kd.bn cr.1 aR.1 af) au (.slice dj dO.length df)) au (.slice dJ dp.length dt)) (fun _ hk=>⟨hk.1.1,hk.1.2.2.2.1,hk.1.2.2.2.2⟩))⟩,⟨rA (Kd.ag (Kd.aA (p:=⟨ci,1,none⟩) (Kd.aA (p:=⟨ci,0,none⟩) (Kd.bn cq.1 aR.1 af) au (.slice dj dO.length df)) au (.slice dJ dp.length dt)) (fun _ hk=>⟨hk.1.1,hk.1.2.2.2.1,hk.1.2.2.2.2⟩))⟩,⟨by refine sA ?_;refine bq ?_ cF.1 _;refine sA ?_;refine bq ?_ cF.1 _;refine sA ?_;exact M.1⟩,⟨by refine sA ?_;refine bq ?_ cu.1 _;refine sA ?_;refine bq ?_ cu.1 _;refine sA ?_;exact J.1⟩,⟨by refine sA ?_;refine bl (cs:=#[.slice dj dO.length df,.slice none 0 0]) ?_ 1 _ rfl;refine sA ?_;refine bl (cs:=#[.slice none 0 0,.slice none 0 0]) ?_ 0 _ rfl;refine sA ?_;exact aR.1⟩,⟨bP HB.1 dk.1 dK.1 cp.1⟩⟩
  case round=>
   clear H';obtain⟨G,I,bk,ak,bf,bW,bc,rfl,HA,ca,E,z,Z,L,M,J,aR,HB⟩:=hrel;have bQ:=(Kd.am z.1).1;rw[bQ]at z;simp only[bQ];simp only[bQ]at E;simp only[bQ]at Z;simp only[bQ]at L;rcases gk with _|k1;exact(nN HA.1).elim;have H:=HA.1;clear HA;simp only[bw.l0]at H;by_cases c32:bk<=(wrap64 (Int.tdiv (aJ.length:Int) 2))
   ·
    rw[if_pos c32]at H;have fa:=decide_eq_true c32;(have ft:=fa;rw[bQ]at ft);(have fU:=ft;rw[Int.tdiv_eq_ediv_of_nonneg (Int.natCast_nonneg _)]at fU);clear c32;generalize fy:(([]:List Int):List Int)=hV at H;replace fy:=Ay fy;have H':=Az H;clear H;go_wp2_with (first|((with_reducible refine gd 44 rfl ?_);refine Kd.du al _ 3 rfl (N:=44) rfl (xs:=([]:List Int)) (inner:=[]) (ok:=fun _=>True) (okp:=fun _=>True) hS ?hp (fun _ hk=>hk) trivial (Below.refl _ _) (Nat.le_refl _) ay ?_;(case hp=>exact(aD.none _ _));intro jf gL dM hb Y X;clear Y X;(first|rw[<-fy.1]at dM|(simp only[Int.reduceToNat]at dM;rw[<-fy.1]at dM));have iu:=Az (Kd.aH (Kd.ax (Kd.ax (Kd.ax (Kd.ax dM (Kd.aj (rU E.1))) (Kd.aj (rU z.1))) (Kd.aj (rU Z.1))) (Kd.aj (rU L.1))) (aK fv));replace E:=Az (Kd.aC (rU E.1) (Kd.ar dM) hb);replace z:=Az (Kd.aC (rU z.1) (Kd.ar dM) hb);replace Z:=Az (Kd.aC (rU Z.1) (Kd.ar dM) hb);replace L:=Az (Kd.aC (rU L.1) (Kd.ar dM) hb);replace M:=kB M.1 hb;replace J:=kB J.1 hb;replace aR:=kB aR.1 hb;replace HB:=nW;clear hb dM));go_loopg [12,13] k1 (fun kq dG fu w'=>∃(dr:List Int) (dh:Int),fu= .int .i64 dh/\ae (bw.l1 kq G I (aJ.length:Int) bk dr dh ak bf=some (r1,r2,r3,r4))/\ae (kq<=k1)/\ae (ai w' w (fun k_=>oS k_ bi I.length bb/\oV k_ dG/\oV k_ bW/\oV k_ bc) bJ G)/\ae (ai w' w (fun k_=>oV k_ bJ/\oV k_ dG/\oV k_ bW/\oV k_ bc) (.slice bi I.length bb) I)/\ae (ai w' w (fun k_=>oV k_ bJ/\oS k_ bi I.length bb/\oV k_ bW/\oV k_ bc) dG dr)/\ae (ai w' w (fun k_=>oV k_ bJ/\oS k_ bi I.length bb/\oV k_ dG/\oV k_ bc) bW ak)/\ae (ai w' w (fun k_=>oV k_ bJ/\oS k_ bi I.length bb/\oV k_ dG/\oV k_ bW) bc bf)/\ae (w'.heap[dv]?=some (.cells #[.string F,(.slice y s.length u)] 25 (0,0)))/\ae (w'.heap[cd]?=some (.cells #[(.slice none 0 0),(.slice none 0 0)] 29 (0,0)))/\ae (w'.heap[ci]?=some (.cells #[bW,bc] 29 (0,0)))/\ae (Below w.heap.size w w'))
    case atStart=>exact⟨(hV),(0),rS,H',⟨Nat.le_refl _⟩,⟨rA (Kd.ag E.1 (fun _ hk=>⟨hk.1.1,hk.2,hk.1.2.1,hk.1.2.2⟩))⟩,⟨rA (Kd.ag z.1 (fun _ hk=>⟨hk.1.1,hk.2,hk.1.2.1,hk.1.2.2⟩))⟩,⟨rA (Kd.ag iu.1 (fun _ hk=>⟨hk.1.1.1.2,hk.1.1.2,hk.1.2,hk.2⟩))⟩,⟨rA (Kd.ag Z.1 (fun _ hk=>⟨hk.1.1,hk.1.2.1,hk.2,hk.1.2.2⟩))⟩,⟨rA (Kd.ag L.1 (fun _ hk=>⟨hk.1.1,hk.1.2.1,hk.2,hk.1.2.2⟩))⟩,⟨sA M.1⟩,⟨sA J.1⟩,⟨sA aR.1⟩,⟨bP HB.1 dk.1 dK.1 cp.1⟩⟩
    case round=>
     clear H';obtain⟨dr,dh,rfl,HA,bM,E,z,bH,Z,L,M,J,aR,HB⟩:=hrel;rcases gk with _|k2;exact(nN HA.1).elim;have H:=HA.1;clear HA;simp only[bw.l1]at H;by_cases eA:dh<(aJ.length:Int)
     ·
      rw[if_pos eA]at H;have ff:=decide_eq_true eA;(have gh:=ff;rw[bQ]at gh);clear eA;replace H:=bF;obtain⟨fe,H⟩:=H;replace H:=aY;obtain⟨fp,H⟩:=H;have fF:=decide_eq_true fp;clear fp;by_cases ew:(rd G dh)=bk
      ·
       rw[if_pos ew]at H;have gi:=beq_iff_eq.mpr ew;have gJ:=bne_eq_false_iff_eq.mpr ew;clear ew;have H':=Az H;clear H;obtain⟨iC,ep,hI⟩:=Kd.az E.1;subst hI;obtain⟨en,gq,gY,hv,gV⟩:=aI (Kd.am E.1).2.2 dh;cases gq;go_wp2;go_loopg [12,14] k2 (fun kq dG eR w'=>∃(V:List Int) (eY:Int),eR= .int .i64 eY/\ae (bw.l2 kq G I (aJ.length:Int) bk V dh eY ak bf=some (r1,r2,r3,r4))/\ae (kq<=k2)/\ae (ai w' w (fun k_=>oS k_ bi I.length bb/\oV k_ dG/\oV k_ bW/\oV k_ bc) (.slice (some en) G.length ep) G)/\ae (ai w' w (fun k_=>oS k_ (some en) G.length ep/\oV k_ dG/\oV k_ bW/\oV k_ bc) (.slice bi I.length bb) I)/\ae (ai w' w (fun k_=>oS k_ (some en) G.length ep/\oS k_ bi I.length bb/\oV k_ bW/\oV k_ bc) dG V)/\ae (ai w' w (fun k_=>oS k_ (some en) G.length ep/\oS k_ bi I.length bb/\oV k_ dG/\oV k_ bc) bW ak)/\ae (ai w' w (fun k_=>oS k_ (some en) G.length ep/\oS k_ bi I.length bb/\oV k_ dG/\oV k_ bW) bc bf)/\ae (w'.heap[dv]?=some (.cells #[.string F,(.slice y s.length u)] 25 (0,0)))/\ae (w'.heap[cd]?=some (.cells #[(.slice none 0 0),(.slice none 0 0)] 29 (0,0)))/\ae (w'.heap[ci]?=some (.cells #[bW,bc] 29 (0,0)))/\ae (Below w.heap.size w w'))
       case atStart=>exact⟨(dr),(1),rS,H',⟨Nat.le_refl _⟩,⟨rA E.1⟩,⟨rA z.1⟩,⟨rA bH.1⟩,⟨rA Z.1⟩,⟨rA L.1⟩,⟨sA M.1⟩,⟨sA J.1⟩,⟨sA aR.1⟩,⟨bP HB.1 dk.1 dK.1 cp.1⟩⟩
       case round=>
        clear H';obtain⟨V,eY,rfl,HA,dy,E,z,bH,Z,L,M,J,aR,HB⟩:=hrel;rcases gk with _|k3;exact(nN HA.1).elim;have H:=HA.1;clear HA;simp only[bw.l2]at H;by_cases c40:eY<(aJ.length:Int)
        ·
         rw[if_pos c40]at H;have eI:=decide_eq_true c40;(have fW:=eI;rw[bQ]at fW);clear c40;by_cases eB:(aJ.length:Int)=0
         ·rw[if_pos eB]at H;exact kX H
         ·
          rw[if_neg eB]at H;have fP:=beq_eq_false_iff_ne.mpr eB;(have hP:=fP;rw[bQ]at hP);have fz:=bne_iff_ne.mpr eB;(have gX:=fz;rw[bQ]at gX);have iO:¬(aJ=[]):=fun h_=>eB (by rw[h_];rfl)
          obtain⟨fo,gn⟩:∃j_:Int,(Int.tmod (wrap64 ((wrap64 (dh-eY))+(aJ.length:Int))) (aJ.length:Int))=j_:=⟨_,rfl⟩;(have ie:=gn;rw[bQ]at ie);(first|rw[gn]at H|simp only[gn]at H);replace H:=bF;obtain⟨iY,H⟩:=H;replace H:=aY;obtain⟨gy,H⟩:=H;have ij:=decide_eq_true gy;clear gy;replace H:=gQ H;rcases H with⟨hm,hj,H⟩|⟨hm,hj,H⟩
          ·
           replace H:=aY;obtain⟨gw,H⟩:=H;have hz:=Az gw;clear gw;generalize gg:(V++[wrap64 ((wrap64 (2*(fo)))+1)]:List Int)=ik at H;replace gg:=Ay gg;have H':=Az H;clear H;obtain⟨fx,fS,hU,gU,hn⟩:=aI (Kd.am z.1).2.2 (fo);cases fS;go_wp2_with (first|((with_reducible refine dB (b:=.append) (xs:=#[.tmp 74,.tmp 78]) rfl ?_);at_builtin;refine Kd.dH al (w0:=w) w.heap.size rfl (.tmp 74) (.tmp 78) 23 3 (.int .i64 0) 8 rfl Try.underlying23 bA rfl af ac u12 V (wrap64 ((wrap64 (2*(fo)))+1)) [.int .i64 (wrap64 ((wrap64 (2*(fo)))+1))] (fun k_=>oS k_ (some en) G.length ep/\oS k_ (some fx) I.length bb/\oV k_ bW/\oV k_ bc) (fun _=>False) rfl rfl ?aP (fun _ hk=>hk.elim) ?aF ?aO ?aB ?aS ?aL ?_;(case aP=>exact rfl);(case aB=>exact fv);(case aF=>exact(fun k_ hk=>⟨Kd.be (Kd.aj (rU E.1)) k_ hk,Kd.be (Kd.aj (rU z.1)) k_ hk,Kd.be (Kd.aj (rU Z.1)) k_ hk,Kd.be (Kd.aj (rU L.1)) k_ hk⟩));(case aO=>exact(rU bH.1));(case aS=>exact(aK fv));(case aL=>have:=hz.1;omega);intro iK dR ho hb hg hat;rw[<-gg.1]at ho;replace E:=Az (Kd.aQ (ok:=(fun k_=>oS k_ (some fx) I.length bb/\oV k_ bW/\oV k_ bc)) zH hg hat);replace z:=Az zD;replace Z:=Az (Kd.aQ (ok:=(fun k_=>oS k_ (some en) G.length ep/\oS k_ (some fx) I.length bb/\oV k_ bc)) zM hg hat);replace L:=Az (Kd.aQ (ok:=(fun k_=>oS k_ (some en) G.length ep/\oS k_ (some fx) I.length bb/\oV k_ bW)) xV hg hat);replace M:=Az (kG M.1 hg (Kd.bg bH.1 M.1 af));replace J:=Az (kG J.1 hg (Kd.bg bH.1 J.1 af));replace aR:=Az (kG aR.1 hg (Kd.bg bH.1 aR.1 af));replace HB:=br;have hM:=cS;clear bH ho hb hg hat));go_roundg k3
           case measure=>exact mO
           case rel=>exact⟨(ik),(wrap64 (eY+1)),rS,H',⟨mO⟩,⟨rA (Kd.ag E.1 (fun _ hk=>⟨hk.1.1,hk.2,hk.1.2.1,hk.1.2.2⟩))⟩,⟨rA (Kd.ag z.1 (fun _ hk=>⟨hk.1.1,hk.2,hk.1.2.1,hk.1.2.2⟩))⟩,⟨rA hM.1⟩,⟨rA (Kd.ag Z.1 (fun _ hk=>⟨hk.1.1,hk.1.2.1,hk.2,hk.1.2.2⟩))⟩,⟨rA (Kd.ag L.1 (fun _ hk=>⟨hk.1.1,hk.1.2.1,hk.2,hk.1.2.2⟩))⟩,⟨sA M.1⟩,⟨sA J.1⟩,⟨sA aR.1⟩,⟨bP HB.1 dk.1 dK.1 cp.1⟩⟩
          ·
           have H':=Az H;clear H;obtain⟨fx,fS,hU,gU,hn⟩:=aI (Kd.am z.1).2.2 (fo);cases fS;go_wp2;go_roundg k3
           case measure=>exact mO
           case rel=>exact⟨(V),(wrap64 (eY+1)),rS,H',⟨mO⟩,⟨rA E.1⟩,⟨rA z.1⟩,⟨rA bH.1⟩,⟨rA Z.1⟩,⟨rA L.1⟩,⟨sA M.1⟩,⟨sA J.1⟩,⟨sA aR.1⟩,⟨bP HB.1 dk.1 dK.1 cp.1⟩⟩
        ·
         rw[if_neg c40]at H;have eI:=decide_eq_false c40;(have fW:=eI;rw[bQ]at fW);clear c40;replace H:=aY;obtain⟨fb,H⟩:=H;have il:=Az fb;clear fb;generalize fT:(V++[wrap64 (2*dh)]:List Int)=hJ at H;replace fT:=Ay fT;have H':=Az H;clear H;go_wp2_with (first|((with_reducible refine dB (b:=.append) (xs:=#[.tmp 80,.tmp 83]) rfl ?_);at_builtin;refine Kd.dH al (w0:=w) w.heap.size rfl (.tmp 80) (.tmp 83) 23 3 (.int .i64 0) 8 rfl Try.underlying23 bA rfl af ac u12 V (wrap64 (2*dh)) [.int .i64 (wrap64 (2*dh))] (fun k_=>oS k_ (some en) G.length ep/\oS k_ bi I.length bb/\oV k_ bW/\oV k_ bc) (fun _=>False) rfl rfl ?aP (fun _ hk=>hk.elim) ?aF ?aO ?aB ?aS ?aL ?_;(case aP=>exact rfl);(case aB=>exact fv);(case aF=>exact(fun k_ hk=>⟨Kd.be (Kd.aj (rU E.1)) k_ hk,Kd.be (Kd.aj (rU z.1)) k_ hk,Kd.be (Kd.aj (rU Z.1)) k_ hk,Kd.be (Kd.aj (rU L.1)) k_ hk⟩));(case aO=>exact(rU bH.1));(case aS=>exact(aK fv));(case aL=>have:=il.1;omega);intro iz fR ho hb hg hat;rw[<-fT.1]at ho;replace E:=Az (Kd.aQ (ok:=(fun k_=>oS k_ bi I.length bb/\oV k_ bW/\oV k_ bc)) zH hg hat);replace z:=Az zD;replace Z:=Az (Kd.aQ (ok:=(fun k_=>oS k_ (some en) G.length ep/\oS k_ bi I.length bb/\oV k_ bc)) zM hg hat);replace L:=Az (Kd.aQ (ok:=(fun k_=>oS k_ (some en) G.length ep/\oS k_ bi I.length bb/\oV k_ bW)) xV hg hat);replace M:=Az (kG M.1 hg (Kd.bg bH.1 M.1 af));replace J:=Az (kG J.1 hg (Kd.bg bH.1 J.1 af));replace aR:=Az (kG aR.1 hg (Kd.bg bH.1 aR.1 af));replace HB:=br;have gS:=cS;clear bH ho hb hg hat));go_roundg k3
         case measure=>exact mO
         case rel=>exact⟨(hJ),(wrap64 (dh+1)),rS,H',⟨mO⟩,⟨rA (Kd.ag E.1 (fun _ hk=>⟨hk.1.1,hk.2,hk.1.2.1,hk.1.2.2⟩))⟩,⟨rA (Kd.ag z.1 (fun _ hk=>⟨hk.1.1,hk.2,hk.1.2.1,hk.1.2.2⟩))⟩,⟨rA gS.1⟩,⟨rA (Kd.ag Z.1 (fun _ hk=>⟨hk.1.1,hk.1.2.1,hk.2,hk.1.2.2⟩))⟩,⟨rA (Kd.ag L.1 (fun _ hk=>⟨hk.1.1,hk.1.2.1,hk.2,hk.1.2.2⟩))⟩,⟨sA M.1⟩,⟨sA J.1⟩,⟨sA aR.1⟩,⟨bP HB.1 dk.1 dK.1 cp.1⟩⟩
      ·
       rw[if_neg ew]at H;have gi:=beq_eq_false_iff_ne.mpr ew;have gJ:=bne_iff_ne.mpr ew;have H':=Az H;clear H;obtain⟨jB,iF,gT⟩:=Kd.az E.1;subst gT;obtain⟨en,gq,gY,hv,gV⟩:=aI (Kd.am E.1).2.2 dh;cases gq;go_wp2;go_roundg k2
       case measure=>exact mO
       case rel=>exact⟨(dr),(wrap64 (dh+1)),rS,H',⟨mO⟩,⟨rA E.1⟩,⟨rA z.1⟩,⟨rA bH.1⟩,⟨rA Z.1⟩,⟨rA L.1⟩,⟨sA M.1⟩,⟨sA J.1⟩,⟨sA aR.1⟩,⟨bP HB.1 dk.1 dK.1 cp.1⟩⟩
     ·
      rw[if_neg eA]at H;have ff:=decide_eq_false eA;(have gh:=ff;rw[bQ]at gh);clear eA;replace H:=aV;obtain⟨fJ,ir,H⟩:=H;have H':=Az H;clear H;have iJ:=dI.1;have jG:=cF.1;have he:=cE.1;have jc:=cu.1;have hY:=bc2 aR.1;obtain⟨dZ,ef,fi⟩:=Kd.az Z.1;subst fi;obtain⟨fc,cC,fh⟩:=Kd.az bH.1;subst fh;go_wp2_with (first|((with_reducible refine gK 73 rfl ?_);refine gC (some 88) Try.func73 #[.slice dZ ak.length ef,.slice fc dr.length cC] ?_;(with_reducible refine(cB.calls k2 (fun k_=>some k_=(.slice dZ ak.length ef:Value).ownBlock) (.slice dZ ak.length ef) ak _ _ dr fJ w _ ?side1 ?side2 ?side3 ?side4 ir.1).mono ?_);(case side1=>repeat (first|(with_reducible first|exact HB.1|apply bK|apply cg|apply cK|refine aN ?_ dk.1|refine aN ?_ dK.1|refine aN ?_ cp.1)|exact HB.1));(case side2=>exact Kd.lN rfl Z.1);(case side3=>exact Kd.xv (bH.1) (fun k_ bI dd=>(bI.2.2.1) dd));(case side4=>exact(Kd.am bH.1).2.1);rintro e fD ⟨rfl,eW,hb,hkp⟩;refine⟨_,rfl,?_⟩;replace E:=Az (Kd.ag (ok':=fun k_=>oS k_ bi I.length bb/\oS k_ fc dr.length cC/\oS k_ dZ ak.length ef/\oV k_ bc) (Kd.nI (E.1) hkp (fun k_ bI dd=>(bI.2.2.1) dd)) (fun k_ bI=>⟨bI.1.1,bI.1.2.1,bI.1.2.2.1,bI.1.2.2.2⟩));replace z:=Az (Kd.ag (ok':=fun k_=>oV k_ bJ/\oS k_ fc dr.length cC/\oS k_ dZ ak.length ef/\oV k_ bc) (Kd.nI (z.1) hkp (fun k_ bI dd=>(bI.2.2.1) dd)) (fun k_ bI=>⟨bI.1.1,bI.1.2.1,bI.1.2.2.1,bI.1.2.2.2⟩));replace bH:=Az (Kd.ag (ok':=fun k_=>oV k_ bJ/\oS k_ bi I.length bb/\oS k_ dZ ak.length ef/\oV k_ bc) (Kd.nI (bH.1) hkp (fun k_ bI dd=>(bI.2.2.1) dd)) (fun k_ bI=>⟨bI.1.1,bI.1.2.1,bI.1.2.2.1,bI.1.2.2.2⟩));replace L:=Az (Kd.ag (ok':=fun k_=>oV k_ bJ/\oS k_ bi I.length bb/\oS k_ fc dr.length cC/\oS k_ dZ ak.length ef) (Kd.nI (L.1) hkp (fun k_ bI dd=>(bI.2.2.2) dd)) (fun k_ bI=>⟨bI.1.1,bI.1.2.1,bI.1.2.2.1,bI.1.2.2.2⟩));replace M:=zX;replace J:=Bl;replace aR:=xg;replace Z:=Az (Kd.sI rfl eW (fun k_ e_=>Z.1.1 k_ e_));replace HB:=br;clear hb));simp only[<-bQ];go_roundg k2
      case measure=>exact mO
      case rel=>exact⟨(G),(I),(wrap64 (bk+1)),(fJ),(bf),(.slice dZ ak.length ef),(bc),rS,H',⟨mO⟩,⟨by simp only[bQ];refine rA ?_;exact Kd.ag E.1 (fun _ hk=>⟨hk.1,hk.2.2.1,hk.2.2.2⟩)⟩,⟨by simp only[bQ];refine rA ?_;exact Kd.ag z.1 (fun _ hk=>⟨hk.1,hk.2.2.1,hk.2.2.2⟩)⟩,⟨by simp only[bQ];refine rA ?_;exact Kd.ag Z.1 (fun _ hk=>⟨hk.1,hk.2.1,hk.2.2.2⟩)⟩,⟨by simp only[bQ];refine rA ?_;exact Kd.ag L.1 (fun _ hk=>⟨hk.1,hk.2.1,hk.2.2.2⟩)⟩,⟨sA M.1⟩,⟨sA J.1⟩,⟨sA aR.1⟩,⟨bP HB.1 dk.1 dK.1 cp.1⟩⟩
   ·
    rw[if_neg c32]at H;have fa:=decide_eq_false c32;(have ft:=fa;rw[bQ]at ft);(have fU:=ft;rw[Int.tdiv_eq_ediv_of_nonneg (Int.natCast_nonneg _)]at fU);clear c32;generalize fG:(([]:List Int):List Int)=hR at H;replace fG:=Ay fG;have H':=Az H;clear H;go_wp2_with (first|((with_reducible refine gd 89 rfl ?_);refine Kd.du al _ 3 rfl (N:=89) rfl (xs:=([]:List Int)) (inner:=[]) (ok:=fun _=>True) (okp:=fun _=>True) hS ?hp (fun _ hk=>hk) trivial (Below.refl _ _) (Nat.le_refl _) ay ?_;(case hp=>exact(aD.none _ _));intro iI gN eG hb Y X;clear Y X;(first|rw[<-fG.1]at eG|(simp only[Int.reduceToNat]at eG;rw[<-fG.1]at eG));have hX:=Az (Kd.aH (Kd.ax (Kd.ax (Kd.ax (Kd.ax eG (Kd.aj (rU E.1))) (Kd.aj (rU z.1))) (Kd.aj (rU Z.1))) (Kd.aj (rU L.1))) (aK fv));replace E:=Az (Kd.aC (rU E.1) (Kd.ar eG) hb);replace z:=Az (Kd.aC (rU z.1) (Kd.ar eG) hb);replace Z:=Az (Kd.aC (rU Z.1) (Kd.ar eG) hb);replace L:=Az (Kd.aC (rU L.1) (Kd.ar eG) hb);replace M:=kB M.1 hb;replace J:=kB J.1 hb;replace aR:=kB aR.1 hb;replace HB:=nW;clear hb eG));go_loopg [16,17] k1 (fun kq fL ek w'=>∃(eo:List Int) (ez:Int),ek= .int .i64 ez/\ae (bw.l3 kq I eo ez ak bf=some (r1,r2,r3,r4))/\ae (kq<=k1)/\ae (ai w' w (fun k_=>oV k_ fL/\oV k_ bW/\oV k_ bc) (.slice bi I.length bb) I)/\ae (ai w' w (fun k_=>oS k_ bi I.length bb/\oV k_ bW/\oV k_ bc) fL eo)/\ae (ai w' w (fun k_=>oS k_ bi I.length bb/\oV k_ fL/\oV k_ bc) bW ak)/\ae (ai w' w (fun k_=>oS k_ bi I.length bb/\oV k_ fL/\oV k_ bW) bc bf)/\ae (w'.heap[dv]?=some (.cells #[.string F,(.slice y s.length u)] 25 (0,0)))/\ae (w'.heap[cd]?=some (.cells #[(.slice none 0 0),(.slice none 0 0)] 29 (0,0)))/\ae (w'.heap[ci]?=some (.cells #[bW,bc] 29 (0,0)))/\ae (Below w.heap.size w w'))
    case atStart=>exact⟨(hR),(wrap64 ((aJ.length:Int)-1)),rS,H',⟨Nat.le_refl _⟩,⟨rA (Kd.ag z.1 (fun _ hk=>⟨hk.2,hk.1.2.1,hk.1.2.2⟩))⟩,⟨rA (Kd.ag hX.1 (fun _ hk=>⟨hk.1.1.2,hk.1.2,hk.2⟩))⟩,⟨rA (Kd.ag Z.1 (fun _ hk=>⟨hk.1.2.1,hk.2,hk.1.2.2⟩))⟩,⟨rA (Kd.ag L.1 (fun _ hk=>⟨hk.1.2.1,hk.2,hk.1.2.2⟩))⟩,⟨sA M.1⟩,⟨sA J.1⟩,⟨sA aR.1⟩,⟨bP HB.1 dk.1 dK.1 cp.1⟩⟩
    case round=>
     clear H';obtain⟨eo,ez,rfl,HA,bM,z,dD,Z,L,M,J,aR,HB⟩:=hrel;rcases gk with _|k2;exact(nN HA.1).elim;have H:=HA.1;clear HA;simp only[bw.l3]at H;replace H:=bR;rcases H with⟨hA,H⟩|⟨hA,H⟩
     ·
      replace H:=bF;obtain⟨hl,H⟩:=H;replace H:=aY;obtain⟨gt,H⟩:=H;have ib:=decide_eq_true gt;clear gt;replace H:=bR;rcases H with⟨hG,H⟩|⟨hG,H⟩
      ·
       replace H:=aY;obtain⟨c64,H⟩:=H;have hZ:=Az c64;clear c64;generalize gb:(eo++[wrap64 ((wrap64 (2*ez))+1)]:List Int)=ic at H;replace gb:=Ay gb;have H':=Az H;clear H;obtain⟨fK,gl,hL,hE,iq⟩:=aI (Kd.am z.1).2.2 ez;cases gl;go_wp2_with (first|((with_reducible refine dB (b:=.append) (xs:=#[.tmp 101,.tmp 105]) rfl ?_);at_builtin;refine Kd.dH al (w0:=w) w.heap.size rfl (.tmp 101) (.tmp 105) 23 3 (.int .i64 0) 8 rfl Try.underlying23 bA rfl af ac u16 eo (wrap64 ((wrap64 (2*ez))+1)) [.int .i64 (wrap64 ((wrap64 (2*ez))+1))] (fun k_=>oS k_ (some fK) I.length bb/\oV k_ bW/\oV k_ bc) (fun _=>False) rfl rfl ?aP (fun _ hk=>hk.elim) ?aF ?aO ?aB ?aS ?aL ?_;(case aP=>exact rfl);(case aB=>exact fv);(case aF=>exact(fun k_ hk=>⟨Kd.be (Kd.aj (rU z.1)) k_ hk,Kd.be (Kd.aj (rU Z.1)) k_ hk,Kd.be (Kd.aj (rU L.1)) k_ hk⟩));(case aO=>exact(rU dD.1));(case aS=>exact(aK fv));(case aL=>have:=hZ.1;omega);intro jd gz ho hb hg hat;rw[<-gb.1]at ho;replace z:=Az (Kd.aQ (ok:=(fun k_=>oV k_ bW/\oV k_ bc)) (rA (Kd.ag z.1 (fun _ hk=>⟨⟨hk.2.1,hk.2.2⟩,hk.1⟩))) hg hat);replace Z:=Az (Kd.aQ (ok:=(fun k_=>oS k_ (some fK) I.length bb/\oV k_ bc)) (rA (Kd.ag Z.1 (fun _ hk=>⟨⟨hk.1,hk.2.2⟩,hk.2.1⟩))) hg hat);replace L:=Az (Kd.aQ (ok:=(fun k_=>oS k_ (some fK) I.length bb/\oV k_ bW)) (rA (Kd.ag L.1 (fun _ hk=>⟨⟨hk.1,hk.2.2⟩,hk.2.1⟩))) hg hat);replace M:=Az (kG M.1 hg (Kd.bg dD.1 M.1 af));replace J:=Az (kG J.1 hg (Kd.bg dD.1 J.1 af));replace aR:=Az (kG aR.1 hg (Kd.bg dD.1 aR.1 af));replace HB:=br;have hB:=cS;clear dD ho hb hg hat));go_roundg k2
       case measure=>exact mO
       case rel=>exact⟨(ic),(wrap64 (ez-1)),rS,H',⟨mO⟩,⟨rA (Kd.ag z.1 (fun _ hk=>⟨hk.2,hk.1.1,hk.1.2⟩))⟩,⟨rA hB.1⟩,⟨rA (Kd.ag Z.1 (fun _ hk=>⟨hk.1.1,hk.2,hk.1.2⟩))⟩,⟨rA (Kd.ag L.1 (fun _ hk=>⟨hk.1.1,hk.2,hk.1.2⟩))⟩,⟨sA M.1⟩,⟨sA J.1⟩,⟨sA aR.1⟩,⟨bP HB.1 dk.1 dK.1 cp.1⟩⟩
      ·
       have H':=Az H;clear H;obtain⟨fK,gl,hL,hE,iq⟩:=aI (Kd.am z.1).2.2 ez;cases gl;go_wp2;go_roundg k2
       case measure=>exact mO
       case rel=>exact⟨(eo),(wrap64 (ez-1)),rS,H',⟨mO⟩,⟨rA z.1⟩,⟨rA dD.1⟩,⟨rA Z.1⟩,⟨rA L.1⟩,⟨sA M.1⟩,⟨sA J.1⟩,⟨sA aR.1⟩,⟨bP HB.1 dk.1 dK.1 cp.1⟩⟩
     ·
      replace H:=aV;obtain⟨gf,gO,H⟩:=H;obtain⟨fB,fO⟩:∃j_:Int,(wrap64 ((eo.length:Int)-1))=j_:=⟨_,rfl⟩;(first|rw[fO]at H|simp only[fO]at H);have iR:(IntKind.i64.wrap ((eo.length:Int)-1))=fB:=(fY _).trans fO;replace H:=bF;obtain⟨lq,H⟩:=H;replace H:=aY;obtain⟨fl,H⟩:=H;have lz:=decide_eq_true fl;clear fl;simp only[Option.some.injEq,Prod.mk.injEq]at H;obtain⟨rfl,rfl,rfl,rfl⟩:=H;have ju:=dI.1;have iZ:=cF.1;have jE:=cE.1;have jb:=cu.1;have iv:=bc2 aR.1;obtain⟨cx,cw,hq⟩:=Kd.az Z.1;subst hq;obtain⟨fg,gr,gM⟩:=Kd.az dD.1;subst gM;try go_wp2_with (first|((with_reducible refine gK 73 rfl ?_);refine gC (some 110) Try.func73 #[.slice cx ak.length cw,.slice fg eo.length gr] ?_;(with_reducible refine(cB.calls k2 (fun k_=>some k_=(.slice cx ak.length cw:Value).ownBlock) (.slice cx ak.length cw) ak _ _ eo gf w _ ?side1 ?side2 ?side3 ?side4 gO.1).mono ?_);(case side1=>repeat (first|(with_reducible first|exact HB.1|apply bK|apply cg|apply cK|refine aN ?_ dk.1|refine aN ?_ dK.1|refine aN ?_ cp.1)|exact HB.1));(case side2=>exact Kd.lN rfl Z.1);(case side3=>exact Kd.xv (dD.1) (fun k_ bI dd=>(bI.2.1) dd));(case side4=>exact(Kd.am dD.1).2.1);rintro e ev ⟨rfl,eW,hb,hkp⟩;refine⟨_,rfl,?_⟩;replace z:=Az (Kd.ag (ok':=fun k_=>oS k_ fg eo.length gr/\oS k_ cx ak.length cw/\oV k_ bc) (Kd.nI (z.1) hkp (fun k_ bI dd=>(bI.2.1) dd)) (fun k_ bI=>⟨bI.1.1,bI.1.2.1,bI.1.2.2⟩));replace dD:=Az (Kd.ag (ok':=fun k_=>oS k_ bi I.length bb/\oS k_ cx ak.length cw/\oV k_ bc) (Kd.nI (dD.1) hkp (fun k_ bI dd=>(bI.2.1) dd)) (fun k_ bI=>⟨bI.1.1,bI.1.2.1,bI.1.2.2⟩));replace L:=Az (Kd.ag (ok':=fun k_=>oS k_ bi I.length bb/\oS k_ fg eo.length gr/\oS k_ cx ak.length cw) (Kd.nI (L.1) hkp (fun k_ bI dd=>(bI.2.2) dd)) (fun k_ bI=>⟨bI.1.1,bI.1.2.1,bI.1.2.2⟩));replace M:=zX;replace J:=Bl;replace aR:=xg;replace Z:=Az (Kd.sI rfl eW (fun k_ e_=>Z.1.1 k_ e_));replace HB:=br;clear hb))
      replace z:=lB;replace dD:=Az (Kd.bD dD.1);replace Z:=Az (Kd.bD Z.1);replace L:=Az (Kd.bD L.1);replace M:=Az (bC M.1);replace J:=Az (bC J.1);replace aR:=Az (bC aR.1);replace HB:=cX;obtain⟨ig,ht,_,_,gG⟩:=aI (Kd.am dD.1).2.2 (fB);cases ht;obtain⟨fZ,fX,ia⟩:=Kd.az L.1;(first|subst ia|(injection ia with T aX U;have aa:=T.symm;have aE:=U.symm;clear T aX U;subst aa;subst aE));refine cA (n:=10) (S:=fun w'=>w'.cell? ⟨ci,0,none⟩=some (.slice cx ak.length cw)/\w'.cell? ⟨ci,1,none⟩=some (.slice fZ bf.length fX)/\w'.cell? (ig.add ((fB)).toNat)=some (.int .i64 (rd eo (fB)))) (ds:=[]) (cV [(1,some 112),(2,some 113),(3,some 114),(4,some 115),(5,some 116),(0,some 111),(6,some 117),(7,none),(8,some 3),(9,some 4)] 10) aM rfl rfl ⟨(ap aR.1 0).trans rfl,(ap aR.1 1).trans rfl,gG⟩ (fun B=>?_);refine cT bw.G6 bw.GU (fun ba bU=>?_);generalize ev.drew=ge at z dD Z L M J aR HB gG B ⊢
      repeat (first|(refine eK rfl rfl (dP ba.1 aM) (fun _ _ _ h=>h) aW (v:=?_) (a':=?_) ?_ ?_ ?_;rotate_left;(·intro w';go_simp;with_reducible rfl);rotate_left;(·exact aP))|(refine iN rfl rfl (iw ba.1 bU.1 aM) (fun _ _ _ h=>h) aW (v:=?_) (a':=?_) ?_ B ?_ ?_;rotate_left;(·rintro w' ⟨s0,s1,s2⟩;go_simp;with_reducible rfl);rotate_left;(·exact aP)))
      refine kH rfl rfl (fQ ba.1 aM) af (fun K hK=>?_);have iT:ge.cell? ⟨cd,0,none⟩=some (.slice none 0 0):=(ap J.1 0).trans rfl;have jr:=dC J.1 0;have jm:=eL.1;have jk:=cE.1;have iW:=(eL.1).symm;have iy:=cu.1;have iP:ge.cell? ⟨cd,1,none⟩=some (.slice none 0 0):=(ap J.1 1).trans rfl;have iM:=dC J.1 1;have iE:=eL.1;have iH:=cE.1;have iA:=(eL.1).symm;have ja:=cu.1;refine eh (w1:=?_) aW rfl ?_ ?_;rotate_left
      ·go_simp;rfl
      refine hK.out _ _ ⟨((cell_far (p:=⟨cd,_,none⟩) cE.1 _).trans (((cell_far (p:=⟨cd,_,none⟩) cE.1 _).trans (B.1)))),((cell_far (p:=⟨cd,_,none⟩) cE.1 _).trans (((cell_far (p:=⟨cd,_,none⟩) cE.1 _).trans (B.2.1)))),((cell_far (p:=⟨cd,_,none⟩) Dx _).trans (((cell_far (p:=⟨cd,_,none⟩) Dx _).trans (B.2.2))))⟩ (fun B=>?_);clear hK K
      repeat (first|(refine eK rfl rfl (dP ba.1 aM) (fun _ _ _ h=>h) aW (v:=?_) (a':=?_) ?_ ?_ ?_;rotate_left;(·intro w';go_simp;with_reducible rfl);rotate_left;(·exact aP)))
      refine XD ?_;try go_wp2
      refine bodyPost_ret (qj rfl _ _ cd 29 #[.slice cx ak.length cw,.slice fZ bf.length fX] (0,0) _ rfl (by refine sA ?_;refine bl (cs:=#[.slice cx ak.length cw,.slice none 0 0]) ?_ 1 _ rfl;refine sA ?_;refine bl (cs:=#[.slice none 0 0,.slice none 0 0]) ?_ 0 _ rfl;refine sA ?_;exact J.1) Try.underlying29 rfl aM) rfl ?_;exact⟨_,_,by first|rfl|(simp[d9,ec]<;>rfl)|(simp only[<-ej,<-fO];first|rfl|(simp[d9,ec]<;>rfl))|(simp[*,d9,ec]<;>rfl),by refine rA ?_;exact Kd.ag (Kd.aA (p:=⟨cd,1,none⟩) (Kd.aA (p:=⟨cd,0,none⟩) (Kd.bn Z.1 J.1 af) au (.slice cx ak.length cw)) au (.slice fZ bf.length fX)) (fun _ hk=>hk.1.2.2),by refine rA ?_;exact Kd.ag (Kd.aA (p:=⟨cd,1,none⟩) (Kd.aA (p:=⟨cd,0,none⟩) (Kd.bn L.1 J.1 af) au (.slice cx ak.length cw)) au (.slice fZ bf.length fX)) (fun _ hk=>hk.1.2.2),bP HB.1 dk.1 dK.1 cp.1⟩
 ·
  replace c3:=oG;subst c3;rw[if_neg nT]at H;simp only[Option.some.injEq,Prod.mk.injEq]at H;obtain⟨rfl,rfl,rfl,rfl⟩:=H;go_enter Try.func21,Try.ntmps21;go_wp2_with (first|((with_reducible refine gd 1 rfl ?_);refine bE 1 #[.string F,.slice y s.length u] 25 ?_;intro dv hg jq O hb;have M:=bp;have dk:=cy;replace HB:=bs;clear hb O hg)|((with_reducible refine gd 2 rfl ?_);refine bE 2 #[.slice none 0 0,.slice none 0 0] 29 ?_;intro cd hg ix O hb;have J:=bp;have dK:=gW hg (av HB.1 dk.1);replace HB:=Az (bh (av HB.1 dk.1) hb);have eL:=nL hg (kU M.1);replace M:=kB M.1 hb;clear hb O hg;have hT:=eL.1;have hs:=(eL.1).symm;have ii:=bc2 M.1)|((with_reducible refine gK 17 rfl ?_);refine gC (some 19) Try.func17 #[.agg #[.string F,.slice y s.length u]] ?_;(with_reducible refine(bN.calls k F _ _ s false _ ?_ ?_ A2.1).mono ?_);exact cU (Kd.aU ah.1 HB.1);exact aG.1;rintro e gH ⟨rfl,hb⟩;refine⟨_,rfl,?_⟩;replace M:=kB M.1 hb;replace J:=kB J.1 hb;replace HB:=jZ;clear hb;have jz:=bc2 J.1));refine bodyPost_ret (qj rfl _ _ cd 29 #[.slice none 0 0,.slice none 0 0] (0,0) _ rfl (by refine sA ?_;refine bl (cs:=#[.slice none 0 0,.slice none 0 0]) ?_ 1 _ rfl;refine sA ?_;refine bl (cs:=#[.slice none 0 0,.slice none 0 0]) ?_ 0 _ rfl;refine sA ?_;exact J.1) Try.underlying29 rfl aM) rfl ?_;exact⟨_,_,rE,by first|exact Kd.gx _ _ _ _ _|exact Kd.jj _ _ _ _ _|exact Kd.jA _ _ _ _ _|exact Kd.jw _ _ _ _ _|exact Kd.js _ _ _ _ _,by first|exact Kd.gx _ _ _ _ _|exact Kd.jj _ _ _ _ _|exact Kd.jA _ _ _ _ _|exact Kd.jw _ _ _ _ _|exact Kd.js _ _ _ _ _,bO HB.1 dk.1 dK.1⟩
end Go.Proofs.Ytlpbalebodlipaa.PL
