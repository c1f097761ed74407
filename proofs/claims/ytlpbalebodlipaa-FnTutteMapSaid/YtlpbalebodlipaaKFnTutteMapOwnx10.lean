/- A part of the proof of FnTutteMap. There are no conditions. -/
import Derived.Test.YtlpbalebodlipaaKFnTutteMapOwnx9
namespace Go.Proofs.Ytlpbalebodlipaa.PL
open Go.RowKit Go.Proofs.YtlpbalebodlipaaW.PrintWords Go.Proofs.YtlpbalebodlipaaW.PrintLast Go.Proofs.YtlpbalebodlipaaW.PrintMore
theorem VJ {p:Prop} (h:p:=by refine sA ?_;refine bL (cs:=#[.slice jk ik.length gL,.slice none 0 0]) ?_ 1 _ rfl;refine sA ?_;refine bL (cs:=#[.slice none 0 0,.slice none 0 0]) ?_ 0 _ rfl;refine sA ?_;exact dp.out):p:=h
theorem xd {p:Prop} (h:p:=by exact(bU4 HB.out lO.out oR.out sR.out BA.out)):p:=h
theorem yR {p:Prop} (h:p:=by exact(bU3 HB.out lO.out oR.out sR.out)):p:=h
theorem Wo {p:Prop} (h:p:=by exact(Kd.aD (Kd.aD (Kd.aD (Kd.aD (Kd.aD (Kd.aD ho0 (Kd.jh (qU fP.out))) (Kd.ar (rU fQ.out))) (Kd.jh (qU gm.out))) (Kd.ar (rU gn.out))) (Kd.jh (qU iA.out))) (Kd.ar (rU iB.out)))):p:=h
theorem XU {p:Prop} (h:p:=by exact rA (Kd.ah nQ.out (fun _ hk=>⟨hk.1.1.1.2,⟨hk.1.1.2,⟨hk.1.1.1.1,⟨hk.1.2,hk.2⟩⟩⟩⟩))):p:=h
theorem Xy {p:Prop} (h:p:=by exact rA (Kd.ah sS.out (fun _ hk=>⟨hk.1.1.1.2,⟨hk.1.1.2,⟨hk.1.2,⟨hk.2,hk.1.1.1.1⟩⟩⟩⟩))):p:=h
theorem YF {p:Prop} (h:p:=by exact(lI (g:=D4) (o:=.cells #[.slice fA gN.length eR,.slice bI gZ.length bG] 29 (0,0)) (kF1 dl.out ua.out) hb)):p:=h
theorem Vo {p:Prop} (h:p:=by exact(lI (g:=uU) (o:=.cells #[.slice df e8.length cd,.slice gx fo.length fj] 29 (0,0)) (kF1 cZ.out xp.out) hb)):p:=h
attribute [local go_sem] tH tW tL tB tJ tE tM tP
set_option linter.unusedVariables false
set_option linter.unusedSimpArgs false
def ki (L:List (Nat×Option Tmp)) (n:Nat):Array Bool:=((List.range n).map (fun i=>!(L.map Prod.fst).contains i)).toArray
section
variable {P:Program} {ops:Array Oper} {Q:Exit->Act->World->Prop} {md:Region.Mode} {S:World->Prop} {ds:List Nat}
theorem Fa {i n:Nat} {N:Option Tmp} {L:List (Nat×Option Tmp)} {oi:Oper} {fuel:Nat} {a:Act} {w:World} (hi:ops[i]?=some oi) (hN:oi.dst=N) (hc:yM md ops (ki ((i,N)::L) n) (ki L n) i=true)
 (hQ:∀c a w,Q (.panic c) (a.put oi.dst undef) w->Q (.panic c) a w) (hw:Region.wanted oi (yielded ops a.tmps)=false) {a':Act} (ha:a.put N undef=a')
 (h:dA P md ops Q S ds fuel (ki L n) a' w):dA P md ops Q S ds (fuel+1) (ki ((i,N)::L) n) a w:=av (ki L n) hi hN hc hQ (Or.inr ⟨hw,rfl⟩) ha h
theorem vN {i n:Nat} {N:Option Tmp} {L:List (Nat×Option Tmp)} {oi:Oper} {v:Value} {fuel:Nat} {a:Act} {w:World} (hi:ops[i]?=some oi) (hN:oi.dst=N) (hc:yM md ops (ki ((i,N)::L) n) (ki L n) i=true)
 (hQ:∀c a w,Q (.panic c) (a.put oi.dst v) w->Q (.panic c) a w) (hw:Region.wanted oi (yielded ops a.tmps)=true) (hy:∀w,(execOp a.eval oi).run P w= .ok (.value v) w) {a':Act} (ha:a.put N v=a')
 (h:dA P md ops Q S ds fuel (ki L n) a' w):dA P md ops Q S ds (fuel+1) (ki ((i,N)::L) n) a w:=av (ki L n) hi hN hc hQ (Or.inl ⟨hw,hy⟩) ha h
theorem Fg {i n:Nat} {N:Option Tmp} {L:List (Nat×Option Tmp)} {oi:Oper} {v:Value} {fuel:Nat} {a:Act} {w:World} (hi:ops[i]?=some oi) (hN:oi.dst=N) (hc:takeB md ops ds (ki ((i,N)::L) n) (ki L n) i=true)
 (hQ:∀c a w,Q (.panic c) (a.put oi.dst v) w->Q (.panic c) a w) (hw:Region.wanted oi (yielded ops a.tmps)=true) (hy:∀w,S w->(execOp a.eval oi).run P w= .ok (.value v) w) (hS:S w) {a':Act} (ha:a.put N v=a')
 (h:dA P md ops Q S ds fuel (ki L n) a' w):dA P md ops Q S ds (fuel+1) (ki ((i,N)::L) n) a w:=bS (ki L n) hi hN hc hQ (Or.inl ⟨hw,hy⟩) hS ha h
theorem FJ {i n:Nat} {N:Option Tmp} {L:List (Nat×Option Tmp)} {oi:Oper} {fuel:Nat} {a:Act} {w:World} (hi:ops[i]?=some oi) (hN:oi.dst=N) (hc:vM md ops (ki ((i,N)::L) n) (ki L n) i=true) (hd:i∉ds)
 (h:∀K:Act->World->Prop,Shut (∀a' w',S w'->(S w'->dA P md ops Q S ds fuel (ki L n) a' w')->K a' w')->if Region.wanted oi (yielded ops a.tmps)=true then Oper.wp P oi a w K Q else K (a.put N undef) w):
 dA P md ops Q S ds (fuel+1) (ki ((i,N)::L) n) a w:=dm (ki L n) hi hN hc hd h
end
def gh.j0:Nat->Bool->Bool->Bool->List Int->List Int->List Int->List Int->List Int->List Int->Option (Bool)
 |0,_,_,_,_,_,_,_,_,_=>none
 |k+1,x6,x8,x47,x1281000,PZ,x1289000,J1,x1297000,x1297001=>if x47=true then(if(x6==x8)=true then((vQ.f k x1289000 J1 x1297000 x1297001).bind fun P0=>(some P0))else(some false))else((dw.f k x1289000 J1).bind fun P1=>((oH.f k x1281000 PZ).bind fun P2=>((oH.f k x1289000 J1).bind fun P3=>(if P1.2.2=true then(if P2.2=true then(if P3.2=true then((pI.f k P1.1 P1.2.1 x1281000 PZ).bind fun P4=>(if P4=true then(if 1<(P3.1.length:Int)then(if 2<(P2.1.length:Int)then(if(rd P3.1 1)=(rd P2.1 2)then((xa.f k x1289000 J1).bind fun P5=>((xa.f k x1281000 PZ).bind fun P6=>(some (P5==P6))))else(some false))else(none))else(none))else(some false)))else(some false))else(some false))else(some false)))))
def gh.f (k:Nat) (l0:List Int):Option (Bool):=if(l0.length:Int)>1048576 then(some true)else((qi.f k l0).bind fun ub=>((cH.f k ub.1 ub.2.1 ub.2.2).bind fun sV=>((dv.f k ub.1 ub.2.1 ub.2.2).bind fun uc=>(if(sV.2.2 !=uc.2.2)=true then(gh.j0 k sV.2.2 uc.2.2 true ub.1 ub.2.1 sV.1 sV.2.1 uc.1 uc.2.1)else((vQ.f k sV.1 sV.2.1 uc.1 uc.2.1).bind fun P7=>(if P7=true then(gh.j0 k sV.2.2 uc.2.2 (!sV.2.2) ub.1 ub.2.1 sV.1 sV.2.1 uc.1 uc.2.1)else(gh.j0 k sV.2.2 uc.2.2 true ub.1 ub.2.1 sV.1 sV.2.1 uc.1 uc.2.1)))))))
def gh.T11:Bool×List (List Nat×List Nat):=(true,[([],[]),([0],[0]),([1],[1]),([1,2],[1,2]),([3,1],[3]),([4],[4]),([4,5],[4,5]),([6,4],[6]),([7],[7]),([7],[7]),([8,9,7,7],[7,8,9]),([7,10],[7,10]),([11,10],[11]),([12],[12]),([13,12],[12,13]),([14,12],[12,14]),([12],[12]),([16,12],[12,16]),([17,12],[12,17]),([15,18,12],[12,15,18]),([12,19],[12,19]),([20,12],[20]),([21],[21]),([22,21,21],[21,22]),([21],[21]),([24,23,21],[21,24]),([23,25,21],[21,23,25]),([21,26],[21,26]),([27,25,0,1,2,3,4,5,6,7,8,9,10,11,12,13,14,15,16,17,18,19,20,21,22,23,24,25,26,27],[27])])
def gh.B11:List Nat:=[0,1,3,7,15,31,63,127,255,255,1023,2047,4095,8191,16383,32767,8191,73727,204799,524287,1048575,2097151,4194303,8388607,4194303,33554431,67108863,134217727,268435455]
theorem gh.vK:rtab .any (opsOf Try.f11 11)=gh.T11:=by kernel_rfl
theorem gh.vL:gG gh.T11.2 gh.B11=true:=by kernel_rfl
set_option maxHeartbeats 8000000 in
set_option maxRecDepth 100000 in
theorem gh.calls (k:Nat) (A0:Option Addr) (c0:Nat) (l0:List Int) (r:Bool) (w:World) (hr0:Kd.C (Kd.int .u8) w A0 l0.length l0) (hc0:l0.length<=c0) (h:gh.f k l0=some r):
 Calls Try.prog 11 #[.slice A0 l0.length c0] w fun e w'=>e= .returned (.bool r)/\Below w.heap.size w w':=by
 have jT:=Try.underlying29;have dt:=Az hr0;have iX:=Az hc0;clear hr0 hc0;have HB:=bZ w;have H:=h;clear h;unfold gh.f at H
 by_cases c2:(l0.length:Int)>1048576
 ·rw[if_pos c2]at H;have sL:=decide_eq_true c2;have uK:decide (1048576<l0.length)=true:=decide_eq_true (by omega);clear c2;obtain rfl:=Option.some.inj H;go_enter Try.func11,Try.ntmps11;go_wp2;go_ret;exact⟨rE,bU0 HB.out⟩
 ·
  rw[if_neg c2]at H;have sL:=decide_eq_false c2;have uK:decide (1048576<l0.length)=false:=decide_eq_false (by omega);clear c2;replace H:=bd H;obtain⟨⟨e8,fo,Gh⟩,A3,H⟩:=H;dsimp only at H;replace H:=bd H;obtain⟨⟨gN,gZ,nR⟩,A4,H⟩:=H;dsimp only at H;replace H:=bd H;obtain⟨⟨ik,iK,oU⟩,A5,H⟩:=H;dsimp only at H;have P8:=Az H;clear H;go_enter Try.func11,Try.ntmps11
  go_upto_region 6 with(first|((with_reducible refine gK 54 rfl ?_);refine gC (some 20) Try.func54 #[.slice A0 l0.length c0] ?_;(with_reducible refine(qi.calls k _ _ l0 e8 fo Gh _ ?_ ?_ A3.out).mono ?_);exact cU (dt.out);exact iX.out;rintro e w7 ⟨atz,atA,rfl,ho0,ho1,hb⟩;refine⟨_,rfl,?_⟩;have km:=Az (Kd.As ho0 (aQ (bU0 HB.out)));have kn:=Az (Kd.a7 ho1 (aQ (bU0 HB.out)));replace HB:=Az (ay (bU0 HB.out) hb);clear hb ho0 ho1)|((with_reducible refine gd 3 rfl ?_);refine bE 3 #[.slice none 0 0,.slice none 0 0] 29 ?_;intro uU hg w8 hbox hb;replace km:=qB km.out hb;replace kn:=rB kn.out hb;have cZ:=Az (hbox);have lO:=gW hg (bU0 HB.out);replace HB:=Az (ay (bU0 HB.out) hb);clear hb hbox hg;obtain⟨df,cd,pP,_⟩:=Kd.nf km.out;subst pP;have ze:=bc2 cZ.out;obtain⟨gx,fj,qo⟩:=Kd.aH kn.out;subst qo)|((with_reducible refine gK 53 rfl ?_);refine gC (some 26) Try.func53 #[.agg #[.slice df e8.length cd,.slice gx fo.length fj],.int .i64 Gh] ?_;(with_reducible refine(cH.calls k _ _ e8 _ _ fo Gh gN gZ nR _ ?side1 ?side2 ?side3 ?side4 A4.out).mono ?_);(case side1=>refine(Kd.fh (e:=3) (base:=w.heap.size) (ok:=fun k_=>oS k_ gx fo.length fj) (n:=e8.length) (c:=cd) ?_).2.2;exact(qW2 km.out cZ.out));(case side2=>exact(Kd.fh km.out).2.1);(case side3=>refine(Kd.au (e:=3) (base:=w.heap.size) (ok:=fun k_=>oS k_ df e8.length cd) (n:=fo.length) (c:=fj) ?_).2.2;exact(rW2 kn.out cZ.out));(case side4=>exact(Kd.au kn.out).2.1);rintro e nJ ⟨atB,atC,rfl,ho0,ho1,hb⟩;refine⟨_,rfl,?_⟩;have nQ:=Az (Kd.a7 (Kd.aD (Kd.aD ho0 (Kd.jh (qW2 km.out cZ.out))) (Kd.ar (rW2 kn.out cZ.out))) (aQ (bU1 HB.out lO.out)));have np:=Az (Kd.a7 (Kd.aD (Kd.aD ho1 (Kd.jh (qW2 km.out cZ.out))) (Kd.ar (rW2 kn.out cZ.out))) (aQ (bU1 HB.out lO.out)));replace km:=Az (Kd.ec (Kd.pG (Kd.pG (Kd.yV (qW2 km.out cZ.out) hb) (Kd.ax ho0)) (Kd.ax ho1)) (fun _ h_=>h_.1));replace kn:=Az (Kd.ah (Kd.fW (Kd.fW (Kd.oM (rW2 kn.out cZ.out) hb) (Kd.ax ho0)) (Kd.ax ho1)) (fun _ h_=>h_.1));replace cZ:=Az (lI (g:=uU) (o:=.cells #[.slice df e8.length cd,.slice gx fo.length fj] 29 (0,0)) (by refine sA ?_;refine bL (cs:=#[.slice df e8.length cd,.slice none 0 0]) ?_ 1 _ rfl;refine sA ?_;refine bL (cs:=#[.slice none 0 0,.slice none 0 0]) ?_ 0 _ rfl;refine sA ?_;exact cZ.out) hb);replace HB:=Az (ay (bU1 HB.out lO.out) hb);clear hb ho0 ho1)|((with_reducible refine gd 5 rfl ?_);refine bE 5 #[.slice none 0 0,.slice none 0 0] 29 ?_;intro D4 hg vY hbox hb;replace km:=qB km.out hb;replace kn:=rB kn.out hb;replace nQ:=rB nQ.out hb;replace np:=rB np.out hb;have dl:=Az (hbox);have oR:=gW hg (bU1 HB.out lO.out);replace HB:=Az (ay (bU1 HB.out lO.out) hb);have D5:=nL hg (kU cZ.out);replace cZ:=kB cZ.out hb;clear hb hbox hg;obtain⟨fA,eR,pO⟩:=Kd.aH nQ.out;subst pO;have aaX:=nP D5;have J2:=bc2 dl.out;obtain⟨bI,bG,vS⟩:=Kd.aH np.out;subst vS;have aaY:=bc2 cZ.out)|((with_reducible refine gK 55 rfl ?_);refine gC (some 32) Try.func55 #[.agg #[.slice df e8.length cd,.slice gx fo.length fj],.int .i64 Gh] ?_;(with_reducible refine(dv.calls k _ _ e8 _ _ fo Gh ik iK oU _ ?side1 ?side2 ?side3 ?side4 A5.out).mono ?_);(case side1=>refine(Kd.fh (e:=3) (base:=w.heap.size) (ok:=fun k_=>((oS k_ gx fo.length fj/\oS k_ fA gN.length eR)/\oS k_ bI gZ.length bG)) (n:=e8.length) (c:=cd) ?_).2.2;exact(qW2 km.out dl.out));(case side2=>exact(Kd.fh km.out).2.1);(case side3=>refine(Kd.au (e:=3) (base:=w.heap.size) (ok:=fun k_=>((oS k_ df e8.length cd/\oS k_ fA gN.length eR)/\oS k_ bI gZ.length bG)) (n:=fo.length) (c:=fj) ?_).2.2;exact(rW2 kn.out dl.out));(case side4=>exact(Kd.au kn.out).2.1);rintro e Jw ⟨atD,atE,rfl,ho0,ho1,hb⟩;refine⟨_,rfl,?_⟩;have sS:=Az (Kd.a7 (Kd.aD (Kd.aD (Kd.aD (Kd.aD ho0 (Kd.jh (qW2 km.out dl.out))) (Kd.ar (rW2 kn.out dl.out))) (Kd.ar (rW2 nQ.out dl.out))) (Kd.ar (rW2 np.out dl.out))) (aQ (bU2 HB.out lO.out oR.out)));have r6:=Az (Kd.a7 (Kd.aD (Kd.aD (Kd.aD (Kd.aD ho1 (Kd.jh (qW2 km.out dl.out))) (Kd.ar (rW2 kn.out dl.out))) (Kd.ar (rW2 nQ.out dl.out))) (Kd.ar (rW2 np.out dl.out))) (aQ (bU2 HB.out lO.out oR.out)));replace km:=Az (Kd.ec (Kd.pG (Kd.pG (Kd.yV (qW2 km.out dl.out) hb) (Kd.ax ho0)) (Kd.ax ho1)) (fun _ h_=>h_.1));replace kn:=Az (Kd.ah (Kd.fW (Kd.fW (Kd.oM (rW2 kn.out dl.out) hb) (Kd.ax ho0)) (Kd.ax ho1)) (fun _ h_=>h_.1));replace nQ:=Az (Kd.ah (Kd.fW (Kd.fW (Kd.oM (rW2 nQ.out dl.out) hb) (Kd.ax ho0)) (Kd.ax ho1)) (fun _ h_=>h_.1));replace np:=Az (Kd.ah (Kd.fW (Kd.fW (Kd.oM (rW2 np.out dl.out) hb) (Kd.ax ho0)) (Kd.ax ho1)) (fun _ h_=>h_.1));replace cZ:=Az (lI (g:=uU) (o:=.cells #[.slice df e8.length cd,.slice gx fo.length fj] 29 (0,0)) (kF1 cZ.out D5.out) hb);replace dl:=Az (lI (g:=D4) (o:=.cells #[.slice fA gN.length eR,.slice bI gZ.length bG] 29 (0,0)) (by refine sA ?_;refine bL (cs:=#[.slice fA gN.length eR,.slice none 0 0]) ?_ 1 _ rfl;refine sA ?_;refine bL (cs:=#[.slice none 0 0,.slice none 0 0]) ?_ 0 _ rfl;refine sA ?_;exact dl.out) hb);replace HB:=Az (ay (bU2 HB.out lO.out oR.out) hb);clear hb ho0 ho1)|((with_reducible refine gd 7 rfl ?_);refine bE 7 #[.slice none 0 0,.slice none 0 0] 29 ?_;intro qp hg re hbox hb;replace km:=qB km.out hb;replace kn:=rB kn.out hb;replace nQ:=rB nQ.out hb;replace np:=rB np.out hb;replace sS:=rB sS.out hb;replace r6:=rB r6.out hb;have dp:=Az (hbox);have sR:=gW hg (bU2 HB.out lO.out oR.out);replace HB:=Az (ay (bU2 HB.out lO.out oR.out) hb);have xp:=nL hg (kU cZ.out);replace cZ:=kB cZ.out hb;have ua:=nL hg (kU dl.out);replace dl:=kB dl.out hb;clear hb hbox hg;obtain⟨jk,gL,vT⟩:=Kd.aH sS.out;subst vT;have aaZ:=nP xp;have aa0:=nP ua;have aj7:=bc2 dp.out;obtain⟨cP,cC,uM⟩:=Kd.aH r6.out;subst uM))
  go_cut [47] (fun v47 wc=>∃(kq:Nat) (J3:Bool),v47= .bool J3/\ae (gh.j0 kq nR oU J3 e8 fo gN gZ ik iK=some r)/\ae (kq<=k)/\ae (Kd.Q (Kd.int .i64) 3 wc w.heap.size (fun k_=>some k_≠((.slice gx fo.length fj):Value).ownBlock/\some k_≠((.slice fA gN.length eR):Value).ownBlock/\some k_≠((.slice bI gZ.length bG):Value).ownBlock/\some k_≠((.slice jk ik.length gL):Value).ownBlock/\some k_≠((.slice cP iK.length cC):Value).ownBlock) (.slice df e8.length cd) e8)/\ae (Kd.R (Kd.int .i64) 3 wc w.heap.size (fun k_=>some k_≠((.slice df e8.length cd):Value).ownBlock/\some k_≠((.slice fA gN.length eR):Value).ownBlock/\some k_≠((.slice bI gZ.length bG):Value).ownBlock/\some k_≠((.slice jk ik.length gL):Value).ownBlock/\some k_≠((.slice cP iK.length cC):Value).ownBlock) (.slice gx fo.length fj) fo)/\ae (Kd.Q (Kd.int .i64) 3 wc w.heap.size (fun k_=>some k_≠((.slice df e8.length cd):Value).ownBlock/\some k_≠((.slice gx fo.length fj):Value).ownBlock/\some k_≠((.slice bI gZ.length bG):Value).ownBlock/\some k_≠((.slice jk ik.length gL):Value).ownBlock/\some k_≠((.slice cP iK.length cC):Value).ownBlock) (.slice fA gN.length eR) gN)/\ae (Kd.R (Kd.int .i64) 3 wc w.heap.size (fun k_=>some k_≠((.slice df e8.length cd):Value).ownBlock/\some k_≠((.slice gx fo.length fj):Value).ownBlock/\some k_≠((.slice fA gN.length eR):Value).ownBlock/\some k_≠((.slice jk ik.length gL):Value).ownBlock/\some k_≠((.slice cP iK.length cC):Value).ownBlock) (.slice bI gZ.length bG) gZ)/\ae (Kd.Q (Kd.int .i64) 3 wc w.heap.size (fun k_=>some k_≠((.slice df e8.length cd):Value).ownBlock/\some k_≠((.slice gx fo.length fj):Value).ownBlock/\some k_≠((.slice fA gN.length eR):Value).ownBlock/\some k_≠((.slice bI gZ.length bG):Value).ownBlock/\some k_≠((.slice cP iK.length cC):Value).ownBlock) (.slice jk ik.length gL) ik)/\ae (Kd.R (Kd.int .i64) 3 wc w.heap.size (fun k_=>some k_≠((.slice df e8.length cd):Value).ownBlock/\some k_≠((.slice gx fo.length fj):Value).ownBlock/\some k_≠((.slice fA gN.length eR):Value).ownBlock/\some k_≠((.slice bI gZ.length bG):Value).ownBlock/\some k_≠((.slice jk ik.length gL):Value).ownBlock) (.slice cP iK.length cC) iK)/\ae (wc.heap[uU]?=some (.cells #[(.slice df e8.length cd),(.slice gx fo.length fj)] 29 (0,0)))/\ae (wc.heap[D4]?=some (.cells #[(.slice fA gN.length eR),(.slice bI gZ.length bG)] 29 (0,0)))/\ae (wc.heap[qp]?=some (.cells #[(.slice jk ik.length gL),(.slice cP iK.length cC)] 29 (0,0)))/\ae (Below w.heap.size w wc))
  case first=>
   have H:=P8.out;clear P8
   by_cases lR:(nR !=oU)=true
   ·
    rw[if_pos lR]at H;have F5:(nR !=oU)=true:=lR;(have aj8:decide (nR=oU)=false:=by simpa using lR);(have aj9:(nR==oU)=false:=by simpa using lR);(have atF:¬(nR=oU):=by simpa using lR);clear lR;have H':=Az H;clear H;go_wp2;go_meet
    case rel=>exact⟨_,(true),rS,H',⟨mO⟩,⟨by(with_reducible repeat (first|apply Kd.nc|apply Kd.ng|apply Kd.jd));exact Kd.ec (Kd.gU (p:=⟨qp,1,none⟩) (Kd.gU (p:=⟨qp,0,none⟩) (Kd.mj km.out dp.out (by decide)) (fun _ hk=>hk.2) (.slice jk ik.length gL)) (fun _ hk=>hk.2) (.slice cP iK.length cC)) (fun _ hk=>⟨hk.1.1.1.1.1,⟨hk.1.1.1.1.2,⟨hk.1.1.1.2,⟨hk.1.1.2,hk.1.2⟩⟩⟩⟩)⟩,⟨rA (Kd.ah (Kd.aY (p:=⟨qp,1,none⟩) (Kd.aY (p:=⟨qp,0,none⟩) (Kd.cj kn.out dp.out (by decide)) (fun _ hk=>hk.2) (.slice jk ik.length gL)) (fun _ hk=>hk.2) (.slice cP iK.length cC)) (fun _ hk=>⟨hk.1.1.1.1.1,⟨hk.1.1.1.1.2,⟨hk.1.1.1.2,⟨hk.1.1.2,hk.1.2⟩⟩⟩⟩))⟩,⟨Kd.tG (rA (Kd.ah (Kd.aY (p:=⟨qp,1,none⟩) (Kd.aY (p:=⟨qp,0,none⟩) (Kd.cj nQ.out dp.out (by decide)) (fun _ hk=>hk.2) (.slice jk ik.length gL)) (fun _ hk=>hk.2) (.slice cP iK.length cC)) (fun _ hk=>⟨hk.1.1.1.1.2,⟨hk.1.1.1.2,⟨hk.1.1.1.1.1,⟨hk.1.1.2,hk.1.2⟩⟩⟩⟩)))⟩,⟨rA (Kd.ah (Kd.aY (p:=⟨qp,1,none⟩) (Kd.aY (p:=⟨qp,0,none⟩) (Kd.cj np.out dp.out (by decide)) (fun _ hk=>hk.2) (.slice jk ik.length gL)) (fun _ hk=>hk.2) (.slice cP iK.length cC)) (fun _ hk=>⟨hk.1.1.1.1.2,⟨hk.1.1.1.2,⟨hk.1.1.1.1.1,⟨hk.1.1.2,hk.1.2⟩⟩⟩⟩))⟩,⟨Kd.tG (rA (Kd.ah (Kd.aY (p:=⟨qp,1,none⟩) (Kd.aY (p:=⟨qp,0,none⟩) (Kd.cj sS.out dp.out (by decide)) (fun _ hk=>hk.2) (.slice jk ik.length gL)) (fun _ hk=>hk.2) (.slice cP iK.length cC)) (fun _ hk=>⟨hk.1.1.1.1.2,⟨hk.1.1.1.2,⟨hk.1.1.2,⟨hk.1.2,hk.1.1.1.1.1⟩⟩⟩⟩)))⟩,⟨rA (Kd.ah (Kd.aY (p:=⟨qp,1,none⟩) (Kd.aY (p:=⟨qp,0,none⟩) (Kd.cj r6.out dp.out (by decide)) (fun _ hk=>hk.2) (.slice jk ik.length gL)) (fun _ hk=>hk.2) (.slice cP iK.length cC)) (fun _ hk=>⟨hk.1.1.1.1.2,⟨hk.1.1.1.2,⟨hk.1.1.2,⟨hk.1.2,hk.1.1.1.1.1⟩⟩⟩⟩))⟩,⟨by refine sA ?_;refine bU ?_ xp.out _;refine sA ?_;refine bU ?_ xp.out _;refine sA ?_;exact cZ.out⟩,⟨by refine sA ?_;refine bU ?_ ua.out _;refine sA ?_;refine bU ?_ ua.out _;refine sA ?_;exact dl.out⟩,⟨by refine sA ?_;refine bL (cs:=#[.slice jk ik.length gL,.slice none 0 0]) ?_ 1 _ rfl;refine sA ?_;refine bL (cs:=#[.slice none 0 0,.slice none 0 0]) ?_ 0 _ rfl;refine sA ?_;exact dp.out⟩,⟨bU3 HB.out lO.out oR.out sR.out⟩⟩
   ·
    rw[if_neg lR]at H
    have F5:(nR !=oU)=false:=by simpa using lR
    (have aj8:decide (nR=oU)=true:=by simpa using lR);(have aj9:(nR==oU)=true:=by simpa using lR);clear lR;replace H:=bd H;obtain⟨P7,J4,H⟩:=H
    by_cases c28:P7=true
    ·
     subst c28;rw[if_pos rfl]at H;have H':=Az H;clear H;have atG:=nP D5;have atH:=ua.out;have atI:=(ua.out).symm;have aka:=bc2 dl.out;have akb:=nP xp;have atJ:=bc2 dp.out
     go_wp2_with (first|(go_at_call 34;(with_reducible refine(vQ.calls k _ _ gN _ _ gZ _ _ ik _ _ iK true _ ?side1 ?side2 ?side3 ?side4 ?side5 ?side6 ?side7 ?side8 J4.out).mono ?_);(case side1=>refine(Kd.au (e:=3) (base:=w.heap.size) (ok:=fun k_=>((((oS k_ bI gZ.length bG/\oS k_ df e8.length cd)/\oS k_ gx fo.length fj)/\oS k_ jk ik.length gL)/\oS k_ cP iK.length cC)) (n:=gN.length) (c:=eR) ?_).2.2;exact(rW2 nQ.out dp.out));(case side2=>exact(Kd.au nQ.out).2.1);(case side3=>refine(Kd.au (e:=3) (base:=w.heap.size) (ok:=fun k_=>((((oS k_ fA gN.length eR/\oS k_ df e8.length cd)/\oS k_ gx fo.length fj)/\oS k_ jk ik.length gL)/\oS k_ cP iK.length cC)) (n:=gZ.length) (c:=bG) ?_).2.2;exact(rW2 np.out dp.out));(case side4=>exact(Kd.au np.out).2.1);(case side5=>refine(Kd.au (e:=3) (base:=w.heap.size) (ok:=fun k_=>((((oS k_ cP iK.length cC/\oS k_ df e8.length cd)/\oS k_ gx fo.length fj)/\oS k_ fA gN.length eR)/\oS k_ bI gZ.length bG)) (n:=ik.length) (c:=gL) ?_).2.2;exact(rW2 sS.out dp.out));(case side6=>exact(Kd.au sS.out).2.1);(case side7=>refine(Kd.au (e:=3) (base:=w.heap.size) (ok:=fun k_=>((((oS k_ jk ik.length gL/\oS k_ df e8.length cd)/\oS k_ gx fo.length fj)/\oS k_ fA gN.length eR)/\oS k_ bI gZ.length bG)) (n:=iK.length) (c:=cC) ?_).2.2;exact(rW2 r6.out dp.out));(case side8=>exact(Kd.au r6.out).2.1);rintro e sW ⟨rfl,hb⟩;replace km:=Az (Kd.Ar (qW2 km.out dp.out) hb);replace kn:=Az (Kd.kJ (rW2 kn.out dp.out) hb);replace nQ:=Az (Kd.kJ (rW2 nQ.out dp.out) hb);replace np:=Az (Kd.kJ (rW2 np.out dp.out) hb);replace sS:=Az (Kd.kJ (rW2 sS.out dp.out) hb);replace r6:=Az (Kd.kJ (rW2 r6.out dp.out) hb);replace cZ:=Az Vo;replace dl:=Az YF;replace dp:=Az (lI (g:=qp) (o:=.cells #[.slice jk ik.length gL,.slice cP iK.length cC] 29 (0,0)) VJ hb);replace HB:=Az (ay yR hb);clear hb))
     go_meet
     case rel=>exact⟨_,(!nR),rS,H',⟨mO⟩,⟨by(with_reducible repeat (first|apply Kd.nc|apply Kd.ng|apply Kd.jd));exact Kd.ec km.out (fun _ hk=>⟨hk.1.1.1.1,⟨hk.1.1.1.2,⟨hk.1.1.2,⟨hk.1.2,hk.2⟩⟩⟩⟩)⟩,⟨rA (Kd.ah kn.out (fun _ hk=>⟨hk.1.1.1.1,⟨hk.1.1.1.2,⟨hk.1.1.2,⟨hk.1.2,hk.2⟩⟩⟩⟩))⟩,⟨Kd.tG XU⟩,⟨rA (Kd.ah np.out (fun _ hk=>⟨hk.1.1.1.2,⟨hk.1.1.2,⟨hk.1.1.1.1,⟨hk.1.2,hk.2⟩⟩⟩⟩))⟩,⟨Kd.tG Xy⟩,⟨rA (Kd.ah r6.out (fun _ hk=>⟨hk.1.1.1.2,⟨hk.1.1.2,⟨hk.1.2,⟨hk.2,hk.1.1.1.1⟩⟩⟩⟩))⟩,⟨kU cZ.out⟩,⟨kU dl.out⟩,⟨kU dp.out⟩,⟨bU3 HB.out lO.out oR.out sR.out⟩⟩
    ·
     replace c28:=Bool.eq_false_iff.mpr c28;subst c28;rw[if_neg nT]at H;have H':=Az H;clear H;have aa1:=nP D5;have J5:=ua.out;have aa2:=(ua.out).symm;have P9:=bc2 dl.out;have akc:=nP xp;have atK:=bc2 dp.out
     go_wp2_with (first|(go_at_call 34;(with_reducible refine(vQ.calls k _ _ gN _ _ gZ _ _ ik _ _ iK false _ ?side1 ?side2 ?side3 ?side4 ?side5 ?side6 ?side7 ?side8 J4.out).mono ?_);(case side1=>refine(Kd.au (e:=3) (base:=w.heap.size) (ok:=fun k_=>((((oS k_ bI gZ.length bG/\oS k_ df e8.length cd)/\oS k_ gx fo.length fj)/\oS k_ jk ik.length gL)/\oS k_ cP iK.length cC)) (n:=gN.length) (c:=eR) ?_).2.2;exact(rW2 nQ.out dp.out));(case side2=>exact(Kd.au nQ.out).2.1);(case side3=>refine(Kd.au (e:=3) (base:=w.heap.size) (ok:=fun k_=>((((oS k_ fA gN.length eR/\oS k_ df e8.length cd)/\oS k_ gx fo.length fj)/\oS k_ jk ik.length gL)/\oS k_ cP iK.length cC)) (n:=gZ.length) (c:=bG) ?_).2.2;exact(rW2 np.out dp.out));(case side4=>exact(Kd.au np.out).2.1);(case side5=>refine(Kd.au (e:=3) (base:=w.heap.size) (ok:=fun k_=>((((oS k_ cP iK.length cC/\oS k_ df e8.length cd)/\oS k_ gx fo.length fj)/\oS k_ fA gN.length eR)/\oS k_ bI gZ.length bG)) (n:=ik.length) (c:=gL) ?_).2.2;exact(rW2 sS.out dp.out));(case side6=>exact(Kd.au sS.out).2.1);(case side7=>refine(Kd.au (e:=3) (base:=w.heap.size) (ok:=fun k_=>((((oS k_ jk ik.length gL/\oS k_ df e8.length cd)/\oS k_ gx fo.length fj)/\oS k_ fA gN.length eR)/\oS k_ bI gZ.length bG)) (n:=iK.length) (c:=cC) ?_).2.2;exact(rW2 r6.out dp.out));(case side8=>exact(Kd.au r6.out).2.1);rintro e J6 ⟨rfl,hb⟩;replace km:=Az (Kd.Ar (qW2 km.out dp.out) hb);replace kn:=Az (Kd.kJ (rW2 kn.out dp.out) hb);replace nQ:=Az (Kd.kJ (rW2 nQ.out dp.out) hb);replace np:=Az (Kd.kJ (rW2 np.out dp.out) hb);replace sS:=Az (Kd.kJ (rW2 sS.out dp.out) hb);replace r6:=Az (Kd.kJ (rW2 r6.out dp.out) hb);replace cZ:=Az Vo;replace dl:=Az YF;replace dp:=Az (lI (g:=qp) (o:=.cells #[.slice jk ik.length gL,.slice cP iK.length cC] 29 (0,0)) VJ hb);replace HB:=Az (ay yR hb);clear hb))
     go_meet
     case rel=>exact⟨_,(true),rS,H',⟨mO⟩,⟨by(with_reducible repeat (first|apply Kd.nc|apply Kd.ng|apply Kd.jd));exact Kd.ec km.out (fun _ hk=>⟨hk.1.1.1.1,⟨hk.1.1.1.2,⟨hk.1.1.2,⟨hk.1.2,hk.2⟩⟩⟩⟩)⟩,⟨rA (Kd.ah kn.out (fun _ hk=>⟨hk.1.1.1.1,⟨hk.1.1.1.2,⟨hk.1.1.2,⟨hk.1.2,hk.2⟩⟩⟩⟩))⟩,⟨Kd.tG XU⟩,⟨rA (Kd.ah np.out (fun _ hk=>⟨hk.1.1.1.2,⟨hk.1.1.2,⟨hk.1.1.1.1,⟨hk.1.2,hk.2⟩⟩⟩⟩))⟩,⟨Kd.tG Xy⟩,⟨rA (Kd.ah r6.out (fun _ hk=>⟨hk.1.1.1.2,⟨hk.1.1.2,⟨hk.1.2,⟨hk.2,hk.1.1.1.1⟩⟩⟩⟩))⟩,⟨kU cZ.out⟩,⟨kU dl.out⟩,⟨kU dp.out⟩,⟨bU3 HB.out lO.out oR.out sR.out⟩⟩
  case rest=>
   clear P8;obtain⟨kq,J3,rfl,HA,HJ5,fP,fQ,gm,gn,iA,iB,cZ,dl,dp,HB⟩:=hcut
   rcases kq with _|xq
   exact(nN HA.out).elim;have H:=HA.out;clear HA;simp only[gh.j0]at H
   by_cases rk:J3=true
   ·
    subst rk;rw[if_pos rfl]at H
    by_cases c42:(nR==oU)=true
    ·
     rw[if_pos c42]at H;have Qa:(nR==oU)=true:=c42;(have akd:decide (nR=oU)=true:=by simpa using c42);(have ake:(nR==oU)=true:=by simpa using c42);clear c42;replace H:=bd H;obtain⟨P0,Gi,H⟩:=H;obtain rfl:=Option.some.inj H;have atM:=nP D5;have akf:=ua.out;have akg:=(ua.out).symm;have akh:=bc2 dl.out;have atN:=nP xp;have aki:=bc2 dp.out
     go_wp2_with (first|(go_at_call 34;(with_reducible refine(vQ.calls xq _ _ gN _ _ gZ _ _ ik _ _ iK P0 _ ?_ ?_ ?_ ?_ ?_ ?_ ?_ ?_ Gi.out).mono ?_);exact cU ((Kd.fh gm.out).2.2);exact(Kd.fh gm.out).2.1;exact cU ((Kd.au gn.out).2.2);exact(Kd.au gn.out).2.1;exact cU ((Kd.fh iA.out).2.2);exact(Kd.fh iA.out).2.1;exact cU ((Kd.au iB.out).2.2);exact(Kd.au iB.out).2.1;rintro e Qb ⟨rfl,hb⟩;replace fP:=qB fP.out hb;replace fQ:=rB fQ.out hb;replace gm:=qB gm.out hb;replace gn:=rB gn.out hb;replace iA:=qB iA.out hb;replace iB:=rB iB.out hb;replace cZ:=kB cZ.out hb;replace dl:=kB dl.out hb;replace dp:=kB dp.out hb;replace HB:=Az (ay yR hb);clear hb))
     go_ret;exact⟨rE,bU3 HB.out lO.out oR.out sR.out⟩
    ·
     rw[if_neg c42]at H
     have Qa:(nR==oU)=false:=by simpa using c42
     (have akd:decide (nR=oU)=false:=by simpa using c42);(have ake:(nR==oU)=false:=by simpa using c42);(have atO:¬(nR=oU):=by simpa using c42);clear c42;obtain rfl:=Option.some.inj H;go_wp2;go_ret;exact⟨rE,bU3 HB.out lO.out oR.out sR.out⟩
   ·
    replace rk:=Bool.eq_false_iff.mpr rk;subst rk;rw[if_neg nT]at H;replace H:=bd H;obtain⟨⟨r7,sX,aa3⟩,A50,H⟩:=H;dsimp only at H;replace H:=bd H;obtain⟨⟨zp,aa4⟩,Gj,H⟩:=H;dsimp only at H;replace H:=bd H;obtain⟨⟨zq,aa5⟩,Qc,H⟩:=H;dsimp only at H;have atP:=nP D5;have atQ:=ua.out;have atS:=(ua.out).symm;have atT:=bc2 dl.out
    try go_wp2_with (first|((with_reducible refine gK 56 rfl ?_);refine gC (some 58) Try.func56 #[.agg #[.slice fA gN.length eR,.slice bI gZ.length bG]] ?_;(with_reducible refine(dw.calls xq _ _ gN _ _ gZ r7 sX aa3 _ ?_ ?_ ?_ ?_ A50.out).mono ?_);exact cU ((Kd.fh gm.out).2.2);exact(Kd.fh gm.out).2.1;exact cU ((Kd.au gn.out).2.2);exact(Kd.au gn.out).2.1;rintro e r8 ⟨atU,atV,rfl,ho0,ho1,hb⟩;refine⟨_,rfl,?_⟩;have iC:=Az (Kd.a7 Wo (aQ yR));have iD:=Az (Kd.a7 (Kd.aD (Kd.aD (Kd.aD (Kd.aD (Kd.aD (Kd.aD ho1 (Kd.jh (qU fP.out))) (Kd.ar (rU fQ.out))) (Kd.jh (qU gm.out))) (Kd.ar (rU gn.out))) (Kd.jh (qU iA.out))) (Kd.ar (rU iB.out))) (aQ yR));replace fP:=Az (Kd.ec (Kd.pG (Kd.pG (Kd.yV (qU fP.out) hb) (Kd.ax ho0)) (Kd.ax ho1)) (fun _ h_=>h_.1));replace fQ:=Az (Kd.ah (Kd.fW (Kd.fW (Kd.oM (rU fQ.out) hb) (Kd.ax ho0)) (Kd.ax ho1)) (fun _ h_=>h_.1));replace gm:=Az (Kd.ec (Kd.pG (Kd.pG (Kd.yV (qU gm.out) hb) (Kd.ax ho0)) (Kd.ax ho1)) (fun _ h_=>h_.1));replace gn:=Az (Kd.ah (Kd.fW (Kd.fW (Kd.oM (rU gn.out) hb) (Kd.ax ho0)) (Kd.ax ho1)) (fun _ h_=>h_.1));replace iA:=Az (Kd.ec (Kd.pG (Kd.pG (Kd.yV (qU iA.out) hb) (Kd.ax ho0)) (Kd.ax ho1)) (fun _ h_=>h_.1));replace iB:=Az (Kd.ah (Kd.fW (Kd.fW (Kd.oM (rU iB.out) hb) (Kd.ax ho0)) (Kd.ax ho1)) (fun _ h_=>h_.1));replace cZ:=kB cZ.out hb;replace dl:=kB dl.out hb;replace dp:=kB dp.out hb;replace HB:=Az (ay yR hb);clear hb ho0 ho1)|((with_reducible refine gd 9 rfl ?_);refine bE 9 #[.slice none 0 0,.slice none 0 0] 29 ?_;intro BB hg D6 hbox hb;replace fP:=qB fP.out hb;replace fQ:=rB fQ.out hb;replace gm:=qB gm.out hb;replace gn:=rB gn.out hb;replace iA:=qB iA.out hb;replace iB:=rB iB.out hb;replace iC:=rB iC.out hb;replace iD:=rB iD.out hb;have dX:=Az (hbox);have BA:=gW hg yR;replace HB:=Az (ay yR hb);have aa6:=nL hg (kU cZ.out);replace cZ:=kB cZ.out hb;have aa7:=nL hg (kU dl.out);replace dl:=kB dl.out hb;have aa8:=nL hg (kU dp.out);replace dp:=kB dp.out hb;clear hb hbox hg;obtain⟨mP,mQ,BC⟩:=Kd.aH iC.out;subst BC;have atW:=nP aa6;have Qd:=nP aa7;have akk:=nP aa8;have akl:=bc2 dX.out;obtain⟨mR,mS,Qe⟩:=Kd.aH iD.out;subst Qe;have atX:=xp.out;have atY:=(xp.out).symm;have atZ:=bc2 cZ.out)|((with_reducible refine gK 19 rfl ?_);refine gC (some 63) Try.func19 #[.agg #[.slice df e8.length cd,.slice gx fo.length fj]] ?_;(with_reducible refine(oH.calls xq _ _ e8 _ _ fo zp aa4 _ ?side1 ?side2 ?side3 ?side4 Gj.out).mono ?_);(case side1=>refine(Kd.fh (e:=3) (base:=w.heap.size) (ok:=fun k_=>(((oS k_ gx fo.length fj/\(oS k_ fA gN.length eR/\(oS k_ bI gZ.length bG/\(oS k_ jk ik.length gL/\oS k_ cP iK.length cC))))/\oS k_ mP r7.length mQ)/\oS k_ mR sX.length mS)) (n:=e8.length) (c:=cd) ?_).2.2;exact(qW2 fP.out dX.out));(case side2=>exact(Kd.fh fP.out).2.1);(case side3=>refine(Kd.au (e:=3) (base:=w.heap.size) (ok:=fun k_=>(((oS k_ df e8.length cd/\(oS k_ fA gN.length eR/\(oS k_ bI gZ.length bG/\(oS k_ jk ik.length gL/\oS k_ cP iK.length cC))))/\oS k_ mP r7.length mQ)/\oS k_ mR sX.length mS)) (n:=fo.length) (c:=fj) ?_).2.2;exact(rW2 fQ.out dX.out));(case side4=>exact(Kd.au fQ.out).2.1);rintro e Qf ⟨at0,rfl,ho0,hb⟩;refine⟨_,rfl,?_⟩;have kM:=Az (Kd.a7 (Kd.aD (Kd.aD (Kd.aD (Kd.aD (Kd.aD (Kd.aD (Kd.aD (Kd.aD ho0 (Kd.jh (qW2 fP.out dX.out))) (Kd.ar (rW2 fQ.out dX.out))) (Kd.jh (qW2 gm.out dX.out))) (Kd.ar (rW2 gn.out dX.out))) (Kd.jh (qW2 iA.out dX.out))) (Kd.ar (rW2 iB.out dX.out))) (Kd.ar (rW2 iC.out dX.out))) (Kd.ar (rW2 iD.out dX.out))) (aQ xd));replace fP:=Az (Kd.uI (qW2 fP.out dX.out) (Kd.ax ho0) hb);replace fQ:=Az (Kd.aW (rW2 fQ.out dX.out) (Kd.ax ho0) hb);replace gm:=Az (Kd.uI (qW2 gm.out dX.out) (Kd.ax ho0) hb);replace gn:=Az (Kd.aW (rW2 gn.out dX.out) (Kd.ax ho0) hb);replace iA:=Az (Kd.uI (qW2 iA.out dX.out) (Kd.ax ho0) hb);replace iB:=Az (Kd.aW (rW2 iB.out dX.out) (Kd.ax ho0) hb);replace iC:=Az (Kd.aW (rW2 iC.out dX.out) (Kd.ax ho0) hb);replace iD:=Az (Kd.aW (rW2 iD.out dX.out) (Kd.ax ho0) hb);replace cZ:=Az (lI (g:=uU) (o:=.cells #[.slice df e8.length cd,.slice gx fo.length fj] 29 (0,0)) (kF1 cZ.out aa6.out) hb);replace dl:=Az (lI (g:=D4) (o:=.cells #[.slice fA gN.length eR,.slice bI gZ.length bG] 29 (0,0)) (kF1 dl.out aa7.out) hb);replace dp:=Az (lI (g:=qp) (o:=.cells #[.slice jk ik.length gL,.slice cP iK.length cC] 29 (0,0)) (kF1 dp.out aa8.out) hb);replace dX:=Az (lI (g:=BB) (o:=.cells #[.slice mP r7.length mQ,.slice mR sX.length mS] 29 (0,0)) (by refine sA ?_;refine bL (cs:=#[.slice mP r7.length mQ,.slice none 0 0]) ?_ 1 _ rfl;refine sA ?_;refine bL (cs:=#[.slice none 0 0,.slice none 0 0]) ?_ 0 _ rfl;refine sA ?_;exact dX.out) hb);replace HB:=Az (ay xd hb);clear hb ho0;have at1:=bc2 dl.out)|((with_reducible refine gK 19 rfl ?_);refine gC (some 68) Try.func19 #[.agg #[.slice fA gN.length eR,.slice bI gZ.length bG]] ?_;(with_reducible refine(oH.calls xq _ _ gN _ _ gZ zq aa5 _ ?_ ?_ ?_ ?_ Qc.out).mono ?_);exact cU ((Kd.fh gm.out).2.2);exact(Kd.fh gm.out).2.1;exact cU ((Kd.au gn.out).2.2);exact(Kd.au gn.out).2.1;rintro e xr ⟨at5,rfl,ho0,hb⟩;refine⟨_,rfl,?_⟩;have mm:=Az (Kd.a7 (Kd.aD (Kd.aD (Kd.aD Wo (Kd.ar (rU iC.out))) (Kd.ar (rU iD.out))) (Kd.ar (rU kM.out))) (aQ xd));replace fP:=Az (Kd.uI (qU fP.out) (Kd.ax ho0) hb);replace fQ:=Az (Kd.aW (rU fQ.out) (Kd.ax ho0) hb);replace gm:=Az (Kd.uI (qU gm.out) (Kd.ax ho0) hb);replace gn:=Az (Kd.aW (rU gn.out) (Kd.ax ho0) hb);replace iA:=Az (Kd.uI (qU iA.out) (Kd.ax ho0) hb);replace iB:=Az (Kd.aW (rU iB.out) (Kd.ax ho0) hb);replace iC:=Az (Kd.aW (rU iC.out) (Kd.ax ho0) hb);replace iD:=Az (Kd.aW (rU iD.out) (Kd.ax ho0) hb);replace kM:=Az (Kd.aW (rU kM.out) (Kd.ax ho0) hb);replace cZ:=kB cZ.out hb;replace dl:=kB dl.out hb;replace dp:=kB dp.out hb;replace dX:=kB dX.out hb;replace HB:=Az (ay xd hb);clear hb ho0))
    replace fP:=Az (Kd.jd fP.out);replace fQ:=Az (Kd.bK fQ.out);replace gm:=Az (Kd.jd gm.out);replace gn:=Az (Kd.bK gn.out);replace iA:=Az (Kd.jd iA.out);replace iB:=Az (Kd.bK iB.out);replace iC:=Az (Kd.bK iC.out);replace iD:=Az (Kd.bK iD.out);replace kM:=Az (Kd.bK kM.out);replace mm:=Az (Kd.bK mm.out);replace cZ:=Az (ce cZ.out);replace dl:=Az (ce dl.out);replace dp:=Az (ce dp.out);replace dX:=Az (ce dX.out);replace HB:=Az (a8 HB.out)
    by_cases c53:aa3=true
    ·
     subst c53;rw[if_pos rfl]at H
     by_cases J7:aa4=true
     ·
      subst J7;rw[if_pos rfl]at H
      by_cases J8:aa5=true
      ·
       subst J8;rw[if_pos rfl]at H;replace H:=bd H;obtain⟨P4,Qg,H⟩:=H
       by_cases J9:P4=true
       ·
        subst J9;rw[if_pos rfl]at H;replace H:=gP H;obtain⟨c58,H⟩:=H;have Ka:=decide_eq_true c58;have Kb:decide (1<zq.length)=true:=decide_eq_true (by omega);clear c58;replace H:=gP H;obtain⟨c59,H⟩:=H;have at6:=decide_eq_true c59;have at7:decide (2<zp.length)=true:=decide_eq_true (by omega);clear c59
        replace H:=gQ H;rcases H with⟨BD,Qh,H⟩|⟨BD,Qh,H⟩
        ·
         replace H:=bd H;obtain⟨P5,A61,H⟩:=H;replace H:=bd H;obtain⟨P6,A62,H⟩:=H;obtain rfl:=Option.some.inj H;obtain⟨aua,uV,Gk⟩:=Kd.aH mm.out;(first|subst Gk|(injection Gk with al aT am;have aU:=al.symm;have aV:=am.symm;clear al aT am;subst aU;subst aV));have BE:0<=(1:Int):=(by omega);have BG:1<(zq.length:Int):=oA;obtain⟨Gl,Qi,BH⟩:=Kd.pH (Kd.au mm.out).2.2 1 BE BG
         cases Qi
         simp only[show(1:Int).toNat=1 from rfl,Nat.reduceMul,Nat.reduceEqDiff,Go.Addr.add,↓reduceIte]at BH;have ako:(1<zq.length)=True:=eq_true (by omega);replace BE:=eq_true BE;replace BG:=eq_true BG;obtain⟨akp,D7,Gm⟩:=Kd.aH kM.out;(first|subst Gm|(injection Gm with al aT am;have aU:=al.symm;have aV:=am.symm;clear al aT am;subst aU;subst aV));have BI:0<=(2:Int):=(by omega);have BJ:2<(zp.length:Int):=oA;obtain⟨Gn,Qj,BL⟩:=Kd.pH (Kd.au kM.out).2.2 2 BI BJ
         cases Qj
         simp only[show(2:Int).toNat=2 from rfl,Nat.reduceMul,Nat.reduceEqDiff,Go.Addr.add,↓reduceIte]at BL;have akq:(2<zp.length)=True:=eq_true (by omega);replace BI:=eq_true BI;replace BJ:=eq_true BJ;refine eX (n:=29) (S:=fun w'=>w'.cell? ⟨BB,0,none⟩=some (.slice mP r7.length mQ)/\w'.cell? ⟨BB,1,none⟩=some (.slice mR sX.length mS)/\w'.cell? ⟨uU,0,none⟩=some (.slice df e8.length cd)/\w'.cell? ⟨uU,1,none⟩=some (.slice gx fo.length fj)/\w'.cell? ⟨D4,0,none⟩=some (.slice fA gN.length eR)/\w'.cell? ⟨D4,1,none⟩=some (.slice bI gZ.length bG)/\w'.cell? ⟨Gl.block,Gl.off+1,none⟩=some (.int .i64 (rd zq 1))/\w'.cell? ⟨Gn.block,Gn.off+2,none⟩=some (.int .i64 (rd zp 2))) (ds:=[]) (ki [(0,some 71),(1,some 72),(2,some 73),(3,some 74),(4,some 75),(5,some 76),(6,some 77),(7,some 78),(8,some 79),(9,some 80),(10,some 81),(11,some 82),(12,some 83),(13,some 84),(14,some 85),(16,some 87),(17,some 88),(15,some 86),(18,some 89),(19,some 90),(20,some 91),(21,some 92),(22,some 93),(24,some 95),(23,some 94),(25,some 96),(26,some 97),(27,some 98),(28,some 2)] 29) (by kernel_rfl) rfl rfl ⟨(ai dX.out 0).trans rfl,(ai dX.out 1).trans rfl,(ai cZ.out 0).trans rfl,(ai cZ.out 1).trans rfl,(ai dl.out 0).trans rfl,(ai dl.out 1).trans rfl,BH,BL⟩ (fun hHeld=>?_);refine fL gh.vK gh.vL (fun HT_ HW_=>?_);generalize xr.drew=w79 at fP fQ gm gn iA iB iC iD kM mm cZ dl dp dX HB BH BL hHeld ⊢
         repeat (first|(refine vN rfl rfl (ao HT_.out (by kernel_rfl)) (fun _ _ _ h=>h) (by rfl) (v:=?_) (a':=?_) ?_ ?_ ?_;rotate_left;(·intro w';go_simp;with_reducible rfl);rotate_left;(·exact aP))|(refine Fg rfl rfl (bW HT_.out HW_.out (by kernel_rfl)) (fun _ _ _ h=>h) (by rfl) (v:=?_) (a':=?_) ?_ hHeld ?_ ?_;rotate_left;(·rintro w' ⟨s0,s1,s2,s3,s4,s5,s6,s7⟩;go_simp;with_reducible rfl);rotate_left;(·exact aP)))
         refine FJ rfl rfl (cJ HT_.out (by kernel_rfl)) (by decide) (fun K hK=>?_);refine eQ Try.func57 (by kernel_rfl) rfl #[.agg #[.slice mP r7.length mQ,.slice mR sX.length mS],.agg #[.slice df e8.length cd,.slice gx fo.length fj]] (by rfl) rfl rfl lQ ?_
         with_reducible refine(pI.calls xq _ _ r7 _ _ sX _ _ e8 _ _ fo true _ ?side1 ?side2 ?side3 ?side4 ?side5 ?side6 ?side7 ?side8 Qg.out).mono ?_
         (case side1=>exact cU ((Kd.au iC.out).2.2))
         (case side2=>exact(Kd.au iC.out).2.1)
         (case side3=>exact cU ((Kd.au iD.out).2.2))
         (case side4=>exact(Kd.au iD.out).2.1)
         (case side5=>exact cU ((Kd.fh fP.out).2.2))
         (case side6=>exact(Kd.fh fP.out).2.1)
         (case side7=>exact cU ((Kd.au fQ.out).2.2))
         (case side8=>exact(Kd.au fQ.out).2.1)
         rintro e Qk ⟨rfl,hb⟩;have Gp:=(hb.cell (World.block_lt_of_cell? _ _ (hHeld.2.2.2.2.2.2.1))).trans (hHeld.2.2.2.2.2.2.1);have Gq:=(hb.cell (World.block_lt_of_cell? _ _ (hHeld.2.2.2.2.2.2.2))).trans (hHeld.2.2.2.2.2.2.2);refine⟨_,rfl,?_⟩;replace fP:=qB fP.out hb;replace fQ:=rB fQ.out hb;replace gm:=qB gm.out hb;replace gn:=rB gn.out hb;replace iA:=qB iA.out hb;replace iB:=rB iB.out hb;replace iC:=rB iC.out hb;replace iD:=rB iD.out hb;replace kM:=rB kM.out hb;replace mm:=rB mm.out hb;replace cZ:=kB cZ.out hb;replace dl:=kB dl.out hb;replace dp:=kB dp.out hb;replace dX:=kB dX.out hb;replace HB:=Az (ay xd hb);clear hb;refine hK.out _ _ ⟨(ai dX.out 0).trans rfl,(ai dX.out 1).trans rfl,(ai cZ.out 0).trans rfl,(ai cZ.out 1).trans rfl,(ai dl.out 0).trans rfl,(ai dl.out 1).trans rfl,Gp,Gq⟩ (fun hHeld=>?_);clear hK K;refine aX (a':=?_) ?_ ?_;rotate_left
         ·
          show Act.put _ (some 81) _=_
          simp only[Act.put,List.setIfInBounds_toArray,List.set_cons_zero,List.set_cons_succ,bo,bD];rfl
         repeat (first|(refine vN rfl rfl (ao HT_.out (by kernel_rfl)) (fun _ _ _ h=>h) (by rfl) (v:=?_) (a':=?_) ?_ ?_ ?_;rotate_left;(·intro w';go_simp;with_reducible rfl);rotate_left;(·exact aP))|(refine Fg rfl rfl (bW HT_.out HW_.out (by kernel_rfl)) (fun _ _ _ h=>h) (by rfl) (v:=?_) (a':=?_) ?_ hHeld ?_ ?_;rotate_left;(·rintro w' ⟨s0,s1,s2,s3,s4,s5,s6,s7⟩;go_simp;with_reducible rfl);rotate_left;(·exact aP)))
         refine FJ rfl rfl (cJ HT_.out (by kernel_rfl)) (by decide) (fun K hK=>?_);refine eQ Try.func43 (by kernel_rfl) rfl #[.agg #[.slice fA gN.length eR,.slice bI gZ.length bG]] (by rfl) rfl rfl lQ ?_
         with_reducible refine(xa.calls xq _ _ gN _ _ gZ P5 _ ?side1 ?side2 ?side3 ?side4 A61.out).mono ?_
         (case side1=>exact cU ((Kd.fh gm.out).2.2))
         (case side2=>exact(Kd.fh gm.out).2.1)
         (case side3=>exact cU ((Kd.au gn.out).2.2))
         (case side4=>exact(Kd.au gn.out).2.1)
         rintro e Ke ⟨rfl,hb⟩;have Gp:=(hb.cell (World.block_lt_of_cell? _ _ (hHeld.2.2.2.2.2.2.1))).trans (hHeld.2.2.2.2.2.2.1);have Gq:=(hb.cell (World.block_lt_of_cell? _ _ (hHeld.2.2.2.2.2.2.2))).trans (hHeld.2.2.2.2.2.2.2);refine⟨_,rfl,?_⟩;replace fP:=qB fP.out hb;replace fQ:=rB fQ.out hb;replace gm:=qB gm.out hb;replace gn:=rB gn.out hb;replace iA:=qB iA.out hb;replace iB:=rB iB.out hb;replace iC:=rB iC.out hb;replace iD:=rB iD.out hb;replace kM:=rB kM.out hb;replace mm:=rB mm.out hb;replace cZ:=kB cZ.out hb;replace dl:=kB dl.out hb;replace dp:=kB dp.out hb;replace dX:=kB dX.out hb;replace HB:=Az (ay xd hb);clear hb;refine hK.out _ _ ⟨(ai dX.out 0).trans rfl,(ai dX.out 1).trans rfl,(ai cZ.out 0).trans rfl,(ai cZ.out 1).trans rfl,(ai dl.out 0).trans rfl,(ai dl.out 1).trans rfl,Gp,Gq⟩ (fun hHeld=>?_);clear hK K;refine aX (a':=?_) ?_ ?_;rotate_left
         ·
          show Act.put _ (some 94) _=_
          simp only[Act.put,List.setIfInBounds_toArray,List.set_cons_zero,List.set_cons_succ,bo,bD];rfl
         refine FJ rfl rfl (cJ HT_.out (by kernel_rfl)) (by decide) (fun K hK=>?_);refine eQ Try.func43 (by kernel_rfl) rfl #[.agg #[.slice df e8.length cd,.slice gx fo.length fj]] (by rfl) rfl rfl lQ ?_
         with_reducible refine(xa.calls xq _ _ e8 _ _ fo P6 _ ?side1 ?side2 ?side3 ?side4 A62.out).mono ?_
         (case side1=>exact cU ((Kd.fh fP.out).2.2))
         (case side2=>exact(Kd.fh fP.out).2.1)
         (case side3=>exact cU ((Kd.au fQ.out).2.2))
         (case side4=>exact(Kd.au fQ.out).2.1)
         rintro e Gr ⟨rfl,hb⟩;have Gp:=(hb.cell (World.block_lt_of_cell? _ _ (hHeld.2.2.2.2.2.2.1))).trans (hHeld.2.2.2.2.2.2.1);have Gq:=(hb.cell (World.block_lt_of_cell? _ _ (hHeld.2.2.2.2.2.2.2))).trans (hHeld.2.2.2.2.2.2.2);refine⟨_,rfl,?_⟩;replace fP:=qB fP.out hb;replace fQ:=rB fQ.out hb;replace gm:=qB gm.out hb;replace gn:=rB gn.out hb;replace iA:=qB iA.out hb;replace iB:=rB iB.out hb;replace iC:=rB iC.out hb;replace iD:=rB iD.out hb;replace kM:=rB kM.out hb;replace mm:=rB mm.out hb;replace cZ:=kB cZ.out hb;replace dl:=kB dl.out hb;replace dp:=kB dp.out hb;replace dX:=kB dX.out hb;replace HB:=Az (ay xd hb);clear hb;refine hK.out _ _ ⟨(ai dX.out 0).trans rfl,(ai dX.out 1).trans rfl,(ai cZ.out 0).trans rfl,(ai cZ.out 1).trans rfl,(ai dl.out 0).trans rfl,(ai dl.out 1).trans rfl,Gp,Gq⟩ (fun hHeld=>?_);clear hK K;refine aX (a':=?_) ?_ ?_;rotate_left
         ·
          show Act.put _ (some 96) _=_
          simp only[Act.put,List.setIfInBounds_toArray,List.set_cons_zero,List.set_cons_succ,bo,bD];rfl
         repeat (first|(refine vN rfl rfl (ao HT_.out (by kernel_rfl)) (fun _ _ _ h=>h) (by rfl) (v:=?_) (a':=?_) ?_ ?_ ?_;rotate_left;(·intro w';go_simp;with_reducible rfl);rotate_left;(·exact aP)))
         refine eY (fN HT_.out (by kernel_rfl)) ?_
         try go_wp2
         go_ret;exact⟨rE,bU4 HB.out lO.out oR.out sR.out BA.out⟩
        ·
         obtain rfl:=Option.some.inj H;obtain⟨aub,auc,aba⟩:=Kd.aH mm.out;(first|subst aba|(injection aba with al aT am;have aU:=al.symm;have aV:=am.symm;clear al aT am;subst aU;subst aV));have BE:0<=(1:Int):=(by omega);have BG:1<(zq.length:Int):=oA;obtain⟨Gl,Qi,BH⟩:=Kd.pH (Kd.au mm.out).2.2 1 BE BG
         cases Qi
         simp only[show(1:Int).toNat=1 from rfl,Nat.reduceMul,Nat.reduceEqDiff,Go.Addr.add,↓reduceIte]at BH;have ako:(1<zq.length)=True:=eq_true (by omega);replace BE:=eq_true BE;replace BG:=eq_true BG;obtain⟨D8,Gs,Kf⟩:=Kd.aH kM.out;(first|subst Kf|(injection Kf with al aT am;have aU:=al.symm;have aV:=am.symm;clear al aT am;subst aU;subst aV));have BI:0<=(2:Int):=(by omega);have BJ:2<(zp.length:Int):=oA;obtain⟨Gn,Qj,BL⟩:=Kd.pH (Kd.au kM.out).2.2 2 BI BJ
         cases Qj
         simp only[show(2:Int).toNat=2 from rfl,Nat.reduceMul,Nat.reduceEqDiff,Go.Addr.add,↓reduceIte]at BL;have akq:(2<zp.length)=True:=eq_true (by omega);replace BI:=eq_true BI;replace BJ:=eq_true BJ;refine eX (n:=29) (S:=fun w'=>w'.cell? ⟨BB,0,none⟩=some (.slice mP r7.length mQ)/\w'.cell? ⟨BB,1,none⟩=some (.slice mR sX.length mS)/\w'.cell? ⟨uU,0,none⟩=some (.slice df e8.length cd)/\w'.cell? ⟨uU,1,none⟩=some (.slice gx fo.length fj)/\w'.cell? ⟨Gl.block,Gl.off+1,none⟩=some (.int .i64 (rd zq 1))/\w'.cell? ⟨Gn.block,Gn.off+2,none⟩=some (.int .i64 (rd zp 2))) (ds:=[]) (ki [(0,some 71),(1,some 72),(2,some 73),(3,some 74),(4,some 75),(5,some 76),(6,some 77),(7,some 78),(8,some 79),(9,some 80),(10,some 81),(11,some 82),(12,some 83),(13,some 84),(14,some 85),(16,some 87),(17,some 88),(15,some 86),(18,some 89),(19,some 90),(20,some 91),(21,some 92),(22,some 93),(23,some 94),(24,some 95),(25,some 96),(26,some 97),(27,some 98),(28,some 2)] 29) (by kernel_rfl) rfl rfl ⟨(ai dX.out 0).trans rfl,(ai dX.out 1).trans rfl,(ai cZ.out 0).trans rfl,(ai cZ.out 1).trans rfl,BH,BL⟩ (fun hHeld=>?_);refine fL gh.vK gh.vL (fun HT_ HW_=>?_);generalize xr.drew=w101 at fP fQ gm gn iA iB iC iD kM mm cZ dl dp dX HB BH BL hHeld ⊢
         repeat (first|(refine vN rfl rfl (ao HT_.out (by kernel_rfl)) (fun _ _ _ h=>h) (by rfl) (v:=?_) (a':=?_) ?_ ?_ ?_;rotate_left;(·intro w';go_simp;with_reducible rfl);rotate_left;(·exact aP))|(refine Fg rfl rfl (bW HT_.out HW_.out (by kernel_rfl)) (fun _ _ _ h=>h) (by rfl) (v:=?_) (a':=?_) ?_ hHeld ?_ ?_;rotate_left;(·rintro w' ⟨s0,s1,s2,s3,s4,s5⟩;go_simp;with_reducible rfl);rotate_left;(·exact aP)))
         refine FJ rfl rfl (cJ HT_.out (by kernel_rfl)) (by decide) (fun K hK=>?_);refine eQ Try.func57 (by kernel_rfl) rfl #[.agg #[.slice mP r7.length mQ,.slice mR sX.length mS],.agg #[.slice df e8.length cd,.slice gx fo.length fj]] (by rfl) rfl rfl lQ ?_
         with_reducible refine(pI.calls xq _ _ r7 _ _ sX _ _ e8 _ _ fo true _ ?side1 ?side2 ?side3 ?side4 ?side5 ?side6 ?side7 ?side8 Qg.out).mono ?_
         (case side1=>exact cU ((Kd.au iC.out).2.2))
         (case side2=>exact(Kd.au iC.out).2.1)
         (case side3=>exact cU ((Kd.au iD.out).2.2))
         (case side4=>exact(Kd.au iD.out).2.1)
         (case side5=>exact cU ((Kd.fh fP.out).2.2))
         (case side6=>exact(Kd.fh fP.out).2.1)
         (case side7=>exact cU ((Kd.au fQ.out).2.2))
         (case side8=>exact(Kd.au fQ.out).2.1)
         rintro e Gt ⟨rfl,hb⟩;have Ql:=(hb.cell (World.block_lt_of_cell? _ _ (hHeld.2.2.2.2.1))).trans (hHeld.2.2.2.2.1);have Qm:=(hb.cell (World.block_lt_of_cell? _ _ (hHeld.2.2.2.2.2))).trans (hHeld.2.2.2.2.2);refine⟨_,rfl,?_⟩;replace fP:=qB fP.out hb;replace fQ:=rB fQ.out hb;replace gm:=qB gm.out hb;replace gn:=rB gn.out hb;replace iA:=qB iA.out hb;replace iB:=rB iB.out hb;replace iC:=rB iC.out hb;replace iD:=rB iD.out hb;replace kM:=rB kM.out hb;replace mm:=rB mm.out hb;replace cZ:=kB cZ.out hb;replace dl:=kB dl.out hb;replace dp:=kB dp.out hb;replace dX:=kB dX.out hb;replace HB:=Az (ay xd hb);clear hb;refine hK.out _ _ ⟨(ai dX.out 0).trans rfl,(ai dX.out 1).trans rfl,(ai cZ.out 0).trans rfl,(ai cZ.out 1).trans rfl,Ql,Qm⟩ (fun hHeld=>?_);clear hK K;refine aX (a':=?_) ?_ ?_;rotate_left
         ·
          show Act.put _ (some 81) _=_
          simp only[Act.put,List.setIfInBounds_toArray,List.set_cons_zero,List.set_cons_succ,bo,bD];rfl
         repeat (first|(refine Fa rfl rfl (ao HT_.out (by kernel_rfl)) (fun _ _ _ h=>h) (by rfl) (a':=?_) ?_ ?_;rotate_left;(·exact aP))|(refine vN rfl rfl (ao HT_.out (by kernel_rfl)) (fun _ _ _ h=>h) (by rfl) (v:=?_) (a':=?_) ?_ ?_ ?_;rotate_left;(·intro w';go_simp;with_reducible rfl);rotate_left;(·exact aP))|(refine Fg rfl rfl (bW HT_.out HW_.out (by kernel_rfl)) (fun _ _ _ h=>h) (by rfl) (v:=?_) (a':=?_) ?_ hHeld ?_ ?_;rotate_left;(·rintro w' ⟨s0,s1,s2,s3,s4,s5⟩;go_simp;with_reducible rfl);rotate_left;(·exact aP)))
         refine eY (fN HT_.out (by kernel_rfl)) ?_
         try go_wp2
         go_ret;exact⟨rE,bU4 HB.out lO.out oR.out sR.out BA.out⟩
       ·
        replace J9:=Bool.eq_false_iff.mpr J9;subst J9;rw[if_neg nT]at H;obtain rfl:=Option.some.inj H;refine eX (n:=29) (S:=fun w'=>w'.cell? ⟨BB,0,none⟩=some (.slice mP r7.length mQ)/\w'.cell? ⟨BB,1,none⟩=some (.slice mR sX.length mS)/\w'.cell? ⟨uU,0,none⟩=some (.slice df e8.length cd)/\w'.cell? ⟨uU,1,none⟩=some (.slice gx fo.length fj)) (ds:=[]) (ki [(0,some 71),(1,some 72),(2,some 73),(3,some 74),(4,some 75),(5,some 76),(6,some 77),(7,some 78),(8,some 79),(9,some 80),(10,some 81),(11,some 82),(12,some 83),(13,some 84),(14,some 85),(15,some 86),(16,some 87),(17,some 88),(18,some 89),(19,some 90),(20,some 91),(21,some 92),(22,some 93),(23,some 94),(24,some 95),(25,some 96),(26,some 97),(27,some 98),(28,some 2)] 29) (by kernel_rfl) rfl rfl ⟨(ai dX.out 0).trans rfl,(ai dX.out 1).trans rfl,(ai cZ.out 0).trans rfl,(ai cZ.out 1).trans rfl⟩ (fun hHeld=>?_);refine fL gh.vK gh.vL (fun HT_ HW_=>?_);generalize xr.drew=w121 at fP fQ gm gn iA iB iC iD kM mm cZ dl dp dX HB hHeld ⊢
        repeat (first|(refine vN rfl rfl (ao HT_.out (by kernel_rfl)) (fun _ _ _ h=>h) (by rfl) (v:=?_) (a':=?_) ?_ ?_ ?_;rotate_left;(·intro w';go_simp;with_reducible rfl);rotate_left;(·exact aP))|(refine Fg rfl rfl (bW HT_.out HW_.out (by kernel_rfl)) (fun _ _ _ h=>h) (by rfl) (v:=?_) (a':=?_) ?_ hHeld ?_ ?_;rotate_left;(·rintro w' ⟨s0,s1,s2,s3⟩;go_simp;with_reducible rfl);rotate_left;(·exact aP)))
        refine FJ rfl rfl (cJ HT_.out (by kernel_rfl)) (by decide) (fun K hK=>?_);refine eQ Try.func57 (by kernel_rfl) rfl #[.agg #[.slice mP r7.length mQ,.slice mR sX.length mS],.agg #[.slice df e8.length cd,.slice gx fo.length fj]] (by rfl) rfl rfl lQ ?_
        with_reducible refine(pI.calls xq _ _ r7 _ _ sX _ _ e8 _ _ fo false _ ?side1 ?side2 ?side3 ?side4 ?side5 ?side6 ?side7 ?side8 Qg.out).mono ?_
        (case side1=>exact cU ((Kd.au iC.out).2.2))
        (case side2=>exact(Kd.au iC.out).2.1)
        (case side3=>exact cU ((Kd.au iD.out).2.2))
        (case side4=>exact(Kd.au iD.out).2.1)
        (case side5=>exact cU ((Kd.fh fP.out).2.2))
        (case side6=>exact(Kd.fh fP.out).2.1)
        (case side7=>exact cU ((Kd.au fQ.out).2.2))
        (case side8=>exact(Kd.au fQ.out).2.1)
        rintro e aud ⟨rfl,hb⟩;refine⟨_,rfl,?_⟩;replace fP:=qB fP.out hb;replace fQ:=rB fQ.out hb;replace gm:=qB gm.out hb;replace gn:=rB gn.out hb;replace iA:=qB iA.out hb;replace iB:=rB iB.out hb;replace iC:=rB iC.out hb;replace iD:=rB iD.out hb;replace kM:=rB kM.out hb;replace mm:=rB mm.out hb;replace cZ:=kB cZ.out hb;replace dl:=kB dl.out hb;replace dp:=kB dp.out hb;replace dX:=kB dX.out hb;replace HB:=Az (ay xd hb);clear hb;refine hK.out _ _ ⟨(ai dX.out 0).trans rfl,(ai dX.out 1).trans rfl,(ai cZ.out 0).trans rfl,(ai cZ.out 1).trans rfl⟩ (fun hHeld=>?_);clear hK K;refine aX (a':=?_) ?_ ?_;rotate_left
        ·
         show Act.put _ (some 81) _=_
         simp only[Act.put,List.setIfInBounds_toArray,List.set_cons_zero,List.set_cons_succ,bo,bD];rfl
        repeat (first|(refine Fa rfl rfl (ao HT_.out (by kernel_rfl)) (fun _ _ _ h=>h) (by rfl) (a':=?_) ?_ ?_;rotate_left;(·exact aP))|(refine vN rfl rfl (ao HT_.out (by kernel_rfl)) (fun _ _ _ h=>h) (by rfl) (v:=?_) (a':=?_) ?_ ?_ ?_;rotate_left;(·intro w';go_simp;with_reducible rfl);rotate_left;(·exact aP)))
        refine eY (fN HT_.out (by kernel_rfl)) ?_
        try go_wp2
        go_ret;exact⟨rE,bU4 HB.out lO.out oR.out sR.out BA.out⟩
      ·
       replace J8:=Bool.eq_false_iff.mpr J8;subst J8;rw[if_neg nT]at H;obtain rfl:=Option.some.inj H;refine eX (n:=29) (S:=fun w'=>True) (ds:=[]) (ki [(0,some 71),(1,some 72),(2,some 73),(3,some 74),(4,some 75),(5,some 76),(6,some 77),(7,some 78),(8,some 79),(9,some 80),(10,some 81),(11,some 82),(12,some 83),(13,some 84),(14,some 85),(15,some 86),(16,some 87),(17,some 88),(18,some 89),(19,some 90),(20,some 91),(21,some 92),(22,some 93),(23,some 94),(24,some 95),(25,some 96),(26,some 97),(27,some 98),(28,some 2)] 29) (by kernel_rfl) rfl rfl trivial (fun hHeld=>?_);refine fL gh.vK gh.vL (fun HT_ HW_=>?_);generalize xr.drew=w139 at fP fQ gm gn iA iB iC iD kM mm cZ dl dp dX HB hHeld ⊢
       repeat (first|(refine Fa rfl rfl (ao HT_.out (by kernel_rfl)) (fun _ _ _ h=>h) (by rfl) (a':=?_) ?_ ?_;rotate_left;(·exact aP))|(refine vN rfl rfl (ao HT_.out (by kernel_rfl)) (fun _ _ _ h=>h) (by rfl) (v:=?_) (a':=?_) ?_ ?_ ?_;rotate_left;(·intro w';go_simp;with_reducible rfl);rotate_left;(·exact aP)))
       refine eY (fN HT_.out (by kernel_rfl)) ?_
       try go_wp2
       go_ret;exact⟨rE,bU4 HB.out lO.out oR.out sR.out BA.out⟩
     ·
      replace J7:=Bool.eq_false_iff.mpr J7;subst J7;rw[if_neg nT]at H;obtain rfl:=Option.some.inj H;refine eX (n:=29) (S:=fun w'=>True) (ds:=[]) (ki [(0,some 71),(1,some 72),(2,some 73),(3,some 74),(4,some 75),(5,some 76),(6,some 77),(7,some 78),(8,some 79),(9,some 80),(10,some 81),(11,some 82),(12,some 83),(13,some 84),(14,some 85),(15,some 86),(16,some 87),(17,some 88),(18,some 89),(19,some 90),(20,some 91),(21,some 92),(22,some 93),(23,some 94),(24,some 95),(25,some 96),(26,some 97),(27,some 98),(28,some 2)] 29) (by kernel_rfl) rfl rfl trivial (fun hHeld=>?_);refine fL gh.vK gh.vL (fun HT_ HW_=>?_);generalize xr.drew=w156 at fP fQ gm gn iA iB iC iD kM mm cZ dl dp dX HB hHeld ⊢
      repeat (first|(refine Fa rfl rfl (ao HT_.out (by kernel_rfl)) (fun _ _ _ h=>h) (by rfl) (a':=?_) ?_ ?_;rotate_left;(·exact aP))|(refine vN rfl rfl (ao HT_.out (by kernel_rfl)) (fun _ _ _ h=>h) (by rfl) (v:=?_) (a':=?_) ?_ ?_ ?_;rotate_left;(·intro w';go_simp;with_reducible rfl);rotate_left;(·exact aP)))
      refine eY (fN HT_.out (by kernel_rfl)) ?_
      try go_wp2
      go_ret;exact⟨rE,bU4 HB.out lO.out oR.out sR.out BA.out⟩
    ·
     replace c53:=Bool.eq_false_iff.mpr c53;subst c53;rw[if_neg nT]at H;obtain rfl:=Option.some.inj H;refine eX (n:=29) (S:=fun w'=>True) (ds:=[]) (ki [(0,some 71),(1,some 72),(2,some 73),(3,some 74),(4,some 75),(5,some 76),(6,some 77),(7,some 78),(8,some 79),(9,some 80),(10,some 81),(11,some 82),(12,some 83),(13,some 84),(14,some 85),(15,some 86),(16,some 87),(17,some 88),(18,some 89),(19,some 90),(20,some 91),(21,some 92),(22,some 93),(23,some 94),(24,some 95),(25,some 96),(26,some 97),(27,some 98),(28,some 2)] 29) (by kernel_rfl) rfl rfl trivial (fun hHeld=>?_);refine fL gh.vK gh.vL (fun HT_ HW_=>?_);generalize xr.drew=w173 at fP fQ gm gn iA iB iC iD kM mm cZ dl dp dX HB hHeld ⊢
     repeat (first|(refine Fa rfl rfl (ao HT_.out (by kernel_rfl)) (fun _ _ _ h=>h) (by rfl) (a':=?_) ?_ ?_;rotate_left;(·exact aP))|(refine vN rfl rfl (ao HT_.out (by kernel_rfl)) (fun _ _ _ h=>h) (by rfl) (v:=?_) (a':=?_) ?_ ?_ ?_;rotate_left;(·intro w';go_simp;with_reducible rfl);rotate_left;(·exact aP)))
     refine eY (fN HT_.out (by kernel_rfl)) ?_
     try go_wp2
     go_ret;exact⟨rE,bU4 HB.out lO.out oR.out sR.out BA.out⟩
def gh.Pure:Prop:=∀(l0:List Int),l0.length<=maxLen->l0.length*1<=140737488351232->(∀x∈l0,(Lit.int .u8 x).wf=true)->∃k,gh.f k l0=some true
theorem gh.walk (P:gh.Pure) (a0:Option Addr) (zt cap0:Nat) (z0:List Int) (w:World) (w0:(a0=none/\zt=0/\cap0=0/\z0=[])\/∃x,a0=some x/\zt<=cap0/\cap0<=maxLen/\z0.length=cap0/\(∀i,i<z0.length->w.cell? (x.add i)=some (.int .u8 (z0.getD i 0)))/\∀n∈z0,(Lit.int .u8 n).wf=true) (y0:zt*1<=140737488351232):
 Calls Try.prog 11 #[.slice a0 zt cap0] w fun e w'=>e= .returned (.bool true)/\Below w.heap.size w w':=by
 obtain⟨l0,rfl,hr0,hm0,hw0,hc0⟩:=lH.afr w0;obtain⟨k,h⟩:=P l0 hm0 y0 hw0;refine(gh.calls k _ _ l0 true w (Kd.YV (d:=(0:Int)) (h1:=fun _=>rfl) hr0) hc0 h).mono ?_;rintro e w' ⟨rfl,hd⟩;exact⟨rfl,hd⟩
end Go.Proofs.Ytlpbalebodlipaa.PL
set_option linter.unusedVariables false
set_option linter.unusedSimpArgs false
namespace Go.Proofs.Ytlpbalebodlipaa.PL
open Go.RowKit Go.Proofs.YtlpbalebodlipaaW.PrintWords Go.Proofs.YtlpbalebodlipaaW.PrintLast Go.Proofs.YtlpbalebodlipaaW.PrintMore
theorem Ev.s {α:Type} {g:Nat->Option α} {r:α} (h:Ev (fun k=>g (k+1)) r):Ev g r:=Ev.step (fun _=>rfl) h
theorem Ev.const {α:Type} {o:Option α} {r:α} (h:o=some r):Ev (fun _=>o) r:=⟨0,fun _ _=>h⟩
theorem Ev.uniq {α:Type} {g:Nat->Option α} {r r':α} (h:Ev g r) (h':Ev g r'):r=r':=by
 obtain⟨K,h⟩:=h;obtain⟨K',h'⟩:=h';have h1:=h (max K K') (by omega);rw[h' (max K K') (by omega)]at h1;exact(Option.some.inj h1).symm
theorem w64 {x:Int} (h1: -9223372036854775808<=x) (h2:x<9223372036854775808):wrap64 x=x:=by unfold wrap64;omega
theorem fz {i:Nat} (h:i<4611686018427387904):wrap64 ((i:Int)+1)=((i+1:Nat):Int):=by rw[w64 (by omega) (by omega)];omega
theorem kE (l:List Int) (i:Nat) (h:i<l.length):rd l (i:Int)=l[i]:=by
 unfold rd
 rw[Int.toNat_natCast,List.getD_eq_getElem?_getD,List.getElem?_eq_getElem h];rfl
def DF (l:List Int) (i:Nat):Prop:=0<=rd l i/\rd l i<l.length/\∀k:Nat,k<i->rd l k≠rd l i
def uJ (l:List Int):Prop:=1<=l.length/\l.length<=12/\∀i:Nat,i<l.length->DF l i
theorem Do (a b c:Int):lD.f a b c=some (decide (b<=a/\a<=c)):=by
 unfold lD.f
 by_cases h1:a>=b
 ·by_cases h2:a<=c<;>simp[h1,h2]
 ·simp[h1]
theorem Wi (l:List Int) (hl:l.length<=1048576) (i:Nat) (hi:i<l.length):∀(d k:Nat),i-k=d->k<=i->
 ((∀q:Nat,k<=q->q<i->rd l q≠rd l i)->∀r,Ev (fun z=>gI.l0 z l ((i+1:Nat):Int)) r->Ev (fun z=>gI.l1 z l i k) r)/\
 (¬(∀q:Nat,k<=q->q<i->rd l q≠rd l i)->Ev (fun z=>gI.l1 z l i k) false)
 |0,k,hd,hk=>by
  refine⟨fun _ r h=>Ev.s ?_,fun h=>absurd (fun q h1 h2=>by omega) h⟩;simp only[gI.l1,show ¬(k:Int)<(i:Int) by omega,if_false];rw[w64 (x:=(i:Int)+1) (by omega) (by omega),show((i:Int)+1)=((i+1:Nat):Int) by omega];exact h
 |d+1,k,hd,hk=>by
  have ih:=Wi l hl i hi d (k+1) (by omega) (by omega)
  have hw:wrap64 ((k:Int)+1)=((k+1:Nat):Int):=by rw[w64 (by omega) (by omega)];omega
  by_cases e:rd l k=rd l i
  · refine⟨fun h=>absurd e (h k (Nat.le_refl _) (by omega)),fun h=>Ev.s ?_⟩
    simp only[gI.l1,show(k:Int)<(i:Int) by omega,show(0:Int)<=k by omega,show(k:Int)<(l.length:Int) by omega,show(0:Int)<=i by omega,show(i:Int)<(l.length:Int) by omega,e,if_true];exact Ev.const rfl
  · refine⟨fun h r hr=>Ev.s ?_,fun h=>Ev.s ?_⟩
    · simp only[gI.l1,show(k:Int)<(i:Int) by omega,show(0:Int)<=k by omega,show(k:Int)<(l.length:Int) by omega,show(0:Int)<=i by omega,show(i:Int)<(l.length:Int) by omega,e,if_true,if_false,hw]
      exact ih.1 (fun q h1 h2=>h q (by omega) h2) r hr
    · simp only[gI.l1,show(k:Int)<(i:Int) by omega,show(0:Int)<=k by omega,show(k:Int)<(l.length:Int) by omega,show(0:Int)<=i by omega,show(i:Int)<(l.length:Int) by omega,e,if_true,if_false,hw]
      refine ih.2 fun h'=>h fun q h1 h2=>?_
      by_cases eq:q=k
      ·rw[eq];exact e
      ·exact h' q (by omega) h2
theorem YQ (l:List Int) (hl:l.length<=1048576):∀(d i:Nat),l.length-i=d->i<=l.length->
 ((∀q:Nat,i<=q->q<l.length->DF l q)->Ev (fun z=>gI.l0 z l i) (decide (1<=(l.length:Int)/\(l.length:Int)<=12)))/\
 (¬(∀q:Nat,i<=q->q<l.length->DF l q)->Ev (fun z=>gI.l0 z l i) false)
 |0,i,hd,hi=>by
  refine⟨fun _=>Ev.s ?_,fun h=>absurd (fun q h1 h2=>by omega) h⟩;simp only[gI.l0,show ¬(i:Int)<(l.length:Int) by omega,if_false,Do,Option.bind_some];exact Ev.const rfl
 |d+1,i,hd,hi=>by
  have hlt:i<l.length:=by omega
  have ih:=YQ l hl d (i+1) (by omega) (by omega);have hin:=Wi l hl i hlt i 0 (by omega) (by omega);have hwl:wrap64 ((l.length:Int)-1)=(l.length:Int)-1:=w64 (by omega) (by omega)
  by_cases hr:0<=rd l i/\rd l i<=(l.length:Int)-1
  · by_cases hn:∀q:Nat,0<=q->q<i->rd l q≠rd l i
    · refine⟨fun h=>Ev.s ?_,fun h=>Ev.s ?_⟩
      · simp only[gI.l0,show(i:Int)<(l.length:Int) by omega,show(0:Int)<=i by omega,if_true,Do,Option.bind_some,hwl,hr,decide_true,and_self]
        exact hin.1 hn _ (ih.1 fun q h1 h2=>h q (by omega) h2)
      · simp only[gI.l0,show(i:Int)<(l.length:Int) by omega,show(0:Int)<=i by omega,if_true,Do,Option.bind_some,hwl,hr,decide_true,and_self]
        refine hin.1 hn _ (ih.2 fun h'=>h fun q h1 h2=>?_)
        by_cases e:q=i
        ·rw[e];exact⟨hr.1,by omega,fun k hk=>hn k (by omega) hk⟩
        ·exact h' q (by omega) h2
    · refine⟨fun h=>absurd (fun q _ h2=>(h i (Nat.le_refl _) hlt).2.2 q h2) hn,fun h=>Ev.s ?_⟩
      simp only[gI.l0,show(i:Int)<(l.length:Int) by omega,show(0:Int)<=i by omega,if_true,Do,Option.bind_some,hwl,hr,decide_true,and_self];exact hin.2 hn
  · refine⟨fun h=>absurd ⟨(h i (Nat.le_refl _) hlt).1,by have:=(h i (Nat.le_refl _) hlt).2.1;omega⟩ hr,fun h=>Ev.s ?_⟩
    simp only[gI.l0,show(i:Int)<(l.length:Int) by omega,show(0:Int)<=i by omega,if_true,Do,Option.bind_some,hwl,hr,decide_false,Bool.false_eq_true,if_false];exact Ev.const rfl
theorem NG (l:List Int) (hl:l.length<=12):∀(d i:Nat) (s:List Bool),l.length-i=d->i<=l.length->s.length=12->(∀v:Nat,v<12->(s.getD v false=true↔∃k:Nat,k<i/\rd l k=v))->
 ((∀q:Nat,i<=q->q<l.length->DF l q)->Ev (fun z=>kK.l0 z l s i) true)/\
 (¬(∀q:Nat,i<=q->q<l.length->DF l q)->Ev (fun z=>kK.l0 z l s i) false)
 |0,i,s,hd,hi,hs,hv=>by
  refine⟨fun _=>Ev.s ?_,fun h=>absurd (fun q h1 h2=>by omega) h⟩;simp only[kK.l0,show ¬(i:Int)<(l.length:Int) by omega,if_false];exact Ev.const rfl
 |d+1,i,s,hd,hi,hs,hv=>by
  have hlt:i<l.length:=by omega
  have hd1:l.length-(i+1)=d:=by omega
  have hw:wrap64 ((i:Int)+1)=((i+1:Nat):Int):=by rw[w64 (by omega) (by omega)];omega
  by_cases h0:rd l i<0
  · refine⟨fun h=>absurd (h i (Nat.le_refl _) hlt).1 (by omega),fun h=>Ev.s ?_⟩
    simp only[kK.l0,show(i:Int)<(l.length:Int) by omega,show(0:Int)<=i by omega,h0,if_true];exact Ev.const rfl
  · by_cases h1:rd l i>=(l.length:Int)
    · refine⟨fun h=>absurd (h i (Nat.le_refl _) hlt).2.1 (by omega),fun h=>Ev.s ?_⟩
      simp only[kK.l0,show(i:Int)<(l.length:Int) by omega,show(0:Int)<=i by omega,h0,h1,if_true,if_false];exact Ev.const rfl
    · have hvi:=hv (rd l i).toNat (by omega)
      have hcast:(((rd l i).toNat:Nat):Int)=rd l i:=by omega
      rw[hcast]at hvi
      by_cases h2:s.getD (rd l i).toNat false=true
      · obtain⟨k,hk,hke⟩:=hvi.1 h2
        refine⟨fun h=>absurd hke ((h i (Nat.le_refl _) hlt).2.2 k hk),fun h=>Ev.s ?_⟩;simp only[kK.l0,show(i:Int)<(l.length:Int) by omega,show(0:Int)<=i by omega,h0,h1,h2,if_true,if_false];exact Ev.const rfl
      · have hnew:∀k:Nat,k<i->rd l k≠rd l i:=fun k hk e=>h2 (hvi.2 ⟨k,hk,e⟩)
        have ih:=NG l hl d (i+1) (s.set (rd l i).toNat true) hd1 hlt (by simpa using hs) (fun v akr=>by
         by_cases ev:v=(rd l i).toNat
         · subst ev
           rw[List.getD_eq_getElem?_getD,List.getElem?_set_self (by omega)];simp only[Option.getD_some,true_iff];exact⟨i,Nat.lt_succ_self i,hcast.symm⟩
         · rw[List.getD_eq_getElem?_getD,List.getElem?_set_ne (Ne.symm ev),<-List.getD_eq_getElem?_getD,hv v akr]
           constructor
           ·rintro⟨k,hk,hke⟩;exact⟨k,by omega,hke⟩
           · rintro⟨k,hk,hke⟩
             by_cases e:k=i
             ·subst e;omega
             ·exact⟨k,by omega,hke⟩)
        refine⟨fun h=>Ev.s ?_,fun h=>Ev.s ?_⟩
        · simp only[kK.l0,show(i:Int)<(l.length:Int) by omega,show(0:Int)<=i by omega,h0,h1,h2,if_true,if_false,hw]
          exact ih.1 fun q g1 g2=>h q (by omega) g2
        · simp only[kK.l0,show(i:Int)<(l.length:Int) by omega,show(0:Int)<=i by omega,h0,h1,h2,if_true,if_false,hw]
          refine ih.2 fun h'=>h fun q g1 g2=>?_
          by_cases e:q=i
          ·rw[e];exact⟨by omega,by omega,hnew⟩
          ·exact h' q (by omega) g2
theorem I1 (l:List Int) (hl:l.length<=1048576):∃b:Bool,Ev (fun k=>gI.f k l) b/\Ev (fun k=>kK.f k l) b/\(b=true↔uJ l):=by
 unfold gI.f kK.f
 have hs:=YQ l hl l.length 0 (by omega) (by omega)
 by_cases hall:∀q:Nat,0<=q->q<l.length->DF l q
 · refine⟨decide (1<=(l.length:Int)/\(l.length:Int)<=12),hs.1 hall,?_,?_⟩
   · by_cases h1:(l.length:Int)<1
     · simp only[h1,if_true]
       exact Ev.const (by congr 1;symm;rw[decide_eq_false_iff_not];omega)
     · by_cases h2:(l.length:Int)>12
       · simp only[h1,h2,if_true,if_false]
         exact Ev.const (by congr 1;symm;rw[decide_eq_false_iff_not];omega)
       · simp only[h1,h2,if_false]
         rw[decide_eq_true (by omega)];refine(NG l (by omega) l.length 0 _ (by omega) (by omega) (by simp) fun v hv=>?_).1 hall
         constructor
         · intro h
           rw[List.getD_eq_getElem?_getD,List.getElem?_replicate,if_pos hv]at h
           cases h
         ·rintro⟨k,hk,_⟩;omega
   · rw[decide_eq_true_eq]
     exact⟨fun h=>⟨by omega,by omega,fun i hi=>hall i (by omega) hi⟩,fun h=>⟨by have:=h.1;omega,by have:=h.2.1;omega⟩⟩
 · refine⟨false,hs.2 hall,?_,?_⟩
   · by_cases h1:(l.length:Int)<1
     ·simp only[h1,if_true];exact Ev.const rfl
     · by_cases h2:(l.length:Int)>12
       ·simp only[h1,h2,if_true,if_false];exact Ev.const rfl
       · simp only[h1,h2,if_false]
         refine(NG l (by omega) l.length 0 _ (by omega) (by omega) (by simp) fun v hv=>?_).2 hall
         constructor
         · intro h
           rw[List.getD_eq_getElem?_getD,List.getElem?_replicate,if_pos hv]at h
           cases h
         ·rintro⟨k,hk,_⟩;omega
   ·exact⟨fun h=>(by cases h),fun h=>absurd (fun q _ hq=>h.2.2 q hq) hall⟩
def stl (n:Nat):List Int:=(List.range n).map fun(i:Nat)=>(i:Int)
theorem Dr (n:Nat):(stl n).length=n:=by simp[stl]
theorem X7 (n i:Nat) (h:i<n):rd (stl n) i=i:=by
 rw[kE _ _ (by rw[Dr];exact h)]
 simp[stl]
theorem ah5 (n:Nat):stl (n+1)=stl n++[(n:Int)]:=by simp[stl,List.range_succ]
theorem qV (l:List Int) (i:Nat) (v:Int) (h:i<l.length):rd (l.set i v) i=v:=by
 rw[kE _ _ (by simpa using h)];simp
theorem qa (l:List Int) (i j:Nat) (v:Int) (h:i≠j):rd (l.set i v) j=rd l j:=by
 unfold rd
 rw[Int.toNat_natCast,List.getD_eq_getElem?_getD,List.getD_eq_getElem?_getD,List.getElem?_set_ne h]
theorem FP (l m:List Int) (i:Nat) (h:i<l.length):rd (l++m) i=rd l i:=by
 unfold rd
 rw[Int.toNat_natCast,List.getD_eq_getElem?_getD,List.getD_eq_getElem?_getD,List.getElem?_append_left h]
theorem Fq (a b:List Int) (h:a.length=b.length) (hr:∀i:Nat,i<a.length->rd a i=rd b i):a=b:=by
 refine List.ext_getElem h fun i h1 h2=>?_
 have:=hr i h1
 rwa [kE a i h1,kE b i h2]at this
theorem ZB (n:Nat) (hn:n<=1048576):∀(d i:Nat),n-i=d->i<=n->Ev (fun k=>qN.l0 k n (stl i) i) (stl n)
 |0,i,hd,hi=>by
  refine Ev.s ?_;simp only[qN.l0,show ¬(i:Int)<(n:Int) by omega,if_false]
  have:i=n:=by omega
  subst this;exact Ev.const rfl
 |d+1,i,hd,hi=>by
  refine Ev.s ?_;simp only[qN.l0,show(i:Int)<(n:Int) by omega,if_true,Dr,show i<17592186044416 by omega];rw[w64 (x:=(i:Int)+1) (by omega) (by omega),show((i:Int)+1)=((i+1:Nat):Int) by omega,<-ah5];exact ZB n hn d (i+1) (by omega) (by omega)
theorem afR (n:Nat) (hn:n<=1048576):Ev (fun k=>qN.f k n) (stl n):=by
 unfold qN.f
 exact ZB n hn n 0 (by omega) (by omega)
theorem V7 (n:Nat) (hn:n<=1048576):∀(d i:Nat) (l:List Int),n-i=d->i<=n->l.length=n->l.take i=(stl n).take i->Ev (fun k=>qP.l0 k l n i) (stl n)
 |0,i,l,hd,hi,hl,ht=>by
  refine Ev.s ?_;simp only[qP.l0,show ¬(i:Int)<(n:Int) by omega,if_false]
  have:i=n:=by omega
  subst this
  have e:(stl i).take i=stl i:=by rw[List.take_of_length_le];rw[Dr];exact Nat.le_refl _
  rw[e,List.take_of_length_le (by omega)]at ht;exact Ev.const (by rw[ht])
 |d+1,i,l,hd,hi,hl,ht=>by
  have hlt:i<l.length:=by omega
  refine Ev.s ?_;simp only[qP.l0,show(i:Int)<(n:Int) by omega,show(0:Int)<=i by omega,show(i:Int)<(l.length:Int) by omega,if_true];rw[w64 (x:=(i:Int)+1) (by omega) (by omega),show((i:Int)+1)=((i+1:Nat):Int) by omega,Int.toNat_natCast];refine V7 n hn d (i+1) _ (by omega) (by omega) (by simpa using hl) ?_
  have h2:i<(stl n).length:=by rw[Dr];omega
  rw[List.take_succ_eq_append_getElem (by simpa using hlt),List.take_succ_eq_append_getElem h2,List.take_set_of_le (Nat.le_refl _),ht]
  simp[stl]
theorem ag8 (n:Nat) (hn:n<=1048576):Ev (fun k=>qP.f k n) (stl n):=by
 unfold qP.f
 have h1:n<=35184372088832:=by omega
 have h2:(0:Int)<=(n:Int):=by omega
 simp only[Int.toNat_natCast,h1,h2,if_true,Option.bind_some,List.length_replicate];exact V7 n hn n 0 _ (by omega) (by omega) (by simp) (by simp)
def inR (n:Nat) (p:List Int):Prop:=p.length=n/\∀i:Nat,i<n->0<=rd p i/\rd p i<n
def wZ (ps:List (List Int)) (n:Nat) (S:Nat->Prop):Prop:=∀p∈ps,∀k,k<n->(S k↔S (rd p k).toNat)
def Reach (ps:List (List Int)) (n:Nat) (i j:Nat):Prop:=∀S,wZ ps n S->(S i↔S j)
theorem Reach.refl (ps:List (List Int)) (n i:Nat):Reach ps n i i:=fun S _=>Iff.rfl
theorem Reach.symm {ps:List (List Int)} {n i j:Nat} (h:Reach ps n i j):Reach ps n j i:=fun S c=>(h S c).symm
theorem Reach.trans {ps:List (List Int)} {n i j k:Nat} (h:Reach ps n i j) (h':Reach ps n j k):Reach ps n i k:=fun S c=>(h S c).trans (h' S c)
theorem Reach.step {ps:List (List Int)} {n:Nat} {p:List Int} (hp:p∈ps) {k:Nat} (hk:k<n):Reach ps n k (rd p k).toNat:=fun S c=>c p hp k hk
def sG (ps:List (List Int)) (n:Nat) (o:List Int):Prop:=o.length=n/\∀i:Nat,i<n->0<=rd o i/\rd o i<=i/\Reach ps n (rd o i).toNat i
def yB (ps:List (List Int)) (n:Nat) (o:List Int):Prop:=sG ps n o/\∀p∈ps,∀i:Nat,i<n->rd o (rd p i)=rd o i
theorem XL (ps:List (List Int)) (n:Nat):sG ps n (stl n):=by
 refine⟨Dr n,fun i hi=>?_⟩;rw[X7 n i hi];exact⟨by omega,by omega,by rw[Int.toNat_natCast];exact Reach.refl _ _ _⟩
theorem M7 {ps:List (List Int)} {n:Nat} {o:List Int} (h:yB ps n o) (hp:∀p∈ps,inR n p) {i j:Nat} (hr:Reach ps n i j):rd o i=rd o j:=by
 have:=hr (fun k=>rd o k=rd o i) (fun p hp' k hk=>by
  have h1:=h.2 p hp' k hk;have h2:=(hp p hp').2 k hk
  have e:(((rd p k).toNat:Nat):Int)=rd p k:=by omega
  show(rd o k=rd o i)↔(rd o (((rd p k).toNat:Nat):Int)=rd o i)
  rw[e,h1])
 exact(this.1 rfl).symm
theorem Dh {ps:List (List Int)} {n:Nat} {o o':List Int} (h:yB ps n o) (h':sG ps n o') (hp:∀p∈ps,inR n p) {i:Nat} (hi:i<n):rd o i<=rd o' i:=by
 obtain⟨g0,g1,g2⟩:=h'.2 i hi;have e:=M7 h hp g2
 have hlt:(rd o' i).toNat<n:=by omega
 have:=(h.1.2 _ hlt).2.1
 have e2:(((rd o' i).toNat:Nat):Int)=rd o' i:=by omega
 omega
theorem N7 (a b:Int):mn a b<=a/\mn a b<=b/\(mn a b=a\/mn a b=b):=by unfold mn;split<;>omega
theorem Fe {ps:List (List Int)} {n:Nat} {o:List Int} (h:sG ps n o) {i:Nat} (hi:i<n) {v:Int} (h0:0<=v) (h1:v<=i) (hr:Reach ps n v.toNat i):sG ps n (o.set i v):=by
 refine⟨by simpa using h.1,fun j hj=>?_⟩
 by_cases e:i=j
 · subst e
   rw[qV _ _ _ (by rw[h.1];exact hi)];exact⟨h0,h1,hr⟩
 · rw[qa _ _ _ _ e]
   exact h.2 j hj
def tot:List Int->Int
 |[]=>0
 |x::xs=>x+tot xs
theorem NP:∀(l:List Int) (i:Nat) (v:Int),i<l.length->tot (l.set i v)+rd l i=tot l+v
 |[],i,v,h=>by simp at h
 |x::xs,0,v,h=>by simp[tot,rd];omega
 |x::xs,i+1,v,h=>by
  have ih:=NP xs i v (by simpa using h)
  have e:rd (x::xs) ((i+1:Nat):Int)=rd xs i:=by unfold rd;rw[Int.toNat_natCast,Int.toNat_natCast];rfl
  rw[e];simp only[List.set_cons_succ,tot];omega
theorem N4:∀(l:List Int),(∀i:Nat,i<l.length->0<=rd l i)->0<=tot l
 |[],_=>by simp[tot]
 |x::xs,h=>by
  have h0:=h 0 (by simp);have e0:rd (x::xs) ((0:Nat):Int)=x:=rfl;rw[e0]at h0
  have:=N4 xs fun i hi=>by
   have:=h (i+1) (by simpa using hi)
   have e:rd (x::xs) ((i+1:Nat):Int)=rd xs i:=by unfold rd;rw[Int.toNat_natCast,Int.toNat_natCast];rfl
   rwa [e]at this
  simp only[tot];omega
theorem Dk (ps:List (List Int)) (q:Nat) (h:q<ps.length):d7 ps (q:Int)=ps[q]:=by
 have e:(q:Int).toNat=q:=Int.toNat_natCast q
 unfold d7
 rw[e,List.getD_eq_getElem?_getD,List.getElem?_eq_getElem h];rfl
theorem NT (ps:List (List Int)) (n:Nat) (hn:n<=12) (q:Nat) (hq:q<ps.length) (hL:ps.length<=1048576) (P:List Int) (hP:P∈ps) (pl:P.length=n) (pr:∀i:Nat,i<n->0<=rd P i/\rd P i<n):∀(d i:Nat) (o:List Int) (g:Bool),n-i=d->i<=n->sG ps n o->
 ∃(o':List Int) (g':Bool),sG ps n o'/\(∀r,Ev (fun k=>fX.l1 k ps o' g' ps ps.length ((q+1:Nat):Int)) r->Ev (fun k=>fX.l2 k ps o g ps ps.length q P n i) r)/\tot o'<=tot o/\
  (g'=true->g=true\/tot o'<tot o)/\(g'=false->g=false/\o'=o/\∀j:Nat,i<=j->j<n->rd o (rd P j)=rd o j)
 |0,i,o,g,hd,hi,ho=>by
  refine⟨o,g,ho,fun r h=>Ev.s ?_,by omega,fun h=>.inl h,fun h=>⟨h,rfl,fun j h1 h2=>by omega⟩⟩;simp only[fX.l2,show ¬(i:Int)<(n:Int) by omega,if_false];rw[w64 (x:=(q:Int)+1) (by omega) (by omega),show((q:Int)+1)=((q+1:Nat):Int) by omega];exact h
 |d+1,i,o,g,hd,hi,ho=>by
  have hlt:i<n:=by omega
  have hd1:n-(i+1)=d:=by omega
  have hw:wrap64 ((i:Int)+1)=((i+1:Nat):Int):=by rw[w64 (by omega) (by omega)];omega
  have hr:=pr i hlt;have hst:=Reach.step hP hlt;have hlen:=ho.1;obtain⟨t,ht⟩:∃t:Nat,rd P i=t:=⟨(rd P i).toNat,by omega⟩;rw[ht,Int.toNat_natCast]at hst
  have htn:t<n:=by omega
  obtain⟨i0,i1,i2⟩:=ho.2 i hlt;obtain⟨t0,t1,t2⟩:=ho.2 t htn;obtain⟨hm1,hm2,hm3⟩:=N7 (rd o i) (rd o t)
  have g1:(i:Int)<(n:Int):=by omega
  have g2:(0:Int)<=(i:Int):=by omega
  have g3:(0:Int)<=(t:Int):=by omega
  have g4:(t:Int)<(n:Int):=by omega
  obtain⟨v,hv⟩:∃v,mn (rd o i) (rd o t)=v:=⟨_,rfl⟩;rw[hv]at hm1 hm2 hm3
  by_cases hc:rd o i=v/\rd o t=v
  · obtain⟨c1,c2⟩:=hc
    obtain⟨o',g',a1,a2,a3,a4,a5⟩:=NT ps n hn q hq hL P hP pl pr d (i+1) o g hd1 hlt ho;refine⟨o',g',a1,fun r h=>Ev.s ?_,a3,a4,fun h=>?_⟩
    · simp only[fX.l2,g1,g2,g3,g4,pl,hlen,ht,hv,if_true,hw]
      simp only[c1,c2,if_true];exact a2 r h
    · obtain⟨b1,b2,b3⟩:=a5 h
      refine⟨b1,b2,fun j h1 h2=>?_⟩
      by_cases e:j=i
      ·rw[e,ht];omega
      ·exact b3 j (by omega) h2
  · have hv0:0<=v:=by omega
    have hrv:Reach ps n v.toNat i:=by
     rcases hm3 with e|e
     ·rw[e];exact i2
     ·rw[e];exact t2.trans hst.symm
    have ho1:=Fe ho hlt hv0 (by omega) hrv;have ho2:=Fe ho1 htn hv0 (by omega) (hrv.trans hst)
    have hd2:tot ((o.set i v).set t v)<tot o:=by
     have z1:=NP o i v (by omega);have z2:=NP (o.set i v) t v (by rw[List.length_set];omega)
     by_cases e:i=t
     · subst e
       rw[qV _ _ _ (by omega)]at z2;omega
     · rw[qa _ _ _ _ e]at z2
       omega
    obtain⟨o',g',a1,a2,a3,a4,a5⟩:=NT ps n hn q hq hL P hP pl pr d (i+1) ((o.set i v).set t v) true hd1 hlt ho2;refine⟨o',g',a1,fun r h=>Ev.s ?_,by omega,fun h=>.inr (by omega),fun h=>?_⟩
    · have hgo:=a2 r h
      by_cases c1:rd o i=v
      · have c2:¬rd o t=v:=fun e=>hc ⟨c1,e⟩
        simp only[fX.l2,g1,g2,g3,g4,pl,hlen,ht,hv,if_true,hw,Int.toNat_natCast];simp only[c1,c2,if_true,if_false];exact hgo
      · simp only[fX.l2,g1,g2,g3,g4,pl,hlen,ht,hv,if_true,hw,Int.toNat_natCast]
        simp only[c1,if_false];exact hgo
    · have:=(a5 h).1
      cases this
theorem Zd (ps:List (List Int)) (n:Nat) (hn:n<=12) (hL:ps.length<=1048576) (hp:∀p∈ps,inR n p):∀(d q:Nat) (o:List Int) (g:Bool),ps.length-q=d->q<=ps.length->sG ps n o->
 ∃(o':List Int) (g':Bool),sG ps n o'/\(∀r,Ev (fun k=>fX.l0 k ps o' g') r->Ev (fun k=>fX.l1 k ps o g ps ps.length q) r)/\tot o'<=tot o/\
  (g'=true->g=true\/tot o'<tot o)/\(g'=false->g=false/\o'=o/\∀z:Nat,q<=z->z<ps.length->∀j:Nat,j<n->rd o (rd (d7 ps z) j)=rd o j)
 |0,q,o,g,hd,hi,ho=>by
  refine⟨o,g,ho,fun r h=>Ev.s ?_,by omega,fun h=>.inl h,fun h=>⟨h,rfl,fun j h1 h2=>by omega⟩⟩;simp only[fX.l1,show ¬(q:Int)<(ps.length:Int) by omega,if_false];exact h
 |d+1,q,o,g,hd,hi,ho=>by
  have hlt:q<ps.length:=by omega
  have hd1:ps.length-(q+1)=d:=by omega
  have hP:d7 ps q∈ps:=by rw[Dk ps q hlt];exact List.getElem_mem hlt
  obtain⟨pl,pr⟩:=hp _ hP;obtain⟨o1,b1,c1,c2,c3,c4,c5⟩:=NT ps n hn q hlt hL _ hP pl pr n 0 o g (by omega) (by omega) ho;obtain⟨o2,b2,e1,e2,e3,e4,e5⟩:=Zd ps n hn hL hp d (q+1) o1 b1 hd1 hlt c1;refine⟨o2,b2,e1,fun r h=>Ev.s ?_,by omega,fun h=>?_,fun h=>?_⟩
  · simp only[fX.l1,show(q:Int)<(ps.length:Int) by omega,show(0:Int)<=(q:Int) by omega,if_true,pl]
    exact c2 r (e2 r h)
  · rcases e4 h with z|z
    · rcases c4 z with y|y
      ·exact .inl y
      ·exact .inr (by omega)
    ·exact .inr (by omega)
  · obtain⟨f1,f2,f3⟩:=e5 h
    obtain⟨g1,g2,g3⟩:=c5 f1;refine⟨g1,f2.trans g2,fun z hz hz' j hj=>?_⟩
    by_cases e:z=q
    ·rw[e];exact g3 j (by omega) hj
    · have:=f3 z (by omega) hz' j hj
      rwa [g2]at this
theorem ag0 (ps:List (List Int)) (n:Nat) (hn:n<=12) (hL:ps.length<=1048576) (hp:∀p∈ps,inR n p):∀(m:Nat) (o:List Int),tot o<=m->sG ps n o->∃o',yB ps n o'/\Ev (fun k=>fX.l0 k ps o true) o':=by
 intro m
 induction m using Nat.strongRecOn with
 |_ m ih=>
  intro o hm ho;obtain⟨o1,g1,c1,c2,c3,c4,c5⟩:=Zd ps n hn hL hp ps.length 0 o false (by omega) (by omega) ho
  cases g1 with
  |false=>
   obtain⟨_,e2,e3⟩:=c5 rfl;refine⟨o,⟨ho,fun p hp' i hi=>?_⟩,Ev.s ?_⟩
   · obtain⟨z,hz,rfl⟩:=List.mem_iff_getElem.1 hp'
     have:=e3 z (by omega) hz i hi
     rwa [Dk ps z hz]at this
   · simp only[fX.l0,if_true]
     refine c2 o (Ev.s ?_);simp only[fX.l0,Bool.false_eq_true,if_false];exact Ev.const (by rw[e2])
  |true=>
   have hlt:tot o1<tot o:=by
    rcases c4 rfl with z|z
    ·cases z
    ·exact z
   have h0:=N4 o1 fun i hi=>(c1.2 i (by rw[<-c1.1];exact hi)).1
   obtain⟨o',h1,h2⟩:=ih (tot o1).toNat (by omega) o1 (by omega) c1;refine⟨o',h1,Ev.s ?_⟩;simp only[fX.l0,if_true];exact c2 o' h2
theorem agf (ps:List (List Int)) (n:Nat) (hn:n<=12) (h0:0<ps.length) (hL:ps.length<=1048576) (hp:∀p∈ps,inR n p):∃o,yB ps n o/\Ev (fun k=>fX.f k ps) o:=by
 obtain⟨o,h1,h2⟩:=ag0 ps n hn hL hp (tot (stl n)).toNat (stl n) (by have:=N4 (stl n) (fun i hi=>by rw[X7 n i (by rwa [Dr]at hi)];omega);omega) (XL ps n);refine⟨o,h1,?_⟩
 unfold fX.f
 have hz:(d7 ps 0).length=n:=by
  have:=Dk ps 0 h0;rw[show((0:Nat):Int)=0 from rfl]at this;rw[this];exact(hp _ (List.getElem_mem h0)).1
 simp only[show(0:Int)<(ps.length:Int) by omega,if_true,hz];exact Ev.bind (ag8 n (by omega)) h2
def lag (o g:List Int):Nat->Nat
 |0=>0
 |i+1=>(if rd o i=rd g i then 0 else 1)+lag o g i
theorem Nn (o g:List Int):∀i,lag o g i<=i
 |0=>Nat.le_refl _
 |i+1=>by have:=Nn o g i;simp only[lag];split<;>omega
theorem ioo (o g:List Int):∀n,lag o g n=0->∀i,i<n->rd o i=rd g i
 |0,_,i,h=>by omega
 |n+1,hz,i,h=>by
  simp only[lag]at hz
  by_cases e:i=n
  · subst e
    by_cases c:rd o i=rd g i
    ·exact c
    ·rw[if_neg c]at hz;omega
  ·exact ioo o g n (by omega) i (by omega)
theorem I7 (o o' g:List Int) (h:∀i:Nat,rd o i=rd g i->rd o' i=rd g i):∀n,lag o' g n<=lag o g n
 |0=>Nat.le_refl _
 |n+1=>by
  have ih:=I7 o o' g h n;simp only[lag]
  by_cases c:rd o n=rd g n
  ·rw[if_pos c,if_pos (h n c)];omega
  ·rw[if_neg c];split<;>omega
theorem Jc (o o' g:List Int) (h:∀i:Nat,rd o i=rd g i->rd o' i=rd g i) (z:Nat) (hz:rd o z≠rd g z) (hz':rd o' z=rd g z):∀n,z<n->lag o' g n<lag o g n
 |0,hn=>by omega
 |n+1,hn=>by
  simp only[lag]
  by_cases e:z=n
  · subst e
    have:=I7 o o' g h z;rw[if_neg hz,if_pos hz'];omega
  · have ih:=Jc o o' g h z hz hz' n (by omega)
    by_cases c:rd o n=rd g n
    ·rw[if_pos c,if_pos (h n c)];omega
    ·rw[if_neg c];split<;>omega
theorem Vr (a b:Int):mn a b=if a<=b then a else b:=by unfold mn;split<;>split<;>omega
theorem XF (t f:List Int) (n:Nat) (hn:n<=12) (ht:inR n t) (hf:inR n f) (g:List Int) (hg:yB [t,f] n g) (round:Int):∀(d i:Nat) (o:List Int),n-i=d->i<=n->sG [t,f] n o->
 ∃o',sG [t,f] n o'/\(∀r,Ev (fun k=>jR.l0 k t f o' (wrap64 (round+1))) r->Ev (fun k=>jR.l1 k t f o round i) r)/\(∀z:Nat,z<n->rd o z=rd g z->rd o' z=rd g z)/\
  (∀j:Nat,i<=j->j<n->(rd o j=rd g j\/rd o (rd t j)=rd g (rd t j)\/rd o (rd f j)=rd g (rd f j))->rd o' j=rd g j/\rd o' (rd t j)=rd g (rd t j)/\rd o' (rd f j)=rd g (rd f j))
 |0,i,o,hd,hi,ho=>by
  refine⟨o,ho,fun r h=>Ev.s ?_,fun z _ h=>h,fun j h1 h2=>by omega⟩;simp only[jR.l1,ht.1,show ¬(i:Int)<(n:Int) by omega,if_false];exact h
 |d+1,i,o,hd,hi,ho=>by
  have hlt:i<n:=by omega
  have hd1:n-(i+1)=d:=by omega
  have hw:wrap64 ((i:Int)+1)=((i+1:Nat):Int):=by rw[w64 (by omega) (by omega)];omega
  have hps:∀p∈[t,f],inR n p:=by intro p hp;simp at hp;rcases hp with rfl|rfl<;>assumption
  have hra:=ht.2 i hlt;have hrb:=hf.2 i hlt;have sta:=Reach.step (ps:=[t,f]) (p:=t) (by simp) hlt;have stb:=Reach.step (ps:=[t,f]) (p:=f) (by simp) hlt;have ca:=hg.2 t (by simp) i hlt;have cb:=hg.2 f (by simp) i hlt;obtain⟨a,hta⟩:∃a:Nat,rd t i=a:=⟨(rd t i).toNat,by omega⟩;obtain⟨b,hfb⟩:∃b:Nat,rd f i=b:=⟨(rd f i).toNat,by omega⟩;rw[hta,Int.toNat_natCast]at sta;rw[hfb,Int.toNat_natCast]at stb;rw[hta]at ca;rw[hfb]at cb
  have han:a<n:=by omega
  have hbn:b<n:=by omega
  have hlen:=ho.1;obtain⟨i0,i1,i2⟩:=ho.2 i hlt;obtain⟨a0,a1,a2⟩:=ho.2 a han;obtain⟨b0,b1,b2⟩:=ho.2 b hbn;have li:=Dh hg ho hps hlt;have la:=Dh hg ho hps han;have lb:=Dh hg ho hps hbn;obtain⟨v,hv⟩:∃v,mn (rd o i) (mn (rd o a) (rd o b))=v:=⟨_,rfl⟩
  have hvm:v<=rd o i/\v<=rd o a/\v<=rd o b/\(v=rd o i\/v=rd o a\/v=rd o b):=by
   rw[<-hv,Vr,Vr]
   split<;>split at* <;>omega
  have hv0:0<=v:=by omega
  have hrv:Reach [t,f] n v.toNat i:=by
   rcases hvm.2.2.2 with e|e|e
   ·rw[e];exact i2
   ·rw[e];exact a2.trans sta.symm
   ·rw[e];exact b2.trans stb.symm
  have ho1:=Fe ho hlt hv0 (by omega) hrv;have ho2:=Fe ho1 han hv0 (by omega) (hrv.trans sta);have ho3:=Fe ho2 hbn hv0 (by omega) (hrv.trans stb);obtain⟨o3,Qn⟩:∃o3,((o.set i v).set a v).set b v=o3:=⟨_,rfl⟩;rw[Qn]at ho3
  have Kg:∀z:Nat,rd o3 z=if z=i\/z=a\/z=b then v else rd o z:=by
   intro z;rw[<-Qn]
   by_cases z3:b=z
   ·subst z3;rw[qV _ _ _ (by simp;omega)];simp
   · rw[qa _ _ _ _ z3]
     by_cases z2:a=z
     ·subst z2;rw[qV _ _ _ (by simp;omega)];simp
     · rw[qa _ _ _ _ z2]
       by_cases z1:i=z
       ·subst z1;rw[qV _ _ _ (by omega)];simp
       ·rw[qa _ _ _ _ z1,if_neg (by omega)]
  have Kh:∀z:Nat,z<n->rd o z=rd g z->rd o3 z=rd g z:=by
   intro z hz e;have l3:=Dh hg ho3 hps hz;rw[Kg z]at l3 ⊢
   by_cases c:z=i\/z=a\/z=b
   · rw[if_pos c]at l3 ⊢
     have:v<=rd o z:=by rcases c with rfl|rfl|rfl<;>omega
     omega
   ·rw[if_neg c];exact e
  obtain⟨o',c1,c2,c3,c4⟩:=XF t f n hn ht hf g hg round d (i+1) o3 hd1 hlt ho3;refine⟨o',c1,fun r h=>Ev.s ?_,fun z hz e=>c3 z hz (Kh z hz e),fun j h1 h2 hj=>?_⟩
  · have hgo:=c2 r h
    have g1:(i:Int)<(n:Int):=by omega
    have g2:(0:Int)<=(i:Int):=by omega
    have g3:(0:Int)<=(a:Int):=by omega
    have g4:(a:Int)<(n:Int):=by omega
    have g5:(0:Int)<=(b:Int):=by omega
    have g6:(b:Int)<(n:Int):=by omega
    simp only[jR.l1,ht.1,hf.1,hlen,g1,g2,g3,g4,g5,g6,hta,hfb,hv,if_true,hw,Int.toNat_natCast,Qn];exact hgo
  · by_cases e:j=i
    · subst e
      have l3:=Dh hg ho3 hps hlt
      have e3:rd o3 j=v:=by rw[Kg j,if_pos (.inl rfl)]
      have ea3:rd o3 a=v:=by rw[Kg a,if_pos (.inr (.inl rfl))]
      have eb3:rd o3 b=v:=by rw[Kg b,if_pos (.inr (.inr rfl))]
      rw[hta,hfb]at hj ⊢
      have hvg:v=rd g j:=by
       rcases hj with z|z|z<;>omega
      exact⟨c3 j hlt (by omega),c3 a han (by omega),c3 b hbn (by omega)⟩
    · refine c4 j (by omega) h2 ?_
      have hta':=ht.2 j h2;have hfb':=hf.2 j h2;obtain⟨a',ha'⟩:∃a':Nat,rd t j=a':=⟨(rd t j).toNat,by omega⟩;obtain⟨b',hb'⟩:∃b':Nat,rd f j=b':=⟨(rd f j).toNat,by omega⟩;rw[ha',hb']at hj ⊢
      rcases hj with z|z|z
      ·exact .inl (Kh j h2 z)
      ·exact .inr (.inl (Kh a' (by omega) z))
      ·exact .inr (.inr (Kh b' (by omega) z))
theorem VC (t f:List Int) (n:Nat) (hn:n<=12) (ht:inR n t) (hf:inR n f) (g:List Int) (hg:yB [t,f] n g):∀(d i:Nat) (o:List Int),n-i=d->i<=n->sG [t,f] n o->lag o g n<=d->Ev (fun k=>jR.l0 k t f o i) g
 |0,i,o,hd,hi,ho,hl=>by
  refine Ev.s ?_;simp only[jR.l0,ht.1,show ¬(i:Int)<(n:Int) by omega,if_false]
  have:o=g:=Fq o g (ho.1.trans hg.1.1.symm) fun z hz=>ioo o g n (by omega) z (by rw[<-ho.1];exact hz)
  exact Ev.const (by rw[this])
 |d+1,i,o,hd,hi,ho,hl=>by
  have hlt:i<n:=by omega
  have hd1:n-(i+1)=d:=by omega
  have hw:wrap64 ((i:Int)+1)=((i+1:Nat):Int):=by rw[w64 (by omega) (by omega)];omega
  have hps:∀p∈[t,f],inR n p:=by intro p hp;simp at hp;rcases hp with rfl|rfl<;>assumption
  obtain⟨o',c1,c2,c3,c4⟩:=XF t f n hn ht hf g hg i n 0 o (by omega) (by omega) ho;refine Ev.s ?_;simp only[jR.l0,ht.1,show(i:Int)<(n:Int) by omega,if_true];refine c2 g ?_;rw[hw];refine VC t f n hn ht hf g hg d (i+1) o' hd1 hlt c1 ?_
  have hout:∀z:Nat,¬z<n->rd o z=rd o' z:=by
   intro z hz
   unfold rd
   rw[Int.toNat_natCast,List.getD_eq_getElem?_getD,List.getD_eq_getElem?_getD,List.getElem?_eq_none (by rw[ho.1];omega),List.getElem?_eq_none (by rw[c1.1];omega)]
  have keep:∀z:Nat,rd o z=rd g z->rd o' z=rd g z:=fun z e=>by
   by_cases hz:z<n
   ·exact c3 z hz e
   ·rw[<-hout z hz];exact e
  by_cases hz:lag o g n=0
  · have:=I7 o o' g keep n
    omega
  ·
   have hex:∃z:Nat,z<n/\rd o z≠rd g z/\rd o' z=rd g z:=by
    refine Classical.byContradiction fun hno=>?_
    have hsame:∀z:Nat,z<n->(rd o z=rd g z↔rd o' z=rd g z):=fun z hz=>⟨keep z,fun e=>Classical.byContradiction fun hne=>hno ⟨z,hz,hne,e⟩⟩
    have hcl:wZ [t,f] n (fun z=>rd o z=rd g z):=by
     intro p hp k hk;have hr:=(hps p hp).2 k hk;obtain⟨a,ha⟩:∃a:Nat,rd p k=a:=⟨(rd p k).toNat,by omega⟩
     have han:a<n:=by omega
     rw[ha,Int.toNat_natCast]
     show rd o k=rd g k↔rd o a=rd g a
     have h4:=c4 k (by omega) hk
     simp at hp
     rcases hp with rfl|rfl
     · rw[ha]at h4
       exact⟨fun e=>(hsame a han).2 (h4 (.inl e)).2.1,fun e=>(hsame k hk).2 (h4 (.inr (.inl e))).1⟩
     · rw[ha]at h4
       exact⟨fun e=>(hsame a han).2 (h4 (.inl e)).2.2,fun e=>(hsame k hk).2 (h4 (.inr (.inr e))).1⟩
    have hall:∀z:Nat,z<n->rd o z=rd g z:=by
     intro z hz;obtain⟨g0,g1,g2⟩:=hg.1.2 z hz
     have hm:(rd g z).toNat<n:=by omega
     have e1:((rd g z).toNat:Int)=rd g z:=by omega
     have hgm:rd g ((rd g z).toNat:Nat)=rd g z:=M7 hg hps g2
     have hom:rd o ((rd g z).toNat:Nat)=rd g ((rd g z).toNat:Nat):=by
      have h1:=Dh hg ho hps hm;have h2:=(ho.2 _ hm).2.1;omega
     exact(g2 _ hcl).1 hom
    have:lag o g n=0:=by
     have hz0:∀m,m<=n->lag o g m=0:=by
      intro m
      induction m with
      |zero=>intro _;rfl
      |succ m ih=>intro hm;simp only[lag];rw[if_pos (hall m (by omega)),ih (by omega)]
     exact hz0 n (Nat.le_refl _)
    exact hz this
   obtain⟨z,z1,z2,z3⟩:=hex;have:=Jc o o' g keep z z2 z3 n z1;omega
theorem V4 (t f:List Int) (n:Nat) (hn:n<=12) (h1:1<=n) (ht:inR n t) (hf:inR n f):∃o,yB [t,f] n o/\Ev (fun k=>jR.f k t f) o/\Ev (fun k=>fX.f k [t,f]) o:=by
 have hps:∀p∈[t,f],inR n p:=by intro p hp;simp at hp;rcases hp with rfl|rfl<;>assumption
 obtain⟨o,ho,he⟩:=agf [t,f] n hn (by simp) (by simp) hps;refine⟨o,ho,?_,he⟩
 unfold jR.f
 rw[ht.1];refine Ev.bind (afR n (by omega)) ?_;refine VC t f n hn ht hf o ho n 0 (stl n) (by omega) (by omega) (XL _ n) ?_;exact Nn _ _ n
theorem tO (l:List Int) (h:uJ l):inR l.length l:=⟨rfl,fun i hi=>⟨(h.2.2 i hi).1,(h.2.2 i hi).2.1⟩⟩
def qO (f:List Int) (i:Nat):Prop:=rd f i≠i/\rd f (rd f i)=i
def isMap (t f:List Int):Prop:=uJ t/\uJ f/\t.length=f.length/\(∀i:Nat,i<f.length->qO f i)/\∀i j:Nat,i<f.length->j<f.length->Reach [t,f] f.length i j
def Av:List Int->Int->Int
 |[],m=>m
 |x::xs,m=>Av xs (mx m x)
theorem Xj:∀(l:List Int) (m:Int),0<=m->(∀x∈l,0<=x)->0<=Av l m/\(Av l m=0↔m=0/\∀x∈l,x=0)
 |[],m,hm,_=>by simp[Av,hm]
 |x::xs,m,hm,hx=>by
  have hx0:=hx x (by simp)
  have hmx:0<=mx m x/\(mx m x=0↔m=0/\x=0):=by unfold mx;split<;>omega
  obtain⟨h1,h2⟩:=Xj xs (mx m x) hmx.1 fun y hy=>hx y (by simp[hy])
  refine⟨h1,?_⟩;simp only[Av,h2,hmx.2,List.mem_cons,forall_eq_or_imp,and_assoc]
theorem W7 (l:List Int) (hl:l.length<=1048576):∀(d i:Nat) (m:Int),l.length-i=d->i<=l.length->Ev (fun k=>qj.l0 k l m i) (Av (l.drop i) m)
 |0,i,m,hd,hi=>by
  refine Ev.s ?_;simp only[qj.l0,show ¬(i:Int)<(l.length:Int) by omega,if_false];rw[List.drop_eq_nil_of_le (by omega)];exact Ev.const rfl
 |d+1,i,m,hd,hi=>by
  have hlt:i<l.length:=by omega
  refine Ev.s ?_;simp only[qj.l0,show(i:Int)<(l.length:Int) by omega,show(0:Int)<=(i:Int) by omega,if_true];rw[w64 (x:=(i:Int)+1) (by omega) (by omega),show((i:Int)+1)=((i+1:Nat):Int) by omega,List.drop_eq_getElem_cons hlt,kE l i hlt];exact W7 l hl d (i+1) _ (by omega) (by omega)
theorem aib (l:List Int) (hl:l.length<=1048576) (h1:1<=l.length) (h0:∀x∈l,0<=x):∃m,Ev (fun k=>qj.f k l) m/\(m=0↔∀x∈l,x=0):=by
 cases l with
 |nil=>simp at h1
 |cons x xs=>
  refine⟨Av xs x,?_,?_⟩
  · unfold qj.f
    simp only[show ¬(((x::xs).length:Nat):Int)<1 by omega,show(0:Int)<(((x::xs).length:Nat):Int) by omega,if_true,if_false];exact W7 (x::xs) hl _ 1 x rfl h1
  · rw[(Xj xs x (h0 x (by simp)) fun y hy=>h0 y (by simp[hy])).2]
    simp
theorem Yn (t f:List Int) (hf:uJ f):∀(d i:Nat),f.length-i=d->i<=f.length->
 ((∀q:Nat,i<=q->q<f.length->qO f q)->∀r,Ev (fun k=>(jR.f k t f).bind fun o=>fV.l1 k o 0) r->Ev (fun k=>fV.l0 k i t f) r)/\(¬(∀q:Nat,i<=q->q<f.length->qO f q)->Ev (fun k=>fV.l0 k i t f) false)
 |0,i,hd,hi=>by
  refine⟨fun _ r h=>Ev.s ?_,fun h=>absurd (fun q h1 h2=>by omega) h⟩;simp only[fV.l0,show ¬(i:Int)<(f.length:Int) by omega,if_false];exact h
 |d+1,i,hd,hi=>by
  have hlt:i<f.length:=by omega
  have hl12:=hf.2.1;have hr:=(tO f hf).2 i hlt;have ih:=Yn t f hf d (i+1) (by omega) (by omega)
  have hw:wrap64 ((i:Int)+1)=((i+1:Nat):Int):=by rw[w64 (by omega) (by omega)];omega
  have g1:(i:Int)<(f.length:Int):=by omega
  have g2:(0:Int)<=(i:Int):=by omega
  by_cases c1:rd f i=i
  · refine⟨fun h=>absurd c1 (h i (Nat.le_refl _) hlt).1,fun h=>Ev.s ?_⟩
    simp only[fV.l0,g1,g2,c1,if_true];exact Ev.const rfl
  · by_cases c2:rd f (rd f i)=i
    · refine⟨fun h r hr'=>Ev.s ?_,fun h=>Ev.s ?_⟩
      · simp only[fV.l0,g1,g2,c1,c2,hr.1,hr.2,if_true,if_false,hw]
        exact ih.1 (fun q h1 h2=>h q (by omega) h2) r hr'
      · simp only[fV.l0,g1,g2,c1,c2,hr.1,hr.2,if_true,if_false,hw]
        refine ih.2 fun h'=>h fun q h1 h2=>?_
        by_cases e:q=i
        ·rw[e];exact⟨c1,c2⟩
        ·exact h' q (by omega) h2
    · refine⟨fun h=>absurd (h i (Nat.le_refl _) hlt).2 c2,fun h=>Ev.s ?_⟩
      simp only[fV.l0,g1,g2,c1,c2,hr.1,hr.2,if_true,if_false];exact Ev.const rfl
theorem WB (t f:List Int) (hf:uJ f):∀(d i:Nat),f.length-i=d->i<=f.length->
 ((∀q:Nat,i<=q->q<f.length->qO f q)->∀r,Ev (fun k=>(fX.f k [t,f]).bind fun o=>(qj.f k o).bind fun m=>some (m==0)) r->Ev (fun k=>eN.l0 k f f.length i t f) r)/\(¬(∀q:Nat,i<=q->q<f.length->qO f q)->Ev (fun k=>eN.l0 k f f.length i t f) false)
 |0,i,hd,hi=>by
  refine⟨fun _ r h=>Ev.s ?_,fun h=>absurd (fun q h1 h2=>by omega) h⟩;simp only[eN.l0,show ¬(i:Int)<(f.length:Int) by omega,if_false];exact h
 |d+1,i,hd,hi=>by
  have hlt:i<f.length:=by omega
  have hl12:=hf.2.1;have hr:=(tO f hf).2 i hlt;have ih:=WB t f hf d (i+1) (by omega) (by omega)
  have hw:wrap64 ((i:Int)+1)=((i+1:Nat):Int):=by rw[w64 (by omega) (by omega)];omega
  have g1:(i:Int)<(f.length:Int):=by omega
  have g2:(0:Int)<=(i:Int):=by omega
  by_cases c1:rd f i=i
  · refine⟨fun h=>absurd c1 (h i (Nat.le_refl _) hlt).1,fun h=>Ev.s ?_⟩
    simp only[eN.l0,g1,g2,c1,if_true];exact Ev.const rfl
  · by_cases c2:rd f (rd f i)=i
    · refine⟨fun h r hr'=>Ev.s ?_,fun h=>Ev.s ?_⟩
      · simp only[eN.l0,g1,g2,c1,c2,hr.1,hr.2,if_true,if_false,hw]
        exact ih.1 (fun q h1 h2=>h q (by omega) h2) r hr'
      · simp only[eN.l0,g1,g2,c1,c2,hr.1,hr.2,if_true,if_false,hw]
        refine ih.2 fun h'=>h fun q h1 h2=>?_
        by_cases e:q=i
        ·rw[e];exact⟨c1,c2⟩
        ·exact h' q (by omega) h2
    · refine⟨fun h=>absurd (h i (Nat.le_refl _) hlt).2 c2,fun h=>Ev.s ?_⟩
      simp only[eN.l0,g1,g2,c1,c2,hr.1,hr.2,if_true,if_false];exact Ev.const rfl
theorem Wk (o:List Int) (hl:o.length<=1048576):∀(d i:Nat),o.length-i=d->i<=o.length->
 ((∀q:Nat,i<=q->q<o.length->rd o q=0)->Ev (fun k=>fV.l1 k o i) true)/\(¬(∀q:Nat,i<=q->q<o.length->rd o q=0)->Ev (fun k=>fV.l1 k o i) false)
 |0,i,hd,hi=>by
  refine⟨fun _=>Ev.s ?_,fun h=>absurd (fun q h1 h2=>by omega) h⟩;simp only[fV.l1,show ¬(i:Int)<(o.length:Int) by omega,if_false];exact Ev.const rfl
 |d+1,i,hd,hi=>by
  have hlt:i<o.length:=by omega
  have ih:=Wk o hl d (i+1) (by omega) (by omega)
  have hw:wrap64 ((i:Int)+1)=((i+1:Nat):Int):=by rw[w64 (by omega) (by omega)];omega
  have g1:(i:Int)<(o.length:Int):=by omega
  have g2:(0:Int)<=(i:Int):=by omega
  by_cases c:rd o i=0
  · refine⟨fun h=>Ev.s ?_,fun h=>Ev.s ?_⟩
    · simp only[fV.l1,g1,g2,c,if_true,hw]
      exact ih.1 fun q h1 h2=>h q (by omega) h2
    · simp only[fV.l1,g1,g2,c,if_true,hw]
      refine ih.2 fun h'=>h fun q h1 h2=>?_
      by_cases e:q=i
      ·rw[e];exact c
      ·exact h' q (by omega) h2
  · refine⟨fun h=>absurd (h i (Nat.le_refl _) hlt) c,fun h=>Ev.s ?_⟩
    simp only[fV.l1,g1,g2,c,if_true,if_false];exact Ev.const rfl
theorem VY (t f:List Int) (n:Nat) (h1:1<=n) (ht:inR n t) (hf:inR n f) (o:List Int) (ho:yB [t,f] n o):(∀q:Nat,q<n->rd o q=0)↔∀i j:Nat,i<n->j<n->Reach [t,f] n i j:=by
 have hps:∀p∈[t,f],inR n p:=by intro p hp;simp at hp;rcases hp with rfl|rfl<;>assumption
 constructor
 · intro h i j hi hj
   have e1:=(ho.1.2 i hi).2.2;have e2:=(ho.1.2 j hj).2.2;rw[h i hi]at e1;rw[h j hj]at e2;exact e1.symm.trans e2
 · intro h q hq
   have:=M7 ho hps (h q 0 hq (by omega));have h0:=ho.1.2 0 (by omega);omega
theorem AL (t f:List Int) (ht:t.length<=1048576) (hf:f.length<=1048576):∃b:Bool,Ev (fun k=>fV.f k t f) b/\Ev (fun k=>eN.f k t f) b/\(b=true↔isMap t f):=by
 obtain⟨bt,t1,t2,t3⟩:=I1 t ht;obtain⟨bf,f1,f2,f3⟩:=I1 f hf
 have hb:∀b:Bool,(∃c:Bool,Ev (fun k=>sy.f k t f) c/\(c=true↔uJ t/\uJ f/\t.length=f.length)):=fun _=>by
  unfold sy.f
  cases bt with
  |false=>exact⟨false,Ev.bind t1 (Ev.const rfl),⟨fun h=>(by cases h),fun h=>absurd (t3.2 h.1) (by decide)⟩⟩
  |true=>
   cases bf with
   |false=>exact⟨false,Ev.bind t1 (by simp only[if_true];exact Ev.bind f1 (Ev.const rfl)),⟨fun h=>(by cases h),fun h=>absurd (f3.2 h.2.1) (by decide)⟩⟩
   |true=>exact⟨((t.length:Int)==(f.length:Int)),Ev.bind t1 (by simp only[if_true];exact Ev.bind f1 (Ev.const rfl)),⟨fun h=>⟨t3.1 rfl,f3.1 rfl,by have:=beq_iff_eq.1 h;omega⟩,fun h=>by rw[beq_iff_eq];omega⟩⟩
 obtain⟨c,c1,c2⟩:=hb true
 by_cases hall:uJ t/\uJ f/\t.length=f.length
 · obtain⟨pt,pf,hlen⟩:=hall
   have hc:c=true:=c2.2 ⟨pt,pf,hlen⟩;subst hc;have hbt:bt=true:=t3.2 pt;have hbf:bf=true:=f3.2 pf;subst hbt;subst hbf
   have hne:(((t.length:Int)) !=(f.length:Int))=false:=by rw[bne_eq_false_iff_eq];omega
   have hrt:inR f.length t:=by have:=tO t pt;rwa [hlen]at this
   have hrf:=tO f pf;obtain⟨o,o1,o2,o3⟩:=V4 t f f.length pf.2.1 pf.1 hrt hrf
   have hS:∀r,Ev (fun k=>fV.l0 k 0 t f) r->Ev (fun k=>fV.f k t f) r:=fun r h=>by
    unfold fV.f
    refine Ev.bind c1 ?_;simp only[if_true];exact h
   have hI:∀r,Ev (fun k=>eN.l0 k f f.length 0 t f) r->Ev (fun k=>eN.f k t f) r:=fun r h=>by
    unfold eN.f
    refine Ev.bind t2 ?_;simp only[if_true];refine Ev.bind f2 ?_;simp only[if_true,hne];refine Ev.s ?_;simp only[eN.j0,Bool.false_eq_true,if_false];exact h
   have sF:=Yn t f pf f.length 0 (by omega) (by omega);have iF:=WB t f pf f.length 0 (by omega) (by omega)
   by_cases hfl:∀q:Nat,0<=q->q<f.length->qO f q
   · have zr:=Wk o (by rw[o1.1.1];omega) o.length 0 (by omega) (by omega)
     have oz:=VY t f f.length pf.1 hrt hrf o o1;obtain⟨m,m1,m2⟩:=aib o (by rw[o1.1.1];omega) (by rw[o1.1.1];exact pf.1) (fun x hx=>by
      obtain⟨i,hi,rfl⟩:=List.mem_iff_getElem.1 hx;have:=(o1.1.2 i (by rw[<-o1.1.1];exact hi)).1
      rwa [kE o i hi]at this)
     have hmz:m=0↔∀q:Nat,0<=q->q<o.length->rd o q=0:=by
      rw[m2]
      constructor
      · intro h q _ hq
        rw[kE o q hq];exact h _ (List.getElem_mem hq)
      · intro h x hx
        obtain⟨i,hi,rfl⟩:=List.mem_iff_getElem.1 hx;have:=h i (by omega) hi
        rwa [kE o i hi]at this
     by_cases hz:∀q:Nat,0<=q->q<o.length->rd o q=0
     · refine⟨true,hS _ (sF.1 hfl _ (Ev.bind o2 (zr.1 hz))),hI _ (iF.1 hfl _ (Ev.bind o3 (Ev.bind m1 (Ev.const ?_)))),?_⟩
       ·rw[hmz.2 hz];rfl
       ·refine⟨fun _=>⟨pt,pf,hlen,fun i hi=>hfl i (by omega) hi,oz.1 fun q hq=>hz q (by omega) (by rw[o1.1.1];exact hq)⟩,fun _=>rfl⟩
     · refine⟨false,hS _ (sF.1 hfl _ (Ev.bind o2 (zr.2 hz))),hI _ (iF.1 hfl _ (Ev.bind o3 (Ev.bind m1 (Ev.const ?_)))),?_⟩
       · have:¬m=0:=fun e=>hz (hmz.1 e)
         simp[this]
       ·exact⟨fun h=>(by cases h),fun h=>absurd (fun q _ hq=>oz.2 h.2.2.2.2 q (by rw[<-o1.1.1];exact hq)) hz⟩
   ·exact⟨false,hS _ (sF.2 hfl),hI _ (iF.2 hfl),⟨fun h=>(by cases h),fun h=>absurd (fun q _ hq=>h.2.2.2.1 q hq) hfl⟩⟩
 · have hc:c=false:=by
    cases c with
    |false=>rfl
    |true=>exact absurd (c2.1 rfl) hall
   subst hc;refine⟨false,?_,?_,⟨fun h=>(by cases h),fun h=>absurd ⟨h.1,h.2.1,h.2.2.1⟩ hall⟩⟩
   · unfold fV.f
     exact Ev.bind c1 (Ev.const rfl)
   · have hj:Ev (fun k=>eN.j0 k true t f) false:=by
      refine Ev.s ?_;simp only[eN.j0,if_true];exact Ev.const rfl
     unfold eN.f
     refine Ev.bind t2 ?_
     cases bt with
     |false=>simp only[Bool.false_eq_true,if_false];exact hj
     |true=>
      simp only[if_true];refine Ev.bind f2 ?_
      cases bf with
      |false=>simp only[Bool.false_eq_true,if_false];exact hj
      |true=>
       have hne:(((t.length:Int)) !=(f.length:Int))=true:=by
        rw[bne_iff_ne];intro e;exact hall ⟨t3.1 rfl,f3.1 rfl,by omega⟩
       simp only[if_true,hne];exact hj
theorem FD (l:List Int) (i:Nat) (v:Int) (h:i<l.length):(l.set i v).take (i+1)=l.take i++[v]:=by
 rw[List.take_succ_eq_append_getElem (by simpa using h),List.take_set_of_le (Nat.le_refl _),List.getElem_set_self]
def bX (a b:List Int):Nat->List Int
 |0=>[]
 |i+1=>bX a b i++[rd b (rd a i)]
theorem tz (a b:List Int):∀n,(bX a b n).length=n
 |0=>rfl
 |n+1=>by simp[bX,tz a b n]
theorem mI (a b:List Int):∀(n i:Nat),i<n->rd (bX a b n) i=rd b (rd a i)
 |n+1,i,h=>by
  simp only[bX]
  by_cases e:i<n
  ·rw[FP _ _ _ (by rw[tz];exact e),mI a b n i e]
  · have:i=n:=by omega
    subst this
    have h2:i<(bX a b i++[rd b (rd a (i:Int))]).length:=by simp[tz]
    rw[kE _ i h2,List.getElem_append_right (by rw[tz];exact Nat.le_refl _)]
    simp[tz]
theorem qW (n:Nat) (a b:List Int) (ha:inR n a) (hb:inR n b):inR n (bX a b n):=by
 refine⟨tz a b n,fun i hi=>?_⟩;rw[mI a b n i hi];have h1:=ha.2 i hi;have h2:=hb.2 (rd a i).toNat (by omega)
 rwa [show((rd a i).toNat:Int)=rd a i by omega]at h2
theorem W4 (n:Nat) (hn:n<=1048576) (a b:List Int) (ha:inR n a) (hb:inR n b):∀(d i:Nat),n-i=d->i<=n->Ev (fun k=>nI.l0 k a b (bX a b i) i) (bX a b n)
 |0,i,hd,hi=>by
  have:i=n:=by omega
  subst this;refine Ev.s ?_;simp only[nI.l0,ha.1,show ¬(i:Int)<(i:Int) by omega,if_false];exact Ev.const rfl
 |d+1,i,hd,hi=>by
  have h1:=ha.2 i (by omega);have hb1:=hb.1;refine Ev.s ?_;simp only[nI.l0,ha.1,hb1,tz,show(i:Int)<(n:Int) by omega,show(0:Int)<=(i:Int) by omega,h1.1,h1.2,show i<17592186044416 by omega,if_true];rw[fz (by omega)];exact W4 n hn a b ha hb d (i+1) (by omega) (by omega)
theorem Jb (n:Nat) (hn:n<=1048576) (a b:List Int) (ha:inR n a) (hb:inR n b):Ev (fun k=>nI.f k a b) (bX a b n):=by
 unfold nI.f
 exact W4 n hn a b ha hb n 0 (by omega) (by omega)
theorem Xm (n:Nat) (hn:n<=1048576) (a b:List Int) (ha:inR n a) (hb:inR n b):∀(d i:Nat) (l:List Int),n-i=d->i<=n->l.length=n->l.take i=bX a b i->Ev (fun k=>iH.l0 k b l a n i) (bX a b n)
 |0,i,l,hd,hi,hl,ht=>by
  have:i=n:=by omega
  subst this;refine Ev.s ?_;simp only[iH.l0,show ¬(i:Int)<(i:Int) by omega,if_false];rw[List.take_of_length_le (by omega)]at ht;exact Ev.const (by rw[ht])
 |d+1,i,l,hd,hi,hl,ht=>by
  have h1:=ha.2 i (by omega);have hb1:=hb.1;refine Ev.s ?_;simp only[iH.l0,ha.1,hb1,hl,show(i:Int)<(n:Int) by omega,show(0:Int)<=(i:Int) by omega,h1.1,h1.2,if_true,Int.toNat_natCast];rw[fz (by omega)];refine Xm n hn a b ha hb d (i+1) _ (by omega) (by omega) (by simpa using hl) ?_;rw[FD _ _ _ (by omega),ht];rfl
theorem wW (n:Nat) (hn:n<=1048576) (a b:List Int) (ha:inR n a) (hb:inR n b):Ev (fun k=>iH.f k a b) (bX a b n):=by
 unfold iH.f
 have h1:n<=35184372088832:=by omega
 have h2:(0:Int)<=(n:Int):=by omega
 simp only[ha.1,Int.toNat_natCast,h1,h2,if_true];exact Xm n hn a b ha hb n 0 _ (by omega) (by omega) (by simp) (by simp[bX])
def fM (p:List Int) (n:Nat):Nat->List Int
 |0=>List.replicate n 0
 |i+1=>(fM p n i).set (rd p i).toNat i
theorem C5 (p:List Int) (n:Nat):∀i,(fM p n i).length=n
 |0=>by simp[fM]
 |i+1=>by simp[fM,C5 p n i]
theorem Zn (p:List Int) (n:Nat):∀(i:Nat),i<=n->∀j:Nat,j<n->0<=rd (fM p n i) j/\rd (fM p n i) j<n
 |0,_,j,hj=>by
  have:rd (fM p n 0) j=0:=by
   rw[kE _ j (by simp[fM];exact hj)]
   simp[fM]
  omega
 |i+1,hi,j,hj=>by
  have ih:=Zn p n i (by omega) j hj;simp only[fM]
  by_cases e:(rd p i).toNat=j
  · subst e
    rw[qV _ _ _ (by rw[C5];exact hj)];omega
  · rw[qa _ _ _ _ e]
    exact ih
theorem yE (p:List Int) (n:Nat):inR n (fM p n n):=⟨C5 p n n,Zn p n n (Nat.le_refl _)⟩
theorem E8 (p:List Int) (n:Nat) (hp:inR n p) (inj:∀i j:Nat,i<n->j<n->rd p i=rd p j->i=j):∀(i:Nat),i<=n->∀j:Nat,j<i->rd (fM p n i) (rd p j)=j
 |i+1,hi,j,hj=>by
  have hpj:=hp.2 j (by omega);have hpi:=hp.2 i (by omega);simp only[fM]
  by_cases e:j=i
  · subst e
    have h2:=qV (fM p n j) (rd p j).toNat j (by rw[C5];omega)
    rwa [show((rd p j).toNat:Int)=rd p j by omega]at h2
  · have hne:(rd p i).toNat≠(rd p j).toNat:=fun h=>e (inj j i (by omega) (by omega) (by omega))
    have h2:=qa (fM p n i) (rd p i).toNat (rd p j).toNat i hne;rw[show((rd p j).toNat:Int)=rd p j by omega]at h2;rw[h2];exact E8 p n hp inj i (by omega) j (by omega)
theorem Wy (n:Nat) (hn:n<=1048576) (p:List Int) (hp:inR n p):∀(d i:Nat),n-i=d->i<=n->Ev (fun k=>nF.l0 k p (fM p n i) i) (fM p n n)
 |0,i,hd,hi=>by
  have:i=n:=by omega
  subst this;refine Ev.s ?_;simp only[nF.l0,hp.1,show ¬(i:Int)<(i:Int) by omega,if_false];exact Ev.const rfl
 |d+1,i,hd,hi=>by
  have h1:=hp.2 i (by omega);refine Ev.s ?_;simp only[nF.l0,hp.1,C5,show(i:Int)<(n:Int) by omega,show(0:Int)<=(i:Int) by omega,h1.1,h1.2,if_true];rw[fz (by omega)];exact Wy n hn p hp d (i+1) (by omega) (by omega)
theorem NM (n:Nat) (hn:n<=1048576) (p:List Int) (hp:inR n p):Ev (fun k=>nF.f k p) (fM p n n):=by
 unfold nF.f
 have h1:n<=35184372088832:=by omega
 have h2:(0:Int)<=(n:Int):=by omega
 simp only[hp.1,Int.toNat_natCast,h1,h2,if_true];exact Wy n hn p hp n 0 (by omega) (by omega)
theorem Yk (n:Nat) (hn:n<=1048576) (p:List Int) (hp:inR n p):∀(d i:Nat),n-i=d->i<=n->Ev (fun k=>mH.l0 k (fM p n i) p n i) (fM p n n)
 |0,i,hd,hi=>by
  have:i=n:=by omega
  subst this;refine Ev.s ?_;simp only[mH.l0,show ¬(i:Int)<(i:Int) by omega,if_false];exact Ev.const rfl
 |d+1,i,hd,hi=>by
  have h1:=hp.2 i (by omega);refine Ev.s ?_;simp only[mH.l0,hp.1,C5,show(i:Int)<(n:Int) by omega,show(0:Int)<=(i:Int) by omega,h1.1,h1.2,if_true];rw[fz (by omega)];exact Yk n hn p hp d (i+1) (by omega) (by omega)
theorem IK (n:Nat) (hn:n<=1048576) (p:List Int) (hp:inR n p):Ev (fun k=>mH.f k p) (fM p n n):=by
 unfold mH.f
 have h1:n<=35184372088832:=by omega
 have h2:(0:Int)<=(n:Int):=by omega
 simp only[hp.1,Int.toNat_natCast,h1,h2,if_true];exact Yk n hn p hp n 0 (by omega) (by omega)
def tqT (a b:List Int):Nat->List Int
 |0=>[]
 |i+1=>tqT a b i++[2*rd a i,2*rd b i+1]
def tqF:Nat->List Int
 |0=>[]
 |i+1=>tqF i++[2*(i:Int)+1,2*(i:Int)]
theorem Fy (a b:List Int):∀n,(tqT a b n).length=2*n
 |0=>rfl
 |n+1=>by simp[tqT,Fy a b n];omega
theorem FH:∀n,(tqF n).length=2*n
 |0=>rfl
 |n+1=>by simp[tqF,FH n];omega
theorem XI (n:Nat) (hn:n<=1048576):∀(d i:Nat),n-i=d->i<=n->Ev (fun k=>fJ.l0 k n (tqF i) i) (tqF n)
 |0,i,hd,hi=>by
  have:i=n:=by omega
  subst this;refine Ev.s ?_;simp only[fJ.l0,show ¬(i:Int)<(i:Int) by omega,if_false];exact Ev.const rfl
 |d+1,i,hd,hi=>by
  refine Ev.s ?_;have e1:wrap64 (2*(i:Int))=2*(i:Int):=w64 (by omega) (by omega);have e2:wrap64 (2*(i:Int)+1)=2*(i:Int)+1:=w64 (by omega) (by omega);simp only[fJ.l0,show(i:Int)<(n:Int) by omega,if_true,Option.bind_some,e1,e2,FH,List.length_cons,List.length_nil,show 2*i+(0+1+1)<17592186044416 by omega];rw[fz (by omega)];exact XI n hn d (i+1) (by omega) (by omega)
theorem agx (n:Nat) (hn:n<=1048576):Ev (fun k=>fJ.f k n) (tqF n):=by
 unfold fJ.f
 exact XI n hn n 0 (by omega) (by omega)
theorem Vx (n:Nat) (hn:n<=12) (t f b F:List Int) (ht:inR n t) (hb:inR n b):∀(d i:Nat),n-i=d->i<=n->Ev (fun k=>ix.l0 k b i t f (tqT t b i) F) (tqT t b n,F,true)
 |0,i,hd,hi=>by
  have:i=n:=by omega
  subst this;refine Ev.s ?_;simp only[ix.l0,ht.1,show ¬(i:Int)<(i:Int) by omega,if_false];exact Ev.const rfl
 |d+1,i,hd,hi=>by
  have h1:=ht.2 i (by omega);have h2:=hb.2 i (by omega);refine Ev.s ?_;have e1:wrap64 (2*rd t i)=2*rd t i:=w64 (by omega) (by omega);have e2:wrap64 (2*rd b i)=2*rd b i:=w64 (by omega) (by omega);have e3:wrap64 (2*rd b i+1)=2*rd b i+1:=w64 (by omega) (by omega)
  have hi':(i:Int)<(n:Int):=by omega
  have h0:(0:Int)<=(i:Int):=by omega
  have hz:2*i+(0+1+1)<17592186044416:=by omega
  simp only[ix.l0,ht.1,hb.1,hi',h0,if_true,Option.bind_some,e1,e2,e3,Fy,List.length_cons,List.length_nil,hz];rw[fz (by omega)];exact Vx n hn t f b F ht hb d (i+1) (by omega) (by omega)
theorem YN (l m:List Int) (i:Nat) (x y:Int) (hl:2*i+1<l.length) (h:l.take (2*i)=m):((l.set (2*i) x).set (2*i+1) y).take (2*(i+1))=m++[x,y]:=by
 rw[show 2*(i+1)=2*i+1+1 by omega,FD _ _ _ (by simpa using hl),FD _ _ _ (by omega),h]
 simp
theorem NV (n:Nat) (hn:n<=12) (t f b:List Int) (ht:inR n t) (hb:inR n b):∀(d i:Nat) (T F:List Int),n-i=d->i<=n->T.length=2*n->F.length=2*n->T.take (2*i)=tqT t b i->F.take (2*i)=tqF i->
 Ev (fun k=>dw.l0 k b n i t f T F) (tqT t b n,tqF n,true)
 |0,i,T,F,hd,hi,hT,hF,tT,tF=>by
  have:i=n:=by omega
  subst this;refine Ev.s ?_;simp only[dw.l0,show ¬(i:Int)<(i:Int) by omega,if_false];rw[List.take_of_length_le (by omega)]at tT tF;exact Ev.const (by rw[tT,tF])
 |d+1,i,T,F,hd,hi,hT,hF,tT,tF=>by
  have h1:=ht.2 i (by omega);have h2:=hb.2 i (by omega);refine Ev.s ?_;have e1:wrap64 (2*rd t i)=2*rd t i:=w64 (by omega) (by omega);have e2:wrap64 (2*rd b i)=2*rd b i:=w64 (by omega) (by omega);have e3:wrap64 (2*rd b i+1)=2*rd b i+1:=w64 (by omega) (by omega);have e4:wrap64 (2*(i:Int))=2*(i:Int):=w64 (by omega) (by omega);have e5:wrap64 (2*(i:Int)+1)=2*(i:Int)+1:=w64 (by omega) (by omega)
  have hi':(i:Int)<(n:Int):=by omega
  have h0:(0:Int)<=(i:Int):=by omega
  have g1:(0:Int)<=2*(i:Int):=by omega
  have g2:2*(i:Int)<((2*n:Nat):Int):=by omega
  have g3:(0:Int)<=2*(i:Int)+1:=by omega
  have g4:2*(i:Int)+1<((2*n:Nat):Int):=by omega
  have n1:(2*(i:Int)).toNat=2*i:=by omega
  have n2:(2*(i:Int)+1).toNat=2*i+1:=by omega
  simp only[dw.l0,ht.1,hb.1,hT,hF,hi',h0,e1,e2,e3,e4,e5,g1,g2,g3,g4,if_true,n1,n2];rw[fz (by omega)];exact NV n hn t f b ht hb d (i+1) _ _ (by omega) (by omega) (by simpa using hT) (by simpa using hF) (YN _ _ _ _ _ (by omega) tT) (YN _ _ _ _ _ (by omega) tF)
theorem agj (t f:List Int) (ht:t.length<=1048576) (hf:f.length<=1048576):∃(T F:List Int) (b:Bool),Ev (fun k=>ix.f k t f) (T,F,b)/\Ev (fun k=>dw.f k t f) (T,F,b)/\T.length<=12/\F.length<=12:=by
 obtain⟨b,b1,b2,b3⟩:=AL t f ht hf;have hno:Ev (fun k=>ix.j0 k true t f) ([],[],false):=Ev.s (by simp only[ix.j0,if_true];exact Ev.const rfl);have hno':Ev (fun k=>dw.j0 k true t f) ([],[],false):=Ev.s (by simp only[dw.j0,if_true];exact Ev.const rfl)
 unfold ix.f dw.f
 cases b with
 |false=>exact⟨[],[],false,Ev.bind b1 (by simp only[Bool.false_eq_true,if_false];exact hno),Ev.bind b2 (by simp only[Bool.false_eq_true,if_false];exact hno'),by simp,by simp⟩
 |true=>
  obtain⟨pt,pf,hlen,-,-⟩:=b3.1 rfl
  by_cases h6:(t.length:Int)>6
  · refine⟨[],[],false,Ev.bind b1 ?_,Ev.bind b2 ?_,by simp,by simp⟩
    ·simp only[if_true,decide_eq_true h6];exact hno
    ·simp only[if_true,decide_eq_true h6];exact hno'
  · have hrt:inR t.length t:=tO t pt
    have hrf:inR t.length f:=by have:=tO f pf;rwa [<-hlen]at this
    have hn:t.length<=6:=by omega
    have hm:=qW t.length f t hrf hrt;have hb:=yE (bX f t t.length) t.length;refine⟨tqT t (fM (bX f t t.length) t.length t.length) t.length,tqF t.length,true,Ev.bind b1 ?_,Ev.bind b2 ?_,by rw[Fy];omega,by rw[FH];omega⟩
    · simp only[if_true,decide_eq_false h6]
      refine Ev.s ?_;simp only[ix.j0,Bool.false_eq_true,if_false]
      have hfaces:Ev (fun k=>sK.f k t f) (bX f t t.length):=by
       unfold sK.f
       exact Ev.bind (Jb t.length (by omega) f t hrf hrt) (Ev.const rfl)
      refine Ev.bind hfaces ?_;refine Ev.bind (NM t.length (by omega) _ hm) ?_;refine Ev.bind (agx t.length (by omega)) ?_;exact Vx t.length (by omega) t f _ _ hrt hb t.length 0 (by omega) (by omega)
    · simp only[if_true,decide_eq_false h6]
      refine Ev.s ?_;simp only[dw.j0,Bool.false_eq_true,if_false];refine Ev.bind (wW t.length (by omega) f t hrf hrt) ?_;refine Ev.bind (IK t.length (by omega) _ hm) ?_;have e1:wrap64 (2*(t.length:Int))=2*(t.length:Int):=w64 (by omega) (by omega)
      have n1:(2*(t.length:Int)).toNat=2*t.length:=by omega
      have g1:(0:Int)<=2*(t.length:Int):=by omega
      have g2:2*t.length<=35184372088832:=by omega
      simp only[e1,n1,g1,g2,if_true];exact NV t.length (by omega) t f _ hrt hb t.length 0 (List.replicate (2*t.length) 0) (List.replicate (2*t.length) 0) (by omega) (by omega) (by simp) (by simp) rfl rfl
theorem vF:∀(a b:List Nat),a.Nodup->(∀x∈a,x∈b)->a.length<=b.length
 |[],b,_,_=>Nat.zero_le _
 |x::a,b,hn,h=>by
  have hx:=h x (by simp);obtain⟨hxa,hna⟩:=List.nodup_cons.1 hn
  have ih:=vF a (b.erase x) hna fun y hy=>(List.mem_erase_of_ne (by rintro rfl;exact hxa hy)).2 (h y (by simp[hy]))
  rw[List.length_erase_of_mem hx]at ih;have:=List.length_pos_of_mem hx;simp only[List.length_cons];omega
def itr (t:List Int):Nat->Int->Int
 |0,x=>x
 |k+1,x=>itr t k (rd t x)
theorem sJ (t:List Int) (n:Nat) (ht:inR n t):∀(k:Nat) (x:Int),0<=x/\x<n->0<=itr t k x/\itr t k x<n
 |0,x,h=>h
 |k+1,x,h=>by
  have:=ht.2 x.toNat (by omega);rw[show((x.toNat:Nat):Int)=x by omega]at this;exact sJ t n ht k _ this
theorem wY (t:List Int):∀(a b:Nat) (x:Int),itr t (a+b) x=itr t b (itr t a x)
 |0,b,x=>by rw[Nat.zero_add];rfl
 |a+1,b,x=>by
  rw[show a+1+b=(a+b)+1 by omega];exact wY t a b _
def fK (n:Nat) (t:List Int):Prop:=∀i j:Nat,i<n->j<n->rd t i=rd t j->i=j
theorem IX (t:List Int) (n:Nat) (ht:inR n t) (hi:fK n t):∀(k:Nat) (x y:Int),0<=x/\x<n->0<=y/\y<n->itr t k x=itr t k y->x=y
 |0,x,y,_,_,h=>h
 |k+1,x,y,hx,hy,h=>by
  have a1:=ht.2 x.toNat (by omega);have a2:=ht.2 y.toNat (by omega)
  have ex:((x.toNat:Nat):Int)=x:=by omega
  have ey:((y.toNat:Nat):Int)=y:=by omega
  rw[ex]at a1;rw[ey]at a2;have h1:=IX t n ht hi k _ _ a1 a2 h;have:=hi x.toNat y.toNat (by omega) (by omega) (by rw[ex,ey];exact h1);omega
theorem FN (t:List Int) (n:Nat) (ht:inR n t) (hi:fK n t) (x:Int) (hx:0<=x/\x<n):∃k:Nat,k<n/\itr t (k+1) x=x:=by
 by_cases h:∃i j:Nat,i<j/\j<=n/\itr t i x=itr t j x
 · obtain⟨i,j,h1,h2,h3⟩:=h
   refine⟨j-i-1,by omega,?_⟩
   have e:itr t j x=itr t i (itr t (j-i-1+1) x):=by rw[<-wY,show j-i-1+1+i=j by omega]
   rw[e]at h3;exact(IX t n ht hi i _ _ hx (sJ t n ht _ x hx) h3).symm
 · exfalso
   have h1:=vF ((List.range (n+1)).map fun i=>(itr t i x).toNat) (List.range n) ?_ ?_
   · rw[List.length_map,List.length_range,List.length_range]at h1
     omega
   · rw[List.Nodup,List.pairwise_map]
     refine List.Pairwise.imp_of_mem ?_ (List.pairwise_lt_range (n:=n+1));intro a b ha hb hab e;have ia:=sJ t n ht a x hx;have ib:=sJ t n ht b x hx;exact h ⟨a,b,hab,by have:=List.mem_range.1 hb;omega,by omega⟩
   · intro y hy
     obtain⟨a,ha,rfl⟩:=List.mem_map.1 hy;have ia:=sJ t n ht a x hx;exact List.mem_range.2 (by omega)
def Cnt (n:Nat) (P:Nat->Prop) (k:Nat):Prop:=∃L:List Nat,L.Nodup/\(∀x,x∈L↔x<n/\P x)/\L.length=k
theorem Cnt.ex (P:Nat->Prop):∀n,∃k,Cnt n P k/\k<=n
 |0=>⟨0,⟨[],List.nodup_nil,by simp,rfl⟩,Nat.le_refl _⟩
 |n+1=>by
  obtain⟨k,⟨L,h1,h2,h3⟩,hk⟩:=Cnt.ex P n
  by_cases h:P n
  · refine⟨k+1,⟨n::L,List.nodup_cons.2 ⟨fun z=>by have:=((h2 n).1 z).1;omega,h1⟩,fun x=>?_,by simp[h3]⟩,by omega⟩
    rw[List.mem_cons,h2]
    constructor
    · rintro(rfl|⟨a,b⟩)
      ·exact⟨by omega,h⟩
      ·exact⟨by omega,b⟩
    · rintro⟨a,b⟩
      by_cases e:x=n
      ·exact .inl e
      ·exact .inr ⟨by omega,b⟩
  · refine⟨k,⟨L,h1,fun x=>?_,h3⟩,by omega⟩
    rw[h2]
    constructor
    ·rintro⟨a,b⟩;exact⟨by omega,b⟩
    · rintro⟨a,b⟩
      by_cases e:x=n
      ·exact absurd (e▸b) h
      ·exact⟨by omega,b⟩
theorem Cnt.le {n:Nat} {P Q:Nat->Prop} {k l:Nat} (hp:Cnt n P k) (hq:Cnt n Q l) (g:Nat->Nat) (hg:∀x,x<n->P x->g x<n/\Q (g x)) (hi:∀x y,x<n->P x->y<n->P y->g x=g y->x=y):k<=l:=by
 obtain⟨L,h1,h2,rfl⟩:=hp;obtain⟨M,m1,m2,rfl⟩:=hq;rw[<-List.length_map (f:=g)];refine vF _ _ ?_ ?_
 · rw[List.Nodup,List.pairwise_map]
   refine List.Pairwise.imp_of_mem ?_ h1;intro a b ha hb hab e;exact hab (hi a b ((h2 a).1 ha).1 ((h2 a).1 ha).2 ((h2 b).1 hb).1 ((h2 b).1 hb).2 e)
 · intro y hy
   obtain⟨a,ha,rfl⟩:=List.mem_map.1 hy;exact(m2 _).2 (hg a ((h2 a).1 ha).1 ((h2 a).1 ha).2)
theorem Cnt.sub {n:Nat} {P Q:Nat->Prop} {k l:Nat} (hp:Cnt n P k) (hq:Cnt n Q l) (h:∀x,x<n->P x->Q x):k<=l:=
 hp.le hq (fun x=>x) (fun x hx px=>⟨hx,h x hx px⟩) (fun _ _ _ _ _ _ e=>e)
theorem Cnt.same {n:Nat} {P Q:Nat->Prop} {k l:Nat} (hp:Cnt n P k) (hq:Cnt n Q l) (h:∀x,x<n->(P x↔Q x)):k=l:=
 Nat.le_antisymm (hp.sub hq fun x hx=>(h x hx).1) (hq.sub hp fun x hx=>(h x hx).2)
theorem Cnt.congr {n:Nat} {P Q:Nat->Prop} {k:Nat} (hp:Cnt n P k) (h:∀x,x<n->(P x↔Q x)):Cnt n Q k:=by
 obtain⟨L,h1,h2,h3⟩:=hp;exact⟨L,h1,fun x=>by rw[h2];exact⟨fun z=>⟨z.1,(h x z.1).1 z.2⟩,fun z=>⟨z.1,(h x z.1).2 z.2⟩⟩,h3⟩
theorem Cnt.reps {n:Nat} {P Q:Nat->Prop} {k l:Nat} (R:Nat->Nat->Prop) (hs:∀x y,R x y->R y x) (ht:∀x y z,R x y->R y z->R x z) (hp:Cnt n P k) (hq:Cnt n Q l)
 (h:∀x,x<n->P x->∃y,y<n/\Q y/\R x y) (hu:∀x y,x<n->P x->y<n->P y->R x y->x=y):k<=l:=by
 classical
 refine hp.le hq (fun x=>if hx:x<n/\P x then Classical.choose (h x hx.1 hx.2)else 0) (fun x hx px=>?_) (fun x y hx px hy py e=>?_)
 · rw[dif_pos ⟨hx,px⟩]
   have:=Classical.choose_spec (h x hx px);exact⟨this.1,this.2.1⟩
 · rw[dif_pos ⟨hx,px⟩,dif_pos ⟨hy,py⟩]at e
   have h1:=(Classical.choose_spec (h x hx px)).2.2;have h2:=(Classical.choose_spec (h y hy py)).2.2;rw[e]at h1;exact hu x y hx px hy py (ht _ _ _ h1 (hs _ _ h2))
theorem Cnt.drop {n:Nat} {P Q:Nat->Prop} {k:Nat} (hp:Cnt n P k) (z:Nat) (hz:z<n) (pz:P z) (h:∀x,x<n->(Q x↔P x/\x≠z)):1<=k/\Cnt n Q (k-1):=by
 obtain⟨L,h1,h2,rfl⟩:=hp;have hm:z∈L:=(h2 z).2 ⟨hz,pz⟩;have:=List.length_pos_of_mem hm;refine⟨this,L.erase z,h1.erase z,fun x=>?_,List.length_erase_of_mem hm⟩;rw[h1.mem_erase_iff,h2]
 constructor
 ·rintro⟨a,b,c⟩;exact⟨b,(h x b).2 ⟨c,a⟩⟩
 ·rintro⟨a,b⟩;have:=(h x a).1 b;exact⟨this.2,a,this.1⟩
def lst (R:Nat->Nat->Prop) (j:Nat):Prop:=∀i,i<j->¬R i j
def Cl (n:Nat) (R:Nat->Nat->Prop) (k:Nat):Prop:=Cnt n (lst R) k
theorem Jo (R:Nat->Nat->Prop) (hr:∀x,R x x) (hs:∀x y,R x y->R y x) (ht:∀x y z,R x y->R y z->R x z):∀x,∃y,y<=x/\lst R y/\R y x:=by
 intro x
 induction x using Nat.strongRecOn with
 |ind x ih=>
  by_cases h:∃i,i<x/\R i x
  · obtain⟨i,hi,hri⟩:=h
    obtain⟨y,y1,y2,y3⟩:=ih i hi;exact⟨y,by omega,y2,ht _ _ _ y3 hri⟩
  ·exact⟨x,Nat.le_refl _,fun i hi hri=>h ⟨i,hi,hri⟩,hr x⟩
theorem Yv (R:Nat->Nat->Prop) (hs:∀x y,R x y->R y x) (x y:Nat) (hx:lst R x) (hy:lst R y) (h:R x y):x=y:=by
 by_cases h1:x<y
 ·exact absurd h (hy x h1)
 · by_cases h2:y<x
   ·exact absurd (hs _ _ h) (hx y h2)
   ·omega
theorem vE (p:List Int) (n:Nat) (hp:inR n p) (hi:fK n p) (S:Nat->Prop) (h:∀k,k<n->S k->S (rd p k).toNat):wZ [p] n S:=by
 intro q hq k hk
 have e:q=p:=by simpa using hq
 subst e;refine⟨h k hk,fun hs=>?_⟩;obtain⟨m,h1,h2⟩:=FN q n hp hi k (by omega)
 have g:∀(j:Nat) (x:Int),0<=x/\x<n->S x.toNat->S (itr q j x).toNat:=by
  intro j
  induction j with
  |zero=>intro x _ h;exact h
  |succ j ih=>
   intro x hx hsx;have:=hp.2 x.toNat (by omega);have e:=h x.toNat (by omega) hsx;rw[show((x.toNat:Nat):Int)=x by omega]at this e;exact ih _ this e
 have:=g m (rd q k) (hp.2 k hk) hs;rw[show itr q m (rd q k)=itr q (m+1) k from rfl,h2]at this
 simpa using this
theorem XX (ps:List (List Int)) (p:List Int) (n:Nat) (hp:inR n p) (hm:p∈ps):∀(k:Nat) (x:Int),0<=x/\x<n->Reach ps n x.toNat (itr p k x).toNat
 |0,x,h=>Reach.refl _ _ _
 |k+1,x,h=>by
  have h1:=hp.2 x.toNat (by omega);have h2:=Reach.step (ps:=ps) (n:=n) hm (k:=x.toNat) (by omega);rw[show((x.toNat:Nat):Int)=x by omega]at h1 h2;exact h2.trans (XX ps p n hp hm k _ h1)
def Exch (n:Nat) (p q:List Int) (a b:Nat):Prop:=a<n/\b<n/\a≠b/\rd q a=rd p b/\rd q b=rd p a/\∀x:Nat,x<n->x≠a->x≠b->rd q x=rd p x
theorem Exch.symm {n:Nat} {p q:List Int} {a b:Nat} (h:Exch n p q a b):Exch n q p a b:=⟨h.1,h.2.1,h.2.2.1,h.2.2.2.2.1.symm,h.2.2.2.1.symm,fun x hx h1 h2=>(h.2.2.2.2.2 x hx h1 h2).symm⟩
theorem Cl.ex (n:Nat) (R:Nat->Nat->Prop):∃k,Cl n R k/\k<=n:=Cnt.ex _ n
theorem Cl.uniq {n:Nat} {R:Nat->Nat->Prop} {k l:Nat} (h:Cl n R k) (h':Cl n R l):k=l:=Cnt.same h h' fun _ _=>Iff.rfl
def jO (t f:List Int) (n:Nat):Prop:=n<=12/\1<=n/\inR n t/\fK n t/\inR n f/\(∀i:Nat,i<n->qO f i)/\∀i j:Nat,i<n->j<n->Reach [t,f] n i j
def lG (t f:List Int) (n a:Nat) (g:List Int):Prop:=(g.length=n)/\(∀x:Nat,x<n->0<=rd g x/\rd g x<n)/\(rd g a=0)/\(∀x:Nat,x<n->rd g (rd t x)=rd g x)/\(∀x:Nat,x<n->rd g x<=rd g (rd f x)+1)/\(∀x:Nat,x<n->rd g x=0->Reach [t] n x a)/\(∀x:Nat,x<n->0<rd g x->∃y:Nat,y<n/\Reach [t] n y x/\rd g (rd f y)+1=rd g x)
theorem lG.len {t f:List Int} {n a:Nat} {g:List Int} (h:lG t f n a g):g.length=n:=h.1
theorem lG.rng {t f:List Int} {n a:Nat} {g:List Int} (h:lG t f n a g):∀x:Nat,x<n->0<=rd g x/\rd g x<n:=h.2.1
theorem lG.start {t f:List Int} {n a:Nat} {g:List Int} (h:lG t f n a g):rd g a=0:=h.2.2.1
theorem lG.turn {t f:List Int} {n a:Nat} {g:List Int} (h:lG t f n a g):∀x:Nat,x<n->rd g (rd t x)=rd g x:=h.2.2.2.1
theorem lG.flip {t f:List Int} {n a:Nat} {g:List Int} (h:lG t f n a g):∀x:Nat,x<n->rd g x<=rd g (rd f x)+1:=h.2.2.2.2.1
theorem lG.zero {t f:List Int} {n a:Nat} {g:List Int} (h:lG t f n a g):∀x:Nat,x<n->rd g x=0->Reach [t] n x a:=h.2.2.2.2.2.1
theorem lG.back {t f:List Int} {n a:Nat} {g:List Int} (h:lG t f n a g):∀x:Nat,x<n->0<rd g x->∃y:Nat,y<n/\Reach [t] n y x/\rd g (rd f y)+1=rd g x:=h.2.2.2.2.2.2
theorem W3 {t:List Int} {n:Nat} (ht:inR n t) (hi:fK n t) (g:List Int) (h:∀x:Nat,x<n->rd g (rd t x)=rd g x) {x y:Nat} (hr:Reach [t] n x y):rd g x=rd g y:=by
 have hc:wZ [t] n (fun z=>rd g z=rd g y):=vE t n ht hi _ fun k hk e=>by
  have h1:=ht.2 k hk;have h2:=h k hk;rw[show((rd t k).toNat:Int)=rd t k by omega];exact h2.trans e
 exact(hr _ hc).2 rfl
theorem oL (l:List Int) (i j:Nat) (v:Int) (h:i<l.length):rd (l.set i v) j=if j=i then v else rd l j:=by
 by_cases e:j=i
 ·subst e;rw[if_pos rfl,qV _ _ _ h]
 ·rw[if_neg e,qa _ _ _ _ (fun z=>e z.symm)]
theorem yS (n:Nat) (v:Int) (z:Nat) (h:z<n):rd (List.replicate n v) z=v:=by
 unfold rd;rw[Int.toNat_natCast,List.getD_eq_getElem?_getD,List.getElem?_replicate,if_pos h];rfl
theorem aic (ys:List Int) (n c:Nat) (v:Int) (hl:ys.length=n) (hc:c<n) (hne:rd ys c≠v):lag (ys.set c v) (List.replicate n v) n<lag ys (List.replicate n v) n:=by
 refine Jc ys (ys.set c v) (List.replicate n v) (fun i h=>?_) c ?_ ?_ n hc
 · rw[oL _ _ _ _ (by omega)]
   by_cases e:i=c
   ·rw[if_pos e,e,yS n v c hc]
   ·rw[if_neg e];exact h
 ·rw[yS n v c hc];exact hne
 ·rw[yS n v c hc,oL _ _ _ _ (by omega),if_pos rfl]
theorem Xh (t:List Int) (n:Nat) (hn:n<=12) (ht:inR n t) (hi:fK n t) (v:Int) (hv:0<=v) (d:Nat) (xs:List Int) (hneg:∀z:Nat,z<n->Reach [t] n d z->rd xs z<0):
 ∀(m:Nat) (ys:List Int) (c:Nat) (S:Nat->Prop),lag ys (List.replicate n v) n<=m->ys.length=n->c<n->Reach [t] n d c->
  (∀z:Nat,z<n->S z->rd ys z=v/\Reach [t] n d z/\(S (rd t z).toNat\/rd t z=c))->(∀z:Nat,z<n->¬S z->rd ys z=rd xs z)->(S d\/c=d)->
  ∃r,Ev (fun k=>dfar.at k t v ys c) r/\r.length=n/\∀z:Nat,z<n->(Reach [t] n d z->rd r z=v)/\(¬Reach [t] n d z->rd r z=rd xs z):=by
 intro m
 induction m with
 |zero=>
  intro ys c S hm hl hc hr hS hN hd
  have hnn:¬rd ys c<0:=by
   have h0:=ioo ys (List.replicate n v) n (by omega) c hc;rw[h0,yS n v c hc];omega
  have hSc:S c:=Classical.byContradiction fun z=>by
   have h1:=hN c hc z;have h2:=hneg c hc hr;omega
  have hcl:wZ [t] n S:=vE t n ht hi S fun k hk hk'=>by
   rcases(hS k hk hk').2.2 with e|e
   ·exact e
   ·rw[e,Int.toNat_natCast];exact hSc
  have hSd:S d:=by rcases hd with e|e;exact e;rw[<-e];exact hSc
  refine⟨ys,Ev.s ?_,hl,fun z hz=>⟨fun h=>(hS z hz ((h S hcl).1 hSd)).1,fun h=>hN z hz fun hs=>h (hS z hz hs).2.1⟩⟩;simp only[dfar.at,hl,show(0:Int)<=(c:Int) by omega,show(c:Int)<(n:Int) by omega,hnn,if_true,if_false];exact Ev.const rfl
 |succ m ih=>
  intro ys c S hm hl hc hr hS hN hd
  by_cases hneg':rd ys c<0
  · have hSc:¬S c:=fun z=>by
     have:=(hS c hc z).1;omega
    have htc:=ht.2 c hc;obtain⟨c',hc'⟩:∃c':Nat,rd t c=c':=⟨(rd t c).toNat,by omega⟩
    have hc'n:c'<n:=by omega
    have hstep:=Reach.step (ps:=[t]) (p:=t) (by simp) hc;rw[hc',Int.toNat_natCast]at hstep;have hlag:=aic ys n c v hl hc (by omega);obtain⟨r,e1,e2,e3⟩:=ih (ys.set c v) c' (fun z=>S z\/z=c) (by omega) (by simp[hl]) hc'n (hr.trans hstep)
     (fun z hz hs=>by
       rw[oL _ _ _ _ (by omega)]
       by_cases e:z=c
       ·subst e;rw[if_pos rfl];exact⟨rfl,hr,.inr hc'⟩
       · rw[if_neg e]
         have hs':S z:=hs.resolve_right e;obtain⟨s1,s2,s3⟩:=hS z hz hs';refine⟨s1,s2,.inl ?_⟩
         rcases s3 with s3|s3
         ·exact .inl s3
         ·rw[s3,Int.toNat_natCast];exact .inr rfl)
     (fun z hz hs=>by
       rw[oL _ _ _ _ (by omega),if_neg (fun e=>hs (.inr e))]
       exact hN z hz fun e=>hs (.inl e))
     (by rcases hd with e|e;exact .inl (.inl e);exact .inl (.inr e.symm))
    refine⟨r,Ev.s ?_,e2,e3⟩;simp only[dfar.at,hl,ht.1,show(0:Int)<=(c:Int) by omega,show(c:Int)<(n:Int) by omega,hneg',if_true,Int.toNat_natCast,hc'];exact e1
  · have hSc:S c:=Classical.byContradiction fun z=>by
     have h1:=hN c hc z;have h2:=hneg c hc hr;omega
    have hcl:wZ [t] n S:=vE t n ht hi S fun k hk hk'=>by
     rcases(hS k hk hk').2.2 with e|e
     ·exact e
     ·rw[e,Int.toNat_natCast];exact hSc
    have hSd:S d:=by rcases hd with e|e;exact e;rw[<-e];exact hSc
    refine⟨ys,Ev.s ?_,hl,fun z hz=>⟨fun h=>(hS z hz ((h S hcl).1 hSd)).1,fun h=>hN z hz fun hs=>h (hS z hz hs).2.1⟩⟩;simp only[dfar.at,hl,show(0:Int)<=(c:Int) by omega,show(c:Int)<(n:Int) by omega,hneg',if_true,if_false];exact Ev.const rfl
def mG (t f:List Int) (n a:Nat) (xs:List Int) (L:Nat):Prop:=(xs.length=n)/\(∀x:Nat,x<n-> -1<=rd xs x/\rd xs x<=L)/\(rd xs a=0)/\(∀x:Nat,x<n->rd xs (rd t x)=rd xs x)/\(∀x:Nat,x<n->rd xs x=0->Reach [t] n x a)/\(∀x:Nat,x<n->0<rd xs x->∃y:Nat,y<n/\Reach [t] n y x/\rd xs (rd f y)+1=rd xs x)
theorem mG.len {t f:List Int} {n a:Nat} {xs:List Int} {L:Nat} (h:mG t f n a xs L):xs.length=n:=h.1
theorem mG.rng {t f:List Int} {n a:Nat} {xs:List Int} {L:Nat} (h:mG t f n a xs L):∀x:Nat,x<n-> -1<=rd xs x/\rd xs x<=L:=h.2.1
theorem mG.start {t f:List Int} {n a:Nat} {xs:List Int} {L:Nat} (h:mG t f n a xs L):rd xs a=0:=h.2.2.1
theorem mG.turn {t f:List Int} {n a:Nat} {xs:List Int} {L:Nat} (h:mG t f n a xs L):∀x:Nat,x<n->rd xs (rd t x)=rd xs x:=h.2.2.2.1
theorem mG.zero {t f:List Int} {n a:Nat} {xs:List Int} {L:Nat} (h:mG t f n a xs L):∀x:Nat,x<n->rd xs x=0->Reach [t] n x a:=h.2.2.2.2.1
theorem mG.back {t f:List Int} {n a:Nat} {xs:List Int} {L:Nat} (h:mG t f n a xs L):∀x:Nat,x<n->0<rd xs x->∃y:Nat,y<n/\Reach [t] n y x/\rd xs (rd f y)+1=rd xs x:=h.2.2.2.2.2
theorem ahY (t f:List Int) (n:Nat) (hn:n<=12) (ht:inR n t) (hi:fK n t) (hf:inR n f) (a:Nat) (xs:List Int) (L:Nat) (hL:1<=L) (h:mG t f n a xs L) (e d:Nat) (he:e<n) (hd:d<n) (hfe:rd f e=d) (hfd:rd f d=e) (hed:rd xs d+1=L):
 ∃r,Ev (fun k=>dfar.at k t (L:Int) xs (e:Int)) r/\mG t f n a r L/\0<=rd r e/\(∀z:Nat,z<n->0<=rd xs z->rd r z=rd xs z)/\∀z:Nat,z<n->rd r z=L\/rd r z=rd xs z:=by
 by_cases hneg:rd xs e<0
 · have hall:∀z:Nat,z<n->Reach [t] n e z->rd xs z<0:=fun z hz hr=>by
    have:=W3 ht hi xs h.turn hr;omega
   obtain⟨r,e1,e2,e3⟩:=Xh t n hn ht hi L (by omega) e xs hall _ xs e (fun _=>False) (Nat.le_refl _) h.len he (Reach.refl _ _ _) (fun z _ hs=>hs.elim) (fun z _ _=>rfl) (.inr rfl)
   have keep:∀z:Nat,z<n->0<=rd xs z->rd r z=rd xs z:=fun z hz h0=>(e3 z hz).2 fun hr=>by
    have:=hall z hz hr;omega
   have ha0:=h.start;have hxl:=h.len
   have hxa:∀z:Nat,z<n->rd r z=L\/rd r z=rd xs z:=fun z hz=>by
    by_cases hr:Reach [t] n e z
    ·exact .inl ((e3 z hz).1 hr)
    ·exact .inr ((e3 z hz).2 hr)
   refine⟨r,e1,⟨e2,fun x hx=>?_,?_,fun x hx=>?_,fun x hx h0=>?_,fun x hx h0=>?_⟩,?_,keep,hxa⟩
   · rcases hxa x hx with q|q
     ·omega
     ·rw[q];exact h.rng x hx
   · by_cases han:a<n
     ·rw[keep a han (by omega)];exact h.start
     · unfold rd at ha0 ⊢
       rw[Int.toNat_natCast,List.getD_eq_getElem?_getD,List.getElem?_eq_none (by omega)]at ha0 ⊢;exact ha0
   · have htx:=ht.2 x hx
     obtain⟨c,hc⟩:∃c:Nat,rd t x=c:=⟨(rd t x).toNat,by omega⟩;have hstep:=Reach.step (ps:=[t]) (p:=t) (by simp) hx;have htu:=h.turn x hx;rw[hc,Int.toNat_natCast]at hstep;rw[hc]at htu ⊢
     by_cases hr:Reach [t] n e x
     ·rw[(e3 x hx).1 hr,(e3 c (by omega)).1 (hr.trans hstep)]
     ·rw[(e3 x hx).2 hr,(e3 c (by omega)).2 (fun q=>hr (q.trans hstep.symm))];exact htu
   · rcases hxa x hx with q|q
     ·omega
     ·rw[q]at h0;exact h.zero x hx h0
   · by_cases hr:Reach [t] n e x
     · refine⟨e,he,hr,?_⟩
       rw[hfe,keep d hd (by omega),(e3 x hx).1 hr];exact hed
     · have q:=(e3 x hx).2 hr
       rw[q]at h0 ⊢;obtain⟨y,y1,y2,y3⟩:=h.back x hx h0;have hfy:=hf.2 y y1;refine⟨y,y1,y2,?_⟩;obtain⟨c,hc⟩:∃c:Nat,rd f y=c:=⟨(rd f y).toNat,by omega⟩;rw[hc]at y3 ⊢;rw[keep c (by omega) (by omega)];exact y3
   ·rw[(e3 e he).1 (Reach.refl _ _ _)];omega
 · refine⟨xs,Ev.s ?_,h,by omega,fun z _ _=>rfl,fun z _=>.inr rfl⟩
   simp only[dfar.at,h.len,show(0:Int)<=(e:Int) by omega,show(e:Int)<(n:Int) by omega,hneg,if_true,if_false];exact Ev.const rfl
theorem Np (t f:List Int) (n:Nat) (hn:n<=12) (ht:inR n t) (hi:fK n t) (hf:inR n f) (hfl:∀i:Nat,i<n->qO f i) (a L:Nat) (hLn:L<=12):
 ∀(d i:Nat) (xs:List Int),n-i=d->i<=n->mG t f n a xs (L+1)->(∀x:Nat,x<n->0<=rd xs x->(rd xs x<L\/rd xs x=L/\x<i)->0<=rd xs (rd f x)/\rd xs (rd f x)<=rd xs x+1)->
  ∃r,Ev (fun k=>dfar.l2 k t f (L:Int) xs (i:Int)) r/\mG t f n a r (L+1)/\∀x:Nat,x<n->0<=rd r x->rd r x<((L+1:Nat):Int)->0<=rd r (rd f x)/\rd r (rd f x)<=rd r x+1
 |0,i,xs,hd,hi',h,hE=>by
  refine⟨xs,Ev.s ?_,h,fun x hx h0 h1=>hE x hx h0 (by omega)⟩;simp only[dfar.l2,hf.1,show ¬(i:Int)<(n:Int) by omega,if_false];exact Ev.const rfl
 |d+1,i,xs,hd,hi',h,hE=>by
  have hlt:i<n:=by omega
  have hfi:=hf.2 i hlt;obtain⟨e,he⟩:∃e:Nat,rd f i=e:=⟨(rd f i).toNat,by omega⟩
  have hen:e<n:=by omega
  have hfe:rd f e=i:=by have:=(hfl i hlt).2;rwa [he]at this
  have g1:(i:Int)<(n:Int):=by omega
  have g2:(0:Int)<=(i:Int):=by omega
  by_cases c:rd xs i=L
  · obtain⟨r,e1,e2,e3,e4,e5⟩:=ahY t f n hn ht hi hf a xs (L+1) (by omega) h e i hen hlt hfe he (by omega)
    obtain⟨r',f1,f2,f3⟩:=Np t f n hn ht hi hf hfl a L hLn d (i+1) r (by omega) (by omega) e2 (fun x hx h0 hc=>by
     have hfx:=hf.2 x hx;obtain⟨q,hq⟩:∃q:Nat,rd f x=q:=⟨(rd f x).toNat,by omega⟩
     by_cases hxi:x=i
     · subst hxi
       rw[he];have hb:=(e2.rng e hen).2;have hk:=e4 x hx (by omega);exact⟨e3,by omega⟩
     · have hx0:0<=rd xs x:=by
        rcases e5 x hx with w|w
        ·omega
        ·rw[<-w];exact h0
       have hv:=e4 x hx hx0;rw[hv]at h0 hc;have:=hE x hx hx0 (by omega);rw[hq]at this ⊢;rw[e4 q (by omega) this.1,hv];exact this)
    refine⟨r',Ev.s ?_,f2,f3⟩;simp only[dfar.l2,hf.1,h.len,g1,g2,c,he,if_true,show wrap64 ((L:Int)+1)=((L+1:Nat):Int)from fz (by omega)];refine Ev.bind e1 ?_;rw[fz (by omega)];exact f1
  · obtain⟨r',f1,f2,f3⟩:=Np t f n hn ht hi hf hfl a L hLn d (i+1) xs (by omega) (by omega) h (fun x hx h0 hc=>hE x hx h0 (by
     rcases hc with hc|hc
     ·exact .inl hc
     · refine .inr ⟨hc.1,?_⟩
       have:x≠i:=fun e=>c (by rw[<-e];exact hc.1)
       omega))
    refine⟨r',Ev.s ?_,f2,f3⟩;simp only[dfar.l2,hf.1,h.len,g1,g2,c,if_true,if_false];rw[fz (by omega)];exact f1
theorem XG (t f:List Int) (n:Nat) (hn:n<=12) (ht:inR n t) (hi:fK n t) (hf:inR n f) (hfl:∀i:Nat,i<n->qO f i) (a:Nat):
 ∀(d L:Nat) (xs:List Int),n-L=d->L<=n->mG t f n a xs L->(∀x:Nat,x<n->0<=rd xs x->rd xs x<L->0<=rd xs (rd f x)/\rd xs (rd f x)<=rd xs x+1)->
  ∃r,Ev (fun k=>dfar.l1 k t f xs (L:Int)) r/\mG t f n a r n/\∀x:Nat,x<n->0<=rd r x->rd r x<(n:Int)->0<=rd r (rd f x)/\rd r (rd f x)<=rd r x+1
 |0,L,xs,hd,hL,h,hE=>by
  have:L=n:=by omega
  subst this;refine⟨xs,Ev.s ?_,h,hE⟩;simp only[dfar.l1,ht.1,show ¬(L:Int)<(L:Int) by omega,if_false];exact Ev.const rfl
 |d+1,L,xs,hd,hL,h,hE=>by
  have h':mG t f n a xs (L+1):=⟨h.len,fun x hx=>⟨(h.rng x hx).1,by have:=(h.rng x hx).2;omega⟩,h.start,h.turn,h.zero,h.back⟩;obtain⟨r,e1,e2,e3⟩:=Np t f n hn ht hi hf hfl a L (by omega) n 0 xs (by omega) (by omega) h' (fun x hx h0 hc=>hE x hx h0 (by omega));obtain⟨r',f1,f2,f3⟩:=XG t f n hn ht hi hf hfl a d (L+1) r (by omega) (by omega) e2 e3;refine⟨r',Ev.s ?_,f2,f3⟩;simp only[dfar.l1,ht.1,show(L:Int)<(n:Int) by omega,if_true];refine Ev.bind e1 ?_;rw[fz (by omega)];exact f1
theorem ahz (t f:List Int) (n:Nat) (H:jO t f n) (a:Nat) (ha:a<n) (xs:List Int) (h:mG t f n a xs n) (hE:∀x:Nat,x<n->0<=rd xs x->rd xs x<(n:Int)->0<=rd xs (rd f x)/\rd xs (rd f x)<=rd xs x+1):lG t f n a xs:=by
 obtain⟨hn,h1,ht,hi,hf,hfl,hcon⟩:=H
 have lt:∀x:Nat,x<n->rd xs x<n:=by
  intro x hx
  refine Classical.byContradiction fun hno=>?_
  have hb:=h.rng x hx
  have hx':rd xs x=n:=by omega
  have chain:∀d j:Nat,n-j=d->j<=n->∃y:Nat,y<n/\rd xs y=j:=by
   intro d
   induction d with
   |zero=>intro j hj hjn;exact⟨x,hx,by omega⟩
   |succ d ih=>
    intro j hj hjn;obtain⟨y,y1,y2⟩:=ih (j+1) (by omega) (by omega);obtain⟨z,z1,z2,z3⟩:=h.back y y1 (by omega);have hfz:=hf.2 z z1;refine⟨(rd f z).toNat,by omega,?_⟩;rw[show((rd f z).toNat:Int)=rd f z by omega];omega
  have hex:∀j:Nat,∃y:Nat,j<=n->y<n/\rd xs y=j:=fun j=>by
   by_cases hj:j<=n
   · obtain⟨y,q⟩:=chain _ j rfl hj
     exact⟨y,fun _=>q⟩
   ·exact⟨0,fun q=>absurd q hj⟩
  have hc1:Cnt (n+1) (fun j=>j<n+1) (n+1):=⟨List.range (n+1),List.nodup_range,fun y=>by simp,by simp⟩;have hc2:Cnt (n+1) (fun j=>j<n) n:=⟨List.range n,List.nodup_range,fun y=>by simp;omega,by simp⟩;have:=Cnt.le hc1 hc2 (fun j=>Classical.choose (hex j)) (fun j hj _=>by
   have q:=Classical.choose_spec (hex j) (by omega)
   exact⟨by omega,q.1⟩) (fun i j hi' _ hj _ e=>by
   have q1:=(Classical.choose_spec (hex i) (by omega)).2;have q2:=(Classical.choose_spec (hex j) (by omega)).2;have e':Classical.choose (hex i)=Classical.choose (hex j):=e;rw[e',q2]at q1
   omega)
  omega
 have hcl:wZ [t,f] n (fun z=>0<=rd xs z):=by
  intro p hp k hk
  simp at hp
  rcases hp with rfl|rfl
  · have h1:=ht.2 k hk
    have h2:=h.turn k hk
    show 0<=rd xs k↔0<=rd xs ((rd p k).toNat:Nat)
    rw[show((rd p k).toNat:Int)=rd p k by omega,h2]
  · have h1:=hf.2 k hk
    have h2:=(hfl k hk).2
    show 0<=rd xs k↔0<=rd xs ((rd p k).toNat:Nat)
    constructor
    · intro q
      rw[show((rd p k).toNat:Int)=rd p k by omega];exact(hE k hk q (lt k hk)).1
    · intro q
      have:=(hE _ (show(rd p k).toNat<n by omega) q (lt _ (by omega))).1;rw[show((rd p k).toNat:Int)=rd p k by omega,h2]at this;exact this
 have pos:∀x:Nat,x<n->0<=rd xs x:=fun x hx=>(hcon a x ha hx _ hcl).1 (by show 0<=rd xs a;rw[h.start];omega)
 refine⟨h.len,fun x hx=>⟨pos x hx,lt x hx⟩,h.start,h.turn,fun x hx=>?_,h.zero,h.back⟩;have hfx:=hf.2 x hx;have hff:=(hfl x hx).2;have q:=(hE (rd f x).toNat (by omega) (pos _ (by omega)) (lt _ (by omega))).2;rw[show((rd f x).toNat:Int)=rd f x by omega,hff]at q;exact q
theorem XK (n:Nat) (hn:n<=12):∀(d i:Nat) (xs:List Int),n-i=d->i<=n->xs.length=n->(∀z:Nat,z<i->rd xs z= -1)->∃r,Ev (fun k=>dfar.l0 k xs (i:Int) (n:Int)) r/\r.length=n/\∀z:Nat,z<n->rd r z= -1
 |0,i,xs,hd,hi,hl,h=>by
  have:i=n:=by omega
  subst this;refine⟨xs,Ev.s ?_,hl,h⟩;simp only[dfar.l0,show ¬(i:Int)<(i:Int) by omega,if_false];exact Ev.const rfl
 |d+1,i,xs,hd,hi,hl,h=>by
  obtain⟨r,r1,r2,r3⟩:=XK n hn d (i+1) (xs.set i (-1)) (by omega) (by omega) (by simp[hl]) (fun z hz=>by
   rw[oL _ _ _ _ (by omega)]
   by_cases e:z=i
   ·rw[if_pos e]
   ·rw[if_neg e];exact h z (by omega))
  refine⟨r,Ev.s ?_,r2,r3⟩;simp only[dfar.l0,hl,show(i:Int)<(n:Int) by omega,show(0:Int)<=(i:Int) by omega,if_true,Int.toNat_natCast];rw[fz (by omega)];exact r1
theorem aff (t f:List Int) (n:Nat) (H:jO t f n) (a:Nat) (ha:a<n):∃g,lG t f n a g/\Ev (fun k=>xh.f k t f (a:Int)) g:=by
 obtain⟨hn,h1,ht,hi,hf,hfl,hcon⟩:=id H;obtain⟨xs,x1,x2,x3⟩:=XK n hn n 0 (List.replicate n 0) (by omega) (by omega) (by simp) (fun z hz=>by omega)
 have hall:∀z:Nat,z<n->Reach [t] n a z->rd xs z<0:=fun z hz _=>by rw[x3 z hz];omega
 obtain⟨ys,y1,y2,y3⟩:=Xh t n hn ht hi 0 (by omega) a xs hall _ xs a (fun _=>False) (Nat.le_refl _) x2 ha (Reach.refl _ _ _) (fun z _ hs=>hs.elim) (fun z _ _=>rfl) (.inr rfl)
 have yv:∀z:Nat,z<n->(rd ys z=0/\Reach [t] n a z)\/(rd ys z= -1/\¬Reach [t] n a z):=fun z hz=>by
  by_cases hr:Reach [t] n a z
  ·exact .inl ⟨(y3 z hz).1 hr,hr⟩
  ·exact .inr ⟨by rw[(y3 z hz).2 hr,x3 z hz],hr⟩
 have hlev:mG t f n a ys 0:=by
  refine⟨y2,fun x hx=>?_,?_,fun x hx=>?_,fun x hx h0=>?_,fun x hx h0=>?_⟩
  ·rcases yv x hx with q|q<;>omega
  ·exact(y3 a ha).1 (Reach.refl _ _ _)
  · have htx:=ht.2 x hx
    obtain⟨c,hc⟩:∃c:Nat,rd t x=c:=⟨(rd t x).toNat,by omega⟩;have hstep:=Reach.step (ps:=[t]) (p:=t) (by simp) hx;rw[hc,Int.toNat_natCast]at hstep;rw[hc]
    rcases yv x hx with q|q
    ·rw[q.1,(y3 c (by omega)).1 (q.2.trans hstep)]
    · rcases yv c (by omega)with p|p
      ·exact absurd (p.2.trans hstep.symm) q.2
      ·rw[q.1,p.1]
  · rcases yv x hx with q|q
    ·exact q.2.symm
    ·omega
  ·rcases yv x hx with q|q<;>omega
 obtain⟨r,r1,r2,r3⟩:=XG t f n hn ht hi hf hfl a n 0 ys (by omega) (by omega) hlev (fun x hx h0 h1=>by omega);refine⟨r,ahz t f n H a ha r r2 r3,?_⟩
 unfold xh.f
 have aks:0<n/\n<=1048576:=⟨by omega,by omega⟩;simp only[ht.1,aks,and_self,if_true];refine Ev.bind x1 ?_;exact Ev.bind y1 r1
def IV (n a:Nat) (g o:List Int):Prop:=o.length=n/\(∀z:Nat,z<n->rd g z<=rd o z/\rd o z<=n)/\rd o a=0
theorem YM (t f:List Int) (n:Nat) (H:jO t f n) (a:Nat) (ha:a<n) (g:List Int) (hg:lG t f n a g) (round:Int):∀(d i:Nat) (o:List Int),n-i=d->i<=n->IV n a g o->
 ∃o',IV n a g o'/\(∀r,Ev (fun k=>em.l1 k o' (wrap64 (round+1)) t f) r->Ev (fun k=>em.l2 k o round i t f) r)/\(∀z:Nat,z<n->rd o z=rd g z->rd o' z=rd g z)/\
  (∀j:Nat,i<=j->j<n->(rd o (rd f j)=rd g (rd f j)->rd g j=rd g (rd f j)+1->rd o' j=rd g j)/\(rd o j=rd g j->rd o' (rd t j)=rd g (rd t j)))
 |0,i,o,hd,hi,ho=>by
  refine⟨o,ho,fun r h=>Ev.s ?_,fun z _ h=>h,fun j h1 h2=>by omega⟩;simp only[em.l2,ho.1,show ¬(i:Int)<(n:Int) by omega,if_false];exact h
 |d+1,i,o,hd,hi,ho=>by
  obtain⟨hn,h1,ht,hti,hf,hfl,hcon⟩:=id H
  have hlt:i<n:=by omega
  have hd1:n-(i+1)=d:=by omega
  have hra:=ht.2 i hlt;have hrb:=hf.2 i hlt;obtain⟨ta,hta⟩:∃c:Nat,rd t i=c:=⟨(rd t i).toNat,by omega⟩;obtain⟨fb,hfb⟩:∃c:Nat,rd f i=c:=⟨(rd f i).toNat,by omega⟩
  have han:ta<n:=by omega
  have hbn:fb<n:=by omega
  obtain⟨hl,hb,h0⟩:=ho;have bi:=hb i hlt;have ba:=hb ta han;have bb:=hb fb hbn;have gi:=hg.rng i hlt;have gt:=hg.turn i hlt;have gf:=hg.flip i hlt;rw[hta]at gt;rw[hfb]at gf;obtain⟨v,hv⟩:∃v,mn (rd o i) (rd o fb+1)=v:=⟨_,rfl⟩;have hvm:=N7 (rd o i) (rd o fb+1);rw[hv]at hvm;obtain⟨o1,ho1⟩:∃o1,o.set i v=o1:=⟨_,rfl⟩
  have r1:∀z:Nat,rd o1 z=if z=i then v else rd o z:=fun z=>by rw[<-ho1];exact oL o i z v (by omega)
  have hl1:o1.length=n:=by rw[<-ho1];simp[hl]
  have o1i:rd o1 i=v:=by rw[r1,if_pos rfl]
  have b1:∀z:Nat,z<n->rd g z<=rd o1 z/\rd o1 z<=rd o z:=fun z hz=>by
   rw[r1]
   by_cases e:z=i
   ·subst e;rw[if_pos rfl];omega
   ·rw[if_neg e];exact⟨(hb z hz).1,Int.le_refl _⟩
  obtain⟨w,hw⟩:∃w,mn (rd o1 ta) (rd o1 i)=w:=⟨_,rfl⟩;have hwm:=N7 (rd o1 ta) (rd o1 i);rw[hw]at hwm;obtain⟨o2,ho2⟩:∃o2,o1.set ta w=o2:=⟨_,rfl⟩
  have r2:∀z:Nat,rd o2 z=if z=ta then w else rd o1 z:=fun z=>by rw[<-ho2];exact oL o1 ta z w (by omega)
  have hl2:o2.length=n:=by rw[<-ho2];simp[hl1]
  have c1:=b1 ta han;have c2:=b1 i hlt
  have b2:∀z:Nat,z<n->rd g z<=rd o2 z/\rd o2 z<=rd o1 z:=fun z hz=>by
   rw[r2]
   by_cases e:z=ta
   ·subst e;rw[if_pos rfl];omega
   ·rw[if_neg e];exact⟨(b1 z hz).1,Int.le_refl _⟩
  have keep:∀z:Nat,z<n->rd o z=rd g z->rd o2 z=rd g z:=fun z hz e=>by
   have p1:=b1 z hz;have p2:=b2 z hz;omega
  have akt:IV n a g o2:=⟨hl2,fun z hz=>⟨(b2 z hz).1,by have p1:=b1 z hz;have p2:=b2 z hz;have p3:=hb z hz;omega⟩,by
   have q:=keep a ha (by rw[h0,hg.start]);rw[q,hg.start]⟩
  obtain⟨o',d1,d2,d3,d4⟩:=YM t f n H a ha g hg round d (i+1) o2 hd1 hlt akt;refine⟨o',d1,fun r h=>Ev.s ?_,fun z hz e=>d3 z hz (keep z hz e),fun j h1 h2=>?_⟩
  · have hgo:=d2 r h
    have g1:(i:Int)<(n:Int):=by omega
    have g2:(0:Int)<=(i:Int):=by omega
    have g3:(0:Int)<=(ta:Int):=by omega
    have g4:(ta:Int)<(n:Int):=by omega
    have g5:(0:Int)<=(fb:Int):=by omega
    have g6:(fb:Int)<(n:Int):=by omega
    have gw:wrap64 (rd o fb+1)=rd o fb+1:=w64 (by omega) (by omega);simp only[em.l2,ht.1,hf.1,hl,hl1,g1,g2,g3,g4,g5,g6,hta,hfb,hv,hw,gw,if_true,Int.toNat_natCast,ho1,ho2,Option.bind_some];rw[fz (by omega)];exact hgo
  · by_cases e:j=i
    · subst e
      rw[hta,hfb];refine⟨fun e1 e2=>d3 j h2 ?_,fun e1=>d3 ta han ?_⟩
      · have p2:=b2 j h2
        rw[o1i]at p2;omega
      · have p2:rd o2 ta=w:=by rw[r2,if_pos rfl]
        rw[o1i]at hwm;rw[p2];omega
    · have hj:=d4 j (by omega) h2
      have hfj:=hf.2 j h2;obtain⟨c,hc⟩:∃c:Nat,rd f j=c:=⟨(rd f j).toNat,by omega⟩;rw[hc]at hj ⊢;exact⟨fun e1 e2=>hj.1 (keep c (by omega) e1) e2,fun e1=>hj.2 (keep j h2 e1)⟩
theorem Yw (t f:List Int) (n:Nat) (H:jO t f n) (a:Nat) (ha:a<n) (g:List Int) (hg:lG t f n a g):∀(d i:Nat) (o:List Int),2*n-i=d->i<=2*n->IV n a g o->lag o g n<=d->Ev (fun k=>em.l1 k o (i:Int) t f) g
 |0,i,o,hd,hi,ho,hl=>by
  obtain⟨hn,h1,ht,hti,hf,hfl,hcon⟩:=id H;refine Ev.s ?_;have hw2:wrap64 (2*(n:Int))=2*(n:Int):=w64 (by omega) (by omega);simp only[em.l1,ho.1,hw2,show ¬(i:Int)<2*(n:Int) by omega,if_false]
  have:o=g:=Fq o g (ho.1.trans hg.len.symm) fun z hz=>ioo o g n (by omega) z (by rw[<-ho.1];exact hz)
  exact Ev.const (by rw[this])
 |d+1,i,o,hd,hi,ho,hl=>by
  obtain⟨hn,h1,ht,hti,hf,hfl,hcon⟩:=id H;obtain⟨o',c1,c2,c3,c4⟩:=YM t f n H a ha g hg i n 0 o (by omega) (by omega) ho;refine Ev.s ?_;have hw2:wrap64 (2*(n:Int))=2*(n:Int):=w64 (by omega) (by omega);simp only[em.l1,ho.1,hw2,show(i:Int)<2*(n:Int) by omega,if_true];refine c2 g ?_;rw[fz (by omega)];refine Yw t f n H a ha g hg d (i+1) o' (by omega) (by omega) c1 ?_
  have hout:∀z:Nat,¬z<n->rd o z=rd o' z:=by
   intro z hz
   unfold rd
   rw[Int.toNat_natCast,List.getD_eq_getElem?_getD,List.getD_eq_getElem?_getD,List.getElem?_eq_none (by rw[ho.1];omega),List.getElem?_eq_none (by rw[c1.1];omega)]
  have keep:∀z:Nat,rd o z=rd g z->rd o' z=rd g z:=fun z e=>by
   by_cases hz:z<n
   ·exact c3 z hz e
   ·rw[<-hout z hz];exact e
  by_cases hz:lag o g n=0
  · have:=I7 o o' g keep n
    omega
  · have hex:∃z:Nat,z<n/\rd o z≠rd g z/\rd o' z=rd g z:=by
     refine Classical.byContradiction fun hno=>?_
     have hsame:∀z:Nat,z<n->(rd o z=rd g z↔rd o' z=rd g z):=fun z hz=>⟨keep z,fun e=>Classical.byContradiction fun hne=>hno ⟨z,hz,hne,e⟩⟩
     have hcl:wZ [t] n (fun z=>rd o z=rd g z):=vE t n ht hti _ fun k hk e=>by
      have hr:=ht.2 k hk;refine(hsame (rd t k).toNat (by omega)).2 ?_;rw[show((rd t k).toNat:Int)=rd t k by omega];exact(c4 k (by omega) hk).2 e
     have hall:∀m z:Nat,z<n->rd g z<=m->rd o z=rd g z:=by
      intro m
      induction m with
      |zero=>
       intro z hz hm;have hb:=hg.rng z hz;have hr:=hg.zero z hz (by omega);refine(hr _ hcl).2 ?_
       show rd o a=rd g a
       rw[ho.2.2,hg.start]
      |succ m ih=>
       intro z hz hm
       by_cases hm':rd g z<=m
       ·exact ih z hz hm'
       · obtain⟨y,y1,y2,y3⟩:=hg.back z hz (by omega)
         have hfy:=hf.2 y y1;obtain⟨c,hc⟩:∃c:Nat,rd f y=c:=⟨(rd f y).toNat,by omega⟩;have hcy:=W3 ht hti g hg.turn y2;have h4:=(c4 y (by omega) y1).1;rw[hc]at y3 h4;have hyo:=h4 (ih c (by omega) (by omega)) (by omega);exact(y2 _ hcl).1 ((hsame y y1).2 hyo)
     have hz0:∀m,m<=n->lag o g m=0:=by
      intro m
      induction m with
      |zero=>intro _;rfl
      |succ m ih=>
       intro hm;simp only[lag];have hb:=hg.rng m (by omega);rw[if_pos (hall (rd g m).toNat m (by omega) (by omega)),ih (by omega)]
     exact hz (hz0 n (Nat.le_refl _))
    obtain⟨z,z1,z2,z3⟩:=hex;have:=Jc o o' g keep z z2 z3 n z1;omega
theorem VS (t f:List Int) (n:Nat) (hn:n<=12) (a:Nat) (ha:a<n):∀(d i:Nat) (o:List Int),n-i=d->i<=n->o.length=n->(∀z:Nat,z<i->rd o z=n)->
 ∃o',o'.length=n/\(∀z:Nat,z<n->rd o' z=n)/\∀r,Ev (fun k=>em.l1 k (o'.set a 0) 0 t f) r->Ev (fun k=>em.l0 k (a:Int) o (i:Int) t f) r
 |0,i,o,hd,hi,hl,h=>by
  refine⟨o,hl,fun z hz=>h z (by omega),fun r hr=>Ev.s ?_⟩;simp only[em.l0,hl,show ¬(i:Int)<(n:Int) by omega,show(0:Int)<=(a:Int) by omega,show(a:Int)<(n:Int) by omega,if_true,if_false,Int.toNat_natCast];exact hr
 |d+1,i,o,hd,hi,hl,h=>by
  obtain⟨o',e1,e2,e3⟩:=VS t f n hn a ha d (i+1) (o.set i n) (by omega) (by omega) (by simp[hl]) (fun z hz=>by
   rw[oL _ _ _ _ (by omega)]
   by_cases e:z=i
   ·rw[if_pos e]
   ·rw[if_neg e];exact h z (by omega))
  refine⟨o',e1,e2,fun r hr=>Ev.s ?_⟩;simp only[em.l0,hl,show(i:Int)<(n:Int) by omega,show(0:Int)<=(i:Int) by omega,if_true,Int.toNat_natCast];rw[fz (by omega)];exact e3 r hr
theorem agC (t f:List Int) (n:Nat) (H:jO t f n) (a:Nat) (ha:a<n) (g:List Int) (hg:lG t f n a g):Ev (fun k=>em.f k t f (a:Int)) g:=by
 obtain⟨hn,h1,ht,hti,hf,hfl,hcon⟩:=id H;obtain⟨o,o1,o2,o3⟩:=VS t f n hn a ha n 0 (List.replicate n 0) (by omega) (by omega) (by simp) (fun z hz=>by omega)
 unfold em.f
 simp only[ht.1,Int.toNat_natCast,show(0:Int)<=(n:Int) by omega,show n<=35184372088832 by omega,if_true];refine o3 g ?_
 have hr:∀z:Nat,rd (o.set a 0) z=if z=a then 0 else rd o z:=fun z=>oL o a z 0 (by omega)
 refine Yw t f n H a ha g hg (2*n) 0 (o.set a 0) (by omega) (by omega) ⟨by simp[o1],fun z hz=>?_,by rw[hr,if_pos rfl]⟩ ?_
 · rw[hr]
   have hb:=hg.rng z hz
   by_cases e:z=a
   ·subst e;rw[if_pos rfl,hg.start];omega
   ·rw[if_neg e,o2 z hz];omega
 · have:=Nn (o.set a 0) g n
   omega
theorem agI (t f:List Int) (n:Nat) (H:jO t f n) (a:Nat) (ha:a<n):∃g,lG t f n a g/\Ev (fun k=>em.f k t f (a:Int)) g/\Ev (fun k=>xh.f k t f (a:Int)) g:=by
 obtain⟨g,hg,e⟩:=aff t f n H a ha;exact⟨g,hg,agC t f n H a ha g hg,e⟩
def cw (p:List Int):Nat->List Bool->List Int->Int->List Bool×List Int
 |0,s,c,a=>(s,c)
 |f+1,s,c,a=>if gH false s a=true then(s,c)else cw p f (s.set a.toNat true) (c++[a]) (rd p a)
def fresh (s:List Bool):Nat:=s.countP (fun b=>!b)
def cyS (p:List Int) (n:Nat):Nat->List Bool×List (List Int)
 |0=>(List.replicate n false,[])
 |i+1=>
  let q:=cw p (n+1) (cyS p n i).1 [] i
  (q.1,if q.2=[]then(cyS p n i).2 else(cyS p n i).2++[q.2])
theorem Ax:∀(s:List Bool) (i:Nat),i<s.length->s.getD i false=false->fresh (s.set i true)+1=fresh s
 |b::s,0,_,h=>by
  simp only[List.getD_cons_zero]at h;subst h
  simp[fresh]
 |b::s,i+1,hi,h=>by
  simp only[List.getD_cons_succ]at h;have ih:=Ax s i (by simpa using hi) h;simp only[fresh,List.set_cons_succ,List.countP_cons]at ih ⊢;omega
theorem sC (s:List Bool) (a:Int) (h0:0<=a):gH false s a=s.getD a.toNat false:=by
 unfold gH
 rfl
theorem YW (p:List Int):∀(f:Nat) (s:List Bool) (c:List Int) (a:Int),(cw p f s c a).1.length=s.length
 |0,s,c,a=>rfl
 |f+1,s,c,a=>by
  simp only[cw]
  split
  ·rfl
  ·rw[YW p f];simp
theorem Yl (p:List Int) (n:Nat) (hn:n<=1048576) (hp:inR n p) (L:List (List Int)) (hL:L.length<=1048576) (i:Int) (r:List (List Int)):∀(f:Nat) (s:List Bool) (c:List Int) (a:Int),s.length=n->0<=a->a<n->fresh s<f->c.length+fresh s<=1048577->
 Ev (fun k=>jw.l0 k p (L++[(cw p f s c a).2]) (cw p f s c a).1 (wrap64 (i+1))) r->Ev (fun k=>jw.l1 k p L s i c a) r
 |0,s,c,a,hs,h0,h1,hf,hc,h=>absurd hf (Nat.not_lt_zero _)
 |f+1,s,c,a,hs,h0,h1,hf,hc,h=>by
  refine Ev.s ?_;simp only[cw]at h
  have hL':L.length<5864062014805:=by omega
  have hc':c.length<17592186044416:=by omega
  simp only[jw.l1,h0,hs,h1,hp.1,hL',hc',if_true]
  by_cases e:gH false s a=true
  · simp only[e,if_true]at h ⊢
    exact h
  · simp only[e,if_false]at h ⊢
    have h3:s.getD a.toNat false=false:=by rw[<-sC s a h0];simpa using e
    have h4:=Ax s a.toNat (by omega) h3;have h5:=hp.2 a.toNat (by omega);rw[show((a.toNat:Nat):Int)=a by omega]at h5;exact Yl p n hn hp L hL i r f _ _ _ (by simpa using hs) h5.1 h5.2 (by omega) (by simp only[List.length_append,List.length_cons,List.length_nil];omega) h
theorem Wj (p:List Int) (n:Nat) (hn:n<=1048576) (hp:inR n p) (L:List (List Int)) (hL:L.length<=1048576) (m i:Int) (r:List (List Int)):∀(f:Nat) (s:List Bool) (c:List Int) (a:Int),s.length=n->0<=a->a<n->fresh s<f->c.length+fresh s<=1048577->
 Ev (fun k=>gV.l0 k p (if(cw p f s c a).2=[]then L else L++[(cw p f s c a).2]) (cw p f s c a).1 m (wrap64 (i+1))) r->Ev (fun k=>gV.l1 k p L s c a m i) r
 |0,s,c,a,hs,h0,h1,hf,hc,h=>absurd hf (Nat.not_lt_zero _)
 |f+1,s,c,a,hs,h0,h1,hf,hc,h=>by
  refine Ev.s ?_;simp only[cw]at h
  have hL':L.length<5864062014805:=by omega
  have hc':c.length<17592186044416:=by omega
  simp only[gV.l1,h0,hs,h1,hp.1,hL',hc',if_true]
  by_cases e:gH false s a=true
  · simp only[e,if_true]at h ⊢
    cases c with
    |nil=>simpa using h
    |cons b c=>simpa using h
  · simp only[e,if_false]at h ⊢
    have h3:s.getD a.toNat false=false:=by rw[<-sC s a h0];simpa using e
    have h4:=Ax s a.toNat (by omega) h3;have h5:=hp.2 a.toNat (by omega);rw[show((a.toNat:Nat):Int)=a by omega]at h5;exact Wj p n hn hp L hL m i r f _ _ _ (by simpa using hs) h5.1 h5.2 (by omega) (by simp only[List.length_append,List.length_cons,List.length_nil];omega) h
theorem C2 (s:List Bool):fresh s<=s.length:=List.countP_le_length
theorem vH (p:List Int) (n:Nat):∀i,(cyS p n i).1.length=n
 |0=>by simp[cyS]
 |i+1=>by simp only[cyS];rw[YW,vH p n i]
theorem CV (p:List Int) (n:Nat):∀i,(cyS p n i).2.length<=i
 |0=>by simp[cyS]
 |i+1=>by
  have ih:=CV p n i;simp only[cyS]
  split
  ·omega
  ·simp only[List.length_append,List.length_cons,List.length_nil];omega
theorem Nl (p:List Int) (f:Nat) (s:List Bool) (c:List Int) (a:Int) (h:gH false s a=true):cw p f s c a=(s,c):=by
 cases f with
 |zero=>rfl
 |succ f=>simp only[cw,h,if_true]
theorem Zx (p:List Int):∀(f:Nat) (s:List Bool) (c:List Int) (a:Int),c.length<=(cw p f s c a).2.length
 |0,s,c,a=>Nat.le_refl _
 |f+1,s,c,a=>by
  simp only[cw]
  split
  ·exact Nat.le_refl _
  · have:=Zx p f (s.set a.toNat true) (c++[a]) (rd p a)
    simp only[List.length_append,List.length_cons,List.length_nil]at this;omega
theorem MW (p:List Int) (f:Nat) (s:List Bool) (a:Int) (h:¬gH false s a=true):(cw p (f+1) s [] a).2≠[]:=by
 simp only[cw,h,Bool.false_eq_true,if_false];intro e;have:=Zx p f (s.set a.toNat true) ([]++[a]) (rd p a);rw[e]at this
 simp at this
theorem X3 (p:List Int) (n:Nat) (hn:n<=1048575) (hp:inR n p):∀(d i:Nat),n-i=d->i<=n->Ev (fun k=>jw.l0 k p (cyS p n i).2 (cyS p n i).1 i) (cyS p n n).2
 |0,i,hd,hi=>by
  have:i=n:=by omega
  subst this;refine Ev.s ?_;simp only[jw.l0,hp.1,show ¬(i:Int)<(i:Int) by omega,if_false];exact Ev.const rfl
 |d+1,i,hd,hi=>by
  have ih:=X3 p n hn hp d (i+1) (by omega) (by omega);have hl:=vH p n i;have hm:=CV p n i;have hf:=C2 (cyS p n i).1
  have h1:(i:Int)<(n:Int):=by omega
  have h0:(0:Int)<=(i:Int):=by omega
  refine Ev.s ?_;simp only[jw.l0,hp.1,hl,h1,h0,if_true]
  by_cases e:gH false (cyS p n i).1 (i:Int)=true
  · simp only[e,if_true]
    rw[fz (by omega)];simp only[cyS,Nl p (n+1) (cyS p n i).1 [] i e,if_true]at ih;exact ih
  · simp only[e,if_false]
    refine Yl p n (by omega) hp _ (by omega) i _ (n+1) _ _ _ hl h0 h1 (by omega) (by simp only[List.length_nil];omega) ?_;rw[fz (by omega)];simp only[cyS,MW p n (cyS p n i).1 i e,if_false]at ih;exact ih
theorem Y4 (p:List Int) (n:Nat) (hn:n<=1048575) (hp:inR n p):∀(d i:Nat),n-i=d->i<=n->Ev (fun k=>gV.l0 k p (cyS p n i).2 (cyS p n i).1 n i) (cyS p n n).2
 |0,i,hd,hi=>by
  have:i=n:=by omega
  subst this;refine Ev.s ?_;simp only[gV.l0,show ¬(i:Int)<(i:Int) by omega,if_false];exact Ev.const rfl
 |d+1,i,hd,hi=>by
  have ih:=Y4 p n hn hp d (i+1) (by omega) (by omega);have hl:=vH p n i;have hm:=CV p n i;have hf:=C2 (cyS p n i).1
  have h1:(i:Int)<(n:Int):=by omega
  have h0:(0:Int)<=(i:Int):=by omega
  refine Ev.s ?_;simp only[gV.l0,h1,if_true];refine Wj p n (by omega) hp _ (by omega) n i _ (n+1) _ _ _ hl h0 h1 (by omega) (by simp only[List.length_nil];omega) ?_;rw[fz (by omega)];simp only[cyS]at ih;exact ih
theorem afT (p:List Int) (n:Nat) (hn:n<=1048575) (hp:inR n p):Ev (fun k=>jw.f k p) (cyS p n n).2:=by
 unfold jw.f
 have h1:n<=281474976710656:=by omega
 have h2:(0:Int)<=(n:Int):=by omega
 simp only[hp.1,Int.toNat_natCast,h1,h2,if_true];exact X3 p n hn hp n 0 (by omega) (by omega)
theorem FE (p:List Int) (n:Nat) (hn:n<=1048575) (hp:inR n p):Ev (fun k=>gV.f k p) (cyS p n n).2:=by
 unfold gV.f
 have h1:n<=281474976710656:=by omega
 have h2:(0:Int)<=(n:Int):=by omega
 simp only[hp.1,Int.toNat_natCast,h1,h2,if_true];exact Y4 p n hn hp n 0 (by omega) (by omega)
theorem Zs (p:List Int) (n:Nat) (hp:inR n p):∀(f:Nat) (s:List Bool) (c:List Int) (a:Int),s.length=n->0<=a->a<n->(cw p f s c a).2.length+fresh (cw p f s c a).1<=c.length+fresh s
 |0,s,c,a,hs,h0,h1=>Nat.le_refl _
 |f+1,s,c,a,hs,h0,h1=>by
  simp only[cw]
  by_cases e:gH false s a=true
  · simp only[e,if_true]
    exact Nat.le_refl _
  · simp only[e,Bool.false_eq_true,if_false]
    have h3:s.getD a.toNat false=false:=by rw[<-sC s a h0];simpa using e
    have h4:=Ax s a.toNat (by omega) h3;have h5:=hp.2 a.toNat (by omega);rw[show((a.toNat:Nat):Int)=a by omega]at h5;have ih:=Zs p n hp f (s.set a.toNat true) (c++[a]) (rd p a) (by simpa using hs) h5.1 h5.2;rw[List.length_append,List.length_singleton]at ih;omega
theorem Yt (p:List Int) (n:Nat) (hp:inR n p):∀i,i<=n->∀l∈(cyS p n i).2,1<=l.length/\l.length<=n
 |0,_,l,hl=>by simp[cyS]at hl
 |i+1,hi,l,hl=>by
  have ih:=Yt p n hp i (by omega) l;simp only[cyS]at hl;have hb:=Zs p n hp (n+1) (cyS p n i).1 [] i (vH p n i) (by omega) (by omega);have hf:=C2 (cyS p n i).1;rw[vH]at hf;rw[List.length_nil,Nat.zero_add]at hb
  by_cases e:(cw p (n+1) (cyS p n i).1 [] (i:Int)).2=[]
  · rw[if_pos e]at hl
    exact ih hl
  · rw[if_neg e,List.mem_append]at hl
    rcases hl with hl|hl
    ·exact ih hl
    · rw[List.mem_singleton.1 hl]
      have:0<(cw p (n+1) (cyS p n i).1 [] (i:Int)).2.length:=List.length_pos_iff.2 e;omega
theorem ahI (p:List Int) (n:Nat) (h1:1<=n):0<(cyS p n n).2.length:=by
 have hm:∀i,1<=i->0<(cyS p n i).2.length:=by
  intro i
  induction i with
  |zero=>intro h;omega
  |succ i ih=>
   intro _;simp only[cyS]
   by_cases hi:1<=i
   · have:=ih hi
     split
     ·exact this
     ·rw[List.length_append];omega
   · have:i=0:=by omega
     subst this;rw[if_neg (MW p n _ _ (by show ¬(List.replicate n false).getD 0 false=true;rw[List.getD_eq_getElem?_getD,List.getElem?_replicate];split<;>simp))];rw[List.length_append,List.length_singleton];omega
 exact hm n h1
theorem XC:∀(d:Nat) (i j:Int) (l:List Int),l.length<=1048576->0<=i->j<l.length->i<=1048576-> -1<=j->j-i<=d->∃r,Ev (fun k=>kD.l0 k l i j) r/\r.Perm l
 |0,i,j,l,hl,h0,h1,h2,h3,hd=>by
  refine⟨l,Ev.s ?_,List.Perm.refl _⟩;simp only[kD.l0,show ¬i<j by omega,if_false];exact Ev.const rfl
 |d+1,i,j,l,hl,h0,h1,h2,h3,hd=>by
  by_cases hij:i<j
  · obtain⟨r,r1,r2⟩:=XC d (i+1) (j-1) ((l.set i.toNat (rd l j)).set j.toNat (rd l i)) (by simpa using hl) (by omega) (by simp only[List.length_set];omega) (by omega) (by omega) (by omega)
    have hpm:((l.set i.toNat (rd l j)).set j.toNat (rd l i)).Perm l:=by
     have hi:i.toNat<l.length:=by omega
     have hj:j.toNat<l.length:=by omega
     have e1:rd l i=l[i.toNat]:=by have:=kE l i.toNat hi;rwa [show((i.toNat:Nat):Int)=i by omega]at this
     have e2:rd l j=l[j.toNat]:=by have:=kE l j.toNat hj;rwa [show((j.toNat:Nat):Int)=j by omega]at this
     rw[e1,e2];exact List.set_set_perm hi hj
    refine⟨r,Ev.s ?_,r2.trans hpm⟩;simp only[kD.l0,hij,show 0<=j by omega,h1,h0,show i<(l.length:Int) by omega,if_true,w64 (x:=i+1) (by omega) (by omega),w64 (x:=j-1) (by omega) (by omega)];exact r1
  · refine⟨l,Ev.s ?_,List.Perm.refl _⟩
    simp only[kD.l0,hij,if_false];exact Ev.const rfl
theorem agK (l:List Int) (hl:l.length<=1048576):∃r,Ev (fun k=>kD.f k l) r/\r.Perm l:=by
 obtain⟨r,r1,r2⟩:=XC l.length 0 ((l.length:Int)-1) l hl (by omega) (by omega) (by omega) (by omega) (by omega);refine⟨r,?_,r2⟩
 unfold kD.f
 rw[w64 (by omega) (by omega)];exact r1
def k6 (C:List (List Int)):List Int:=C.map fun l=>(l.length:Int)
theorem agH (C:List (List Int)) (i:Nat) (h:i<C.length):k6 (C.take (i+1))=k6 (C.take i)++[((d7 C (i:Int)).length:Int)]:=by
 unfold k6 d7
 rw[List.take_succ_eq_append_getElem h,List.map_append,Int.toNat_natCast,List.getD_eq_getElem?_getD,List.getElem?_eq_getElem h];rfl
theorem agu (C:List (List Int)) (hC:C.length<=1048576) (hp:0<C.length):∃r,r.Perm (k6 C)/\∀(d i:Nat),C.length-i=d->i<=C.length->Ev (fun k=>qQ.l0 k (k6 (C.take i)) C C.length i) r:=by
 have hll:(k6 C).length=C.length:=by simp[k6]
 have hs:((k6 C).mergeSort fun x y=>decide (x<=y)).length=C.length:=by rw[List.length_mergeSort,hll]
 obtain⟨r,r1,r2⟩:=agK ((k6 C).mergeSort fun x y=>decide (x<=y)) (by omega);refine⟨r,r2.trans (List.mergeSort_perm _ _),?_⟩;intro d
 induction d with
 |zero=>
  intro i hd hi
  have e:i=C.length:=by omega
  rw[e,List.take_length];refine Ev.s ?_
  have hsort:AM.f (k6 C)=some ((k6 C).mergeSort fun x y=>decide (x<=y)):=by
   unfold AM.f
   rw[if_pos ⟨by omega,by omega⟩]
  simp only[qQ.l0,show ¬(C.length:Int)<(C.length:Int) by omega,if_false,hsort,Option.bind_some];exact Ev.bind r1 (Ev.const rfl)
 |succ d ih=>
  intro i hd hi;have h:=ih (i+1) (by omega) (by omega);rw[agH C i (by omega)]at h
  have hlt:(k6 (C.take i)).length<17592186044416:=by simp only[k6,List.length_map,List.length_take];omega
  refine Ev.s ?_;simp only[qQ.l0,show(i:Int)<(C.length:Int) by omega,show(0:Int)<=(i:Int) by omega,hlt,if_true,fz (show i<4611686018427387904 by omega)];exact h
def tC (r:List Int):Bool:=r.all fun x=>decide (x=4)
theorem Yj (r:List Int) (i:Nat) (h:i<r.length):tC (r.drop i)=(decide (rd r i=4)&&tC (r.drop (i+1))):=by
 unfold tC
 rw[List.drop_eq_getElem_cons h,List.all_cons,kE r i h]
def tlL (C:List (List Int)):Nat->List Int
 |0=>[]
 |d+1=>List.replicate (C.countP fun l=>decide (l.length=d+1)) ((d+1:Nat):Int)++tlL C d
theorem Zr (C:List (List Int)) (x:Int):∀d,x∈tlL C d↔∃l∈C,1<=l.length/\l.length<=d/\x=(l.length:Int)
 |0=>by
  simp only[tlL,List.not_mem_nil,false_iff];rintro⟨l,_,h1,h2,_⟩;omega
 |d+1=>by
  simp only[tlL,List.mem_append,List.mem_replicate,Zr C x d]
  constructor
  · rintro(⟨h,rfl⟩|⟨l,hl,h1,h2,rfl⟩)
    · obtain⟨l,hl,e⟩:=List.countP_pos_iff.1 (Nat.pos_of_ne_zero h)
      have e:=of_decide_eq_true e;exact⟨l,hl,by omega,by omega,by rw[e]⟩
    ·exact⟨l,hl,h1,by omega,rfl⟩
  · rintro⟨l,hl,h1,h2,rfl⟩
    by_cases e:l.length=d+1
    ·exact .inl ⟨Nat.ne_of_gt (List.countP_pos_iff.2 ⟨l,hl,decide_eq_true e⟩),by rw[e]⟩
    ·exact .inr ⟨l,hl,h1,by omega,rfl⟩
theorem WT (C:List (List Int)):∀d,(tlL C d).length<=d*C.length
 |0=>by simp[tlL]
 |d+1=>by
  have ih:=WT C d;have:=List.countP_le_length (p:=fun l:List Int=>decide (l.length=d+1)) (l:=C);simp only[tlL,List.length_append,List.length_replicate];rw[Nat.succ_mul];omega
theorem NE (C:List (List Int)) (hC:C.length<=12) (n:Nat) (v:Nat) (hv:v<=12) (r:List Int):∀(d i:Nat) (acc:List Int),C.length-i=d->i<=C.length->acc.length+d<=1000->
 Ev (fun k=>kC.l0 k (acc++List.replicate ((C.drop i).countP fun l=>decide (l.length=v)) (v:Int)) C (wrap64 ((v:Int)-1))) r->Ev (fun k=>kC.l1 k acc C v i) r
 |0,i,acc,hd,hi,ha,h=>by
  refine Ev.s ?_;rw[List.drop_eq_nil_of_le (by omega)]at h;simp only[List.countP_nil,List.replicate_zero,List.append_nil]at h;simp only[kC.l1,show ¬(i:Int)<(C.length:Int) by omega,if_false];exact h
 |d+1,i,acc,hd,hi,ha,h=>by
  have hlt:i<C.length:=by omega
  have hrd:d7 C (i:Int)=C[i]:=by unfold d7;rw[Int.toNat_natCast,List.getD_eq_getElem?_getD,List.getElem?_eq_getElem hlt];rfl
  rw[List.drop_eq_getElem_cons hlt,List.countP_cons]at h;refine Ev.s ?_;simp only[kC.l1,show(i:Int)<(C.length:Int) by omega,show(0:Int)<=(i:Int) by omega,hrd,if_true,fz (show i<4611686018427387904 by omega)]
  by_cases e:C[i].length=v
  · simp only[e,decide_true,if_true,show acc.length<17592186044416 by omega]at h ⊢
    refine NE C hC n v hv r d (i+1) (acc++[(v:Int)]) (by omega) (by omega) (by rw[List.length_append,List.length_singleton];omega) ?_;rw[List.append_assoc,List.singleton_append,<-List.replicate_succ];exact h
  · simp only[e,decide_false,Bool.false_eq_true,if_false,Nat.add_zero]at h
    simp only[show ¬((C[i].length:Nat):Int)=(v:Int) by omega,if_false];exact NE C hC n v hv r d (i+1) acc (by omega) (by omega) (by omega) h
theorem Wl (C:List (List Int)) (hC:C.length<=12):∀(d:Nat) (acc:List Int),d<=12->acc.length+12*d<=500->Ev (fun k=>kC.l0 k acc C (d:Int)) (acc++tlL C d)
 |0,acc,hd,ha=>by
  refine Ev.s ?_;simp only[kC.l0,tlL,List.append_nil,show ¬((0:Nat):Int)>0 by omega,if_false];exact Ev.const rfl
 |d+1,acc,hd,ha=>by
  have hc:=List.countP_le_length (p:=fun l:List Int=>decide (l.length=d+1)) (l:=C);have ih:=Wl C hC d (acc++List.replicate (C.countP fun l=>decide (l.length=d+1)) ((d+1:Nat):Int)) (by omega) (by rw[List.length_append,List.length_replicate];omega);refine Ev.s ?_;simp only[kC.l0,show((d+1:Nat):Int)>0 by omega,if_true];refine NE C hC 0 (d+1) hd _ C.length 0 acc (by omega) (by omega) (by omega) ?_;rw[List.drop_zero,w64 (x:=((d+1:Nat):Int)-1) (by omega) (by omega),show((d+1:Nat):Int)-1=(d:Int) by omega];rw[List.append_assoc]at ih;exact ih
theorem ahN (r s:List Int) (h:∀x,x∈r↔x∈s):tC r=tC s:=by
 unfold tC
 rw[Bool.eq_iff_iff,List.all_eq_true,List.all_eq_true];exact⟨fun z x hx=>z x ((h x).2 hx),fun z x hx=>z x ((h x).1 hx)⟩
theorem Xe (r:List Int) (hr:r.length<=1048576):∀(d i:Nat),r.length-i=d->i<=r.length->Ev (fun k=>oG.l0 k r r.length i) (tC (r.drop i))
 |0,i,hd,hi=>by
  refine Ev.s ?_;simp only[oG.l0,show ¬(i:Int)<(r.length:Int) by omega,if_false];rw[List.drop_eq_nil_of_le (by omega)];exact Ev.const rfl
 |d+1,i,hd,hi=>by
  have ih:=Xe r hr d (i+1) (by omega) (by omega);rw[Yj r i (by omega)];refine Ev.s ?_;simp only[oG.l0,show(i:Int)<(r.length:Int) by omega,show(0:Int)<=(i:Int) by omega,if_true,fz (show i<4611686018427387904 by omega)]
  by_cases h:rd r i=4
  · simp only[h,if_true,decide_true,Bool.true_and]
    exact ih
  · simp only[h,if_false,decide_false,Bool.false_and]
    exact Ev.const rfl
theorem VB (r:List Int) (hr:r.length<=1048576):∀(d i:Nat),r.length-i=d->i<=r.length->Ev (fun k=>qX.l0 k r i) (tC (r.drop i))
 |0,i,hd,hi=>by
  refine Ev.s ?_;simp only[qX.l0,show ¬(i:Int)<(r.length:Int) by omega,if_false];rw[List.drop_eq_nil_of_le (by omega)];exact Ev.const rfl
 |d+1,i,hd,hi=>by
  have ih:=VB r hr d (i+1) (by omega) (by omega);rw[Yj r i (by omega)];refine Ev.s ?_;simp only[qX.l0,show(i:Int)<(r.length:Int) by omega,show(0:Int)<=(i:Int) by omega,if_true,fz (show i<4611686018427387904 by omega)]
  by_cases h:rd r i=4
  · simp only[h,if_true,decide_true,Bool.true_and]
    exact ih
  · simp only[h,if_false,decide_false,Bool.false_and]
    exact Ev.const rfl
theorem XR (t f:List Int) (n:Nat) (hn:n<=1048576) (hrt:inR n t) (hrf:inR n f):Ev (fun k=>sK.f k t f) (bX f t n)/\Ev (fun k=>iH.f k f t) (bX f t n):=
 ⟨by unfold sK.f;exact Ev.bind (Jb n hn f t hrf hrt) (Ev.const rfl),wW n hn f t hrf hrt⟩
theorem ahX (t f:List Int) (h:isMap t f):∃q:Bool,Ev (fun k=>qX.f k t f) q/\Ev (fun k=>oG.f k t f) q/\(q=true↔∀l∈(cyS (bX f t t.length) t.length t.length).2,l.length=4):=by
 obtain⟨pt,pf,hlen,hfl,hcon⟩:=id h;have hrt:=tO t pt
 have hrf:inR t.length f:=by have:=tO f pf;rwa [<-hlen]at this
 have hn:t.length<=12/\1<=t.length:=⟨pt.2.1,pt.1⟩;have hm:=qW t.length f t hrf hrt;have hCb:=Yt _ t.length hm t.length (Nat.le_refl _);have hCm:=CV (bX f t t.length) t.length t.length;have hCp:=ahI (bX f t t.length) t.length hn.2;have hml:=tz f t t.length;obtain⟨hSm,hIm⟩:=XR t f t.length (by omega) hrt hrf;have hSc:=afT (bX f t t.length) t.length (by omega) hm;have hIc:=FE (bX f t t.length) t.length (by omega) hm;obtain⟨b,_,b2,b3⟩:=AL t f (by omega) (by omega);rw[b3.2 h]at b2;obtain⟨r,r1,r2⟩:=agu (cyS (bX f t t.length) t.length t.length).2 (by omega) hCp
 have hType:Ev (fun k=>qQ.f k (bX f t t.length)) r:=by
  unfold qQ.f
  refine Ev.bind hIc ?_;exact r2 _ 0 rfl (by omega)
 have hrl:r.length<=1048576:=by rw[r1.length_eq];simp only[k6,List.length_map];omega
 have hSType:Ev (fun k=>kC.f k (bX f t t.length)) (tlL (cyS (bX f t t.length) t.length t.length).2 t.length):=by
  unfold kC.f
  refine Ev.bind hSc ?_;rw[hml];have:=Wl (cyS (bX f t t.length) t.length t.length).2 (by omega) t.length [] (by omega) (by simp only[List.length_nil];omega);exact this
 have hsl:(tlL (cyS (bX f t t.length) t.length t.length).2 t.length).length<=1048576:=by
  have h:=WT (cyS (bX f t t.length) t.length t.length).2 t.length;have:t.length*(cyS (bX f t t.length) t.length t.length).2.length<=12*12:=Nat.mul_le_mul hn.1 (by omega);omega
 have h4:tC r=tC (tlL (cyS (bX f t t.length) t.length t.length).2 t.length):=ahN _ _ fun x=>by
  rw[r1.mem_iff,Zr]
  unfold k6
  rw[List.mem_map]
  constructor
  · rintro⟨l,hl,rfl⟩
    exact⟨l,hl,(hCb l hl).1,(hCb l hl).2,rfl⟩
  · rintro⟨l,hl,_,_,rfl⟩
    exact⟨l,hl,rfl⟩
 refine⟨tC r,?_,?_,?_⟩
 · unfold qX.f
   refine Ev.bind hSm ?_;refine Ev.bind hSType ?_;rw[h4];exact VB _ hsl _ 0 rfl (by omega)
 · unfold oG.f
   refine Ev.bind b2 ?_;simp only[if_true];refine Ev.bind hIm ?_;refine Ev.bind hType ?_;exact Xe r hrl r.length 0 (by omega) (by omega)
 · unfold tC
   rw[List.all_eq_true]
   constructor
   · intro z l hl
     have:=z (l.length:Int) (r1.mem_iff.2 (List.mem_map.2 ⟨l,hl,rfl⟩));have:=of_decide_eq_true this;omega
   · intro z x hx
     obtain⟨l,hl,rfl⟩:=List.mem_map.1 (r1.mem_iff.1 hx);exact decide_eq_true (by have:=z l hl;omega)
def nmE (g:List Int):Nat->Nat
 |0=>0
 |i+1=>if Int.tmod (rd g i) 2=0 then nmE g i+1 else nmE g i
theorem MQ (g:List Int) (i:Nat):∀d,nmE g i<=nmE g (i+d)
 |0=>Nat.le_refl _
 |d+1=>by
  have:=MQ g i d;rw[<-Nat.add_assoc];simp only[nmE]
  split<;>omega
theorem IZ (g:List Int):∀i,nmE g i<=i
 |0=>Nat.le_refl _
 |i+1=>by
  have:=IZ g i;simp only[nmE]
  split<;>omega
theorem Ys {t f:List Int} (h:isMap t f):jO t f t.length:=by
 obtain⟨pt,pf,hlen,hfl,hcon⟩:=h;refine⟨pt.2.1,pt.1,tO t pt,fun i j hi hj e=>?_,by have:=tO f pf;rwa [<-hlen]at this,by rw[hlen];exact hfl,by rw[hlen];exact hcon⟩
 refine Classical.byContradiction fun hne=>?_
 rcases Nat.lt_or_gt_of_ne hne with q|q
 ·exact(pt.2.2 j hj).2.2 i q e
 ·exact(pt.2.2 i hi).2.2 j q e.symm
def tmF (t fc bk nm:List Int) (i:Nat):Int:=rd nm (rd bk (rd fc (rd fc (rd t i))))
def tmA (g t nm:List Int):Nat->List Int
 |0=>[]
 |i+1=>if Int.tmod (rd g i) 2=0 then tmA g t nm i++[rd nm (rd t i)]else tmA g t nm i
def tmB (g t fc bk nm:List Int):Nat->List Int
 |0=>[]
 |i+1=>if Int.tmod (rd g i) 2=0 then tmB g t fc bk nm i++[tmF t fc bk nm i]else tmB g t fc bk nm i
theorem C3 (g t nm:List Int):∀i,(tmA g t nm i).length=nmE g i
 |0=>rfl
 |i+1=>by
  simp only[tmA,nmE]
  split<;>simp[C3 g t nm i]
theorem Dy (g t fc bk nm:List Int):∀i,(tmB g t fc bk nm i).length=nmE g i
 |0=>rfl
 |i+1=>by
  simp only[tmB,nmE]
  split<;>simp[Dy g t fc bk nm i]
theorem Nv (t f g nm fc bk:List Int) (n:Nat) (hn:n<=12) (ht:inR n t) (hg:g.length=n) (hfc:inR n fc) (hbk:inR n bk) (hnl:nm.length=n) (hnm:∀z:Nat,z<n->rd nm z=nmE g z):
 ∀(d i:Nat) (A B:List Int),n-i=d->i<=n->A.length=nmE g n->B.length=nmE g n->A.take (nmE g i)=tmA g t nm i->B.take (nmE g i)=tmB g t fc bk nm i->
  Ev (fun k=>dv.l1 k g nm bk fc i t f (tmA g t nm i) (tmB g t fc bk nm i)) (tmA g t nm n,tmB g t fc bk nm n,true)/\
  Ev (fun k=>cH.l1 k nm fc bk g n i t f A B) (tmA g t nm n,tmB g t fc bk nm n,true)
 |0,i,A,B,hd,hi,hA,hB,eA,eB=>by
  have:i=n:=by omega
  subst this;rw[<-hA,List.take_length]at eA;rw[<-hB,List.take_length]at eB;refine⟨Ev.s ?_,Ev.s ?_⟩
  · simp only[dv.l1,hg,show ¬(i:Int)<(i:Int) by omega,if_false]
    exact Ev.const rfl
  · simp only[cH.l1,show ¬(i:Int)<(i:Int) by omega,if_false]
    exact Ev.const (by rw[eA,eB])
 |d+1,i,A,B,hd,hi,hA,hB,eA,eB=>by
  have hlt:i<n:=by omega
  have hti:=ht.2 i hlt;obtain⟨a,ha⟩:∃a:Nat,rd t i=a:=⟨(rd t i).toNat,by omega⟩;rw[ha]at hti
  have han:a<n:=by omega
  have h1:=hfc.2 a han;obtain⟨b,hb⟩:∃b:Nat,rd fc a=b:=⟨(rd fc a).toNat,by omega⟩;rw[hb]at h1
  have hbn:b<n:=by omega
  have h2:=hfc.2 b hbn;obtain⟨c,hc⟩:∃c:Nat,rd fc b=c:=⟨(rd fc b).toNat,by omega⟩;rw[hc]at h2
  have hcn:c<n:=by omega
  have h3:=hbk.2 c hcn;obtain⟨e,he⟩:∃e:Nat,rd bk c=e:=⟨(rd bk c).toNat,by omega⟩;rw[he]at h3
  have g1:(i:Int)<(n:Int):=by omega
  have g2:(0:Int)<=(i:Int):=by omega
  have g3:(0:Int)<=(a:Int):=by omega
  have g5:(0:Int)<=(b:Int):=by omega
  have g7:(0:Int)<=(c:Int):=by omega
  have g9:(0:Int)<=(e:Int):=by omega
  have hm1:=MQ g (i+1) (n-(i+1));rw[show i+1+(n-(i+1))=n by omega]at hm1;have hle:=IZ g n
  by_cases ev:Int.tmod (rd g i) 2=0
  · have hs:nmE g (i+1)=nmE g i+1:=by simp only[nmE,ev,if_true]
    have hlt2:nmE g i<nmE g n:=by omega
    have q1:((nmE g i:Nat):Int)<((nmE g n:Nat):Int):=by omega
    have q0:(0:Int)<=((nmE g i:Nat):Int):=by omega
    have hAs:tmA g t nm (i+1)=tmA g t nm i++[rd nm a]:=by simp only[tmA,ev,if_true,ha]
    have hBs:tmB g t fc bk nm (i+1)=tmB g t fc bk nm i++[rd nm e]:=by simp only[tmB,ev,if_true,tmF,ha,hb,hc,he]
    have lA:(tmA g t nm i).length<17592186044416:=by rw[C3];omega
    have lB:(tmB g t fc bk nm i).length<17592186044416:=by rw[Dy];omega
    obtain⟨r1,r2⟩:=Nv t f g nm fc bk n hn ht hg hfc hbk hnl hnm d (i+1) (A.set (nmE g i) (rd nm a)) (B.set (nmE g i) (rd nm e)) (by omega) (by omega) (by simp[hA]) (by simp[hB])
     (by rw[hs,FD _ _ _ (by omega),eA,hAs]) (by rw[hs,FD _ _ _ (by omega),eB,hBs])
    rw[hAs,hBs]at r1;refine⟨Ev.s ?_,Ev.s ?_⟩
    · simp only[dv.l1,hg,ht.1,hnl,hfc.1,hbk.1,g1,g2,g3,g5,g7,g9,ev,ha,hb,hc,he,hti.2,h1.2,h2.2,h3.2,lA,lB,if_true]
      rw[fz (by omega)];exact r1
    · simp only[cH.l1,hg,ht.1,hnl,hfc.1,hbk.1,g1,g2,g3,g5,g7,g9,ev,ha,hb,hc,he,hti.2,h1.2,h2.2,h3.2,hnm i hlt,q0,q1,hA,hB,if_true,Int.toNat_natCast]
      rw[fz (by omega)];exact r2
  · have hs:nmE g (i+1)=nmE g i:=by simp only[nmE,ev,if_false]
    have hAs:tmA g t nm (i+1)=tmA g t nm i:=by simp only[tmA,ev,if_false]
    have hBs:tmB g t fc bk nm (i+1)=tmB g t fc bk nm i:=by simp only[tmB,ev,if_false]
    obtain⟨r1,r2⟩:=Nv t f g nm fc bk n hn ht hg hfc hbk hnl hnm d (i+1) A B (by omega) (by omega) hA hB (by rw[hs,eA,hAs]) (by rw[hs,eB,hBs]);rw[hAs,hBs]at r1;refine⟨Ev.s ?_,Ev.s ?_⟩
    · simp only[dv.l1,hg,g1,g2,ev,if_true,if_false]
      rw[fz (by omega)];exact r1
    · simp only[cH.l1,hg,g1,g2,ev,if_true,if_false]
      rw[fz (by omega)];exact r2
theorem ahM (x:Int) (h:0<=x):Int.tmod x 2=0\/Int.tmod x 2=1:=by
 rw[Int.tmod_eq_emod_of_nonneg h];omega
theorem X1 (t f g:List Int) (n:Nat) (H:jO t f n) (hg:g.length=n) (hg0:∀x:Nat,x<n->0<=rd g x):
 ∀(d i:Nat) (l:List Int),n-i=d->i<=n->l.length=n->(∀z:Nat,z<i->rd l z=nmE g z)->
  ∃r,Ev (fun k=>dv.l0 k g l (nmE g i) i t f) r/\Ev (fun k=>cH.l0 k g l (nmE g i) f n i t f) r/\r.1.length<=12/\r.2.1.length<=12/\(r.2.2=true->(∀x:Nat,i<=x->x<n->¬Int.tmod (rd g x) 2=Int.tmod (rd g (rd f x)) 2)/\∃l':List Int,l'.length=n/\(∀z:Nat,z<n->rd l' z=nmE g z)/\r=(tmA g t l' n,tmB g t (bX f t n) (fM t n n) l' n,true))
 |0,i,l,hd,hi,hl,h=>by
  have:i=n:=by omega
  subst this;obtain⟨hn,h1,ht,hti,hf,hfl,hcon⟩:=id H;obtain⟨hSm,hIm⟩:=XR t f i (by omega) ht hf;have hle:=IZ g i;obtain⟨r1,r2⟩:=Nv t f g l (bX f t i) (fM t i i) i hn ht hg (qW i f t hf ht) (yE t i) hl h i 0 (List.replicate (nmE g i) 0) (List.replicate (nmE g i) 0) (by omega) (by omega) (by simp) (by simp) (by simp[nmE,tmA]) (by simp[nmE,tmB]);refine⟨(tmA g t l i,tmB g t (bX f t i) (fM t i i) l i,true),Ev.s ?_,Ev.s ?_,by rw[C3];omega,by rw[Dy];omega,fun _=>⟨fun x h1 h2=>absurd h2 (by omega),l,hl,h,rfl⟩⟩
  · simp only[dv.l0,hg,show ¬(i:Int)<(i:Int) by omega,if_false]
    refine Ev.bind (NM i (by omega) t ht) ?_;refine Ev.bind hSm ?_;exact r1
  · simp only[cH.l0,show ¬(i:Int)<(i:Int) by omega,if_false]
    refine Ev.bind hIm ?_;refine Ev.bind (IK i (by omega) t ht) ?_;simp only[show(0:Int)<=((nmE g i:Nat):Int) by omega,show nmE g i<=35184372088832 by omega,if_true,Int.toNat_natCast,hg];exact r2
 |d+1,i,l,hd,hi,hl,h=>by
  obtain⟨hn,h1,ht,hti,hf,hfl,hcon⟩:=id H
  have hlt:i<n:=by omega
  have hfi:=hf.2 i hlt
  have g1:(i:Int)<(n:Int):=by omega
  have g2:(0:Int)<=(i:Int):=by omega
  have hle:=IZ g i
  by_cases ev:Int.tmod (rd g i) 2=Int.tmod (rd g (rd f i)) 2
  · refine⟨([],[],false),Ev.s ?_,Ev.s ?_,by simp,by simp,fun h=>absurd h (by simp)⟩
    · simp only[dv.l0,hg,hf.1,hfi.1,hfi.2,g1,g2,ev,if_true]
      exact Ev.const rfl
    · simp only[cH.l0,hg,hf.1,hfi.1,hfi.2,g1,g2,ev,if_true]
      exact Ev.const rfl
  · obtain⟨r,r1,r2,r3⟩:=X1 t f g n H hg hg0 d (i+1) (l.set i (nmE g i)) (by omega) (by omega) (by simp[hl]) (fun z hz=>by
     rw[oL _ _ _ _ (by omega)]
     by_cases e:z=i
     ·rw[if_pos e,e]
     ·rw[if_neg e];exact h z (by omega))
    refine⟨r,Ev.s ?_,Ev.s ?_,r3.1,r3.2.1,fun h=>⟨fun x h1 h2=>by
     by_cases e:x=i
     ·subst e;exact ev
     ·exact(r3.2.2 h).1 x (by omega) h2,(r3.2.2 h).2⟩⟩
    · simp only[dv.l0,hg,hf.1,hfi.1,hfi.2,g1,g2,ev,hl,if_true,if_false,Int.toNat_natCast]
      rw[fz (i:=i) (by omega),fz (i:=nmE g i) (by omega)]
      have:wrap64 (((nmE g i+1:Nat):Int)-Int.tmod (rd g i) 2)=((nmE g (i+1):Nat):Int):=by
       rcases ahM (rd g i) (hg0 i hlt)with q|q
       · rw[q,w64 (by omega) (by omega)]
         simp only[nmE,q,if_true];omega
       · rw[q,w64 (by omega) (by omega)]
         simp only[nmE,q,show ¬(1:Int)=0 by decide,if_false];omega
      rw[this];exact r1
    · simp only[cH.l0,hg,hf.1,hfi.1,hfi.2,g1,g2,ev,hl,if_true,if_false,Int.toNat_natCast,Option.bind_some]
      by_cases q:Int.tmod (rd g i) 2=0
      · simp only[q,if_true]
        rw[fz (i:=i) (by omega),fz (i:=nmE g i) (by omega)]
        have:nmE g (i+1)=nmE g i+1:=by simp only[nmE,q,if_true]
        rw[this]at r2;exact r2
      · simp only[q,if_false]
        rw[fz (i:=i) (by omega)]
        have:nmE g (i+1)=nmE g i:=by simp only[nmE,q,if_false]
        rw[this]at r2;exact r2
theorem agY (t f:List Int) (a:Int) (ht:t.length<=1048576) (hf:f.length<=1048576):∃r:List Int×List Int×Bool,Ev (fun k=>dv.f k t f a) r/\Ev (fun k=>cH.f k t f a) r/\r.1.length<=12/\r.2.1.length<=12/\(r.2.2=true->isMap t f/\(∀l∈(cyS (bX f t t.length) t.length t.length).2,l.length=4)/\∃a':Nat,a=a'/\a'<t.length/\∃g,lG t f t.length a' g/\Ev (fun k=>xh.f k t f (a':Int)) g/\(∀x:Nat,x<t.length->¬Int.tmod (rd g x) 2=Int.tmod (rd g (rd f x)) 2)/\∃l':List Int,l'.length=t.length/\(∀z:Nat,z<t.length->rd l' z=nmE g z)/\r=(tmA g t l' t.length,tmB g t (bX f t t.length) (fM t t.length t.length) l' t.length,true)):=by
 obtain⟨b,b1,b2,b3⟩:=AL t f ht hf
 have no:∀(d:Bool),Ev (fun k=>dv.j0 k a true t f) ([],[],false)/\Ev (fun k=>cH.j0 k a true t f) ([],[],false):=fun _=>⟨Ev.s (by
  simp only[dv.j0,if_true];exact Ev.const rfl),Ev.s (by simp only[cH.j0,if_true];exact Ev.const rfl)⟩
 unfold dv.f cH.f
 cases b with
 |false=>
  refine⟨([],[],false),?_,?_,by simp,by simp,fun h=>absurd h (by simp)⟩
  · refine Ev.bind (a:=false) ?_ ?_
    · unfold xg.f
      refine Ev.bind b1 ?_;simp only[Bool.false_eq_true,if_false];exact Ev.const rfl
    · simp only[Bool.false_eq_true,if_false]
      exact(no true).1
  · refine Ev.bind (a:=false) ?_ ?_
    · unfold oG.f
      refine Ev.bind b2 ?_;simp only[Bool.false_eq_true,if_false];exact Ev.const rfl
    · simp only[Bool.false_eq_true,if_false]
      exact(no true).2
 |true=>
  have hm:=b3.1 rfl;have H:=Ys hm;obtain⟨q,q1,q2,q3⟩:=ahX t f hm
  have hD:Ev (fun k=>xg.f k t f a) (decide (0<=a/\a<=(t.length:Int)-1)):=by
   unfold xg.f
   refine Ev.bind b1 ?_;have hw:wrap64 ((t.length:Int)-1)=(t.length:Int)-1:=w64 (by omega) (by omega);simp only[if_true,hw,Do,Option.bind_some];exact Ev.const rfl
  by_cases hq:q=true
  · subst hq
    by_cases ha:0<=a/\a<=(t.length:Int)-1
    · obtain⟨a',rfl⟩:∃a':Nat,a=a':=⟨a.toNat,by omega⟩
      have ha':a'<t.length:=by omega
      obtain⟨g,hg,e1,e2⟩:=agI t f t.length H a' ha';obtain⟨r,r1,r2,r3⟩:=X1 t f g t.length H hg.len (fun x hx=>(hg.rng x hx).1) t.length 0 (List.replicate t.length 0) (by omega) (by omega) (by simp) (fun z hz=>by omega);have hfl:f.length=t.length:=H.2.2.2.2.1.1;refine⟨r,?_,?_,r3.1,r3.2.1,fun h=>⟨hm,q3.1 rfl,a',rfl,ha',g,hg,e2,fun x hx=>(r3.2.2 h).1 x (by omega) hx,(r3.2.2 h).2⟩⟩
      · refine Ev.bind hD ?_
        simp only[ha,and_self,decide_true,if_true];refine Ev.bind q1 ?_;refine Ev.s ?_;simp only[dv.j0,Bool.not_true,Bool.false_eq_true,if_false];refine Ev.bind e1 ?_;simp only[hg.len,Int.toNat_natCast,show(0:Int)<=(t.length:Int) by omega,show t.length<=35184372088832 by omega,if_true];exact r1
      · refine Ev.bind q2 ?_
        simp only[if_true,show ¬(a':Int)<0 by omega,if_false];refine Ev.s ?_;simp only[cH.j0,show ¬(a':Int)>=(t.length:Int) by omega,decide_false,Bool.false_eq_true,if_false];refine Ev.bind e2 ?_;simp only[hg.len,Int.toNat_natCast,show(0:Int)<=(t.length:Int) by omega,show t.length<=35184372088832 by omega,if_true,hfl];exact r2
    · refine⟨([],[],false),?_,?_,by simp,by simp,fun h=>absurd h (by simp)⟩
      · refine Ev.bind hD ?_
        simp only[ha,decide_false,Bool.false_eq_true,if_false];exact(no true).1
      · refine Ev.bind q2 ?_
        simp only[if_true]
        by_cases c:a<0
        ·simp only[c,if_true];exact(no true).2
        ·simp only[c,if_false,show a>=(t.length:Int) by omega,decide_true];exact(no true).2
  · rw[Bool.not_eq_true]at hq
    subst hq;refine⟨([],[],false),?_,?_,by simp,by simp,fun h=>absurd h (by simp)⟩
    · refine Ev.bind hD ?_
      by_cases ha:0<=a/\a<=(t.length:Int)-1
      · simp only[ha,and_self,decide_true,if_true]
        refine Ev.bind q1 ?_;simp only[Bool.not_false];exact(no true).1
      · simp only[ha,decide_false,Bool.false_eq_true,if_false]
        exact(no true).1
    · refine Ev.bind q2 ?_
      simp only[Bool.false_eq_true,if_false];exact(no true).2
end Go.Proofs.Ytlpbalebodlipaa.PL
