/- A part of the proof of FnQuadTree. There are no conditions. -/
import Derived.Test.YtlpbalebodlipaaProg
import Derived.Below
import Derived.Deep.Draws
import Derived.Deep.AppendLies
import Derived.Maps.AppendAt
import Derived.OwnWalk
import Derived.Laws.BytesArg
import Derived.Laws.MakeOwn
import Derived.Laws.OwnMore
import Derived.Tactics
import Derived.Lib.ConvBytes
import Derived.Laws.Slices
import Derived.WalkKit
import Derived.KernelRfl
import Derived.RowKit3
import Derived.Deep.LoopGhost
import Derived.Deep.QuietTactic
import Derived.BigQuiet
import Derived.WideLaws
import Derived.Deep.DeepCutAuto
import Derived.Deep.CutBlock
import Derived.Deep.RegionHeld3
import Derived.Lib.AppendStr
import Derived.ArgAppend
import Derived.Laws.IdiomCopy
import Derived.OrdersHeld
import Derived.Laws.BitsLemmas
import Derived.RowKit
import Derived.Laws.RangeAny
import Derived.Laws.RangeString
import Derived.Shelf.Sort.Plain
import Derived.Sort.OwnSortedInts
import Derived.ProofKit
import Derived.OpenShut
import Derived.ShutString
import Derived.ChangeOld
import Derived.SizedLaws
import Derived.Test.YtlpbalebodlipaaKQXWWords
import Derived.Test.YtlpbalebodlipaaKQXWLast
import Derived.Test.YtlpbalebodlipaaKQXWTab
import Derived.Test.YtlpbalebodlipaaKQXWFour
import Derived.Test.YtlpbalebodlipaaKQXWQPut
import Derived.Test.YtlpbalebodlipaaKQXWApart
import Derived.Test.YtlpbalebodlipaaKQXWArr
import Derived.Test.YtlpbalebodlipaaKQXWFoot
import Derived.Test.YtlpbalebodlipaaKQXWKept
import Derived.Test.YtlpbalebodlipaaKQXWShare
import Derived.Test.YtlpbalebodlipaaKQXWN
import Derived.Test.YtlpbalebodlipaaKQXWAt
import Derived.Test.YtlpbalebodlipaaKQXWRepsOne
import Derived.Test.YtlpbalebodlipaaKQXWInv
import Derived.Test.YtlpbalebodlipaaKQXWGuard
import Derived.Test.YtlpbalebodlipaaKQXWNEv
import Derived.Test.YtlpbalebodlipaaKQXWMore
import Derived.Test.YtlpbalebodlipaaKQXWSized
import Derived.Deep.OwnRows
import Derived.Laws.Rows
import Derived.Test.YtlpbalebodlipaaRows
set_option maxHeartbeats 0
namespace Go.Proofs.Ytlpbalebodlipaa.PL
open Go.RowKit Go.Proofs.YtlpbalebodlipaaW.PrintWords Go.Proofs.YtlpbalebodlipaaW.PrintLast Go.Proofs.YtlpbalebodlipaaW.PrintMore
theorem ac{p:Prop}(h:p:=by omega):p:=h
theorem aM{p:Prop}(h:p:=by kernel_rfl):p:=h
theorem af{p:Prop}(h:p:=by decide):p:=h
theorem aW{p:Prop}(h:p:=by rfl):p:=h
theorem ay{p:Prop}(h:p:=by simp):p:=h
theorem sX{p:Prop}(h:p:=by repeat (first|(with_reducible first|exact HK.1|apply Kept.alloc|apply Kept.drewN|apply Kept.drew)|exact HK.1)):p:=h
theorem oA{p:Prop}[Decidable p](h:decide p=true:=by first|(with_reducible assumption)|assumption):p:=of_decide_eq_true h
theorem rS{p:Prop}(h:p:=by first|rfl|(simp;done)|(simp[*];done)):p:=h
theorem rE{p:Prop}(h:p:=by first|rfl|(simp[d9,ec]<;>rfl)|(simp[*,d9,ec]<;>rfl)):p:=h
theorem Az{p:Prop}(h:p):ae p:=ae.mk h
theorem rU{p q:Prop}(h:q)(f:q->p:=by intro h;(with_reducible repeat (first|apply Kd.pI|apply Kd.qc|apply Kd.bD));exact h):p:=f h
theorem sU{p q:Prop}(h:q)(f:q->p:=by intro h;(with_reducible repeat (first|apply Kd.l8|apply Kd.lJ|apply Kd.jB));exact h):p:=f h
theorem vU{p q:Prop}(h:q)(f:q->p:=by intro h;(with_reducible repeat (first|apply Kd.HT|apply Kd.EW|apply Kd.FC));exact h):p:=f h
theorem nU{p q:Prop}(h:q)(f:q->p:=by intro h;(with_reducible repeat (first|apply Kd.H9|apply Kd.FJ|apply Kd.Ii));exact h):p:=f h
theorem qU{p q:Prop}(h:q)(f:q->p:=by intro h;(with_reducible repeat (first|apply Kd.rJ|apply Kd.tk|apply Kd.jU));exact h):p:=f h
theorem kU{p q:Prop}(h:q)(f:q->p:=by intro h;(with_reducible repeat (first|refine wW ?_ _|refine bC ?_|refine iU ?_ _));exact h):p:=f h
theorem cU{p q:Prop}(h:q)(f:q->p:=by intro h;repeat (first|exact h|(with_reducible refine Kd.kF ?_ _)|(with_reducible refine Kd.jF ?_ _)|(with_reducible refine Kd.iG ?_))):p:=f h
theorem aT{p q:Prop}(h:q)(f:q->p:=by intro h;repeat (first|(with_reducible first|exact h|apply bK|apply cg|apply cK)|exact h)):p:=f h
theorem av{p q a0:Prop}(h:q)(g0:a0)(f:q->a0->p:=by intro h g0;repeat (first|(with_reducible first|exact h|apply bK|apply cg|apply cK|refine aN ?_ g0)|exact h)):p:=f h g0
theorem bO{p q a0 a1:Prop}(h:q)(g0:a0)(g1:a1)(f:q->a0->a1->p:=by intro h g0 g1;repeat (first|(with_reducible first|exact h|apply bK|apply cg|apply cK|refine aN ?_ g0|refine aN ?_ g1)|exact h)):p:=f h g0 g1
theorem bP{p q a0 a1 a2:Prop}(h:q)(g0:a0)(g1:a1)(g2:a2)(f:q->a0->a1->a2->p:=by intro h g0 g1 g2;repeat (first|(with_reducible first|exact h|apply bK|apply cg|apply cK|refine aN ?_ g0|refine aN ?_ g1|refine aN ?_ g2)|exact h)):p:=f h g0 g1 g2
theorem Cw{p q a0 a1 a2 a3:Prop}(h:q)(g0:a0)(g1:a1)(g2:a2)(g3:a3)(f:q->a0->a1->a2->a3->p:=by intro h g0 g1 g2 g3;repeat (first|(with_reducible first|exact h|apply bK|apply cg|apply cK|refine aN ?_ g0|refine aN ?_ g1|refine aN ?_ g2|refine aN ?_ g3)|exact h)):p:=f h g0 g1 g2 g3
theorem Dv{p q a0 a1 a2 a3 a4:Prop}(h:q)(g0:a0)(g1:a1)(g2:a2)(g3:a3)(g4:a4)(f:q->a0->a1->a2->a3->a4->p:=by intro h g0 g1 g2 g3 g4;repeat (first|(with_reducible first|exact h|apply bK|apply cg|apply cK|refine aN ?_ g0|refine aN ?_ g1|refine aN ?_ g2|refine aN ?_ g3|refine aN ?_ g4)|exact h)):p:=f h g0 g1 g2 g3 g4
theorem hR{α:Type}{a b:α}{p q:Prop}(e:a=b)(h:q)(f:a=b->q->p:=by intro e H;first|(rw[e];with_reducible exact H)|(have jV:=(Option.bind_some _ _).symm.trans H;rw[e];with_reducible exact jV)|(have jV:=(Option.bind_some _ _).symm.trans H;with_reducible exact jV)|with_reducible exact H|(rw[e];exact H)|exact H):p:=f e h
@[reducible] def al:=Kd.int .i64
@[reducible] def bJ:=Kd.slice 3 al
@[reducible] def ai(W w:World):=Kd.R al 3 W w.heap.size
def cV(L:List (Nat×Option Tmp))(n:Nat):Array Bool:=((List.range n).map (fun i=>!(L.map Prod.fst).contains i)).toArray
section
variable {P:Program} {D:Array Oper} {Q:Exit->Act->World->Prop} {md:Region.Mode} {S:World->Prop} {ds:List Nat}
theorem qh{i n:Nat}{N:Option Tmp}{L:List (Nat×Option Tmp)}{oi:Oper}{fuel:Nat}{a:Act}{w:World}(hi:D[i]?=some oi)(hN:oi.dst=N)(hc:nG md D (cV ((i,N)::L) n) (cV L n) i=true)
 (hQ:∀c a w,Q (.panic c) (a.put oi.dst undef) w->Q (.panic c) a w)(hw:Region.wanted oi (yielded D a.tmps)=false){a':Act}(ha:a.put N undef=a')
 (h:bG P md D Q S ds fuel (cV L n) a' w):bG P md D Q S ds (fuel+1) (cV ((i,N)::L) n) a w:=uI (cV L n) hi hN hc hQ (Or.inr ⟨hw,rfl⟩) ha h
theorem eK{i n:Nat}{N:Option Tmp}{L:List (Nat×Option Tmp)}{oi:Oper}{v:Value}{fuel:Nat}{a:Act}{w:World}(hi:D[i]?=some oi)(hN:oi.dst=N)(hc:nG md D (cV ((i,N)::L) n) (cV L n) i=true)
 (hQ:∀c a w,Q (.panic c) (a.put oi.dst v) w->Q (.panic c) a w)(hw:Region.wanted oi (yielded D a.tmps)=true)(hy:∀w,(execOp a.eval oi).run P w= .ok (.value v) w){a':Act}(ha:a.put N v=a')
 (h:bG P md D Q S ds fuel (cV L n) a' w):bG P md D Q S ds (fuel+1) (cV ((i,N)::L) n) a w:=uI (cV L n) hi hN hc hQ (Or.inl ⟨hw,hy⟩) ha h
theorem iN{i n:Nat}{N:Option Tmp}{L:List (Nat×Option Tmp)}{oi:Oper}{v:Value}{fuel:Nat}{a:Act}{w:World}(hi:D[i]?=some oi)(hN:oi.dst=N)(hc:takeB md D ds (cV ((i,N)::L) n) (cV L n) i=true)
 (hQ:∀c a w,Q (.panic c) (a.put oi.dst v) w->Q (.panic c) a w)(hw:Region.wanted oi (yielded D a.tmps)=true)(hy:∀w,S w->(execOp a.eval oi).run P w= .ok (.value v) w)(hS:S w){a':Act}(ha:a.put N v=a')
 (h:bG P md D Q S ds fuel (cV L n) a' w):bG P md D Q S ds (fuel+1) (cV ((i,N)::L) n) a w:=pC (cV L n) hi hN hc hQ (Or.inl ⟨hw,hy⟩) hS ha h
theorem kH{i n:Nat}{N:Option Tmp}{L:List (Nat×Option Tmp)}{oi:Oper}{fuel:Nat}{a:Act}{w:World}(hi:D[i]?=some oi)(hN:oi.dst=N)(hc:jS md D (cV ((i,N)::L) n) (cV L n) i=true)(hd:i∉ds)
 (h:∀K:Act->World->Prop,Shut (∀a' w',S w'->(S w'->bG P md D Q S ds fuel (cV L n) a' w')->K a' w')->if Region.wanted oi (yielded D a.tmps)=true then Oper.wp P oi a w K Q else K (a.put N undef) w):
 bG P md D Q S ds (fuel+1) (cV ((i,N)::L) n) a w:=uM (cV L n) hi hN hc hd h
theorem sO{i n:Nat}{N:Option Tmp}{L:List (Nat×Option Tmp)}{oi:Oper}{fuel:Nat}{a:Act}{w:World}(hi:D[i]?=some oi)(hN:oi.dst=N)(hc:jS md D (cV ((i,N)::L) n) (cV L n) i=true)(hd:i∈ds)
 (h:∀K:Act->World->Prop,Shut (∀a' w',bG P md D Q S ds fuel (cV L n) a' w'->K a' w')->if Region.wanted oi (yielded D a.tmps)=true then Oper.wp P oi a w K Q else K (a.put N undef) w):
 bG P md D Q S ds (fuel+1) (cV ((i,N)::L) n) a w:=wh (cV L n) hi hN hc hd h
end
theorem au{p:Prop}(h:p:=by exact fun _ hk=>hk.2):p:=h
theorem gO{p:Prop}(h:p:=by exact fun _ hk=>hk.1):p:=h
theorem eV{p:Prop}(h:p:=by first|(go_simp;done)|(go_simp;rfl)):p:=h
theorem bc{α:Type}{a b:α}(h:some a=some b):a=b:=Option.some.inj h
theorem kX{p q:Prop}(h:p)(k:¬p:=by simp):q:=absurd h k
theorem jr{α β:Type}{a c:α}{b d:β}(h:some (a,b)=some (c,d)):a=c/\b=d:=by simpa using h
theorem eH{α β γ:Type}{a c:α}{b d:β}{e f:γ}(h:some (a,b,e)=some (c,d,f)):a=c/\b=d/\e=f:=by simpa using h
theorem cN{p:Prop}(h:p:=by with_reducible first|exact bo.refl _|exact bo.none _):p:=h
theorem cJ{p q r:Prop}(h:q)(k:r)(f:q->r->p:=by intro h k;with_reducible exact bo.ite h k):p:=f h k
theorem cG{p q r:Prop}(h:q)(k:r)(f:q->r->p:=by intro h k;with_reducible exact bo.bind h k):p:=f h k
theorem ci{p q:Prop}(h:q)(f:q->p:=by intro h;(with_reducible repeat (first|apply Kd.l8|apply Kd.lJ|apply Kd.jB));exact h):p:=f h
theorem fU{p q:Prop}(h:q)(f:q->p:=by intro h;(with_reducible repeat (first|apply Kd.rJ|apply Kd.tk|apply Kd.jU));exact h):p:=f h
theorem bs{p:Prop}(h:p:=by exact Az (bh (aT HB.1) hb)):p:=h
theorem sN{p:Prop}(h:p:=by exact Az (vp (d:=0) aX.1 hg (fun eW e_ _ eM=>by first|exact(aE.1.1 eW.block (by rw[e_];rfl)).1 (congrArg some eM)|exact(aE.1.1 eW.block (by rw[e_];rfl)).2 (congrArg some eM)))):p:=h
theorem qY{p:Prop}(h:p:=by exact Az (vp (d:=0) bf.1 hg (fun eW e_ _ eM=>by first|exact(aM.1.1 eW.block (by rw[e_];rfl)).1 (congrArg some eM)|exact(aM.1.1 eW.block (by rw[e_];rfl)).2 (congrArg some eM)))):p:=h
theorem cX{p:Prop}(h:p:=by exact Az (cK HB.1)):p:=h
theorem cy{p:Prop}(h:p:=by exact gW hg (aT HB.1)):p:=h
theorem bp{p:Prop}(h:p:=by exact Az (O)):p:=h
theorem wZ{p:Prop}(h:p:=by exact Az (vp (d:=0) cw.1 hg (fun eW e_ _ eM=>by first|exact(ck.1.1 eW.block (by rw[e_];rfl)).1 (congrArg some eM)|exact(ck.1.1 eW.block (by rw[e_];rfl)).2 (congrArg some eM)))):p:=h
theorem br{p:Prop}(h:p:=by exact Az (hb)):p:=h
theorem Bt{p:Prop}(h:p:=by exact Az (aG.blk hk (g':=y) (o:=.cells #[.slice none 0 0,.slice none 0 0] 29 (0,0)) (kU s.1) am.1 ay)):p:=h
theorem zn{p:Prop}(h:p:=by exact Az (eU (g:=cv) (o:=.cells #[.string bA,.slice aJ ay.length aD] 25 (0,0)) (gR s.1 bQ.1) hb)):p:=h
theorem cr{p:Prop}(h:p:=by exact Az (ao)):p:=h
theorem qJ{p:Prop}(h:p:=by exact Az ((by rw[hg];exact(aK gI):w.heap.size<=cv))):p:=h
theorem zI{p:Prop}(h:p:=by exact Az (Kd.dM (v:=(.slice (some ⟨dT,0,none⟩) cv.length er)) (rU ew.1) (Kd.dO bX.1) af hg)):p:=h
theorem xr{p:Prop}(h:p:=by exact Az (Kd.dM (v:=(.slice (some ⟨dT,0,none⟩) cv.length er)) (rU z.1) (Kd.dO bX.1) af hg)):p:=h
theorem AC{p:Prop}(h:p:=by exact Az (Kd.dM (v:=(.slice (some ⟨dT,0,none⟩) cv.length er)) (rU L.1) (Kd.dO bX.1) af hg)):p:=h
theorem rR{p:Prop}(h:p:=by exact Az ((by rw[hg];exact(aK ga):w.heap.size<=ci))):p:=h
theorem jH{p:Prop}(h:p:=by exact Az (bh kQ hb)):p:=h
theorem jZ{p:Prop}(h:p:=by exact Az (bh ga hb)):p:=h
theorem jG{p:Prop}(h:p:=by exact Az (bh gI hb)):p:=h
theorem aV{p:Prop}(h:p:=by exact bd H):p:=h
theorem Cx{p:Prop}(h:p:=by exact Az (show g≠aP from by have h_:=ah.kT HI0.1 V.1 af;intro e_;exact h_ (by rw[e_];rfl))):p:=h
theorem aY{p:Prop}(h:p:=by exact gP H):p:=h
theorem Bh{p:Prop}(h:p:=by exact Az (Kd.bX (Kd.ku (Kd.ku (Kd.pH (qU V.1) hb) (Kd.ar ho0)) (Kd.ar ho1)) (fun _ h_=>h_.1))):p:=h
theorem zF{p:Prop}(h:p:=by exact Az (Kd.ag (Kd.cu (Kd.cu (Kd.fL (rU Z.1) hb) (Kd.ar ho0)) (Kd.ar ho1)) (fun _ h_=>h_.1))):p:=h
theorem fE{p:Prop}(h:p:=by exact ae.mk cj):p:=h
theorem fw{p:Prop}(h:p:=by exact ae.mk cf):p:=h
theorem fC{p:Prop}(h:p:=by exact ae.mk cb):p:=h
theorem zv{p:Prop}(h:p:=by exact Az (show ai w w0 (fun k_=>(j k_\/w.heap.size<=k_)) o l0 from Kd.ag ho0 (fun k_ hk=>(.inl hk)))):p:=h
theorem wQ{p:Prop}(h:p:=by exact Az ((by rw[hw];exact aN (HB.1) ah.1:Below w.heap.size w cp))):p:=h
theorem xx{p:Prop}(h:p:=by exact Az (eU (g:=bN) (o:=.cells #[.string bF,.slice bW aG.length bS] 25 (0,0)) Fl hb)):p:=h
theorem zX{p:Prop}(h:p:=by exact Az (sG (kU M.1) hkp (fun dd=>(fun e_=>(Kd.bg Z.1 M.1 af) e_) dd))):p:=h
theorem Bl{p:Prop}(h:p:=by exact Az (sG (kU J.1) hkp (fun dd=>(fun e_=>(Kd.bg Z.1 J.1 af) e_) dd))):p:=h
theorem xg{p:Prop}(h:p:=by exact Az (sG (kU aR.1) hkp (fun dd=>(fun e_=>(Kd.bg Z.1 aR.1 af) e_) dd))):p:=h
theorem bF{p:Prop}(h:p:=by exact jg H):p:=h
theorem cS{p:Prop}(h:p:=by exact Az (ho)):p:=h
theorem lu{p:Prop}(h:p:=by exact(Kd.dI V.1).1):p:=h
theorem gv{p:Prop}(h:p:=by exact ae.mk cm):p:=h
theorem sY{p:Prop}(h:p:=by exact Az (Kd.aC (rU G.1) (Kd.ar ho0) hb)):p:=h
theorem qV{p:Prop}(h:p:=by exact Az (Kd.aC (rU bu.1) (Kd.ar ho0) hb)):p:=h
theorem lB{p:Prop}(h:p:=by exact Az (Kd.bD z.1)):p:=h
theorem lU{p:Prop}(h:p:=by exact Az (ah.below Fc hb)):p:=h
theorem vQ{p:Prop}(h:p:=by exact Az (aG.trans nO (aG.of_below hb g none) (.inl rfl))):p:=h
theorem uL{p:Prop}(h:p:=by exact Az (aG.trans na (aG.of_below hb g none) (.inl rfl))):p:=h
theorem tY{p:Prop}(h:p:=by exact Az (aG.trans tZ (aG.of_below hb g none) (.inl rfl))):p:=h
theorem uw{p:Prop}(h:p:=by exact Az (kG aA.1 hg (Kd.bg E.1 aA.1 af))):p:=h
theorem dL{p:Prop}(h:p:=by exact Az bz):p:=h
theorem kV{p:Prop}(h:p:=by exact(dl.1).symm):p:=h
theorem cZ{p:Prop}(h:p:=by exact Az (hi)):p:=h
theorem me{p:Prop}(h:p:=by exact Az (ah.drew HI0.1)):p:=h
theorem l9{p:Prop}(h:p:=by exact Az (bh GN hb)):p:=h
theorem dQ{p:Prop}(h:p:=by exact Az bL):p:=h
theorem qR{p:Prop}(h:p:=by exact Az (Kd.aH B (aK (aT HB.1)))):p:=h
theorem nE{p:Prop}(h:p:=by exact Az (aG.refl w g none)):p:=h
theorem mo{p:Prop}(h:p:=by exact Az (bh ID hb)):p:=h
theorem iD{p:Prop}(h:p:=by exact ae.mk cJ):p:=h
theorem rZ{p:Prop}(h:p:=by exact Az (bh (av HB.1 d.1) hb)):p:=h
theorem tq{p:Prop}(h:p:=by exact Az (bh (av HB.1 ac.1) hb)):p:=h
theorem mG{p:Prop}(h:p:=by exact(Kd.am E.1).1):p:=h
theorem iQ{p:Prop}(h:p:=by exact ae.mk cN):p:=h
theorem iX{p:Prop}(h:p:=by exact ae.mk cM):p:=h
theorem iV{p:Prop}(h:p:=by exact ae.mk cO):p:=h
theorem lZ{p:Prop}(h:p:=by exact Az (eW HK.1)):p:=h
theorem nA{p:Prop}(h:p:=by exact Az (bh nR hb)):p:=h
theorem qS{p:Prop}(h:p:=by exact Kd.cH c.1 (b:Int) m):p:=h
theorem rQ{p:Prop}(h:p:=by exact Az (aG.trans mF hk (.inl rfl))):p:=h
theorem eO{p:Prop}(h:p:=by exact Az bN):p:=h
theorem gJ{p:Prop}(h:p:=by exact Az hB.size):p:=h
theorem fh{p:Prop}(h:p:=by exact Az bQ):p:=h
theorem oG{p:Prop}(h:p:=by exact Bool.eq_false_iff.mpr c3):p:=h
theorem ot{p:Prop}(h:p:=by exact Az (Kd.bD L.1)):p:=h
theorem mR{p:Prop}(h:p:=by exact(cw.1).symm):p:=h
theorem nW{p:Prop}(h:p:=by exact Az (bh fv hb)):p:=h
theorem oT{p:Prop}(h:p:=by exact Az (bh mV hb)):p:=h
theorem bR{p:Prop}(h:p:=by exact gB H):p:=h
theorem cY{p:Prop}(h:p:=by exact xb H):p:=h
theorem bY{p:Prop}(h:p:=by exact bZ w):p:=h
theorem sA{W W':World}{g:Nat}{o:Obj}(h:W'.heap[g]?=some o)(k:(W'.heap[g]?=some o)->(W.heap[g]?=some o):=by intro h_;(with_reducible repeat (first|refine wW ?_ _|refine bC ?_|refine iU ?_ _));exact h_):W.heap[g]?=some o:=k h
theorem rA{α:Type}{d:Kd α}{e base:Nat}{W W':World}{ok:Nat->Prop}{v:Value}{xs:List α}(h:d.R e W' base ok v xs)(k:d.R e W' base ok v xs->d.R e W base ok v xs:=by intro h_;(with_reducible repeat (first|apply Kd.pI|apply Kd.qc|apply Kd.bD));exact h_):d.R e W base ok v xs:=k h
theorem lX{p:Prop}(h:p:=by exact(bh (av HB.1 E.1) hb)):p:=h
theorem wa{p:Prop}(h:p:=by first|exact Kd.Fh dM|exact Kd.vw dM|exact Kd.ar dM):p:=h
theorem zP{p:Prop}(h:p:=by exact(Kd.cC (ok':=fun k_=>oS k_ bO E.length bu) (Kd.GV (z.1) hkp (fun k_ bI dd=>(bI) dd)) (fun k_ bI=>bI.1))):p:=h
theorem lQ{p:Prop}(h:p:=by(try simp only[List.map_toArray,List.map_cons,List.map_nil]);first|done|rfl|(simp only[List.length_drop,List.length_take];rfl)):p:=h
theorem rB{q b r:Prop}(h:q)(hb:b)(f:q->b->r:=by intro h hb;exact Kd.jD (rU h) hb):ae r:=ae.mk (f h hb)
theorem sB{q b r:Prop}(h:q)(hb:b)(f:q->b->r:=by intro h hb;exact Kd.o7 (sU h) hb):ae r:=ae.mk (f h hb)
theorem vB{q b r:Prop}(h:q)(hb:b)(f:q->b->r:=by intro h hb;exact Kd.vu (vU h) hb):ae r:=ae.mk (f h hb)
theorem nB{q b r:Prop}(h:q)(hb:b)(f:q->b->r:=by intro h hb;exact Kd.qz (nU h) hb):ae r:=ae.mk (f h hb)
theorem qB{q b r:Prop}(h:q)(hb:b)(f:q->b->r:=by intro h hb;exact Kd.mZ (qU h) hb):ae r:=ae.mk (f h hb)
theorem gR{p q a0:Prop}(h:q)(n0:a0)(f:q->a0->p:=by intro h n0;repeat (first|exact h|refine wW ?_ _|refine bC ?_|refine iU ?_ _|refine bq ?_ n0 _)):p:=f h n0
theorem bI{p q b:Prop}(h:q)(bk:b)(f:q->b->p:=by intro h bk;(with_reducible repeat (first|apply Kd.pI|apply Kd.qc|apply Kd.bD));exact(Kd.ag (Kd.aA (Kd.aA (Kd.bn h bk af) au _) au _) (fun _ h_=>h_.1))):p:=f h bk
theorem AK{p q b:Prop}(h:q)(bk:b)(f:q->b->p:=by intro h bk;(with_reducible repeat (first|apply Kd.l8|apply Kd.lJ|apply Kd.jB));exact(Kd.cC (Kd.vX (Kd.vX (Kd.D9 h bk af) au _) au _) (fun _ h_=>h_.1))):p:=f h bk
theorem fX{p q b:Prop}(h:q)(bk:b)(f:q->b->p:=by intro h bk;(with_reducible repeat (first|apply Kd.rJ|apply Kd.tk|apply Kd.jU));exact(Kd.bX (Kd.di (Kd.di (Kd.fe h bk af) au _) au _) (fun _ h_=>h_.1))):p:=f h bk
def bv(n m:Nat):Array Bool:=((List.range n).map (fun i=>m.testBit i)).toArray
theorem kG{q b c r:Prop}(h:q)(hb:b)(hc:c)(f:q->b->c->r:=by intro h hb hc;exact Cz (kU h) hb hc):r:=f h hb hc
theorem kB{q b r:Prop}(h:q)(hb:b)(f:q->b->r:=by intro h hb;exact eU (kU h) hb):ae r:=ae.mk (f h hb)
theorem aP{p:Prop}(h:p:=by simp only[Act.put,List.setIfInBounds_toArray,List.set_cons_zero,List.set_cons_succ,fY,qI];rfl):p:=h
theorem cz{w:World}{g:Nat}{t:TypeId}{cs:Array Value}{v:Value}(h:w.heap[g]?=some (.cells cs t (0,0)))(i:Nat)(e:cs[i]?=some v:=by rfl):w.cell? ⟨g,i,none⟩=some v:=(ap h i).trans e
section
variable {P:Program} {D:Array Oper} {Q:Exit->Act->World->Prop} {md:Region.Mode} {S:World->Prop} {ds:List Nat}
theorem XP(i N n m:Nat){oi:Oper}{v:Value}{f:Nat}{l:Array Bool}{a a':Act}{w:World}(h:bG P md D Q S ds f (bv n m) a' w)(hi:D[i]?=some oi:=by exact rfl)(hN:oi.dst=some N:=by exact rfl)(hc:nG md D l (bv n m) i=true:=by first|exact dP ba.1 aM|kernel_rfl)(hQ:∀c a w,Q (.panic c) (a.put oi.dst v) w->Q (.panic c) a w:=by exact fun _ _ _ h=>h)(hw:Region.wanted oi (yielded D a.tmps)=true:=by rfl)(hy:∀w,(execOp a.eval oi).run P w= .ok (.value v) w:=by intro w';go_simp;with_reducible rfl)(ha:a.put (some N) v=a':=by simp only[Act.put,List.setIfInBounds_toArray,List.set_cons_zero,List.set_cons_succ,fY,qI];rfl):bG P md D Q S ds (f+1) l a w:=uI _ hi hN hc hQ (Or.inl ⟨hw,hy⟩) ha h
theorem XT(i N n m:Nat){oi:Oper}{v:Value}{f:Nat}{l:Array Bool}{a a':Act}{w:World}(h:bG P md D Q S ds f (bv n m) a' w)(hi:D[i]?=some oi:=by exact rfl)(hN:oi.dst=some N:=by exact rfl)(hc:takeB md D ds l (bv n m) i=true:=by first|exact iw ba.1 bU.1 aM|kernel_rfl)(hQ:∀c a w,Q (.panic c) (a.put oi.dst v) w->Q (.panic c) a w:=by exact fun _ _ _ h=>h)(hw:Region.wanted oi (yielded D a.tmps)=true:=by rfl)(hS:S w:=by exact B)(hy:∀w,S w->(execOp a.eval oi).run P w= .ok (.value v) w:=by intro w' h_;repeat (obtain⟨_,h_⟩:=h_);go_simp;with_reducible rfl)(ha:a.put (some N) v=a':=by simp only[Act.put,List.setIfInBounds_toArray,List.set_cons_zero,List.set_cons_succ,fY,qI];rfl):bG P md D Q S ds (f+1) l a w:=pC _ hi hN hc hQ (Or.inl ⟨hw,hy⟩) hS ha h
theorem XO(i N n m:Nat){oi:Oper}{f:Nat}{l:Array Bool}{a:Act}{w:World}(h:∀K:Act->World->Prop,Shut (∀a' w',S w'->(S w'->bG P md D Q S ds f (bv n m) a' w')->K a' w')->if Region.wanted oi (yielded D a.tmps)=true then Oper.wp P oi a w K Q else K (a.put (some N) undef) w)(hi:D[i]?=some oi:=by exact rfl)(hN:oi.dst=(some N):=by exact rfl)(hc:jS md D l (bv n m) i=true:=by first|exact fQ ba.1 aM|kernel_rfl)(hd:i∉ds:=by decide):bG P md D Q S ds (f+1) l a w:=uM _ hi hN hc hd h
theorem XL(i n m:Nat){oi:Oper}{f:Nat}{l:Array Bool}{a:Act}{w:World}(h:∀K:Act->World->Prop,Shut (∀a' w',bG P md D Q S ds f (bv n m) a' w'->K a' w')->if Region.wanted oi (yielded D a.tmps)=true then Oper.wp P oi a w K Q else K (a.put none undef) w)(hi:D[i]?=some oi:=by exact rfl)(hN:oi.dst=none:=by exact rfl)(hc:jS md D l (bv n m) i=true:=by first|exact fQ ba.1 aM|kernel_rfl)(hd:i∈ds:=by decide):bG P md D Q S ds (f+1) l a w:=wh _ hi hN hc hd h
theorem XM(i N n m:Nat){oi:Oper}{f:Nat}{l:Array Bool}{a:Act}{w:World}(h:∀K:Act->World->Prop,Shut (∀a' w',bG P md D Q S ds f (bv n m) a' w'->K a' w')->if Region.wanted oi (yielded D a.tmps)=true then Oper.wp P oi a w K Q else K (a.put (some N) undef) w)(hi:D[i]?=some oi:=by exact rfl)(hN:oi.dst=(some N):=by exact rfl)(hc:jS md D l (bv n m) i=true:=by first|exact fQ ba.1 aM|kernel_rfl)(hd:i∈ds:=by decide):bG P md D Q S ds (f+1) l a w:=wh _ hi hN hc hd h
theorem XQ(i n m:Nat){oi:Oper}{f:Nat}{l:Array Bool}{a:Act}{w:World}(h:∀K:Act->World->Prop,Shut (∀a' w',S w'->(S w'->bG P md D Q S ds f (bv n m) a' w')->K a' w')->if Region.wanted oi (yielded D a.tmps)=true then Oper.wp P oi a w K Q else K (a.put none undef) w)(hi:D[i]?=some oi:=by exact rfl)(hN:oi.dst=none:=by exact rfl)(hc:jS md D l (bv n m) i=true:=by first|exact fQ ba.1 aM|kernel_rfl)(hd:i∉ds:=by decide):bG P md D Q S ds (f+1) l a w:=uM _ hi hN hc hd h
theorem XN(n:Nat){f:Nat}{l:Array Bool}{a a':Act}{v:Value}{w:World}(h:bG P md D Q S ds f l a' w)(ha:a.put (some n) v=a':=by simp only[Act.put,List.setIfInBounds_toArray,List.set_cons_zero,List.set_cons_succ,fY,qI];rfl):bG P md D Q S ds f l (a.put (some n) v) w:=cQ ha h
theorem XJ{f:Nat}{l:Array Bool}{a a':Act}{w:World}(h:bG P md D Q S ds f l a' w)(ha:a=a':=by simp only[jR,Act.put,List.setIfInBounds_toArray,List.set_cons_zero,List.set_cons_succ];rfl):bG P md D Q S ds f l a w:=cQ ha h
theorem XD{l:Array Bool}{a:Act}{w:World}{n:Nat}(h:Q .normal a w)(hr:(Region.ready md D l==[])=true:=by first|exact Es ba.1 aM|kernel_rfl):bG P md D Q S ds n l a w:=Ik hr h
end
theorem XG{P:Program}{Q:Exit->Act->World->Prop}{D:Array Oper}{oi:Oper}{N:Option Tmp}{a:Act}{w:World}{K:Act->World->Prop}{f:FuncId}{fn:Func}{ao:Array Operand}{ts:Array TypeId}(hf:P.funcs[f]?=some fn)(args:Array Value)(h:Calls P f args w fun e w'=>∃v,e= .returned v/\K (a.put N v) w')(fq:(fn.name== "runtime.NumGoroutine")=false:=by kernel_rfl)(hb:fn.body.isSome=true:=by exact rfl)(hw:Region.wanted oi (yielded D a.tmps)=true:=by rfl)(hN:oi.dst=N:=by exact rfl)(gj:oi.op= .call {callee:=.value (.func f),args:=ao,argTypes:=ts}:=by exact rfl)(fN:ao.map a.eval=args:=by(try simp only[List.map_toArray,List.map_cons,List.map_nil]);first|done|rfl|(simp only[List.length_drop,List.length_take];rfl)):if Region.wanted oi (yielded D a.tmps)=true then Oper.wp P oi a w K Q else K (a.put N undef) w:=Ea hf fq hb args hw hN gj fN h
theorem jg{α:Type}{p0:Prop}{a:Option α}{r:α}{d0:Decidable p0}(h:(if p0 then a else none)=some r):@decide p0 d0=true/\a=some r:=by split at h;(exact⟨decide_eq_true (by assumption),h⟩);(cases h)
theorem xb{α:Type}{p0 p1:Prop}{a:Option α}{r:α}{d0:Decidable p0}{d1:Decidable p1}(h:(if p0 then(if p1 then a else none)else none)=some r):@decide p0 d0=true/\ @decide p1 d1=true/\a=some r:=⟨(jg h).1,jg (jg h).2⟩
theorem pq{α:Type}{p0 p1 p2:Prop}{a:Option α}{r:α}{d0:Decidable p0}{d1:Decidable p1}{d2:Decidable p2}(h:(if p0 then(if p1 then(if p2 then a else none)else none)else none)=some r):@decide p0 d0=true/\ @decide p1 d1=true/\ @decide p2 d2=true/\a=some r:=⟨(jg h).1,xb (jg h).2⟩
theorem lM{α:Type}{p0 p1 p2 p3:Prop}{a:Option α}{r:α}{d0:Decidable p0}{d1:Decidable p1}{d2:Decidable p2}{d3:Decidable p3}(h:(if p0 then(if p1 then(if p2 then(if p3 then a else none)else none)else none)else none)=some r):@decide p0 d0=true/\ @decide p1 d1=true/\ @decide p2 d2=true/\ @decide p3 d3=true/\a=some r:=⟨(jg h).1,pq (jg h).2⟩
theorem pL{α:Type}{p0 p1 p2 p3 p4:Prop}{a:Option α}{r:α}{d0:Decidable p0}{d1:Decidable p1}{d2:Decidable p2}{d3:Decidable p3}{d4:Decidable p4}(h:(if p0 then(if p1 then(if p2 then(if p3 then(if p4 then a else none)else none)else none)else none)else none)=some r):@decide p0 d0=true/\ @decide p1 d1=true/\ @decide p2 d2=true/\ @decide p3 d3=true/\ @decide p4 d4=true/\a=some r:=⟨(jg h).1,lM (jg h).2⟩
theorem uR{α:Type}{p0 p1 p2 p3 p4 p5:Prop}{a:Option α}{r:α}{d0:Decidable p0}{d1:Decidable p1}{d2:Decidable p2}{d3:Decidable p3}{d4:Decidable p4}{d5:Decidable p5}(h:(if p0 then(if p1 then(if p2 then(if p3 then(if p4 then(if p5 then a else none)else none)else none)else none)else none)else none)=some r):@decide p0 d0=true/\ @decide p1 d1=true/\ @decide p2 d2=true/\ @decide p3 d3=true/\ @decide p4 d4=true/\ @decide p5 d5=true/\a=some r:=⟨(jg h).1,pL (jg h).2⟩
theorem gP{α:Type}{p:Prop}{a:Option α}{r:α}{d:Decidable p}(h:(if p then a else none)=some r):p/\a=some r:=by split at h;(exact⟨by assumption,h⟩);(cases h)
theorem gE{α:Type}{p:Prop}{a:Option α}{r:α}{d:Decidable p}(h:(if p then a else none)=some r):(p=True)/\ @decide p d=true/\a=some r:=⟨eq_true (gP h).1,jg h⟩
theorem gB{α:Type}{p:Prop}{a b:Option α}{r:α}{d:Decidable p}(h:(if p then a else b)=some r):(@decide p d=true/\a=some r)\/(@decide p d=false/\b=some r):=by split at h;(exact .inl ⟨decide_eq_true (by assumption),h⟩);(exact .inr ⟨decide_eq_false (by assumption),h⟩)
theorem gQ{α β:Type}[BEq β][LawfulBEq β]{x y:β}{a b:Option α}{r:α}{d:Decidable (x=y)}(h:(if x=y then a else b)=some r):((x==y)=true/\(x !=y)=false/\a=some r)\/((x==y)=false/\(x !=y)=true/\b=some r):=by split at h;exact .inl ⟨beq_iff_eq.mpr (by assumption),bne_eq_false_iff_eq.mpr (by assumption),h⟩;exact .inr ⟨beq_eq_false_iff_ne.mpr (by assumption),bne_iff_ne.mpr (by assumption),h⟩
theorem bZ(w:World):ae (Below w.heap.size w w):=ae.mk (Below.refl w.heap.size w)
theorem nS{a b:Nat}(h:ae (a≠b)):ae (b≠a):=ae.mk h.1.symm
theorem hS{p:Prop}(h:p:=by first|(go_simp;done)|(go_simp;rfl)):p:=h
@[reducible] def oV(k:Nat)(v:Value):Prop:=some k≠v.ownBlock
@[reducible] def oS(k:Nat)(A:Option Addr)(n c:Nat):Prop:=some k≠(Value.slice A n c).ownBlock
theorem bd{α β:Type}{x:Option α}{f:α->Option β}{r:β}(h:x.bind f=some r):∃t,ae (x=some t)/\f t=some r:=by obtain⟨t,a,b⟩:=Option.bind_eq_some_iff.mp h;exact⟨t,ae.mk a,b⟩
theorem Ay{α:Type}{a b:α}(h:a=b):ae (b=a):=ae.mk h.symm
theorem nN{α:Type}{x:Option α}{r:α}(h:x=some r)(e:x=none:=by rfl):False:=by rw[e]at h;cases h
theorem nT:¬(false=true):=by decide
theorem aI{kd:IntKind}{w:World}{A:Option Addr}{n:Nat}{xs:List Int}(h:(Kd.int kd).C w A n xs)(i:Int)(h0:0<=i:=by exact oA)(h1:i<n:=by exact oA):∃ad,A=some ad/\((0<=i)=True)/\((i<n)=True)/\w.cell? (ad.add i.toNat)=some (.int kd (rd xs i)):=by obtain⟨ad,e,hx⟩:=Kd.eQ h i h0 h1;exact⟨ad,e,eq_true h0,eq_true h1,hx⟩
theorem aB{w:World}{A:Option Addr}{n:Nat}{xs:List Bool}(h:Kd.bool.C w A n xs)(i:Int)(h0:0<=i:=by exact oA)(h1:i<n:=by exact oA):∃ad,A=some ad/\((0<=i)=True)/\((i<n)=True)/\w.cell? (ad.add i.toNat)=some (.bool (cP false xs i)):=by obtain⟨ad,e,hx⟩:=Kd.Io h i h0 h1;exact⟨ad,e,eq_true h0,eq_true h1,hx⟩
theorem aJ{kd:IntKind}{w:World}{ad:Addr}{n:Nat}{xs:List Int}(h:(Kd.int kd).C w (some ad) n xs)(i:Int)(h0:0<=i:=by exact oA)(h1:i<n:=by exact oA):((0<=i)=True)/\((i<n)=True)/\w.cell? (ad.add i.toNat)=some (.int kd (rd xs i)):=by obtain⟨ad,e,hx⟩:=Kd.eQ h i h0 h1;cases e;exact⟨eq_true h0,eq_true h1,hx⟩
theorem hT{w w':World}{a:Addr}{v:Value}(hb:Below w.heap.size w w')(h:w.cell? a=some v):w'.cell? a=some v:=(hb.cell (World.block_lt_of_cell? w _ h)).trans h
theorem mO{p:Prop}(h:p:=by(try have cf:=ca.1);(try have cb:=bM.1);(try have cm:=dy.1);(try have cJ:=dw.1);(try have cN:=ed.1);(try have cM:=HK6.1);first|omega|exact Nat.le_refl _):p:=h
theorem gW{w W:World}{g:Nat}(hg:g=W.heap.size)(h:Below w.heap.size w W):ae (w.heap.size<=g):=ae.mk (by rw[hg];exact aK h)
theorem nL{W:World}{g g':Nat}{o:Obj}(hg:g'=W.heap.size)(h:W.heap[g]?=some o):ae (g≠g'):=ae.mk (by rw[hg];exact Nat.ne_of_lt (lL h))
theorem nP{a b:Nat}(h:ae (a≠b)):a≠b/\b≠a:=⟨h.1,h.1.symm⟩
theorem bc2{w:World}{g:Nat}{t:TypeId}{a0 a1:Value}(h:w.heap[g]?=some (.cells #[a0,a1] t (0,0))):w.cell? ⟨g,0,none⟩=some a0/\w.cell? ⟨g,1,none⟩=some a1/\w.frozen? ⟨g,0,none⟩=false/\w.frozen? ⟨g,1,none⟩=false:=⟨(ap h 0).trans rfl,(ap h 1).trans rfl,dC h 0,dC h 1⟩
theorem gK{P:Program}{D:Array Oper}{o:Oper}{a:Act}{Q:Exit->Act->World->Prop}{rest:List Oper}{W:World}(f:FuncId){iB:Array Operand}{ts:Array TypeId}(j:o.op= .call {callee:=.value (.func f),args:=iB,argTypes:=ts})(h:wpList P D Q (o::rest) a W):wpList P D Q (o::rest) a W:=h
theorem gd{P:Program}{D:Array Oper}{o:Oper}{a:Act}{Q:Exit->Act->World->Prop}{rest:List Oper}{W:World}(N:Tmp)(b:o.dst=some N)(h:wpList P D Q (o::rest) a W):wpList P D Q (o::rest) a W:=h
theorem gs{P:Program}{D:Array Oper}{o:Oper}{a:Act}{Q:Exit->Act->World->Prop}{rest:List Oper}{W:World}(t:TypeId)(p:Tmp){v:Operand}(j:o.op= .store t (.tmp p) v)(h:wpList P D Q (o::rest) a W):wpList P D Q (o::rest) a W:=h
theorem gC{P:Program}{D:Array Oper}{o:Oper}{a:Act}{Q:Exit->Act->World->Prop}{rest:List Oper}{W:World}(N:Option Tmp){f:FuncId}{fn:Func}{iB:Array Operand}{ts:Array TypeId}(hf:P.funcs[f]?=some fn)(args:Array Value)(h:Calls P f args W fun e w'=>∃v,e= .returned v/\wpList P D Q rest (a.put N v) w')(hd:o.dst=N:=by rfl)(hg:o.guard=none:=by rfl)(fq:(fn.name== "runtime.NumGoroutine")=false:=by kernel_rfl)(hb:fn.body.isSome=true:=by rfl)(gj:o.op= .call {callee:=.value (.func f),args:=iB,argTypes:=ts}:=by rfl)(fN:iB.map a.eval=args:=by exact lQ):wpList P D Q (o::rest) a W:=uG N hd hg hf fq hb args gj fN h
theorem bE{P:Program}{D:Array Oper}{o:Oper}{a:Act}{Q:Exit->Act->World->Prop}{rest:List Oper}{W:World}(N:Tmp)(cs:Array Value)(t:TypeId)(h:∀g,g=W.heap.size->∀w1,w1.heap[g]?=some (.cells cs t (0,0))->Below W.heap.size W w1->wpList P D Q rest (a.put o.dst (.pointer (some ⟨g,0,none⟩))) w1)(db:o.guard=none:=by rfl)(hd:o.dst=some N:=by rfl)(cG:(execOp a.eval o).run P W= .ok (.value (.pointer (some ⟨W.heap.size,0,none⟩))) (W.alloc (.cells cs t (0,0))):=by first|(go_simp;done)|(go_simp;rfl)):wpList P D Q (o::rest) a W:=Hs db hd cG h
theorem sE{P:Program}{D:Array Oper}{o:Oper}{a:Act}{Q:Exit->Act->World->Prop}{rest:List Oper}{W:World}(t:TypeId)(p:Tmp){v:Operand}(w1:World)(h:∀w',w'=w1->wpList P D Q rest a w')(ho:o.op= .store t (.tmp p) v:=by rfl)(db:o.guard=none:=by rfl)(hN:o.dst=none:=by rfl)(cG:(execOp a.eval o).run P W= .ok .skip w1:=by first|(go_simp;done)|(go_simp;rfl)):wpList P D Q (o::rest) a W:=Ga db ho hN cG h
theorem rM{p q:Prop}(h:q)(f:q->p:=by intro h;(with_reducible repeat (first|apply Kd.pI|apply Kd.qc|apply Kd.bD));exact Kd.ag h (fun _ hk=>by first|trivial|exact hk.1|(simp only[hk,and_self,ne_eq,not_false_eq_true,true_and,and_true,true_or,or_true];done)|((try simp only[oS,oV]at hk ⊢);simp only[hk,and_self,ne_eq,not_false_eq_true,true_and,and_true,true_or,or_true]))):p:=f h
theorem sM{p q:Prop}(h:q)(f:q->p:=by intro h;(with_reducible repeat (first|apply Kd.l8|apply Kd.lJ|apply Kd.jB));exact Kd.cC h (fun _ hk=>by first|trivial|exact hk.1|(simp only[hk,and_self,ne_eq,not_false_eq_true,true_and,and_true,true_or,or_true];done)|((try simp only[oS,oV]at hk ⊢);simp only[hk,and_self,ne_eq,not_false_eq_true,true_and,and_true,true_or,or_true]))):p:=f h
theorem qM{p q:Prop}(h:q)(f:q->p:=by intro h;(with_reducible repeat (first|apply Kd.rJ|apply Kd.tk|apply Kd.jU));exact Kd.bX h (fun _ hk=>by first|trivial|exact hk.1|(simp only[hk,and_self,ne_eq,not_false_eq_true,true_and,and_true,true_or,or_true];done)|((try simp only[oS,oV]at hk ⊢);simp only[hk,and_self,ne_eq,not_false_eq_true,true_and,and_true,true_or,or_true]))):p:=f h
attribute [local go_sem] jp jv jl jo jC jy ji je
set_option linter.unusedVariables false
set_option linter.unusedSimpArgs false
def zO:Option Int->Value
 |none=>.nilIface
 |some c=>.iface 0 (.int .i64 c)
theorem d9:zO none= .nilIface:=rfl
theorem ec(c:Int):zO (some c)= .iface 0 (.int .i64 c):=rfl
theorem bA:(Try.prog.info? 3).map (fun i=>(i.zero,i.size,i.bytes))=some (some (.int .i64 0),1,8):=by kernel_rfl
theorem qG:(Try.prog.info? 4).map (fun i=>(i.zero,i.size,i.bytes))=some (some (.bool false),1,1):=by kernel_rfl
theorem info5:(Try.prog.info? 5).map (fun i=>(i.zero,i.size,i.bytes))=some (some (.int .u8 0),1,1):=by kernel_rfl
theorem uK:(Try.prog.info? 23).map (fun i=>(i.zero,i.size,i.bytes))=some (some (.slice none 0 0),1,24):=by kernel_rfl
def ak(xs:List (List Int))(i:Int):(List Int):=xs.getD i.toNat ([]:List Int)
theorem fT{w:World}{A:Option Addr}{n:Nat}{xs:List (List Int)}(h:Kd.C bJ w A n xs)(i:Int)(h0:0<=i)(h1:i<n):∃ad A0 c0,A=some ad/\w.cell? (ad.add i.toNat)=some (.slice A0 (ak xs i).length c0)/\(ak xs i).length<=c0/\al.C w A0 (ak xs i).length (ak xs i):=by
 obtain⟨ad,c,e,_,hK,F⟩:=Kd.Hw h ([]:List Int) i h0 h1;have hc:∀j u,c[j]?=some u->w.cell? (ad.add (i.toNat*1+j))=some u:=F;obtain⟨A0,c0,rfl,l0,g0⟩:=hK;exact⟨ad,A0,c0,e,by have hq:=hc 0 _ rfl;rwa [Nat.mul_one,Nat.add_zero]at hq,l0,g0⟩
end Go.Proofs.Ytlpbalebodlipaa.PL
namespace Go.Proofs.Ytlpbalebodlipaa.PL
open Go.RowKit Go.Proofs.YtlpbalebodlipaaW.PrintWords Go.Proofs.YtlpbalebodlipaaW.PrintLast Go.Proofs.YtlpbalebodlipaaW.PrintMore
attribute [local go_sem] jp jv jl jo jC jy ji je
set_option linter.unusedVariables false
set_option linter.unusedSimpArgs false
theorem vp{α:Type}{enc:α->Value}{d:α}{h1:∀x,(enc x).oneCell'=true}{w w1:World}{A:Option Addr}{n b:Nat}{xs:List α}(h:(Kd.scalar enc h1).C w A n xs)(hg:w.grownBy w1 (some b))(B:∀ad,A=some ad->0<n->ad.block≠b):(Kd.scalar enc h1).C w1 A n xs:=by
 have h':=Kd.pm (d:=d) h;refine Kd.re (d:=d) ⟨h'.1,h'.2.1,fun hn=>?_⟩;obtain⟨ad,e,hc⟩:=h'.2.2 hn;exact⟨ad,e,fun j hj=>cell_grown hg (hc j hj) (by rw[add_block];intro he;exact B ad e hn (bc he))⟩
theorem Bq{α:Type}{enc:α->Value}{d:α}{h1:∀x,(enc x).oneCell'=true}{w:World}{p:Addr}{A:Option Addr}{n:Nat}{xs:List α}(h:(Kd.scalar enc h1).C w A n xs)(B:∀ad,A=some ad->0<n->ad.block≠p.block)(u:Value):(Kd.scalar enc h1).C (w.setCell p u) A n xs:=by
 have h':=Kd.pm (d:=d) h;refine Kd.re (d:=d) ⟨h'.1,h'.2.1,fun hn=>?_⟩;obtain⟨ad,e,hc⟩:=h'.2.2 hn;exact⟨ad,e,fun j hj=>(cell_far (by rw[add_block];exact B ad e hn) u).trans (hc j hj)⟩
mutual
def dt.l0:Nat->List Int->List (List Int)->List Bool->Int->Int->Option ((List (List Int)))
 |0,_,_,_,_,_=>none
 |k+1,x0,x3,x4,c,h=>if h<c then(dt.l1 k x0 x3 x4 (([]:List Int)) h c h)else(some x3)
def dt.l1:Nat->List Int->List (List Int)->List Bool->List Int->Int->Int->Int->Option ((List (List Int)))
 |0,_,_,_,_,_,_,_=>none
 |k+1,x0,x3,x4,x6,x7,c,h=>if 0<=x7 then(if x7<(x4.length:Int)then(if cP false x4 x7=true then(if(x6.length:Int)>0 then(if x3.length<5864062014805 then(dt.l0 k x0 (x3++[x6]) x4 c (wrap64 (h+1)))else(none))else(dt.l0 k x0 x3 x4 c (wrap64 (h+1))))else(if x6.length<17592186044416 then(if x7<(x0.length:Int)then(dt.l1 k x0 x3 (x4.set (x7:Int).toNat true) (x6++[x7]) (rd x0 x7) c h)else(none))else(none)))else(none))else(none)
end
def dt.f(k:Nat)(l0:List Int):Option ((List (List Int))):=if 0<=(l0.length:Int)then(if((l0.length:Int):Int).toNat<=281474976710656 then(dt.l0 k l0 (([]:List (List Int))) (List.replicate ((l0.length:Int):Int).toNat false) (l0.length:Int) 0)else(none))else(none)
set_option maxRecDepth 100000 in
theorem dt.calls(k:Nat)(A0:Option Addr)(c0:Nat)(l0:List Int)(r:List (List Int))(w:World)(j:Kd.C al w A0 l0.length l0)(F:l0.length<=c0)(h:dt.f k l0=some r):
 Calls Try.prog 67 #[.slice A0 l0.length c0] w fun e w'=>∃aZ:Value,e= .returned (aZ)/\Kd.S bJ 23 w' w.heap.size (fun _=>True) aZ r/\Below w.heap.size w w':=by
 have M:=Az j;have aX:=Az F;clear j F;have HB:=bY;have H:=h;clear h;unfold dt.f at H;generalize G:(([]:List (List Int)):List (List Int))=bv at H;replace G:=Ay G;replace H:=gE H;obtain⟨cB,cF,H⟩:=H;replace H:=gE H;obtain⟨cc,cu,H⟩:=H;generalize K:(List.replicate ((l0.length:Int):Int).toNat false:List Bool)=bq at H;replace K:=Ay K;have H':=Az H;clear H;go_enter Try.func67,Try.ntmps67;go_wp2_with (first|((with_reducible refine gd 8 rfl ?_);refine Kd.BX bJ _ 23 rfl (N:=8) rfl (xs:=([]:List (List Int))) (inner:=[]) (ok:=fun _=>True) (okp:=fun _=>True) hS ?hp (fun _ hk=>hk) trivial (Below.refl _ _) (Nat.le_refl _) ay ?_;(case hp=>exact(aD.none _ _));intro bE w4 B hb Y X;clear Y X;(first|rw[<-G.1]at B|(simp only[Int.reduceToNat]at B;rw[<-G.1]at B));have aa:=Az (Kd.kj B (aK (aT HB.1)));replace HB:=bs;clear hb B)|((with_reducible refine gd 11 rfl ?_);refine Kd.gX Kd.bool _ 4 rfl (N:=11) rfl 93 _ _ rfl (l0.length:Int) rfl rfl Try.underlying93 (.bool false) 1 qG rfl af ac false (ok:=fun _=>True) (okp:=fun _=>True) rfl (fun _ hk=>hk) trivial (oA) (Nat.le_trans (Nat.mul_le_mul_right _ (oA:(l0.length:Int).toNat<=281474976710656)) ac) (Below.refl _ _) (Nat.le_refl _) ?_;intro aG w6 I hb Y X;clear Y X;(first|rw[<-K.1]at I|(simp only[Int.reduceToNat]at I;rw[<-K.1]at I));replace aa:=sB aa.1 hb;have ba:=Az (Kd.aH I (aK (aT HB.1)));replace HB:=bs;clear hb I));go_loopg [3,14] k (fun kq v3 eR w'=>∃(E:List (List Int)) (z:List Bool) (l:Int),eR= .int .i64 l/\ae (dt.l0 kq l0 E z (l0.length:Int) l=some r)/\ae (kq<=k)/\ae (Kd.S bJ 23 w' w.heap.size (fun _=>True) v3 E)/\ae (Kd.R Kd.bool 4 w' w.heap.size (fun _=>True) aG z)/\ae (Below w.heap.size w w'))
 case atStart=>exact⟨(bv),(bq),(0),rS,H',⟨Nat.le_refl _⟩,⟨sU aa.1⟩,⟨rU ba.1⟩,⟨aT HB.1⟩⟩
 case round=>
  clear H';obtain⟨E,z,l,rfl,HA,ca,c,V,HB⟩:=hrel;rcases gk with _|k1;exact(nN HA.1).elim;have H:=HA.1;clear HA;simp only[dt.l0]at H;by_cases c8:l<(l0.length:Int)
  ·
   rw[if_pos c8]at H;have cZ:=decide_eq_true c8;clear c8;generalize y:(([]:List Int):List Int)=bl at H;replace y:=Ay y;have H':=Az H;clear H;go_wp2_with (first|((with_reducible refine gd 17 rfl ?_);refine Kd.du al _ 3 rfl (N:=17) rfl (xs:=([]:List Int)) (inner:=[]) (ok:=fun _=>True) (okp:=fun _=>True) hS ?hp (fun _ hk=>hk) trivial (Below.refl _ _) (Nat.le_refl _) ay ?_;(case hp=>exact(aD.none _ _));intro bL w9 m hb Y X;clear Y X;(first|rw[<-y.1]at m|(simp only[Int.reduceToNat]at m;rw[<-y.1]at m));replace c:=Az (Kd.kM (sU c.1) (Kd.ar m) hb);replace V:=rB V.1 hb;have bn:=Az (Kd.aH m (aK (aT HB.1)));replace HB:=bs;clear hb m));go_loopg [6,7] k1 (fun kq v6 v7 w'=>∃(g:List Bool) (bf:List Int) (L:Int),v7= .int .i64 L/\ae (dt.l1 kq l0 E g bf L (l0.length:Int) l=some r)/\ae (kq<=k1)/\ae (Kd.S bJ 23 w' w.heap.size (fun k_=>oV k_ v6) u3 E)/\ae (Kd.R Kd.bool 4 w' w.heap.size (fun _=>True) aG g)/\ae (ai w' w (fun _=>True) v6 bf)/\ae (Below w.heap.size w w'))
   case atStart=>exact⟨(z),(bl),(l),rS,H',⟨Nat.le_refl _⟩,⟨by refine ci ?_;exact Kd.cC c.1 au⟩,⟨rU V.1⟩,⟨rU bn.1⟩,⟨aT HB.1⟩⟩
   case round=>
    clear H';obtain⟨g,bf,L,rfl,HA,bM,c,V,aU,HB⟩:=hrel;rcases gk with _|k2;exact(nN HA.1).elim;have H:=HA.1;clear HA;simp only[dt.l1]at H;replace H:=cY;obtain⟨bT,bO,H⟩:=H;obtain⟨aE,T⟩:∃b_:Bool,b_=(cP false g L):=⟨_,rfl⟩;replace H:(if aE=true then(if(bf.length:Int)>0 then(if E.length<5864062014805 then(dt.l0 k2 l0 (E++[bf]) g (l0.length:Int) (wrap64 (l+1)))else(none))else(dt.l0 k2 l0 E g (l0.length:Int) (wrap64 (l+1))))else(if bf.length<17592186044416 then(if L<(l0.length:Int)then(dt.l1 k2 l0 E (g.set (L:Int).toNat true) (bf++[L]) (rd l0 L) (l0.length:Int) l)else(none))else(none)))=some r:=by rw[<-T]at H;exact H
    have ah:=Az T;clear T;by_cases c14:aE=true
    ·
     subst c14;rw[if_pos rfl]at H;by_cases c15:(bf.length:Int)>0
     ·
      rw[if_pos c15]at H;have cv:=decide_eq_true c15;have cy:decide (0<bf.length)=true:=decide_eq_true ac;clear c15;replace H:=aY;obtain⟨c16,H⟩:=H;have aW:=Az c16;clear c16;generalize U:(E++[bf]:List (List Int))=bi at H;replace U:=Ay U;have H':=Az H;clear H;obtain⟨bX,bB,eH⟩:=Kd.az V.1;subst eH;obtain⟨aV,s,aC,aJ,d⟩:=aB (Kd.am V.1).2.2 L;rw[<-ah.1]at d;cases s;obtain⟨aQ,bu,er⟩:=Kd.az aU.1;subst er;go_wp2_with (first|((with_reducible refine dB (b:=.append) (xs:=#[.tmp 38,.tmp 40]) rfl ?_);at_builtin;refine Kd.Af bJ (w0:=w) w.heap.size rfl (.tmp 38) (.tmp 40) 82 23 (.slice none 0 0) 24 rfl Try.underlying82 uK rfl af ac u3 E bf [.slice aQ bf.length bu] (fun _=>True) (fun k_=>some k_=(.slice aQ bf.length bu:Value).ownBlock) rfl rfl ?aP (fun k_ bI=>((Kd.ag (ok':=fun k_=>((fun _=>True)) k_/\oV k_ u3) (Kd.rO (aU.1) (Kd.oP c.1) af) (fun k_ hk=>⟨trivial,hk.2⟩))).1 k_ bI.symm) ?aF ?aO ?aB ?aS ?aL ?_;(case aP=>exact Kd.pV (Kd.ag (Kd.lN rfl (Kd.ag (ok':=fun k_=>((fun _=>True)) k_/\oV k_ u3) (Kd.rO (aU.1) (Kd.oP c.1) af) (fun k_ hk=>⟨trivial,hk.2⟩))) (fun _ h_=>h_)));(case aB=>exact(aT HB.1));(case aF=>exact(fun _ _=>trivial));(case aO=>exact(by refine ci ?_;exact Kd.cC c.1 (fun k_ hk=>⟨trivial,fun e_=>hk e_⟩)));(case aS=>exact(aK (aT HB.1)));(case aL=>have:=aW.1;omega);intro bQ iF ho hb hg hat;rw[<-U.1]at ho;replace V:=Az (Kd.dM (rU V.1) (Kd.oP (sU c.1)) af hg);replace HB:=br;have be:=cS;clear c aU ho hb hg hat));go_roundg k2
      case measure=>exact mO
      case rel=>exact⟨(bi),(g),(wrap64 (l+1)),rS,H',⟨mO⟩,⟨sU be.1⟩,⟨rU V.1⟩,⟨aT HB.1⟩⟩
     ·
      rw[if_neg c15]at H;have cv:=decide_eq_false c15;have cy:decide (0<bf.length)=false:=decide_eq_false ac;clear c15;have H':=Az H;clear H;obtain⟨ck,bP,bw⟩:=Kd.az V.1;subst bw;obtain⟨aV,s,aC,aJ,d⟩:=aB (Kd.am V.1).2.2 L;rw[<-ah.1]at d;cases s;obtain⟨bk,cQ,cj⟩:=Kd.az aU.1;subst cj;go_wp2;go_roundg k2
      case measure=>exact mO
      case rel=>exact⟨(E),(g),(wrap64 (l+1)),rS,H',⟨mO⟩,⟨sM c.1⟩,⟨rU V.1⟩,⟨aT HB.1⟩⟩
    ·
     replace c14:=Bool.eq_false_iff.mpr c14;subst c14;rw[if_neg nT]at H;generalize ap:(g.set (L:Int).toNat true:List Bool)=ax at H;replace ap:=Ay ap;replace H:=aY;obtain⟨c23,H⟩:=H;have bp:=Az c23;clear c23;generalize Z:(bf++[L]:List Int)=bz at H;replace Z:=Ay Z;replace H:=bF;obtain⟨cO,H⟩:=H;have H':=Az H;clear H;obtain⟨fA,eS,eC⟩:=Kd.az V.1;subst eC;obtain⟨aV,s,aC,aJ,d⟩:=aB (Kd.am V.1).2.2 L;rw[<-ah.1]at d;cases s;have aj:0<=(L:Int):=oA;have O:(L:Int)<((g.length:Int):Int):=oA;obtain⟨u,bg,ce,av,bC,bS,aM⟩:=Kd.dv V.1 ac;(first|cases ce|(injection ce with J bo aR;(first|subst J|(injection J with J;subst J));subst aR;clear bo));have bb:=Az av;have bH:=Az aM;clear av bC aM;simp only[add_plain]at d;obtain⟨bU,bR⟩:=Kd.bm false V.1 (L:Int) aj O;replace aj:=eq_true aj;replace O:=eq_true O;obtain⟨bN,bG⟩:=Kd.bm false V.1 (L:Int) (oA) (oA);have ak:=Kd.cH V.1 (L:Int) true;go_wp2_with (first|((with_reducible refine gs 4 30 rfl ?_);refine sE 4 30 (wr.setCell ⟨u,(L:Int).toNat,none⟩ (.bool true)) ?_;intro eN hw;have hg:wr.grownBy eN (some u):=(by rw[hw];exact ak.2);have ao:Kd.R Kd.bool 4 eN w.heap.size (fun _=>True) (.slice (some ⟨u,0,none⟩) g.length eS) ax:=(by rw[hw,ap.1];exact ak.1);clear ak;replace c:=Az (Kd.xE (v:=(.slice (some ⟨u,0,none⟩) g.length eS)) (sU c.1) (Kd.dO V.1) af hg);replace aU:=Az (Kd.dM (v:=(.slice (some ⟨u,0,none⟩) g.length eS)) (rU aU.1) (Kd.dO V.1) af hg);replace V:=cr;replace HB:=Az ((by rw[hw];exact aN (HB.1) bb.1:Below w.heap.size w eN));clear hg hw ao)|((with_reducible refine dB (b:=.append) (xs:=#[.tmp 31,.tmp 33]) rfl ?_);at_builtin;refine Kd.dH al (w0:=w) w.heap.size rfl (.tmp 31) (.tmp 33) 23 3 (.int .i64 0) 8 rfl Try.underlying23 bA rfl af ac u6 bf L [.int .i64 L] (fun _=>True) (fun _=>False) rfl rfl ?aP (fun _ hk=>hk.elim) ?aF ?aO ?aB ?aS ?aL ?_;(case aP=>exact rfl);(case aB=>exact(aT HB.1));(case aF=>exact(fun _ _=>trivial));(case aO=>exact(rU aU.1));(case aS=>exact(aK (aT HB.1)));(case aL=>have:=bp.1;omega);intro bW cp ho hb hg hat;rw[<-Z.1]at ho;replace c:=Az (Kd.gh (ok:=(fun _=>True)) (by refine ci ?_;exact Kd.cC c.1 (fun _ hk=>⟨trivial,hk⟩)) hg hat);replace V:=Az (Kd.dM (rU V.1) (Kd.dO (rU aU.1)) af hg);replace HB:=br;have bd:=cS;clear aU ho hb hg hat;obtain⟨bV,bj,_,_,aA⟩:=aI M.1 L;cases bj;replace aA:=hT HB.1 aA));go_roundg k2
     case measure=>exact mO
     case rel=>exact⟨(ax),(bz),(rd l0 L),rS,H',⟨mO⟩,⟨by refine ci ?_;exact Kd.cC c.1 au⟩,⟨rU V.1⟩,⟨rU bd.1⟩,⟨aT HB.1⟩⟩
  ·rw[if_neg c8]at H;have cZ:=decide_eq_false c8;clear c8;obtain rfl:=bc H;go_wp2;go_ret;exact⟨_,rE,sU c.1,aT HB.1⟩
def dJ.l0:Nat->List Int->List Int->List Int->Int->Int->Option (List Int)
 |0,_,_,_,_,_=>none
 |k+1,x1,x5,e,d,c=>if c<d then(if 0<=c then(if c<(e.length:Int)then(if 0<=(rd e c)then(if(rd e c)<(x1.length:Int)then(if c<(x5.length:Int)then(dJ.l0 k x1 (x5.set (c:Int).toNat (rd x1 (rd e c))) e d (wrap64 (c+1)))else(none))else(none))else(none))else(none))else(none))else(some x5)
def dJ.f(k:Nat)(l0:List Int)(l1:List Int):Option (List Int):=if 0<=(l0.length:Int)then(if((l0.length:Int):Int).toNat<=35184372088832 then(dJ.l0 k l1 (List.replicate ((l0.length:Int):Int).toNat 0) l0 (l0.length:Int) 0)else(none))else(none)
set_option maxRecDepth 100000 in
theorem dJ.calls(k:Nat)(A0:Option Addr)(c0:Nat)(l0:List Int)(A1:Option Addr)(c1:Nat)(l1:List Int)(r:List Int)(w:World)(j:Kd.C al w A0 l0.length l0)(F:l0.length<=c0)(bj:Kd.C al w A1 l1.length l1)(bk:l1.length<=c1)(h:dJ.f k l0 l1=some r):
 Calls Try.prog 68 #[.slice A0 l0.length c0,.slice A1 l1.length c1] w fun e w'=>∃aZ:Value,e= .returned (aZ)/\ai w' w (fun _=>True) aZ r/\Below w.heap.size w w':=by
 have M:=Az j;have aX:=Az F;clear j F;have be:=Az bj;have bq:=Az bk;clear bj bk;have HB:=bY;have H:=h;clear h;unfold dJ.f at H;replace H:=gE H;obtain⟨cc,cu,H⟩:=H;replace H:=gE H;obtain⟨bn,df,H⟩:=H;generalize c:(List.replicate ((l0.length:Int):Int).toNat 0:List Int)=B at H;replace c:=Ay c;have H':=Az H;clear H;go_enter Try.func68,Try.ntmps68;go_wp2_with (first|((with_reducible refine gd 10 rfl ?_);refine Kd.gX al _ 3 rfl (N:=10) rfl 23 _ _ rfl (l0.length:Int) rfl rfl Try.underlying23 (.int .i64 0) 8 bA rfl af ac 0 (ok:=fun _=>True) (okp:=fun _=>True) rfl (fun _ hk=>hk) trivial (oA) (Nat.le_trans (Nat.mul_le_mul_right _ (oA:(l0.length:Int).toNat<=35184372088832)) ac) (Below.refl _ _) (Nat.le_refl _) ?_;intro s w5 bH hb Y X;clear Y X;(first|rw[<-c.1]at bH|(simp only[Int.reduceToNat]at bH;rw[<-c.1]at bH));have y:=Az (Kd.aH bH (aK (aT HB.1)));replace HB:=bs;clear hb bH));go_loopg [13] k (fun kq fu w'=>∃(G:List Int) (b:Int),fu= .int .i64 b/\ae (dJ.l0 kq l1 G l0 (l0.length:Int) b=some r)/\ae (kq<=k)/\ae (ai w' w (fun _=>True) s G)/\ae (Below w.heap.size w w'))
 case atStart=>exact⟨(B),(0),rS,H',⟨Nat.le_refl _⟩,⟨rU y.1⟩,⟨aT HB.1⟩⟩
 case round=>
  clear H';obtain⟨G,b,rfl,HA,ca,E,HB⟩:=hrel;rcases gk with _|k1;exact(nN HA.1).elim;have H:=HA.1;clear HA;simp only[dJ.l0]at H;replace H:=bR;rcases H with⟨cW,H⟩|⟨cW,H⟩
  ·
   replace H:=pL H;obtain⟨cZ,cn,bw,bT,bO,H⟩:=H;generalize d:(G.set (b:Int).toNat (rd l1 (rd l0 b)):List Int)=l at H;replace d:=Ay d;have H':=Az H;clear H;obtain⟨I,u,_,_,g⟩:=aI M.1 b;cases u;replace g:=hT HB.1 g;obtain⟨K,z,_,_,m⟩:=aI be.1 (rd l0 b);cases z;replace m:=hT HB.1 m;have cC:0<=(b:Int):=oA;have ce:(b:Int)<((G.length:Int):Int):=oA;obtain⟨cp,bV,bB,dh,dE,eX,dd⟩:=Kd.dv E.1 ac;(first|cases bB|(injection bB with J bo aR;(first|subst J|(injection J with J;subst J));subst aR;clear bo));have dS:=Az dh;have eM:=Az dd;clear dh dE dd;obtain⟨eW,fl⟩:=Kd.bm 0 E.1 (b:Int) cC ce;replace cC:=eq_true cC;replace ce:=eq_true ce;obtain⟨fb,fg⟩:=Kd.bm 0 E.1 (b:Int) (oA) (oA);have bX:=Kd.cH E.1 (b:Int) (rd l1 (rd l0 b));go_wp2_with (first|((with_reducible refine gs 3 24 rfl ?_);refine sE 3 24 (wr.setCell ⟨cp,(b:Int).toNat,none⟩ (.int .i64 (rd l1 (rd l0 b)))) ?_;intro dK hw;have hg:wr.grownBy dK (some cp):=(by rw[hw];exact bX.2);have ao:ai dK w (fun _=>True) (.slice (some ⟨cp,0,none⟩) G.length bV) l:=(by rw[hw,d.1];exact bX.1);clear bX;replace E:=cr;replace HB:=Az ((by rw[hw];exact aN (HB.1) dS.1:Below w.heap.size w dK));clear hg hw ao));go_roundg k1
   case measure=>exact mO
   case rel=>exact⟨(l),(wrap64 (b+1)),rS,H',⟨mO⟩,⟨rU E.1⟩,⟨aT HB.1⟩⟩
  ·obtain rfl:=bc H;go_wp2;go_ret;exact⟨_,rE,rU E.1,aT HB.1⟩
def gp.f(k:Nat)(j:List Int)(s:List Int):Option (Int):=(dt.f k j).bind fun L=>((dJ.f k s j).bind fun J=>((dt.f k J).bind fun M=>(some (wrap64 (Int.tdiv (wrap64 ((wrap64 ((wrap64 (2-(L.length:Int)))+(wrap64 ((s.length:Int)/2))))-(M.length:Int))) 2)))))
def gp.T1:Bool×List (List Nat×List Nat):=(true,[([],[]),([0],[0]),([1],[1]),([2],[2]),([3],[3]),([],[]),([5],[5]),([6],[6]),([7],[7]),([4,8],[4,8]),([],[]),([10],[10]),([],[]),([12],[12]),([11,13,2],[11,13]),([14,14],[14]),([15],[15]),([9,16],[9,16]),([17],[17]),([18,15,0,1,2,3,4,5,6,7,8,9,10,11,12,13,14,15,16,17,18],[18])])
def gp.B1:List Nat:=[0,1,3,7,15,0,32,96,224,511,0,1024,0,4096,15367,31751,64519,131071,262143,524287]
theorem gp.pp:bT .any (opsOf Try.f87 1)=gp.T1:=by kernel_rfl
theorem gp.qe:de gp.T1.2 gp.B1=true:=by kernel_rfl
set_option maxRecDepth 100000 in
theorem gp.calls(k:Nat)(I:Option Addr)(F:Nat)(j:List Int)(y:Option Addr)(u:Nat)(s:List Int)(r:Int)(w:World)(bN:Kd.C al w I j.length j)(bQ:j.length<=F)(bz:Kd.C al w y s.length s)(bL:s.length<=u)(h:gp.f k j s=some r):
 Calls Try.prog 87 #[.agg #[.slice I j.length F,.slice y s.length u]] w fun e w'=>e= .returned (.int .i64 r)/\Below w.heap.size w w':=by
 have da:=Try.underlying29;have bb:=eO;have bi:=fh;clear bN bQ;have ah:=dL;have aG:=dQ;clear bz bL;have HB:=bY;have H:=h;clear h;unfold gp.f at H;replace H:=aV;obtain⟨L,A2,H⟩:=H;replace H:=aV;obtain⟨J,A3,H⟩:=H;replace H:=aV;obtain⟨M,A4,H⟩:=H;obtain rfl:=bc H;go_enter Try.func87,Try.ntmps87;try go_wp2_with (first|((with_reducible refine gd 1 rfl ?_);refine bE 1 #[.slice I j.length F,.slice y s.length u] 29 ?_;intro R hg w5 O hb;have d:=bp;have x:=cy;replace HB:=bs;clear hb O hg))
 replace d:=Az (bC d.1);replace HB:=cX;refine cA (n:=20) (S:=fun w'=>w'.cell? ⟨R,0,none⟩=some (.slice I j.length F)/\w'.cell? ⟨R,1,none⟩=some (.slice y s.length u)) (ds:=[]) (bv 20 0) aM rfl rfl ⟨(ap d.1 0).trans rfl,(ap d.1 1).trans rfl⟩ (fun B=>?_);refine cT gp.pp gp.qe (fun ba bU=>?_);generalize w5.drew=w6 at d HB B ⊢;refine XP 0 3 20 1 ?_;refine XP 5 8 20 33 ?_;refine XP 10 13 20 1057 ?_;refine XP 12 15 20 5153 ?_;refine XT 1 4 20 5155 ?_;refine XT 6 9 20 5219 ?_;refine XP 7 10 20 5347 ?_;refine XP 8 11 20 5603 ?_;refine XT 11 14 20 7651 ?_;refine XT 13 16 20 15843 ?_;refine XO 2 5 20 15847 (fun K hK=>?_);refine XG Try.func67 #[.slice I j.length F] ?_;with_reducible refine(dt.calls k _ _ j L _ ?side1 ?side2 A2.1).mono ?_
 (case side1=>exact cU (Kd.aU bb.1 HB.1))
 (case side2=>exact bi.1)
 rintro e w7 ⟨ml,rfl,ho0,hb⟩;refine⟨_,rfl,?_⟩;have A:=Az (Kd.kj ho0 (aK (av HB.1 x.1)));replace d:=kB d.1 hb;replace HB:=Az (bh (av HB.1 x.1) hb);clear hb ho0;obtain⟨bJ,bu,aQ⟩:=Kd.il A.1;(first|subst aQ|(injection aQ with T aX U;have aa:=T.symm;have aE:=U.symm;clear T aX U;subst aa;subst aE));refine hK.out _ _ ⟨(ap d.1 0).trans rfl,(ap d.1 1).trans rfl⟩ (fun B=>?_);clear hK K;refine XN 5 ?_;refine XP 3 6 20 15855 ?_;refine XP 4 7 20 15871 ?_;refine XP 9 12 20 16383 ?_;refine XO 14 17 20 32767 (fun K hK=>?_);refine XG Try.func68 #[.slice y s.length u,.slice I j.length F] ?_;with_reducible refine(dJ.calls k _ _ s _ _ j J _ ?side1 ?side2 ?side3 ?side4 A3.1).mono ?_
 (case side1=>exact cU (Kd.aU ah.1 HB.1))
 (case side2=>exact aG.1)
 (case side3=>exact cU (Kd.aU bb.1 HB.1))
 (case side4=>exact bi.1)
 rintro e w9 ⟨X,rfl,ho0,hb⟩;refine⟨_,rfl,?_⟩;replace A:=Az (Kd.kM (sU A.1) (Kd.ar ho0) hb);have z:=Az (Kd.aH ho0 (aK (av HB.1 x.1)));replace d:=kB d.1 hb;replace HB:=Az (bh (av HB.1 x.1) hb);clear hb ho0;obtain⟨E,G,Z⟩:=Kd.az z.1;(first|subst Z|(injection Z with T aX U;have aa:=T.symm;have aE:=U.symm;clear T aX U;subst aa;subst aE));refine hK.out _ _ ⟨(ap d.1 0).trans rfl,(ap d.1 1).trans rfl⟩ (fun B=>?_);clear hK K;refine XN 17 ?_;refine XO 15 18 20 65535 (fun K hK=>?_);refine XG Try.func67 #[.slice E J.length G] ?_;with_reducible refine(dt.calls k _ _ J M _ ?side1 ?side2 A4.1).mono ?_
 (case side1=>exact cU ((Kd.am z.1).2.2))
 (case side2=>exact(Kd.am z.1).2.1)
 rintro e dY ⟨mD,rfl,ho0,hb⟩;refine⟨_,rfl,?_⟩;have V:=Az (Kd.kj (Kd.im (Kd.im ho0 (Kd.Bs (sU A.1))) (Kd.aj (rU z.1))) (aK (av HB.1 x.1)));replace A:=Az (Kd.kM (sU A.1) (Kd.vw ho0) hb);replace z:=rB z.1 hb;replace d:=kB d.1 hb;replace HB:=Az (bh (av HB.1 x.1) hb);clear hb ho0;obtain⟨aO,aL,aJ⟩:=Kd.il V.1;(first|subst aJ|(injection aJ with T aX U;have aa:=T.symm;have aE:=U.symm;clear T aX U;subst aa;subst aE));refine hK.out _ _ ⟨(ap d.1 0).trans rfl,(ap d.1 1).trans rfl⟩ (fun B=>?_);clear hK K;refine XN 18 ?_;refine XP 16 19 20 131071 ?_;refine XP 17 20 20 262143 ?_;refine XP 18 21 20 524287 ?_;refine XP 19 2 20 1048575 ?_;refine XD ?_;try go_wp2
 go_ret;exact⟨rE,av HB.1 x.1⟩
def cE.l0:Nat->List Int->List Bool->Int->Option Bool
 |0,_,_,_=>none
 |k+1,l,s,i=>if i<(l.length:Int)then(if 0<=i then(if rd l i<0 then(some false)else(if rd l i>=(l.length:Int)then(some false)else(if s.getD (rd l i).toNat false=true then(some false)else(cE.l0 k l (s.set (rd l i).toNat true) (wrap64 (i+1))))))else none)else(some true)
def cE.f(k:Nat)(l0:List Int):Option Bool:=if(l0.length:Int)<1 then(some false)else(if(l0.length:Int)>12 then(some false)else(cE.l0 k l0 (List.replicate 12 false) 0))
theorem cE.mono_l:∀k,(∀y0 y1 y2,bo (cE.l0 k y0 y1 y2) (cE.l0 (k+1) y0 y1 y2))
 |0=>fun _ _ _ r h=>by simp[cE.l0]at h
 |k+1=>by
  have a:=cE.mono_l k;intro y0 y1 y2;unfold cE.l0
  repeat' first
   |(with_reducible exact a _ _ _)
   |(with_reducible exact bo.refl _)
   |(with_reducible refine bo.ite ?_ ?_)
theorem cE.mono:∀a0 k,bo (cE.f k a0) (cE.f (k+1) a0):=by
 intro a0 k;unfold cE.f;exact bo.ite (bo.refl _) (bo.ite (bo.refl _) (cE.mono_l k _ _ _))
set_option maxRecDepth 100000 in
theorem cE.calls(k:Nat)(A0:Option Addr)(c0:Nat)(l0:List Int)(r:Bool)(w:World)(j:Kd.C al w A0 l0.length l0)(F:l0.length<=c0)(h:cE.f k l0=some r):
 Calls Try.prog 105 #[.slice A0 l0.length c0] w fun e w'=>e= .returned (.bool r)/\Below w.heap.size w w':=by
 have M:=Az j;have aX:=Az F;clear j F;have HB:=bY;have H:=h;clear h;unfold cE.f at H;replace H:=bR;rcases H with⟨cc,H⟩|⟨cc,H⟩
 ·obtain rfl:=bc H;go_enter Try.func105,Try.ntmps105;go_wp2;go_ret;exact⟨rfl,bK HB.1 _⟩
 ·
  by_cases c4:(l0.length:Int)>12
  ·rw[if_pos c4]at H;have bn:=decide_eq_true c4;clear c4;obtain rfl:=bc H;go_enter Try.func105,Try.ntmps105;go_wp2;go_ret;exact⟨rfl,bK HB.1 _⟩
  ·
   rw[if_neg c4]at H;have bn:=decide_eq_false c4;have l:(l0.length:Int)<=12:=ac;clear c4;have H':=Az H;clear H;go_enter Try.func105,Try.ntmps105;go_wp2;go_loopg [17] k (fun kq ek w'=>∃(s:List Bool) (i:Int),ek= .int .i64 i/\ae (cE.l0 kq l0 s i=some r)/\ae (kq<=k)/\ae (s.length=12)/\ae (w'.heap[w.heap.size]?=some (.cells (s.map Value.bool).toArray 110 (0,0)))/\ae (Below w.heap.size w w'))
   case atStart=>exact⟨List.replicate 12 false,0,rfl,H',⟨Nat.le_refl _⟩,⟨rfl⟩,⟨by simpa using heap_alloc_new w _⟩,⟨bK HB.1 _⟩⟩
   case round=>
    clear H';obtain⟨s,i,rfl,HA,ca,HL,BK,HB⟩:=hrel;rcases gk with _|k1;exact(nN HA.1).elim;have H:=HA.1;clear HA;simp only[cE.l0]at H;by_cases c5:i<(l0.length:Int)
    ·
     rw[if_pos c5]at H;have U:=decide_eq_true c5;replace H:=aY;obtain⟨c6,H⟩:=H;have bP:=decide_eq_true c6;obtain⟨ad,e,hx⟩:=Kd.eQ M.1 i c6 c5;cases e;replace hx:=(HB.1.cell (World.block_lt_of_cell? w _ hx)).trans hx;replace c6:=eq_true c6;replace c5:=eq_true c5;by_cases c7:rd l0 i<0
     ·rw[if_pos c7]at H;have cW:=decide_eq_true c7;clear c7;obtain rfl:=bc H;go_wp2;go_ret;exact⟨rfl,HB.1⟩
     ·
      rw[if_neg c7]at H;have cW:=decide_eq_false c7;have c:0<=rd l0 i:=ac;clear c7;by_cases c8:rd l0 i>=(l0.length:Int)
      ·rw[if_pos c8]at H;have cZ:=decide_eq_true c8;clear c8;obtain rfl:=bc H;go_wp2;go_ret;exact⟨rfl,HB.1⟩
      ·
       rw[if_neg c8]at H;have cZ:=decide_eq_false c8;have a:rd l0 i<12:=ac;clear c8;have E:wr.cell? ⟨w.heap.size,(rd l0 i).toNat,none⟩=some (.bool (s.getD (rd l0 i).toNat false)):=(ap BK.1 _).trans (by have hl:=HL.1;simp[List.getD_eq_getElem?_getD];rw[List.getElem?_eq_getElem ac];rfl);have d:=dC BK.1 (rd l0 i).toNat;generalize hb:s.getD (rd l0 i).toNat false=b at H E;cases b with
       |true=>
        rw[if_pos rfl]at H;obtain rfl:=bc H;clear hb;go_wp2;go_ret;exact⟨rfl,HB.1⟩
       |false=>
        rw[if_neg af]at H;have H':=Az H;clear H hb;go_wp2;go_roundg k1
        case measure=>exact mO
        case rel=>exact⟨s.set (rd l0 i).toNat true,wrap64 (i+1),rS,H',⟨mO⟩,⟨by rw[List.length_set];exact HL.1⟩,⟨by simpa using si BK.1 (rd l0 i).toNat (.bool true)⟩,⟨aN HB.1 (Nat.le_refl _)⟩⟩
    ·rw[if_neg c5]at H;have U:=decide_eq_false c5;clear c5;obtain rfl:=bc H;go_wp2;go_ret;exact⟨rfl,HB.1⟩
def dA.l0:Nat->List Int->Int->Int->Option (Int)
 |0,_,_,_=>none
 |k+1,x0,x3,x4=>if x4<(x0.length:Int)then(if 0<=x4 then(dA.l0 k x0 (mx x3 (rd x0 x4)) (wrap64 (x4+1)))else(none))else(some x3)
def dA.f(k:Nat)(l0:List Int):Option (Int):=if(l0.length:Int)<1 then(none)else(if 0<(l0.length:Int)then(dA.l0 k l0 (rd l0 0) 1)else(none))
theorem dA.mono_l:∀k,(∀y0 y1 y2,bo (dA.l0 k y0 y1 y2) (dA.l0 (k+1) y0 y1 y2))
 |0=>fun _ _ _ r h=>by simp[dA.l0]at h
 |k+1=>by
  have a:=dA.mono_l k
  ·
   intro y0 y1 y2;unfold dA.l0
   repeat' first
   |(with_reducible exact a _ _ _)
   |exact cN
   |refine cJ ?_ ?_
   |refine cG ?_ ?_
   |intro _
   |exact a _ _ _
theorem dA.mono:∀a0 k,bo (dA.f k a0) (dA.f (k+1) a0):=by
 intro a0 k;have a:=dA.mono_l k;unfold dA.f
 repeat' first
  |(with_reducible exact a _ _ _)
  |exact cN
  |refine cJ ?_ ?_
  |refine cG ?_ ?_
  |intro _
  |exact a _ _ _
set_option maxRecDepth 100000 in
theorem dA.calls(k:Nat)(A0:Option Addr)(c0:Nat)(l0:List Int)(r:Int)(w:World)(j:Kd.C al w A0 l0.length l0)(F:l0.length<=c0)(h:dA.f k l0=some r):
 Calls Try.prog 106 #[.slice A0 l0.length c0] w fun e w'=>e= .returned (.int .i64 r)/\Below w.heap.size w w':=by
 have M:=Az j;have aX:=Az F;clear j F;have HB:=bY;have H:=h;clear h;unfold dA.f at H;by_cases c2:(l0.length:Int)<1
 ·rw[if_pos c2]at H;exact kX H
 ·
  rw[if_neg c2]at H;have cB:=decide_eq_false c2;have cF:decide (l0.length<1)=false:=decide_eq_false ac;clear c2;replace H:=aY;obtain⟨c3,H⟩:=H;have cc:=decide_eq_true c3;have cu:decide (0<l0.length)=true:=decide_eq_true ac;clear c3;have H':=Az H;clear H;have a:0<=(0:Int):=ac;have b:0<(l0.length:Int):=oA;obtain⟨g,d,c⟩:=Kd.eQ M.1 0 a b;cases d;have l:(0<l0.length)=True:=eq_true ac;rw[show((0:Int)).toNat=0 from rfl]at c;rw[Addr.add_zero']at c;replace a:=eq_true a;replace b:=eq_true b;go_enter Try.func106,Try.ntmps106;go_wp2;go_loopg [3,4] k (fun kq v3 v4 w'=>∃(E:Int) (z:Int),v3= .int .i64 E/\v4= .int .i64 z/\ae (dA.l0 kq l0 E z=some r)/\ae (kq<=k)/\ae (Below w.heap.size w w'))
  case atStart=>exact⟨(rd l0 0),(1),rS,rS,H',⟨Nat.le_refl _⟩,⟨aT HB.1⟩⟩
  case round=>
   clear H';obtain⟨E,z,rfl,rfl,HA,ca,HB⟩:=hrel;rcases gk with _|k1;exact(nN HA.1).elim;have H:=HA.1;clear HA;simp only[dA.l0]at H;replace H:=bR;rcases H with⟨bn,H⟩|⟨bn,H⟩
   ·
    replace H:=bF;obtain⟨U,H⟩:=H;obtain⟨ck,ej⟩:∃j_:Int,(mx E (rd l0 z))=j_:=⟨_,rfl⟩;(first|rw[ej]at H|simp only[ej]at H);have m:(if E<(rd l0 z)then(rd l0 z)else E)=ck:=ej;have H':=Az H;clear H;obtain⟨_,_,hY⟩:=aJ M.1 z;replace hY:=hT HB.1 hY;go_wp2;go_roundg k1
    case measure=>exact mO
    case rel=>exact⟨(ck),(wrap64 (z+1)),(by first|rfl|(simp;done)|(simp only[<-ej]<;>(first|rfl|simp))|(simp[*];done)),rS,H',⟨mO⟩,⟨aT HB.1⟩⟩
   ·obtain rfl:=bc H;go_wp2;go_ret;exact⟨rE,aT HB.1⟩
def dr.l0:Nat->List Int->Int->Int->Option (List Int)
 |0,_,_,_=>none
 |k+1,x3,x8,x9=>if x9<x8 then(if 0<=x9 then(if x9<(x3.length:Int)then(dr.l0 k (x3.set (x9:Int).toNat x9) x8 (wrap64 (x9+1)))else(none))else(none))else(some x3)
def dr.f(k:Nat)(a0:Int):Option (List Int):=if 0<=a0 then(if(a0:Int).toNat<=35184372088832 then((some (List.replicate (a0:Int).toNat 0:List Int)).bind fun g=>(dr.l0 k g (g.length:Int) 0))else(none))else(none)
theorem dr.mono_l:∀k,(∀y0 y1 y2,bo (dr.l0 k y0 y1 y2) (dr.l0 (k+1) y0 y1 y2))
 |0=>fun _ _ _ r h=>by simp[dr.l0]at h
 |k+1=>by
  have a:=dr.mono_l k
  ·
   intro y0 y1 y2;unfold dr.l0
   repeat' first
   |(with_reducible exact a _ _ _)
   |exact cN
   |refine cJ ?_ ?_
   |refine cG ?_ ?_
   |intro _
   |exact a _ _ _
theorem dr.mono:∀a0 k,bo (dr.f k a0) (dr.f (k+1) a0):=by
 intro a0 k;have a:=dr.mono_l k;unfold dr.f
 repeat' first
  |(with_reducible exact a _ _ _)
  |exact cN
  |refine cJ ?_ ?_
  |refine cG ?_ ?_
  |intro _
  |exact a _ _ _
set_option maxRecDepth 100000 in
theorem dr.calls(k:Nat)(a0:Int)(r:List Int)(w:World)(h:dr.f k a0=some r):
 Calls Try.prog 122 #[.int .i64 a0] w fun e w'=>∃aZ:Value,e= .returned (aZ)/\ai w' w (fun _=>True) aZ r/\Below w.heap.size w w':=by
 have HB:=bY;have H:=h;clear h;unfold dr.f at H;replace H:=gE H;obtain⟨cB,cF,H⟩:=H;replace H:=gE H;obtain⟨cc,cu,H⟩:=H;generalize j:(List.replicate (a0:Int).toNat 0:List Int)=g at H;simp only[Option.bind_some]at H;replace j:=Ay j;have H':=Az H;clear H;go_enter Try.func122,Try.ntmps122;go_wp2_with (first|((with_reducible refine gd 6 rfl ?_);refine Kd.gX al _ 3 rfl (N:=6) rfl 23 _ _ rfl a0 rfl rfl Try.underlying23 (.int .i64 0) 8 bA rfl af ac 0 (ok:=fun _=>True) (okp:=fun _=>True) rfl (fun _ hk=>hk) trivial (oA) (Nat.le_trans (Nat.mul_le_mul_right _ (oA:a0.toNat<=35184372088832)) ac) (Below.refl _ _) (Nat.le_refl _) ?_;intro z w4 B hb Y X;clear Y X;(first|rw[<-j.1]at B|(simp only[Int.reduceToNat]at B;rw[<-j.1]at B));have n:=qR;replace HB:=bs;clear hb B;obtain⟨ar,u,ap⟩:=Kd.az n.1;subst ap));go_loopg [9] k (fun kq v9 w'=>∃(E:List Int) (T:Int),v9= .int .i64 T/\ae (dr.l0 kq E (g.length:Int) T=some r)/\ae (kq<=k)/\ae (ai w' w (fun _=>True) (.slice ar g.length u) E)/\ae (Below w.heap.size w w'))
 case atStart=>exact⟨(g),(0),rS,H',⟨Nat.le_refl _⟩,⟨rU n.1⟩,⟨aT HB.1⟩⟩
 case round=>
  clear H';obtain⟨E,T,rfl,HA,ca,c,HB⟩:=hrel;have i:=(Kd.am c.1).1;rw[i]at c;simp only[i];rcases gk with _|k1;exact(nN HA.1).elim;have H:=HA.1;clear HA;simp only[dr.l0]at H;by_cases c7:T<(g.length:Int)
  ·
   rw[if_pos c7]at H;have cW:=decide_eq_true c7;(have l:=cW;rw[i]at l);clear c7;replace H:=bF;obtain⟨cZ,H⟩:=H;replace H:=aY;obtain⟨c9,H⟩:=H;have cn:=decide_eq_true c9;clear c9;generalize m:(E.set (T:Int).toNat T:List Int)=y at H;replace m:=Ay m;have H':=Az H;clear H;have U:0<=(T:Int):=oA;have I:(T:Int)<((E.length:Int):Int):=oA;obtain⟨b,G,Z,aa,ag,au,O⟩:=Kd.dv c.1 ac;(first|cases Z|(injection Z with J bo aR;(first|subst J|(injection J with J;subst J));subst aR;clear bo));have ah:=Az aa;have aC:=Az O;clear aa ag O;obtain⟨aB,ay⟩:=Kd.bm 0 c.1 (T:Int) U I;replace U:=eq_true U;replace I:=eq_true I;obtain⟨aj,av⟩:=Kd.bm 0 c.1 (T:Int) (oA) (oA);have s:=Kd.cH c.1 (T:Int) T;go_wp2_with (first|((with_reducible refine gs 3 15 rfl ?_);refine sE 3 15 (wr.setCell ⟨b,(T:Int).toNat,none⟩ (.int .i64 T)) ?_;intro cp hw;have hg:wr.grownBy cp (some b):=(by rw[hw];exact s.2);have ao:ai cp w (fun _=>True) (.slice (some ⟨b,0,none⟩) E.length u) y:=(by rw[hw,m.1];exact s.1);clear s;replace c:=cr;replace HB:=wQ;clear hg hw ao));simp only[<-i];go_roundg k1
   case measure=>exact mO
   case rel=>exact⟨(y),(wrap64 (T+1)),rS,H',⟨mO⟩,⟨by simp only[i];refine rA ?_;exact c.1⟩,⟨aT HB.1⟩⟩
  ·rw[if_neg c7]at H;have cW:=decide_eq_false c7;(have l:=cW;rw[i]at l);clear c7;obtain rfl:=bc H;go_wp2;go_ret;exact⟨_,rE,rU c.1,aT HB.1⟩
mutual
def bH.l0:Nat->List (List Int)->List Int->Bool->Option (List Int)
 |0,_,_,_=>none
 |k+1,x0,x3,x4=>if x4=true then(bH.l1 k x0 x3 false x0 (x0.length:Int) 0)else(some x3)
def bH.l1:Nat->List (List Int)->List Int->Bool->List (List Int)->Int->Int->Option (List Int)
 |0,_,_,_,_,_,_=>none
 |k+1,x0,x3,x4,j,g,a=>if a<g then(if 0<=a then(if a<(j.length:Int)then(bH.l2 k x0 x3 x4 j g a (ak j a) ((ak j a).length:Int) 0)else(none))else(none))else(bH.l0 k x0 x3 x4)
def bH.l2:Nat->List (List Int)->List Int->Bool->List (List Int)->Int->Int->List Int->Int->Int->Option (List Int)
 |0,_,_,_,_,_,_,_,_,_=>none
 |k+1,x0,x3,x4,j,g,a,b,d,x24=>if x24<d then(if 0<=x24 then(if x24<(b.length:Int)then(if x24<(x3.length:Int)then(if 0<=(rd b x24)then(if(rd b x24)<(x3.length:Int)then(if(rd x3 x24)=(mn (rd x3 x24) (rd x3 (rd b x24)))then(if(rd x3 (rd b x24))=(mn (rd x3 x24) (rd x3 (rd b x24)))then(bH.l2 k x0 x3 x4 j g a b d (wrap64 (x24+1)))else(bH.l2 k x0 ((x3.set (x24:Int).toNat (mn (rd x3 x24) (rd x3 (rd b x24)))).set ((rd b x24):Int).toNat (mn (rd x3 x24) (rd x3 (rd b x24)))) true j g a b d (wrap64 (x24+1))))else(bH.l2 k x0 ((x3.set (x24:Int).toNat (mn (rd x3 x24) (rd x3 (rd b x24)))).set ((rd b x24):Int).toNat (mn (rd x3 x24) (rd x3 (rd b x24)))) true j g a b d (wrap64 (x24+1))))else(none))else(none))else(none))else(none))else(none))else(bH.l1 k x0 x3 x4 j g (wrap64 (a+1)))
end
def bH.f(k:Nat)(l0:List (List Int)):Option (List Int):=if 0<(l0.length:Int)then((dr.f k ((ak l0 0).length:Int)).bind fun Z=>(bH.l0 k l0 Z true))else(none)
theorem bH.mono_l:∀k,(∀y0 y1 y2,bo (bH.l0 k y0 y1 y2) (bH.l0 (k+1) y0 y1 y2))/\(∀y0 y1 y2 y3 y4 y5,bo (bH.l1 k y0 y1 y2 y3 y4 y5) (bH.l1 (k+1) y0 y1 y2 y3 y4 y5))/\(∀y0 y1 y2 y3 y4 y5 y6 y7 y8,bo (bH.l2 k y0 y1 y2 y3 y4 y5 y6 y7 y8) (bH.l2 (k+1) y0 y1 y2 y3 y4 y5 y6 y7 y8))
 |0=>⟨fun _ _ _ r h=>by simp[bH.l0]at h,fun _ _ _ _ _ _ r h=>by simp[bH.l1]at h,fun _ _ _ _ _ _ _ _ _ r h=>by simp[bH.l2]at h⟩
 |k+1=>by
  obtain⟨a,b,c⟩:=bH.mono_l k;refine⟨?_,?_,?_⟩
  ·
   intro y0 y1 y2;unfold bH.l0
   repeat' first
   |(with_reducible exact a _ _ _)
   |(with_reducible exact b _ _ _ _ _ _)
   |(with_reducible exact c _ _ _ _ _ _ _ _ _)
   |(with_reducible exact dr.mono _ _)
   |exact cN
   |refine cJ ?_ ?_
   |refine cG ?_ ?_
   |intro _
   |exact a _ _ _
   |exact b _ _ _ _ _ _
   |exact c _ _ _ _ _ _ _ _ _
   |exact dr.mono _ _
  ·
   intro y0 y1 y2 y3 y4 y5;unfold bH.l1
   repeat' first
   |(with_reducible exact a _ _ _)
   |(with_reducible exact b _ _ _ _ _ _)
   |(with_reducible exact c _ _ _ _ _ _ _ _ _)
   |(with_reducible exact dr.mono _ _)
   |exact cN
   |refine cJ ?_ ?_
   |refine cG ?_ ?_
   |intro _
   |exact a _ _ _
   |exact b _ _ _ _ _ _
   |exact c _ _ _ _ _ _ _ _ _
   |exact dr.mono _ _
  ·
   intro y0 y1 y2 y3 y4 y5 y6 y7 y8;unfold bH.l2
   repeat' first
   |(with_reducible exact a _ _ _)
   |(with_reducible exact b _ _ _ _ _ _)
   |(with_reducible exact c _ _ _ _ _ _ _ _ _)
   |(with_reducible exact dr.mono _ _)
   |exact cN
   |refine cJ ?_ ?_
   |refine cG ?_ ?_
   |intro _
   |exact a _ _ _
   |exact b _ _ _ _ _ _
   |exact c _ _ _ _ _ _ _ _ _
   |exact dr.mono _ _
theorem bH.mono:∀a0 k,bo (bH.f k a0) (bH.f (k+1) a0):=by
 intro a0 k;obtain⟨a,b,c⟩:=bH.mono_l k;unfold bH.f
 repeat' first
  |(with_reducible exact a _ _ _)
  |(with_reducible exact b _ _ _ _ _ _)
  |(with_reducible exact c _ _ _ _ _ _ _ _ _)
  |(with_reducible exact dr.mono _ _)
  |exact cN
  |refine cJ ?_ ?_
  |refine cG ?_ ?_
  |intro _
  |exact a _ _ _
  |exact b _ _ _ _ _ _
  |exact c _ _ _ _ _ _ _ _ _
  |exact dr.mono _ _
set_option maxRecDepth 100000 in
theorem bH.calls(k:Nat)(A0:Option Addr)(c0:Nat)(l0:List (List Int))(r:List Int)(w:World)(j:Kd.C bJ w A0 l0.length l0)(F:l0.length<=c0)(h:bH.f k l0=some r):
 Calls Try.prog 107 #[.slice A0 l0.length c0] w fun e w'=>∃aZ:Value,e= .returned (aZ)/\ai w' w (fun _=>True) aZ r/\Below w.heap.size w w':=by
 have M:=Az j;have aX:=Az F;clear j F;have HB:=bY;have H:=h;clear h;unfold bH.f at H;replace H:=aY;obtain⟨c2,H⟩:=H;have cB:=decide_eq_true c2;have cF:decide (0<l0.length)=true:=decide_eq_true ac;clear c2;replace H:=aV;obtain⟨Z,A3,H⟩:=H;have H':=Az H;clear H;have aD:0<=(0:Int):=ac;have af:0<(l0.length:Int):=oA;obtain⟨bW,dd,dq,cs,aO,bG,bB⟩:=fT M.1 0 aD af;cases cs;have dh:(0<l0.length)=True:=eq_true ac;rw[show((0:Int)).toNat=0 from rfl]at aO;rw[Addr.add_zero']at aO;have cX:=Az bB;have cT:=Az bG;clear bB bG;replace aD:=eq_true aD;replace af:=eq_true af;go_enter Try.func107,Try.ntmps107;go_wp2_with (first|(go_at_call 122;(with_reducible refine(dr.calls k ((ak l0 0).length:Int) Z _ A3.1).mono ?_);rintro e w4 ⟨aG,rfl,ho0,hb⟩;have cq:=Az (Kd.aH ho0 (aK (aT HB.1)));replace HB:=bs;clear hb ho0))
 repeat (go_quiet (fail);try go_wp2_with (fail))
 go_loopg [4] k (fun kq v4 w'=>∃(E:List Int) (z:Bool),v4= .bool z/\ae (bH.l0 kq l0 E z=some r)/\ae (kq<=k)/\ae (ai w' w (fun _=>True) aG E)/\ae (Below w.heap.size w w'))
 case atStart=>exact⟨(Z),(true),rS,H',⟨Nat.le_refl _⟩,⟨rU cq.1⟩,⟨aT HB.1⟩⟩
 case round=>
  clear H';obtain⟨E,z,rfl,HA,ca,c,HB⟩:=hrel;rcases gk with _|k1;exact(nN HA.1).elim;have H:=HA.1;clear HA;simp only[bH.l0]at H;by_cases c5:z=true
  ·
   subst c5;rw[if_pos rfl]at H;have H':=Az H;clear H;go_wp2
   repeat (go_quiet (fail);try go_wp2)
   go_loopg [4,18] k1 (fun kq v4 kt w'=>∃(s:List Int) (g:Bool) (d:Int),v4= .bool g/\kt= .int .i64 d/\ae (bH.l1 kq l0 s g l0 (l0.length:Int) d=some r)/\ae (kq<=k1)/\ae (ai w' w (fun _=>True) aG s)/\ae (Below w.heap.size w w'))
   case atStart=>exact⟨(E),(false),(0),rS,rS,H',⟨Nat.le_refl _⟩,⟨rU c.1⟩,⟨aT HB.1⟩⟩
   case round=>
    clear H';obtain⟨s,g,d,rfl,rfl,HA,bM,c,HB⟩:=hrel;rcases gk with _|k2;exact(nN HA.1).elim;have H:=HA.1;clear HA;simp only[bH.l1]at H;by_cases c6:d<(l0.length:Int)
    ·
     rw[if_pos c6]at H;have bP:=decide_eq_true c6;clear c6;replace H:=cY;obtain⟨cW,cZ,H⟩:=H;have H':=Az H;clear H;have ay:0<=(d:Int):=oA;have au:d<(l0.length:Int):=oA;obtain⟨cd,da,dl,cp,bL,bq,bg⟩:=fT M.1 d ay au;obtain rfl:bW=cd:=(by injection cp);replace bL:=hT HB.1 bL;have al:=Az bg;have cO:=Az bq;clear bg bq;replace ay:=eq_true ay;replace au:=eq_true au;go_wp2
     repeat (go_quiet (fail);try go_wp2)
     go_loopg [4,24] k2 (fun kq v4 et w'=>∃(l:List Int) (O:Bool) (b:Int),v4= .bool O/\et= .int .i64 b/\ae (bH.l2 kq l0 l O l0 (l0.length:Int) d (ak l0 d) ((ak l0 d).length:Int) b=some r)/\ae (kq<=k2)/\ae (ai w' w (fun _=>True) aG l)/\ae (Below w.heap.size w w'))
     case atStart=>exact⟨(s),(g),(0),rS,rS,H',⟨Nat.le_refl _⟩,⟨rU c.1⟩,⟨aT HB.1⟩⟩
     case round=>
      clear H';obtain⟨l,O,b,rfl,rfl,HA,dy,c,HB⟩:=hrel;rcases gk with _|k3;exact(nN HA.1).elim;have H:=HA.1;clear HA;simp only[bH.l2]at H;replace H:=bR;rcases H with⟨cn,H⟩|⟨cn,H⟩
      ·
       replace H:=pL H;obtain⟨bw,bT,bO,dc,ci,H⟩:=H;obtain⟨m,K⟩:∃j_:Int,(mn (rd l b) (rd l (rd (ak l0 d) b)))=j_:=⟨_,rfl⟩;(first|rw[K]at H|simp only[K]at H);have cv:(if(rd l (rd (ak l0 d) b))<(rd l b)then(rd l (rd (ak l0 d) b))else(rd l b))=m:=K;replace H:=gQ H;rcases H with⟨bS,dN,H⟩|⟨bS,dN,H⟩
       ·
        replace H:=gQ H;rcases H with⟨cw,aF,H⟩|⟨cw,aF,H⟩
        ·
         have H':=Az H;clear H;obtain⟨bf,L,ba,bF,u⟩:=aI al.1 b;cases L;replace u:=hT HB.1 u;obtain⟨aQ,bu,er⟩:=Kd.az c.1;subst er;obtain⟨aU,N,bE,bI,U⟩:=aI (Kd.am c.1).2.2 b;cases N;obtain⟨aS,bv,V⟩:=aJ (Kd.am c.1).2.2 (rd (ak l0 d) b);obtain⟨bi,bC,X⟩:=aJ (Kd.am c.1).2.2 b;obtain⟨bV,bU,bN⟩:=aJ (Kd.am c.1).2.2 (rd (ak l0 d) b);go_wp2
         repeat (go_quiet (fail);try go_wp2)
         go_roundg k3
         case measure=>exact mO
         case rel=>exact⟨(l),(O),(wrap64 (b+1)),rS,rS,H',⟨mO⟩,⟨rU c.1⟩,⟨aT HB.1⟩⟩
        ·
         generalize aB:(l.set (b:Int).toNat (m):List Int)=bp at H;replace aB:=Ay aB;generalize av:(bp.set ((rd (ak l0 d) b):Int).toNat (m):List Int)=bA at H;replace av:=Ay av;have H':=Az H;clear H;obtain⟨bf,L,ba,bF,u⟩:=aI al.1 b;cases L;replace u:=hT HB.1 u;obtain⟨bk,cQ,cj⟩:=Kd.az c.1;subst cj;obtain⟨aU,N,bE,bI,U⟩:=aI (Kd.am c.1).2.2 b;cases N;obtain⟨aS,bv,V⟩:=aJ (Kd.am c.1).2.2 (rd (ak l0 d) b);obtain⟨bi,bC,X⟩:=aJ (Kd.am c.1).2.2 b;obtain⟨bV,bU,bN⟩:=aJ (Kd.am c.1).2.2 (rd (ak l0 d) b);have ag:0<=(b:Int):=oA;have ap:(b:Int)<((l.length:Int):Int):=oA;obtain⟨I,bb,eO,bn,cu,du,br⟩:=Kd.dv c.1 ac;(first|cases eO|(injection eO with J bo aR;(first|subst J|(injection J with J;subst J));subst aR;clear bo));have bz:=Az bn;have cy:=Az br;clear bn cu br;simp only[add_plain]at U;simp only[add_plain]at V;simp only[add_plain]at X;simp only[add_plain]at bN;obtain⟨dk,dj⟩:=Kd.bm 0 c.1 (b:Int) ag ap;replace ag:=eq_true ag;replace ap:=eq_true ap;obtain⟨ax,aA⟩:=Kd.bm 0 c.1 (b:Int) (oA) (oA);have y:=qS;go_wp2_with (fail)
         repeat (go_quiet (fail);try go_wp2_with (first|((with_reducible refine gs 3 58 rfl ?_);(rw[qg wr];generalize T:World.drewN wr _=wr;replace c:=Az (Kd.kY T c.1);replace HB:=Az (qo T HB.1);clear T;(obtain⟨ax,aA⟩:=Kd.bm 0 c.1 (b:Int) (oA) (oA));(have y:=qS));refine sE 3 58 (wr.setCell ⟨I,(b:Int).toNat,none⟩ (.int .i64 m)) ?_;intro de hw;have hg:wr.grownBy de (some I):=(by rw[hw];exact y.2);have ao:ai de w (fun _=>True) (.slice (some ⟨I,0,none⟩) l.length cQ) bp:=(by rw[hw,aB.1];exact y.1);clear y;replace c:=cr;replace HB:=Az ((by rw[hw];exact aN (HB.1) bz.1:Below w.heap.size w de));clear hg hw ao;have R:0<=((rd (ak l0 d) b):Int):=oA;have ah:((rd (ak l0 d) b):Int)<((l.length:Int):Int):=oA;obtain⟨cE,df⟩:=Kd.bm 0 c.1 ((rd (ak l0 d) b):Int) R ah;replace R:=eq_true R;replace ah:=eq_true ah;obtain⟨bX,bQ⟩:=Kd.bm 0 c.1 ((rd (ak l0 d) b):Int) (oA) (oA);have B:=Kd.cH c.1 ((rd (ak l0 d) b):Int) m)|((with_reducible refine gs 3 59 rfl ?_);refine sE 3 59 (de.setCell ⟨I,((rd (ak l0 d) b):Int).toNat,none⟩ (.int .i64 m)) ?_;intro dW hw;have hg:de.grownBy dW (some I):=(by rw[hw];exact B.2);have ao:ai dW w (fun _=>True) (.slice (some ⟨I,0,none⟩) l.length cQ) bA:=(by rw[hw,av.1];exact B.1);clear B;replace c:=cr;replace HB:=Az ((by rw[hw];exact aN (HB.1) bz.1:Below w.heap.size w dW));clear hg hw ao)))
         go_roundg k3
         case measure=>exact mO
         case rel=>exact⟨(bA),(true),(wrap64 (b+1)),rS,rS,H',⟨mO⟩,⟨rU c.1⟩,⟨aT HB.1⟩⟩
       ·
        generalize aC:(l.set (b:Int).toNat (m):List Int)=bl at H;replace aC:=Ay aC;generalize aE:(bl.set ((rd (ak l0 d) b):Int).toNat (m):List Int)=bj at H;replace aE:=Ay aE;have H':=Az H;clear H;obtain⟨bf,L,ba,bF,u⟩:=aI al.1 b;cases L;replace u:=hT HB.1 u;obtain⟨dJ,dt,dX⟩:=Kd.az c.1;subst dX;obtain⟨aU,N,bE,bI,U⟩:=aI (Kd.am c.1).2.2 b;cases N;obtain⟨aS,bv,V⟩:=aJ (Kd.am c.1).2.2 (rd (ak l0 d) b);obtain⟨bi,bC,X⟩:=aJ (Kd.am c.1).2.2 b;have ar:0<=(b:Int):=oA;have aM:(b:Int)<((l.length:Int):Int):=oA;obtain⟨G,dn,cz,aW,cx,cL,be⟩:=Kd.dv c.1 ac;(first|cases cz|(injection cz with J bo aR;(first|subst J|(injection J with J;subst J));subst aR;clear bo));have aP:=Az aW;have cA:=Az be;clear aW cx be;simp only[add_plain]at U;simp only[add_plain]at V;simp only[add_plain]at X;obtain⟨dp,dm⟩:=Kd.bm 0 c.1 (b:Int) ar aM;replace ar:=eq_true ar;replace aM:=eq_true aM;obtain⟨cc,ce⟩:=Kd.bm 0 c.1 (b:Int) (oA) (oA);have Y:=qS;go_wp2_with (fail)
        repeat (go_quiet (fail);try go_wp2_with (first|((with_reducible refine gs 3 58 rfl ?_);(rw[qg wr];generalize T:World.drewN wr _=wr;replace c:=Az (Kd.kY T c.1);replace HB:=Az (qo T HB.1);clear T;(obtain⟨cc,ce⟩:=Kd.bm 0 c.1 (b:Int) (oA) (oA));(have Y:=qS));refine sE 3 58 (wr.setCell ⟨G,(b:Int).toNat,none⟩ (.int .i64 m)) ?_;intro ck hw;have hg:wr.grownBy ck (some G):=(by rw[hw];exact Y.2);have ao:ai ck w (fun _=>True) (.slice (some ⟨G,0,none⟩) l.length dt) bl:=(by rw[hw,aC.1];exact Y.1);clear Y;replace c:=cr;replace HB:=Az ((by rw[hw];exact aN (HB.1) aP.1:Below w.heap.size w ck));clear hg hw ao;have aj:0<=((rd (ak l0 d) b):Int):=oA;have aa:((rd (ak l0 d) b):Int)<((l.length:Int):Int):=oA;obtain⟨cC,di⟩:=Kd.bm 0 c.1 ((rd (ak l0 d) b):Int) aj aa;replace aj:=eq_true aj;replace aa:=eq_true aa;obtain⟨cV,cS⟩:=Kd.bm 0 c.1 ((rd (ak l0 d) b):Int) (oA) (oA);have aL:=Kd.cH c.1 ((rd (ak l0 d) b):Int) m)|((with_reducible refine gs 3 59 rfl ?_);refine sE 3 59 (ck.setCell ⟨G,((rd (ak l0 d) b):Int).toNat,none⟩ (.int .i64 m)) ?_;intro cP hw;have hg:ck.grownBy cP (some G):=(by rw[hw];exact aL.2);have ao:ai cP w (fun _=>True) (.slice (some ⟨G,0,none⟩) l.length dt) bj:=(by rw[hw,aE.1];exact aL.1);clear aL;replace c:=cr;replace HB:=Az ((by rw[hw];exact aN (HB.1) aP.1:Below w.heap.size w cP));clear hg hw ao)))
        go_roundg k3
        case measure=>exact mO
        case rel=>exact⟨(bj),(true),(wrap64 (b+1)),rS,rS,H',⟨mO⟩,⟨rU c.1⟩,⟨aT HB.1⟩⟩
      ·
       have H':=Az H;clear H;go_wp2
       repeat (go_quiet (fail);try go_wp2)
       go_roundg k3
       case measure=>exact mO
       case rel=>exact⟨(l),(O),(wrap64 (d+1)),rS,rS,H',⟨mO⟩,⟨rU c.1⟩,⟨aT HB.1⟩⟩
    ·
     rw[if_neg c6]at H;have bP:=decide_eq_false c6;clear c6;have H':=Az H;clear H;go_wp2
     repeat (go_quiet (fail);try go_wp2)
     go_roundg k2
     case measure=>exact mO
     case rel=>exact⟨(s),(g),rS,H',⟨mO⟩,⟨rU c.1⟩,⟨aT HB.1⟩⟩
  ·
   replace c5:=Bool.eq_false_iff.mpr c5;subst c5;rw[if_neg nT]at H;obtain rfl:=bc H;go_wp2
   repeat (go_quiet (fail);try go_wp2)
   go_ret;exact⟨_,rE,rU c.1,aT HB.1⟩
mutual
def bu.j0:Nat->Bool->List Int->List Int->Option (Bool)
 |0,_,_,_=>none
 |k+1,d,b,a=>if d=true then(some false)else(bu.l0 k a (a.length:Int) 0 b a)
def bu.l0:Nat->List Int->Int->Int->List Int->List Int->Option (Bool)
 |0,_,_,_,_,_=>none
 |k+1,x25,x26,x27,b,a=>if x27<x26 then(if 0<=x27 then(if x27<(x25.length:Int)then(if(rd x25 x27)=x27 then(some false)else(if 0<=(rd x25 x27)then(if(rd x25 x27)<(a.length:Int)then(if(rd a (rd x25 x27))=x27 then(bu.l0 k x25 x26 (wrap64 (x27+1)) b a)else(some false))else(none))else(none)))else(none))else(none))else((bH.f k (([b,a]:List (List Int)))).bind fun aa=>((dA.f k aa).bind fun ag=>(some (ag==0))))
end
def bu.f(k:Nat)(j:List Int)(s:List Int):Option (Bool):=(cE.f k j).bind fun ah=>(if ah=true then((cE.f k s).bind fun ai=>(if ai=true then(bu.j0 k ((j.length:Int) !=(s.length:Int)) j s)else(bu.j0 k true j s)))else(bu.j0 k true j s))
theorem bu.mono_l:∀k,(∀y0 y1 y2,bo (bu.j0 k y0 y1 y2) (bu.j0 (k+1) y0 y1 y2))/\(∀y0 y1 y2 y3 y4,bo (bu.l0 k y0 y1 y2 y3 y4) (bu.l0 (k+1) y0 y1 y2 y3 y4))
 |0=>⟨fun _ _ _ r h=>by simp[bu.j0]at h,fun _ _ _ _ _ r h=>by simp[bu.l0]at h⟩
 |k+1=>by
  obtain⟨a,b⟩:=bu.mono_l k;refine⟨?_,?_⟩
  ·
   intro y0 y1 y2;unfold bu.j0
   repeat' first
   |(with_reducible exact a _ _ _)
   |(with_reducible exact b _ _ _ _ _)
   |(with_reducible exact cE.mono _ _)
   |(with_reducible exact bH.mono _ _)
   |(with_reducible exact dA.mono _ _)
   |exact cN
   |refine cJ ?_ ?_
   |refine cG ?_ ?_
   |intro _
   |exact a _ _ _
   |exact b _ _ _ _ _
   |exact cE.mono _ _
   |exact bH.mono _ _
   |exact dA.mono _ _
  ·
   intro y0 y1 y2 y3 y4;unfold bu.l0
   repeat' first
   |(with_reducible exact a _ _ _)
   |(with_reducible exact b _ _ _ _ _)
   |(with_reducible exact cE.mono _ _)
   |(with_reducible exact bH.mono _ _)
   |(with_reducible exact dA.mono _ _)
   |exact cN
   |refine cJ ?_ ?_
   |refine cG ?_ ?_
   |intro _
   |exact a _ _ _
   |exact b _ _ _ _ _
   |exact cE.mono _ _
   |exact bH.mono _ _
   |exact dA.mono _ _
theorem bu.mono:∀a0 a1 k,bo (bu.f k a0 a1) (bu.f (k+1) a0 a1):=by
 intro a0 a1 k;obtain⟨a,b⟩:=bu.mono_l k;unfold bu.f
 repeat' first
  |(with_reducible exact a _ _ _)
  |(with_reducible exact b _ _ _ _ _)
  |(with_reducible exact cE.mono _ _)
  |(with_reducible exact bH.mono _ _)
  |(with_reducible exact dA.mono _ _)
  |exact cN
  |refine cJ ?_ ?_
  |refine cG ?_ ?_
  |intro _
  |exact a _ _ _
  |exact b _ _ _ _ _
  |exact cE.mono _ _
  |exact bH.mono _ _
  |exact dA.mono _ _
set_option maxRecDepth 100000 in
theorem bu.calls(k:Nat)(B:Nat->Prop)(I:Option Addr)(F:Nat)(j:List Int)(z:Nat->Prop)(y:Option Addr)(u:Nat)(s:List Int)(r:Bool)(w:World)(ax:Kd.V al 3 w w.heap.size (fun k_=>B k_) (.slice I j.length F) j)(aE:Kd.V al 3 w w.heap.size (fun k_=>z k_) (.slice y s.length u) s)(h:bu.f k j s=some r):
 Calls Try.prog 66 #[.agg #[.slice I j.length F,.slice y s.length u]] w fun e w'=>e= .returned (.bool r)/\Below w.heap.size w w':=by
 have da:=Try.underlying29;have d:=Az (show Kd.V al 3 w w.heap.size (fun k_=>((B k_\/z k_)\/w.heap.size<=k_)) (.slice I j.length F) j from Kd.ox ax (fun k_ hk=>.inl (.inl hk)));have l:=Az (show Kd.V al 3 w w.heap.size (fun k_=>((B k_\/z k_)\/w.heap.size<=k_)) (.slice y s.length u) s from Kd.ox aE (fun k_ hk=>.inl (.inr hk)));have HB:=bY;have H:=h;clear h;unfold bu.f at H;have cw:=Az H;clear H;go_enter Try.func66,Try.ntmps66;go_upto_region 1 with(first|((with_reducible refine gd 1 rfl ?_);(refine dV aW ?_;dsimp only);refine bE 1 #[.slice I j.length F,.slice y s.length u] 29 ?_;intro m hg w3 O hb;replace d:=Az (Kd.vu (Kd.AX (vU d.1) m (Nat.le_of_eq hg.symm)) hb);replace l:=Az (Kd.vu (Kd.AX (vU l.1) m (Nat.le_of_eq hg.symm)) hb);have c:=bp;have E:=cy;replace HB:=bs;clear hb O hg));go_cut [23] (fun aF wc=>∃(kq:Nat) (ac:Bool),aF= .bool ac/\ae (bu.j0 kq ac j s=some r)/\ae (kq<=k)/\ae (Kd.V al 3 wc w.heap.size (fun k_=>((B k_\/z k_)\/w.heap.size<=k_)/\k_≠m) (.slice I j.length F) j)/\ae (Kd.V al 3 wc w.heap.size (fun k_=>((B k_\/z k_)\/w.heap.size<=k_)/\k_≠m) (.slice y s.length u) s)/\ae (wc.heap[m]?=some (.cells #[(.slice I j.length F),(.slice y s.length u)] 29 (0,0)))/\ae (Below w.heap.size w wc))
 case first=>
  have H:=cw.1;clear cw;replace H:=aV;obtain⟨ah,A4,H⟩:=H;by_cases c5:ah=true
  ·
   subst c5;rw[if_pos rfl]at H;replace H:=aV;obtain⟨ai,A6,H⟩:=H;by_cases c7:ai=true
   ·
    subst c7;rw[if_pos rfl]at H;have H':=Az H;clear H;have cn:=bc2 c.1;go_wp2_with (first|((with_reducible refine gK 105 rfl ?_);refine gC (some 7) Try.func105 #[.slice I j.length F] ?_;(with_reducible refine(cE.calls k _ _ j true _ ?_ ?_ A4.1).mono ?_);exact cU ((Kd.gy d.1).2.2);exact(Kd.gy d.1).2.1;rintro e w9 ⟨rfl,hb⟩;refine⟨_,rfl,?_⟩;replace d:=vB d.1 hb;replace l:=vB l.1 hb;replace c:=kB c.1 hb;replace HB:=Az lX;clear hb;have cH:=bc2 c.1)|(go_at_call 105;(with_reducible refine(cE.calls k _ _ s true _ ?_ ?_ A6.1).mono ?_);exact cU ((Kd.gy l.1).2.2);exact(Kd.gy l.1).2.1;rintro e dY ⟨rfl,hb⟩;replace d:=vB d.1 hb;replace l:=vB l.1 hb;replace c:=kB c.1 hb;replace HB:=Az lX;clear hb;have fG:=bc2 c.1));go_meet
    case rel=>exact⟨_,(((j.length:Int) !=(s.length:Int))),rS,H',⟨mO⟩,⟨vU d.1⟩,⟨vU l.1⟩,⟨kU c.1⟩,⟨av HB.1 E.1⟩⟩
   ·
    replace c7:=Bool.eq_false_iff.mpr c7;subst c7;rw[if_neg nT]at H;have H':=Az H;clear H;have eZ:=bc2 c.1;go_wp2_with (first|((with_reducible refine gK 105 rfl ?_);refine gC (some 7) Try.func105 #[.slice I j.length F] ?_;(with_reducible refine(cE.calls k _ _ j true _ ?_ ?_ A4.1).mono ?_);exact cU ((Kd.gy d.1).2.2);exact(Kd.gy d.1).2.1;rintro e eu ⟨rfl,hb⟩;refine⟨_,rfl,?_⟩;replace d:=vB d.1 hb;replace l:=vB l.1 hb;replace c:=kB c.1 hb;replace HB:=Az lX;clear hb;have eM:=bc2 c.1)|(go_at_call 105;(with_reducible refine(cE.calls k _ _ s false _ ?_ ?_ A6.1).mono ?_);exact cU ((Kd.gy l.1).2.2);exact(Kd.gy l.1).2.1;rintro e dU ⟨rfl,hb⟩;replace d:=vB d.1 hb;replace l:=vB l.1 hb;replace c:=kB c.1 hb;replace HB:=Az lX;clear hb));go_meet
    case rel=>exact⟨_,(true),rS,H',⟨mO⟩,⟨vU d.1⟩,⟨vU l.1⟩,⟨kU c.1⟩,⟨av HB.1 E.1⟩⟩
  ·
   replace c5:=Bool.eq_false_iff.mpr c5;subst c5;rw[if_neg nT]at H;have H':=Az H;clear H;have eS:=bc2 c.1;go_wp2_with (first|((with_reducible refine gK 105 rfl ?_);refine gC (some 7) Try.func105 #[.slice I j.length F] ?_;(with_reducible refine(cE.calls k _ _ j false _ ?_ ?_ A4.1).mono ?_);exact cU ((Kd.gy d.1).2.2);exact(Kd.gy d.1).2.1;rintro e er ⟨rfl,hb⟩;refine⟨_,rfl,?_⟩;replace d:=vB d.1 hb;replace l:=vB l.1 hb;replace c:=kB c.1 hb;replace HB:=Az lX;clear hb));go_meet
   case rel=>exact⟨_,(true),rS,H',⟨mO⟩,⟨vU d.1⟩,⟨vU l.1⟩,⟨kU c.1⟩,⟨av HB.1 E.1⟩⟩
 case rest=>
  clear cw;obtain⟨kq,ac,rfl,HA,cC,Z,L,c,HB⟩:=hcut;rcases kq with _|bV;exact(nN HA.1).elim;have H:=HA.1;clear HA;simp only[bu.j0]at H;by_cases J:ac=true
  ·subst J;rw[if_pos rfl]at H;obtain rfl:=bc H;go_wp2;go_ret;exact⟨rE,av HB.1 E.1⟩
  ·
   replace J:=Bool.eq_false_iff.mpr J;subst J;rw[if_neg nT]at H;have H':=Az H;clear H;have fB:=bc2 c.1;go_wp2;go_loopg [27] bV (fun kq fx w'=>∃(K:Int),fx= .int .i64 K/\ae (bu.l0 kq s (s.length:Int) K j s=some r)/\ae (kq<=bV)/\ae (Kd.V al 3 w' w.heap.size (fun k_=>((B k_\/z k_)\/w.heap.size<=k_)/\k_≠m) (.slice y s.length u) s)/\ae (Kd.V al 3 w' w.heap.size (fun k_=>((B k_\/z k_)\/w.heap.size<=k_)/\k_≠m) (.slice I j.length F) j)/\ae (Kd.V al 3 w' w.heap.size (fun k_=>((B k_\/z k_)\/w.heap.size<=k_)/\k_≠m) (.slice y s.length u) s)/\ae (w'.heap[m]?=some (.cells #[(.slice I j.length F),(.slice y s.length u)] 29 (0,0)))/\ae (Below w.heap.size w w'))
   case atStart=>exact⟨(0),rS,H',⟨Nat.le_refl _⟩,⟨vU L.1⟩,⟨vU Z.1⟩,⟨vU L.1⟩,⟨kU c.1⟩,⟨av HB.1 E.1⟩⟩
   case round=>
    clear H';obtain⟨K,rfl,HA,bM,G,Z,L,c,HB⟩:=hrel;rcases gk with _|k2;exact(nN HA.1).elim;have H:=HA.1;clear HA;simp only[bu.l0]at H;replace H:=bR;rcases H with⟨dn,H⟩|⟨dn,H⟩
    ·
     replace H:=cY;obtain⟨dh,dD,H⟩:=H;replace H:=gQ H;rcases H with⟨cO,dp,H⟩|⟨cO,dp,H⟩
     ·
      obtain rfl:=bc H;obtain⟨ao,T,ak,ap,aj⟩:=aI (Kd.gy G.1).2.2 K;cases T;go_wp2;go_ret;exact⟨rE,av HB.1 E.1⟩
     ·
      replace H:=cY;obtain⟨eg,dm,H⟩:=H;replace H:=gQ H;rcases H with⟨dN,aO,H⟩|⟨dN,aO,H⟩
      ·
       have H':=Az H;clear H;obtain⟨ao,T,ak,ap,aj⟩:=aI (Kd.gy G.1).2.2 K;cases T;have jZ:=bc2 c.1;obtain⟨aG,aB,aP⟩:=aJ (Kd.gy L.1).2.2 (rd s K);go_wp2;go_roundg k2
       case measure=>have:=cC.1;have:=bM.1;omega
       case rel=>exact⟨(wrap64 (K+1)),rS,H',⟨by have:=cC.1;have:=bM.1;omega⟩,⟨vU G.1⟩,⟨vU Z.1⟩,⟨vU L.1⟩,⟨kU c.1⟩,⟨av HB.1 E.1⟩⟩
      ·
       obtain rfl:=bc H;obtain⟨ao,T,ak,ap,aj⟩:=aI (Kd.gy G.1).2.2 K;cases T;have dH:=bc2 c.1;obtain⟨aG,aB,aP⟩:=aJ (Kd.gy L.1).2.2 (rd s K);go_wp2;go_ret;exact⟨rE,av HB.1 E.1⟩
    ·
     generalize af:(([j,s]:List (List Int)):List (List Int))=au at H;replace af:=Ay af;replace H:=aV;obtain⟨aa,dR,H⟩:=H;replace H:=aV;obtain⟨ag,dx,H⟩:=H;obtain rfl:=bc H;have kE:=bc2 c.1;go_wp2_with (first|((with_reducible refine gd 49 rfl ?_);(refine dV aW ?_;dsimp only);refine Kd.Hk bJ _ 23 ?hg (N':=49) ?hd (xs:=([j,s]:List (List Int))) (inner:=[.slice I j.length F,.slice y s.length u]) (ok:=(fun k_=>((B k_\/z k_)\/w.heap.size<=k_)/\k_≠m)) (okp:=(fun k_=>((B k_\/z k_)\/w.heap.size<=k_)/\k_≠m)) ?hr ?hp (fun _ hk=>hk) ((show ∀k_,wr.heap.size<=k_->(fun k_=>((B k_\/z k_)\/w.heap.size<=k_)/\k_≠m) k_ from fun k_ hk=>⟨(.inr (Nat.le_trans (aK (av HB.1 E.1)) hk)),Kd.xW (g:=m) (o:=.cells #[.slice I j.length F,.slice y s.length u] 29 (0,0)) (kU c.1) k_ hk⟩) _ (Nat.le_refl _)) (Below.refl _ _) (Nat.le_refl _) ay ?_;(case hd=>rfl);(case hg=>rfl);(case hr=>exact eV);(case hp=>exact(aD.one (show Kd.FK bJ _ _ j [.slice I j.length F]from(Kd.Di (Kd.gy (Kd.ox (ok':=(fun k_=>((B k_\/z k_)\/w.heap.size<=k_)/\k_≠m)) (Z.1) (fun k_ hk=>⟨hk.1,hk.2⟩))).2.1 (Kd.V_F (Kd.ox (ok':=(fun k_=>((B k_\/z k_)\/w.heap.size<=k_)/\k_≠m)) (Z.1) (fun k_ hk=>⟨hk.1,hk.2⟩))))) (aD.one (show Kd.FK bJ _ _ s [.slice y s.length u]from(Kd.Di (Kd.gy (Kd.ox (ok':=(fun k_=>((B k_\/z k_)\/w.heap.size<=k_)/\k_≠m)) (L.1) (fun k_ hk=>⟨hk.1,hk.2⟩))).2.1 (Kd.V_F (Kd.ox (ok':=(fun k_=>((B k_\/z k_)\/w.heap.size<=k_)/\k_≠m)) (L.1) (fun k_ hk=>⟨hk.1,hk.2⟩))))) (aD.none _ _))));intro aS gL dM hb Y X;clear Y X;(first|rw[<-af.1]at dM|(simp only[Int.reduceToNat]at dM;rw[<-af.1]at dM));replace G:=Az (Kd.oH (vU G.1) wa hb);replace Z:=Az (Kd.oH (vU Z.1) wa hb);replace L:=Az (Kd.oH (vU L.1) wa hb);have R:=Az (Kd.DL dM (aK (av HB.1 E.1)));replace c:=kB c.1 hb;replace HB:=Az lX;clear hb dM;obtain⟨aA,aL,aR⟩:=Kd.EJ R.1;subst aR)|((with_reducible refine gK 107 rfl ?_);refine gC (some 50) Try.func107 #[.slice aA au.length aL] ?_;(with_reducible refine(bH.calls k2 _ _ au aa _ ?_ ?_ dR.1).mono ?_);exact cU ((Kd.zd R.1).2.2);exact(Kd.zd R.1).2.1;rintro e cx ⟨aU,rfl,ho0,hb⟩;refine⟨_,rfl,?_⟩;replace G:=Az (Kd.oH (vU G.1) (Kd.ar ho0) hb);replace Z:=Az (Kd.oH (vU Z.1) (Kd.ar ho0) hb);replace L:=Az (Kd.oH (vU L.1) (Kd.ar ho0) hb);replace R:=Az (Kd.Fq (nU R.1) (Kd.ar ho0) hb);have U:=Az (Kd.aH (Kd.FE (M:=fun k_=>(w.heap.size<=k_)) ho0 (aK (av HB.1 E.1)) (fun k_ h_=>h_)) (aK (av HB.1 E.1)));replace c:=kB c.1 hb;replace HB:=Az lX;clear hb ho0;obtain⟨aC,aM,aQ⟩:=Kd.az U.1;subst aQ)|((with_reducible refine gK 106 rfl ?_);refine gC (some 51) Try.func106 #[.slice aC aa.length aM] ?_;(with_reducible refine(dA.calls k2 _ _ aa ag _ ?_ ?_ dx.1).mono ?_);exact cU ((Kd.am U.1).2.2);exact(Kd.am U.1).2.1;rintro e ef ⟨rfl,hb⟩;refine⟨_,rfl,?_⟩;replace G:=vB G.1 hb;replace Z:=vB Z.1 hb;replace L:=vB L.1 hb;replace R:=nB R.1 hb;replace U:=rB U.1 hb;replace c:=kB c.1 hb;replace HB:=Az lX;clear hb));go_ret;exact⟨rE,av HB.1 E.1⟩
def laysSort_ren : Go.Shelf.Ren := ⟨fun | 189 => 123 | 125 => 130 | 257 => 129 | 128 => 141 | 129 => 142 | 294 => 132 | 295 => 133 | 296 => 134 | 297 => 135 | 298 => 136 | 299 => 137 | 216 => 138 | 300 => 139 | 301 => 140 | 328 => 143 | 329 => 144 | 330 => 145 | 331 => 146 | 332 => 147 | 215 => 131 | 343 => 148 | n => n, fun | 28 => 23 | 3 => 3 | 46 => 115 | 0 => 0 | 51 => 127 | 53 => 129 | 4 => 4 | 183 => 119 | 182 => 118 | 131 => 124 | 5 => 5 | 9 => 9 | 218 => 130 | 222 => 134 | 228 => 136 | 229 => 137 | n => n, fun | n => n⟩
theorem laysSort : Lays.n189 Try.prog laysSort_ren := { mixed := by kernel_rfl, f125 := Try.func130.trans (congrArg some (by kernel_rfl)), f128 := Try.func141.trans (congrArg some (by kernel_rfl)), f129 := Try.func142.trans (congrArg some (by kernel_rfl)), f189 := Try.func123.trans (congrArg some (by kernel_rfl)), f215 := Try.func131.trans (congrArg some (by kernel_rfl)), f216 := Try.func138.trans (congrArg some (by kernel_rfl)), f257 := Try.func129.trans (congrArg some (by kernel_rfl)), f294 := Try.func132.trans (congrArg some (by kernel_rfl)), f295 := Try.func133.trans (congrArg some (by kernel_rfl)), f296 := Try.func134.trans (congrArg some (by kernel_rfl)), f297 := Try.func135.trans (congrArg some (by kernel_rfl)), f298 := Try.func136.trans (congrArg some (by kernel_rfl)), f299 := Try.func137.trans (congrArg some (by kernel_rfl)), f300 := Try.func139.trans (congrArg some (by kernel_rfl)), f301 := Try.func140.trans (congrArg some (by kernel_rfl)), f328 := Try.func143.trans (congrArg some (by kernel_rfl)), f329 := Try.func144.trans (congrArg some (by kernel_rfl)), f330 := Try.func145.trans (congrArg some (by kernel_rfl)), f331 := Try.func146.trans (congrArg some (by kernel_rfl)), f332 := Try.func147.trans (congrArg some (by kernel_rfl)), f343 := Try.func148.trans (congrArg some (by kernel_rfl)), t0 := Try.underlying0, a0 := Try.isAgg0, z0 := Try.sizeOf0, v0 := Try.zeroValue0, t3 := Try.underlying3, a3 := Try.isAgg3, z3 := Try.sizeOf3, v3 := Try.zeroValue3, t4 := Try.underlying4, a4 := Try.isAgg4, z4 := Try.sizeOf4, v4 := Try.zeroValue4, t5 := Try.underlying5, a5 := Try.isAgg5, z5 := Try.sizeOf5, v5 := Try.zeroValue5, t9 := Try.underlying9, a9 := Try.isAgg9, z9 := Try.sizeOf9, v9 := Try.zeroValue9, t28 := Try.underlying23, a28 := Try.isAgg23, z28 := Try.sizeOf23, v28 := Try.zeroValue23, t46 := Try.underlying115, a46 := Try.isAgg115, z46 := Try.sizeOf115, v46 := Try.zeroValue115, t51 := Try.underlying127, a51 := Try.isAgg127, z51 := Try.sizeOf127, v51 := Try.zeroValue127, t53 := Try.underlying129, a53 := Try.isAgg129, z53 := Try.sizeOf129, v53 := Try.zeroValue129, t131 := Try.underlying124, a131 := Try.isAgg124, z131 := Try.sizeOf124, v131 := Try.zeroValue124, t182 := Try.underlying118, a182 := Try.isAgg118, z182 := Try.sizeOf118, v182 := Try.zeroValue118, t183 := Try.underlying119, a183 := Try.isAgg119, z183 := Try.sizeOf119, v183 := Try.zeroValue119, t218 := Try.underlying130, a218 := Try.isAgg130, z218 := Try.sizeOf130, v218 := Try.zeroValue130, t222 := Try.underlying134, a222 := Try.isAgg134, z222 := Try.sizeOf134, v222 := Try.zeroValue134, t228 := Try.underlying136, a228 := Try.isAgg136, z228 := Try.sizeOf136, v228 := Try.zeroValue136, t229 := Try.underlying137, a229 := Try.isAgg137, z229 := Try.sizeOf137, v229 := Try.zeroValue137 }
def nC.f(l0:List Int):Option (List Int):=if 0<l0.length/\l0.length<4611686018427387904 then some (l0.mergeSort fun x y=>decide (x<=y))else none
theorem nC.calls(j:Nat->Prop)(o:Value)(l0:List Int)(r:List Int)(w0 w:World)(hB:Below w0.heap.size w0 w)(ho0:ai w w0 j o l0)(h:nC.f l0=some r):
 Calls Try.prog 123 #[o] w fun e w'=>e= .returned (.tuple #[])/\ai w' w0 (fun k_=>(j k_\/w.heap.size<=k_)) o r/\Below w0.heap.size w0 w'/\Kept w w' (fun k_=>j k_):=by
 unfold nC.f at h;split at h
 ·
  rename_i hn;obtain rfl:=bc h;have ow:=Kd.tE ho0;obtain⟨N,⟨_,h0⟩|⟨g,G,l,hv,C,hb,h1,h2,h3,h4⟩⟩:=ow
  ·omega
  subst hv;have hg:g<w.heap.size:=(Array.getElem?_eq_some_iff.1 hb).1;have hP:j g:=ho0.1 g rfl;have hH:=holds_of_blockI (ss:=l0) hb (by rw[<-Nat.mul_one l0.length,h4];rfl);refine(Any.slices_Sort_int laysSort g 0 G l0 w hH hg hn.2).mono ?_;rintro e w' ⟨rfl,n,os,rfl⟩;have a:=grownBy_sortedI (w:=w) (g:=g) (n:=n) (os:=os) (l0.mergeSort fun x y=>decide (x<=y)).toArray;have hl:(l0.mergeSort fun x y=>decide (x<=y)).length=l0.length:=List.length_mergeSort _;have own:=ownsRow_sortedI (n:=n) (os:=os) (ts:=l0.mergeSort fun x y=>decide (x<=y)) hl C hb h1 h2 (by rw[h3]);refine⟨rfl,?_,?_,?_⟩
  ·
   refine Kd.AU ?_ (fun k hk=>.inl ?_)
   ·rw[hl];exact own
   ·have:g=k:=bc hk;rw[<-this];exact hP
  ·exact hB.grown a (by have:=hB.size;omega) (fun k hk=>by have:=bc hk;omega)
  ·exact Kept.kx a (Kept.refl w _) (fun k hk=>.inl (by have:=bc hk;rw[<-this];exact hP))
 ·cases h
def eu.l0:Nat->List Int->Int->Int->Option (List Int)
 |0,_,_,_=>none
 |k+1,x0,x2,x3=>if x2<x3 then(if 0<=x3 then(if x3<(x0.length:Int)then(if 0<=x2 then(if x2<(x0.length:Int)then(eu.l0 k ((x0.set (x2:Int).toNat (rd x0 x3)).set (x3:Int).toNat (rd x0 x2)) (wrap64 (x2+1)) (wrap64 (x3-1)))else(none))else(none))else(none))else(none))else(some x0)
def eu.f(k:Nat)(l0:List Int):Option (List Int):=eu.l0 k l0 0 (wrap64 ((l0.length:Int)-1))
def eu.T3:Bool×List (List Nat×List Nat):=(true,[([],[]),([],[]),([],[]),([],[]),([],[]),([],[]),([4,5],[4,5]),([6],[6]),([],[]),([],[]),([8,9],[8,9]),([10],[10]),([0,1,0,1,4,5,6,7,11],[0,1]),([12,7,0,1,4,5,6,7,11],[7,12]),([2,3,0,1,2,3,4,5,6,7,8,9,10,11,12,13],[2,3]),([14,11,13,0,1,2,3,4,5,6,7,8,9,10,11,12,13],[11,14])])
def eu.B3:List Nat:=[0,0,0,0,0,0,48,112,0,0,768,1792,4083,8179,16383,32767]
theorem eu.tX:bT .any (opsOf Try.f124 3)=eu.T3:=by kernel_rfl
theorem eu.uv:de eu.T3.2 eu.B3=true:=by kernel_rfl
set_option maxRecDepth 100000 in
theorem eu.calls(k:Nat)(j:Nat->Prop)(o:Value)(l0:List Int)(r:List Int)(w0 w:World)(hB:Below w0.heap.size w0 w)(ho0:ai w w0 j o l0)(h:eu.f k l0=some r):
 Calls Try.prog 124 #[o] w fun e w'=>e= .returned (.tuple #[])/\ai w' w0 (fun k_=>(j k_\/w.heap.size<=k_)) o r/\Below w0.heap.size w0 w'/\Kept w w' (fun k_=>j k_):=by
 have y:=zv;have HK:=Az (Kept.refl w (fun k_=>j k_));have bL:=gJ;have HB:=Az hB;clear hB;have H:=h;clear h;unfold eu.f at H;have H':=Az H;clear H;obtain⟨aB,ar,aA⟩:=Kd.az y.1;subst aA;go_enter Try.func124,Try.ntmps124;go_wp2;go_loopg [2,3] k (fun kq v2 v3 w'=>∃(g:List Int) (z:Int) (E:Int),v2= .int .i64 z/\v3= .int .i64 E/\ae (eu.l0 kq g z E=some r)/\ae (kq<=k)/\ae (ai w' w0 (fun k_=>(j k_\/w.heap.size<=k_)) (.slice aB l0.length ar) g)/\ae (Kept w w' (fun k_=>j k_))/\ae (Below w0.heap.size w0 w'))
 case atStart=>exact⟨(l0),(0),(wrap64 ((l0.length:Int)-1)),rS,rS,H',⟨Nat.le_refl _⟩,⟨rU y.1⟩,⟨sX⟩,⟨aT HB.1⟩⟩
 case round=>
  clear H';obtain⟨g,z,E,rfl,rfl,HA,ca,b,HK,HB⟩:=hrel;have t:=(Kd.am b.1).1;rw[t]at b;simp only[t];rcases gk with _|k1;exact(nN HA.1).elim;have H:=HA.1;clear HA;simp only[eu.l0]at H;replace H:=bR;rcases H with⟨cc,H⟩|⟨cc,H⟩
  ·
   replace H:=bF;obtain⟨bn,H⟩:=H;replace H:=aY;obtain⟨c5,H⟩:=H;have U:=decide_eq_true c5;clear c5;replace H:=bF;obtain⟨bP,H⟩:=H;replace H:=aY;obtain⟨c7,H⟩:=H;have cW:=decide_eq_true c7;clear c7;generalize X:(g.set (z:Int).toNat (rd g E):List Int)=aj at H;replace X:=Ay X;generalize M:(aj.set (E:Int).toNat (rd g z):List Int)=au at H;replace M:=Ay M;have H':=Az H;clear H;try go_wp2
   have L:=Az (Kd.bD b.1);have G:=Az (Kept.drew HK.1);have V:=cX;clear b HK HB;have b:=L;have HK:=G;have HB:=V;clear L G V;obtain⟨aC,ax,_,_,I⟩:=aI (Kd.am b.1).2.2 E;cases ax;obtain⟨_,_,O⟩:=aJ (Kd.am b.1).2.2 z;have p8:0<=(z:Int):=oA;have q8:(z:Int)<((g.length:Int):Int):=oA;obtain⟨F,bu,aQ,af,ao,aD,ah⟩:=Kd.dv b.1 ac;(first|cases aQ|(injection aQ with J bo aR;(first|subst J|(injection J with J;subst J));subst aR;clear bo));have aa:=Az af;have ay:=Az ah;clear af ao ah;have Y:=Az (show(j F\/w.heap.size<=F)from(b.1.1 _ rfl));simp only[add_plain]at I;simp only[add_plain]at O;obtain⟨ak,al⟩:=Kd.bm 0 b.1 (z:Int) p8 q8;replace p8:=eq_true p8;replace q8:=eq_true q8;have s:=Kd.jI b.1 (z:Int) (rd g E);rw[<-X.1]at s;have T:=Az s;clear s;have p9:0<=(E:Int):=oA;have q9:(E:Int)<((g.length:Int):Int):=oA;obtain⟨av,ap⟩:=Kd.bm 0 T.1 (E:Int) p9 q9;replace p9:=eq_true p9;replace q9:=eq_true q9;have u:=Kd.jI T.1 (E:Int) (rd g z);rw[<-M.1]at u;have Z:=Az u;clear u;refine cA (n:=16) (S:=fun w'=>w'.cell? ⟨F,(E).toNat,none⟩=some (.int .i64 (rd g E))/\w'.cell? ⟨F,(z).toNat,none⟩=some (.int .i64 (rd g z))) (ds:=[13,15]) (bv 16 0) aM rfl rfl ⟨I,O⟩ (fun B=>?_);refine cT eu.tX eu.uv (fun ba bU=>?_);generalize wr.drew=dT at b HK HB ay T Z al ap I O ak av B ⊢;refine XP 0 14 16 1 ?_;refine XP 1 15 16 3 ?_;refine XP 2 16 16 7 ?_;refine XP 3 17 16 15 ?_;refine XP 4 18 16 31 ?_;refine XP 5 19 16 63 ?_;refine XP 6 20 16 127 ?_;refine XP 8 22 16 383 ?_;refine XP 9 23 16 895 ?_;refine XP 10 24 16 1919 ?_;refine XT 7 21 16 2047 ?_;refine XT 11 25 16 4095 ?_;refine XP 12 26 16 8191 ?_;refine XL 13 16 16383 (fun K hK=>?_);refine eh (w1:=?_) aW rfl ?_ ?_;rotate_left
   ·go_simp;rfl
   refine hK.out _ _ ?_;clear hK K;refine XP 14 27 16 32767 ?_;refine XL 15 16 65535 (fun K hK=>?_);refine eh (w1:=?_) aW rfl ?_ ?_;rotate_left
   ·go_simp;rfl
   refine hK.out _ _ ?_;clear hK K;refine XD ?_;try go_wp2
   simp only[<-t];go_roundg k1
   case measure=>exact mO
   case rel=>exact⟨(au),(wrap64 (z+1)),(wrap64 (E-1)),rS,rS,H',⟨mO⟩,⟨by simp only[t];refine rA ?_;exact Z.1⟩,⟨by repeat (first|(with_reducible first|exact HK.1|apply Kept.alloc|apply Kept.drewN|apply Kept.drew|refine Kept.setCell ?_ Y.1 _|refine Kept.setCell ?_ Y.1 _)|exact HK.1)⟩,⟨bO HB.1 aa.1 aa.1⟩⟩
  ·
   obtain rfl:=bc H;go_wp2;first|go_end0|((try simp only[Exit.inBlock,Exit.then]);refine bodyPost_ret (results_none rfl _ _ _) rfl ?_)
   exact⟨rE,(by first|exact(rU b.1)|(simp only[t];exact(rU b.1))),aT HB.1,sX⟩
def gA.l0:Nat->List Int->List (List Int)->Int->Int->Option (List Int)
 |0,_,_,_,_=>none
 |k+1,x3,x8,x9,g=>if g<x9 then(if 0<=g then(if g<(x8.length:Int)then(if x3.length<17592186044416 then(gA.l0 k (x3++[((ak x8 g).length:Int)]) x8 x9 (wrap64 (g+1)))else(none))else(none))else(none))else((nC.f x3).bind fun J=>((eu.f k J).bind fun T=>(some T)))
def gA.f(k:Nat)(l0:List Int):Option (List Int):=(dt.f k l0).bind fun g=>(gA.l0 k (([]:List Int)) g (g.length:Int) 0)
set_option maxRecDepth 100000 in
theorem gA.calls(k:Nat)(A0:Option Addr)(c0:Nat)(l0:List Int)(r:List Int)(w:World)(j:Kd.C al w A0 l0.length l0)(F:l0.length<=c0)(h:gA.f k l0=some r):
 Calls Try.prog 110 #[.slice A0 l0.length c0] w fun e w'=>∃aZ:Value,e= .returned (aZ)/\ai w' w (fun _=>True) aZ r/\Below w.heap.size w w':=by
 have M:=Az j;have aX:=Az F;clear j F;have HB:=bY;have H:=h;clear h;unfold gA.f at H;generalize I:(([]:List Int):List Int)=aA at H;replace I:=Ay I;replace H:=aV;obtain⟨g,A2,H⟩:=H;have H':=Az H;clear H;go_enter Try.func110,Try.ntmps110;go_wp2_with (first|((with_reducible refine gd 6 rfl ?_);refine Kd.du al _ 3 rfl (N:=6) rfl (xs:=([]:List Int)) (inner:=[]) (ok:=fun _=>True) (okp:=fun _=>True) hS ?hp (fun _ hk=>hk) trivial (Below.refl _ _) (Nat.le_refl _) ay ?_;(case hp=>exact(aD.none _ _));intro ba w3 l hb Y X;clear Y X;(first|rw[<-I.1]at l|(simp only[Int.reduceToNat]at l;rw[<-I.1]at l));have L:=Az (Kd.aH l (aK (aT HB.1)));have G:=bs;clear HB;have t:=L;have HB:=G;clear L G hb l)|((with_reducible refine gK 67 rfl ?_);refine gC (some 8) Try.func67 #[.slice A0 l0.length c0] ?_;(with_reducible refine(dt.calls k _ _ l0 g _ ?_ ?_ A2.1).mono ?_);exact cU (Kd.aU M.1 HB.1);exact aX.1;rintro e w5 ⟨aW,rfl,ho0,hb⟩;refine⟨_,rfl,?_⟩;have L:=rB t.1 hb;have G:=Az (Kd.kj (Kd.im ho0 (Kd.aj (rU t.1))) (aK (aT HB.1)));have V:=bs;clear t HB;have t:=L;have ax:=G;have HB:=V;clear L G V hb ho0;obtain⟨ar,u,ap⟩:=Kd.il ax.1;subst ap));go_loopg [3,10] k (fun kq v3 cq w'=>∃(E:List Int) (U:Int),cq= .int .i64 U/\ae (gA.l0 kq E g (g.length:Int) U=some r)/\ae (kq<=k)/\ae (ai w' w (fun _=>True) v3 E)/\ae (Kd.S bJ 23 w' w.heap.size (fun k_=>oV k_ v3) (.slice ar g.length u) g)/\ae (Below w.heap.size w w'))
 case atStart=>exact⟨(aA),(0),rS,H',⟨Nat.le_refl _⟩,⟨rU t.1⟩,⟨by refine ci ?_;exact Kd.cC ax.1 au⟩,⟨aT HB.1⟩⟩
 case round=>
  clear H';obtain⟨E,U,rfl,HA,ca,c,z,HB⟩:=hrel;rcases gk with _|k1;exact(nN HA.1).elim;have H:=HA.1;clear HA;simp only[gA.l0]at H;replace H:=bR;rcases H with⟨cW,H⟩|⟨cW,H⟩
  ·
   replace H:=cY;obtain⟨cZ,cn,H⟩:=H;replace H:=aY;obtain⟨c10,H⟩:=H;have aa:=Az c10;clear c10;generalize Z:(E++[((ak g U).length:Int)]:List Int)=aG at H;replace Z:=Ay Z;have H':=Az H;clear H;have B:0<=(U:Int):=oA;have y:U<(g.length:Int):=oA;obtain⟨aC,bi,be,aE,aI,av,ao⟩:=fT (Kd.dI z.1).2.2 U B y;cases aE;obtain⟨bk,aN,aM,am⟩:=Kd.gD z.1 [] U B (by first|exact y|exact oA|(have e_:=(Kd.dI z.1).1;omega));obtain⟨bg,rfl,O⟩:=aM;have s:=am 0 _ rfl;rw[Nat.add_zero,show(bJ).sz=1 from rfl,Nat.mul_one]at s;replace s:=Option.some.inj (s.symm.trans aI);rw[s]at O;have K:=Az (show Kd.R al 3 _ _ _ _ (ak g U)from O);clear s O am aN;have bj:=Az ao;have bf:=Az av;clear ao av;replace B:=eq_true B;replace y:=eq_true y;go_wp2_with (first|((with_reducible refine dB (b:=.append) (xs:=#[.tmp 14,.tmp 17]) rfl ?_);at_builtin;refine Kd.dH al (w0:=w) w.heap.size rfl (.tmp 14) (.tmp 17) 23 3 (.int .i64 0) 8 rfl Try.underlying23 bA rfl af ac u3 E ((ak g U).length:Int) [.int .i64 ((ak g U).length:Int)] (fun _=>True) (fun _=>False) rfl rfl ?aP (fun _ hk=>hk.elim) ?aF ?aO ?aB ?aS ?aL ?_;(case aP=>exact rfl);(case aB=>exact(aT HB.1));(case aF=>exact(fun _ _=>trivial));(case aO=>exact(rU c.1));(case aS=>exact(aK (aT HB.1)));(case aL=>have:=aa.1;omega);intro bb dY ho hb hg hat;rw[<-Z.1]at ho;have L:=Az (Kd.gh (ok:=(fun _=>True)) (by refine ci ?_;exact Kd.cC z.1 (fun _ hk=>⟨trivial,hk⟩)) hg hat);have G:=Az (Kd.aQ (ok:=(fun k_=>oS k_ (some aC) g.length u)) (rA (Kd.ag K.1 (fun _ hk=>⟨hk.2,hk.1⟩))) hg hat);have V:=br;have m:=cS;clear z K HB c;have z:=L;have K:=G;have HB:=V;have aR:=m;clear L G V m ho hb hg hat));go_roundg k1
   case measure=>exact mO
   case rel=>exact⟨(aG),(wrap64 (U+1)),rS,H',⟨mO⟩,⟨rU aR.1⟩,⟨by refine ci ?_;exact Kd.cC z.1 au⟩,⟨aT HB.1⟩⟩
  ·
   replace H:=aV;obtain⟨J,ah,H⟩:=H;replace H:=aV;obtain⟨T,aJ,H⟩:=H;obtain rfl:=bc H;obtain⟨bO,bu,ce⟩:=Kd.az c.1;subst ce;go_wp2_with (first|((with_reducible refine gK 123 rfl ?_);refine gC (some 21) Try.func123 #[.slice bO E.length bu] ?_;(with_reducible refine(nC.calls (fun k_=>some k_=(.slice bO E.length bu:Value).ownBlock) (.slice bO E.length bu) E J w _ ?_ ?_ ah.1).mono ?_);(repeat (first|(with_reducible first|exact HB.1|apply bK|apply cg|apply cK)|exact HB.1));exact Kd.lN rfl c.1;rintro e dK ⟨rfl,eW,hb,hkp⟩;refine⟨_,rfl,?_⟩;have L:=Az (Kd.sI rfl eW (fun k_ e_=>c.1.1 k_ e_));have G:=Az zP;have V:=br;clear c z HB;have c:=L;have z:=G;have HB:=V;clear L G V hb)|((with_reducible refine gK 124 rfl ?_);refine gC (some 23) Try.func124 #[.slice bO E.length bu] ?_;(with_reducible refine(eu.calls k1 (fun k_=>some k_=(.slice bO E.length bu:Value).ownBlock) (.slice bO E.length bu) J T w _ ?_ ?_ aJ.1).mono ?_);(repeat (first|(with_reducible first|exact HB.1|apply bK|apply cg|apply cK)|exact HB.1));exact Kd.lN rfl c.1;rintro e dU ⟨rfl,eW,hb,hkp⟩;refine⟨_,rfl,?_⟩;have L:=Az (Kd.sI rfl eW (fun k_ e_=>c.1.1 k_ e_));have G:=Az zP;have V:=br;clear c z HB;have c:=L;have z:=G;have HB:=V;clear L G V hb));go_ret;exact⟨_,rE,rU c.1,aT HB.1⟩
def fM.l0:Nat->List Int->Int->Int->Option (Bool)
 |0,_,_,_=>none
 |k+1,c,h,e=>if e<h then(if 0<=e then(if e<(c.length:Int)then(if(rd c e)=4 then(fM.l0 k c h (wrap64 (e+1)))else(some false))else(none))else(none))else(some true)
def fM.f(k:Nat)(j:List Int)(s:List Int):Option (Bool):=(bu.f k j s).bind fun J=>(if J=true then((dJ.f k s j).bind fun B=>((gA.f k B).bind fun l=>(fM.l0 k l (l.length:Int) 0)))else(some false))
set_option maxRecDepth 100000 in
theorem fM.calls(k:Nat)(I:Option Addr)(F:Nat)(j:List Int)(y:Option Addr)(u:Nat)(s:List Int)(r:Bool)(w:World)(bN:Kd.C al w I j.length j)(bQ:j.length<=F)(bz:Kd.C al w y s.length s)(bL:s.length<=u)(h:fM.f k j s=some r):
 Calls Try.prog 89 #[.agg #[.slice I j.length F,.slice y s.length u]] w fun e w'=>e= .returned (.bool r)/\Below w.heap.size w w':=by
 have da:=Try.underlying29;have bb:=eO;have bi:=fh;clear bN bQ;have ah:=dL;have aG:=dQ;clear bz bL;have HB:=bY;have H:=h;clear h;unfold fM.f at H;replace H:=aV;obtain⟨J,A2,H⟩:=H;by_cases c3:J=true
 ·
  subst c3;rw[if_pos rfl]at H;replace H:=aV;obtain⟨B,A4,H⟩:=H;replace H:=aV;obtain⟨l,A5,H⟩:=H;have H':=Az H;clear H;go_enter Try.func89,Try.ntmps89;go_wp2_with (first|((with_reducible refine gd 1 rfl ?_);refine bE 1 #[.slice I j.length F,.slice y s.length u] 29 ?_;intro E hg w6 O hb;have L:=bs;have G:=bp;have V:=Az ((by rw[hg];exact(aK (aT HB.1)):w.heap.size<=E));have m:=V;clear HB;have HB:=L;have c:=G;have ac:=V;have d:=m;clear L G V m hb O hg;have R:=bc2 c.1)|((with_reducible refine gK 66 rfl ?_);refine gC (some 6) Try.func66 #[.agg #[.slice I j.length F,.slice y s.length u]] ?_;(with_reducible refine(bu.calls k (fun k_=>k_<w.heap.size) _ _ j (fun k_=>k_<w.heap.size) _ _ s true _ ?_ ?_ A2.1).mono ?_);exact Kd.fp bi.1 (Kd.dZ (Kd.C_F (Kd.jY .i64) bb.1) (av HB.1 d.1));exact Kd.fp aG.1 (Kd.dZ (Kd.C_F (Kd.jY .i64) ah.1) (av HB.1 d.1));rintro e w8 ⟨rfl,hb⟩;refine⟨_,rfl,?_⟩;have L:=kB c.1 hb;have G:=rZ;clear c HB;have c:=L;have HB:=G;clear L G hb;have dl:=bc2 c.1)|((with_reducible refine gK 68 rfl ?_);refine gC (some 12) Try.func68 #[.slice y s.length u,.slice I j.length F] ?_;(with_reducible refine(dJ.calls k _ _ s _ _ j B _ ?_ ?_ ?_ ?_ A4.1).mono ?_);exact cU (Kd.aU ah.1 HB.1);exact aG.1;exact cU (Kd.aU bb.1 HB.1);exact bi.1;rintro e dT ⟨ao,rfl,ho0,hb⟩;refine⟨_,rfl,?_⟩;have L:=Az (Kd.aH ho0 (aK (av HB.1 d.1)));have G:=kB c.1 hb;have V:=rZ;clear c HB;have z:=L;have c:=G;have HB:=V;clear L G V hb ho0;obtain⟨aE,T,bT⟩:=Kd.az z.1;subst bT)|((with_reducible refine gK 110 rfl ?_);refine gC (some 13) Try.func110 #[.slice aE B.length T] ?_;(with_reducible refine(gA.calls k _ _ B l _ ?_ ?_ A5.1).mono ?_);exact cU ((Kd.am z.1).2.2);exact(Kd.am z.1).2.1;rintro e cp ⟨ak,rfl,ho0,hb⟩;refine⟨_,rfl,?_⟩;have L:=Az (Kd.aC (rU z.1) (Kd.ar ho0) hb);have G:=Az (Kd.aH (Kd.ax ho0 (Kd.aj (rU z.1))) (aK (av HB.1 d.1)));have V:=kB c.1 hb;have m:=rZ;clear z c HB;have z:=L;have U:=G;have c:=V;have HB:=m;clear L G V m hb ho0;obtain⟨Z,bV,bB⟩:=Kd.az U.1;subst bB));go_loopg [15] k (fun kq ht w'=>∃(bk:Int),ht= .int .i64 bk/\ae (fM.l0 kq l (l.length:Int) bk=some r)/\ae (kq<=k)/\ae (ai w' w (fun _=>True) (.slice Z l.length bV) l)/\ae (w'.heap[E]?=some (.cells #[(.slice I j.length F),(.slice y s.length u)] 29 (0,0)))/\ae (Below w.heap.size w w'))
  case atStart=>exact⟨(0),rS,H',⟨Nat.le_refl _⟩,⟨rM U.1⟩,⟨kU c.1⟩,⟨av HB.1 d.1⟩⟩
  case round=>
   clear H';obtain⟨bk,rfl,HA,ca,K,c,HB⟩:=hrel;rcases gk with _|k1;exact(nN HA.1).elim;have H:=HA.1;clear HA;simp only[fM.l0]at H;replace H:=bR;rcases H with⟨ci,H⟩|⟨ci,H⟩
   ·
    replace H:=cY;obtain⟨cv,bS,H⟩:=H;replace H:=gQ H;rcases H with⟨cw,aF,H⟩|⟨cw,aF,H⟩
    ·
     have H':=Az H;clear H;obtain⟨af,M,X,Y,aa⟩:=aI (Kd.am K.1).2.2 bk;cases M;go_wp2;go_roundg k1
     case measure=>exact mO
     case rel=>exact⟨(wrap64 (bk+1)),rS,H',⟨mO⟩,⟨rU K.1⟩,⟨kU c.1⟩,⟨av HB.1 d.1⟩⟩
    ·
     obtain rfl:=bc H;obtain⟨af,M,X,Y,aa⟩:=aI (Kd.am K.1).2.2 bk;cases M;go_wp2;go_ret;exact⟨rE,av HB.1 d.1⟩
   ·obtain rfl:=bc H;go_wp2;go_ret;exact⟨rE,av HB.1 d.1⟩
 ·
  replace c3:=oG;subst c3;rw[if_neg nT]at H;obtain rfl:=bc H;go_enter Try.func89,Try.ntmps89;go_wp2_with (first|((with_reducible refine gd 1 rfl ?_);refine bE 1 #[.slice I j.length F,.slice y s.length u] 29 ?_;intro E hg er O hb;have L:=bs;have G:=bp;have V:=Az ((by rw[hg];exact(aK (aT HB.1)):w.heap.size<=E));have m:=V;clear HB;have HB:=L;have c:=G;have ac:=V;have d:=m;clear L G V m hb O hg;have dE:=bc2 c.1)|((with_reducible refine gK 66 rfl ?_);refine gC (some 6) Try.func66 #[.agg #[.slice I j.length F,.slice y s.length u]] ?_;(with_reducible refine(bu.calls k (fun k_=>k_<w.heap.size) _ _ j (fun k_=>k_<w.heap.size) _ _ s false _ ?_ ?_ A2.1).mono ?_);exact Kd.fp bi.1 (Kd.dZ (Kd.C_F (Kd.jY .i64) bb.1) (av HB.1 d.1));exact Kd.fp aG.1 (Kd.dZ (Kd.C_F (Kd.jY .i64) ah.1) (av HB.1 d.1));rintro e ee ⟨rfl,hb⟩;refine⟨_,rfl,?_⟩;have L:=kB c.1 hb;have G:=rZ;clear c HB;have c:=L;have HB:=G;clear L G hb));go_ret;exact⟨rE,av HB.1 d.1⟩
def fS.f(k:Nat)(j:List Int)(s:List Int):Option (Bool):=(fM.f k j s).bind fun n=>(if n=true then((gp.f k j s).bind fun l=>(some (l==0)))else(some false))
set_option maxRecDepth 100000 in
theorem fS.calls(k:Nat)(I:Option Addr)(F:Nat)(j:List Int)(y:Option Addr)(u:Nat)(s:List Int)(r:Bool)(w:World)(bN:Kd.C al w I j.length j)(bQ:j.length<=F)(bz:Kd.C al w y s.length s)(bL:s.length<=u)(h:fS.f k j s=some r):
 Calls Try.prog 48 #[.agg #[.slice I j.length F,.slice y s.length u]] w fun e w'=>e= .returned (.bool r)/\Below w.heap.size w w':=by
 have da:=Try.underlying29;have bb:=eO;have bi:=fh;clear bN bQ;have ah:=dL;have aG:=dQ;clear bz bL;have HB:=bY;have H:=h;clear h;unfold fS.f at H;replace H:=aV;obtain⟨n,A2,H⟩:=H;by_cases c3:n=true
 ·
  subst c3;rw[if_pos rfl]at H;replace H:=aV;obtain⟨l,A4,H⟩:=H;obtain rfl:=bc H;go_enter Try.func48,Try.ntmps48;go_wp2_with (first|((with_reducible refine gd 1 rfl ?_);refine bE 1 #[.slice I j.length F,.slice y s.length u] 29 ?_;intro i hg w5 O hb;have L:=bs;have G:=bp;have V:=Az ((by rw[hg];exact(aK (aT HB.1)):w.heap.size<=i));have m:=V;clear HB;have HB:=L;have c:=G;have x:=V;have d:=m;clear L G V m hb O hg;have ev:=bc2 c.1)|((with_reducible refine gK 89 rfl ?_);refine gC (some 4) Try.func89 #[.agg #[.slice I j.length F,.slice y s.length u]] ?_;(with_reducible refine(fM.calls k _ _ j _ _ s true _ ?_ ?_ ?_ ?_ A2.1).mono ?_);exact cU (Kd.aU bb.1 HB.1);exact bi.1;exact cU (Kd.aU ah.1 HB.1);exact aG.1;rintro e w7 ⟨rfl,hb⟩;refine⟨_,rfl,?_⟩;have L:=kB c.1 hb;have G:=Az (bh (av HB.1 d.1) hb);clear c HB;have c:=L;have HB:=G;clear L G hb;have cn:=bc2 c.1)|(go_at_call 87;(with_reducible refine(gp.calls k _ _ j _ _ s l _ ?_ ?_ ?_ ?_ A4.1).mono ?_);exact cU (Kd.aU bb.1 HB.1);exact bi.1;exact cU (Kd.aU ah.1 HB.1);exact aG.1;rintro e w9 ⟨rfl,hb⟩;have L:=kB c.1 hb;have G:=Az (bh (av HB.1 d.1) hb);clear c HB;have c:=L;have HB:=G;clear L G hb));go_ret;exact⟨rE,av HB.1 d.1⟩
 ·
  replace c3:=oG;subst c3;rw[if_neg nT]at H;obtain rfl:=bc H;go_enter Try.func48,Try.ntmps48;go_wp2_with (first|((with_reducible refine gd 1 rfl ?_);refine bE 1 #[.slice I j.length F,.slice y s.length u] 29 ?_;intro i hg dT O hb;have L:=bs;have G:=bp;have V:=Az ((by rw[hg];exact(aK (aT HB.1)):w.heap.size<=i));have m:=V;clear HB;have HB:=L;have c:=G;have x:=V;have d:=m;clear L G V m hb O hg;have gu:=bc2 c.1)|((with_reducible refine gK 89 rfl ?_);refine gC (some 4) Try.func89 #[.agg #[.slice I j.length F,.slice y s.length u]] ?_;(with_reducible refine(fM.calls k _ _ j _ _ s false _ ?_ ?_ ?_ ?_ A2.1).mono ?_);exact cU (Kd.aU bb.1 HB.1);exact bi.1;exact cU (Kd.aU ah.1 HB.1);exact aG.1;rintro e cp ⟨rfl,hb⟩;refine⟨_,rfl,?_⟩;have L:=kB c.1 hb;have G:=Az (bh (av HB.1 d.1) hb);clear c HB;have c:=L;have HB:=G;clear L G hb));go_ret;exact⟨rE,av HB.1 d.1⟩
def cO.at:Nat->List Int->Int->List Int->Int->Option (List Int)
 |0,_,_,_,_=>none
 |k+1,t,n,xs,d=>if 0<=d then(if d<(xs.length:Int)then(if rd xs d<0 then(if d<(t.length:Int)then cO.at k t n (xs.set d.toNat n) (rd t d)else none)else some xs)else none)else none
set_option maxRecDepth 100000 in
theorem cO.BH(k:Nat)(A0:Option Addr)(c0:Nat)(l0:List Int)(A1:Option Addr)(c1:Nat)(l1:List Int)(gM gF g n cF:Nat)(d nn:Int)(xs r:List Int)(w0 w:World)
 (hB:Below w0.heap.size w0 w)(hg:w0.heap.size<=g)
 (hM:w.heap[gM]?=some (.cells #[.slice A0 l0.length c0,.slice A1 l1.length c1] 29 (0,0)))(hF:w.heap[gF]?=some (.cells #[.slice (some ⟨g,0,none⟩) n cF] 23 (0,0)))
 (hR:ai w w0 (fun _=>True) (.slice (some ⟨g,0,none⟩) n cF) xs)
 (j:Kd.C al w0 A0 l0.length l0)(h:cO.at k l0 nn xs d=some r):
 Calls Try.prog 109 #[.int .i64 d,.int .i64 nn,.pointer (some ⟨gF,0,none⟩),.pointer (some ⟨gM,0,none⟩)] w fun e w'=>e= .returned (.tuple #[])/\ai w' w0 (fun _=>True) (.slice (some ⟨g,0,none⟩) n cF) r/\Below w0.heap.size w0 w'/\
  w'.heap[gM]?=some (.cells #[.slice A0 l0.length c0,.slice A1 l1.length c1] 29 (0,0))/\w'.heap[gF]?=some (.cells #[.slice (some ⟨g,0,none⟩) n cF] 23 (0,0)):=by
 have da:=Try.underlying29;have HB:=Az hB;have BM:=Az hM;have BF:=Az hF;have HO:=Az hR;have M:=Az j;have H':=Az h;clear hB hM hF hR j h;go_enter Try.func109,Try.ntmps109;go_wp2;go_loopg [0] k (fun kq v0 w'=>∃(d':Int) (l:List Int),v0= .int .i64 d'/\ae (cO.at kq l0 nn l d'=some r)/\ae (kq<=k)/\ae (ai w' w0 (fun _=>True) (.slice (some ⟨g,0,none⟩) n cF) l)/\ae (w'.heap[gM]?=some (.cells #[.slice A0 l0.length c0,.slice A1 l1.length c1] 29 (0,0)))/\ae (w'.heap[gF]?=some (.cells #[.slice (some ⟨g,0,none⟩) n cF] 23 (0,0)))/\ae (Below w0.heap.size w0 w'))
 case atStart=>exact⟨d,xs,rfl,H',⟨Nat.le_refl _⟩,HO,BM,BF,HB⟩
 case round=>
  clear H' HO BM BF HB;obtain⟨d',l,rfl,HA,ca,HO,BM,BF,HB⟩:=hrel;rcases gk with _|k1;exact(nN HA.1).elim;have H:=HA.1;clear HA;simp only[cO.at]at H;have A:n=l.length:=(Kd.am HO.1).1;by_cases c:0<=d'
  ·
   rw[if_pos c]at H;by_cases m:d'<(l.length:Int)
   ·
    rw[if_pos m]at H;have i:d'<(n:Int):=by rw[A];exact m
    have K:wr.cell? ⟨g,d'.toNat,none⟩=some (.int .i64 (rd l d')):=(Kd.bm 0 HO.1 d' c i).1;have E:=(Kd.bm 0 HO.1 d' c i).2;clear A;have p1:(0<=d')=True:=eq_true c;have q1:(d'<(n:Int))=True:=eq_true i;have J:wr.cell? ⟨gF,0,none⟩=some (.slice (some ⟨g,0,none⟩) n cF):=(ap BF.1 0).trans rfl;by_cases z:rd l d'<0
    ·
     rw[if_pos z]at H;have u:decide (rd l d'<0)=true:=decide_eq_true z;by_cases c4_:d'<(l0.length:Int)
     ·
      rw[if_pos c4_]at H;have q4:(d'<(l0.length:Int))=True:=eq_true c4_;obtain⟨ad,e0,G⟩:=Kd.eQ M.1 d' c c4_;cases e0;have s:=Az G;have HH:=Az H;have HP:=Az (Kd.jI HO.1 d' nn);have R:gM≠g:=fun e=>Kd.bg HO.1 BM.1 af (by rw[e];rfl)
      have L:gF≠g:=fun e=>Kd.bg HO.1 BF.1 af (by rw[e];rfl)
      clear H c m i z c4_ G;go_wp2_with (first|((with_reducible refine gs 3 14 rfl ?_);refine sE 3 14 (wr.setCell ⟨g,d'.toNat,none⟩ (.int .i64 nn)) ?_;intro dK hw;have n1:=Az (by rw[hw];exact HP.1:ai dK w0 (fun _=>True) (.slice (some ⟨g,0,none⟩) n cF) (l.set d'.toNat nn));have n2:=Az (by rw[hw];exact bq BM.1 (p:=⟨g,d'.toNat,none⟩) R _:dK.heap[gM]?=some (.cells #[.slice (some ad) l0.length c0,.slice A1 l1.length c1] 29 (0,0)));have n3:=Az (by rw[hw];exact bq BF.1 (p:=⟨g,d'.toNat,none⟩) L _:dK.heap[gF]?=some (.cells #[.slice (some ⟨g,0,none⟩) n cF] 23 (0,0)));have n4:=Az (by rw[hw];exact aN HB.1 hg:Below w0.heap.size w0 dK);clear HO BM BF HB HP hw K E J;have HO:=n1;have BM:=n2;have BF:=n3;have HB:=n4;clear n1 n2 n3 n4;have B:dK.cell? ⟨gM,0,none⟩=some (.slice (some ad) l0.length c0):=(ap BM.1 0).trans rfl;have y:=(HB.1.cell (World.block_lt_of_cell? w0 _ s.1)).trans s.1));(first|go_roundg k1|(refine Handed.intro k1 ?measure ?_;rotate_left;go_step;(try simp only[add_plain]);(repeat apply Exists.intro);refine⟨?rel,rfl⟩))
      case measure=>exact mO
      case rel=>exact⟨_,_,rfl,HH,⟨mO⟩,HO,BM,BF,HB⟩
     ·
      rw[if_neg c4_]at H;cases H
    ·rw[if_neg z]at H;have u:decide (rd l d'<0)=false:=decide_eq_false z;obtain rfl:=bc H;go_wp2;refine bodyPost_end (results_none rfl _ _ _) rfl ?_;exact⟨rfl,HO.1,HB.1,BM.1,BF.1⟩
   ·
    rw[if_neg m]at H;cases H
  ·
   rw[if_neg c]at H;cases H
def cO.l0:Nat->List Int->Int->Int->Option (List Int)
 |0,_,_,_=>none
 |k+1,xs,i,m=>if i<m then(if 0<=i then(if i<(xs.length:Int)then cO.l0 k (xs.set i.toNat (-1)) (wrap64 (i+1)) m else none)else none)else some xs
def cO.l2:Nat->List Int->List Int->Int->List Int->Int->Option (List Int)
 |0,_,_,_,_,_=>none
 |k+1,t,f,n,xs,i=>if i<(f.length:Int)then(if 0<=i then(if i<(xs.length:Int)then(if rd xs i=n then((cO.at k t (wrap64 (n+1)) xs (rd f i)).bind fun ys=>cO.l2 k t f n ys (wrap64 (i+1)))else cO.l2 k t f n xs (wrap64 (i+1)))else none)else none)else some xs
def cO.l1:Nat->List Int->List Int->List Int->Int->Option (List Int)
 |0,_,_,_,_=>none
 |k+1,t,f,xs,n=>if n<(t.length:Int)then((cO.l2 k t f n xs 0).bind fun ys=>cO.l1 k t f ys (wrap64 (n+1)))else some xs
def jh.f(k:Nat)(t f:List Int)(a:Int):Option (List Int):=if 0<t.length/\t.length<=1048576 then((cO.l0 k (List.replicate t.length 0) 0 (t.length:Int)).bind fun xs=>(cO.at k t 0 xs a).bind fun ys=>cO.l1 k t f ys 0)else none
set_option maxRecDepth 100000 in
theorem jh.calls(k:Nat)(I:Option Addr)(F:Nat)(j:List Int)(y:Option Addr)(u:Nat)(s:List Int)(a1:Int)(r:List Int)(w:World)(bN:Kd.C al w I j.length j)(bQ:j.length<=F)(bz:Kd.C al w y s.length s)(bL:s.length<=u)(h:jh.f k j s a1=some r):
 Calls Try.prog 88 #[.agg #[.slice I j.length F,.slice y s.length u],.int .i64 a1] w fun e w'=>∃aZ:Value,e= .returned aZ/\ai w' w (fun _=>True) aZ r/\Below w.heap.size w w':=by
 have da:=Try.underlying29;have M:=eO;have be:=dL;have HB:=bY;clear bN bz;unfold jh.f at h;by_cases hn:0<j.length/\j.length<=1048576
 ·
  rw[if_pos hn]at h;obtain⟨T,h1,h⟩:=Option.bind_eq_some_iff.mp h;obtain⟨Z,h2,h3⟩:=Option.bind_eq_some_iff.mp h;clear h;have H1:=Az h1;have H2:=Az h2;have H3:=Az h3;have HN:=Az hn;clear h1 h2 h3 hn;go_enter Try.func88,Try.ntmps88;go_wp2_with (first|((with_reducible refine gd 2 rfl ?_);refine bE 2 #[.slice I j.length F,.slice y s.length u] 29 ?_;intro gM hg w5 O hb;have n1:=Az (bh HB.1 hb);have BM:=Az O;have GM:=Az ((by rw[hg];exact aK HB.1):w.heap.size<=gM);clear HB hb O hg;have HB:=n1;clear n1;have B:=cz BM.1 0)|((with_reducible refine gd 14 rfl ?_);refine Kd.gX al _ 3 rfl (N:=14) rfl 23 _ _ rfl (j.length:Int) rfl rfl Try.underlying23 (.int .i64 0) 8 bA rfl af ac 0 (ok:=fun _=>True) (okp:=fun _=>True) rfl (fun _ hk=>hk) trivial ac (by have:=HN.1;omega) (Below.refl _ _) (Nat.le_refl _) ?_;intro eR w6 bH hb Y X;clear Y X;rw[Int.toNat_natCast]at bH;obtain⟨g,cF,ev,gb,gl,_⟩:=Kd.dv bH (by rw[List.length_replicate];exact HN.1.1);have n1:=Az (Kd.aH bH (aK HB.1));have GG:=Az (Nat.le_trans (aK HB.1) gb);subst ev;have n2:=Az (bh HB.1 hb);have n3:=Az (eU BM.1 hb);clear HB BM hb bH gb gl B;have HO:=n1;have HB:=n2;have BM:=n3;clear n1 n2 n3;rw[List.length_replicate]at HO ⊢));have n1:=iU BM.1 (.cells #[.slice (some ⟨g,0,none⟩) j.length cF] 23);have n2:=Kd.pI HO.1 (.cells #[.slice (some ⟨g,0,none⟩) j.length cF] 23);have n3:=bK HB.1 (.cells #[.slice (some ⟨g,0,none⟩) j.length cF] 23);have n4:=uj w6 (.cells #[.slice (some ⟨g,0,none⟩) j.length cF] 23);clear BM HO HB;generalize hw7:w6.alloc (.cells #[.slice (some ⟨g,0,none⟩) j.length cF] 23)=w7 at n1 n2 n3 n4 ⊢;generalize hgF:w6.heap.size=gF at n4 ⊢;clear hw7 hgF;have HB:=Az n3;have BM:=Az n1;have BF:=Az n4;have HO:=Az n2;clear n1 n2 n3 n4 GM;go_loopg [17] k (fun kq ek w'=>∃(i:Int) (l:List Int),ek= .int .i64 i/\ae (cO.l0 kq l i (j.length:Int)=some T)/\ae (kq<=k)/\ae (ai w' w (fun _=>True) (.slice (some ⟨g,0,none⟩) j.length cF) l)/\ae (w'.heap[gM]?=some (.cells #[.slice I j.length F,.slice y s.length u] 29 (0,0)))/\ae (w'.heap[gF]?=some (.cells #[.slice (some ⟨g,0,none⟩) j.length cF] 23 (0,0)))/\ae (Below w.heap.size w w'))
  case atStart=>exact⟨0,_,rfl,H1,⟨Nat.le_refl _⟩,HO,BM,BF,HB⟩
  case round=>
   clear H1 HO BM BF HB;obtain⟨i,l,rfl,HA,ca,HO,BM,BF,HB⟩:=hrel;rcases gk with _|k1;exact(nN HA.1).elim;have H:=HA.1;clear HA;simp only[cO.l0]at H;have A:j.length=l.length:=(Kd.am HO.1).1;by_cases c:i<(j.length:Int)
   ·
    rw[if_pos c]at H;have b:decide (i<(j.length:Int))=true:=decide_eq_true c;by_cases m:0<=i
    ·
     rw[if_pos m]at H;by_cases z:i<(l.length:Int)
     ·
      rw[if_pos z]at H;have p1:(0<=i)=True:=eq_true m;have q1:(i<(j.length:Int))=True:=eq_true c;have J:wr.cell? ⟨gF,0,none⟩=some (.slice (some ⟨g,0,none⟩) j.length cF):=(ap BF.1 0).trans rfl;have K:wr.cell? ⟨g,i.toNat,none⟩=some (.int .i64 (rd l i)):=(Kd.bm 0 HO.1 i m c).1;have E:=(Kd.bm 0 HO.1 i m c).2;have HP:=Az (Kd.jI HO.1 i (-1));have HH:=Az H;have R:gM≠g:=fun e=>Kd.bg HO.1 BM.1 af (by rw[e];rfl)
      have L:gF≠g:=fun e=>Kd.bg HO.1 BF.1 af (by rw[e];rfl)
      clear H c m z A;go_wp2;go_roundg k1
      case measure=>exact mO
      case rel=>exact⟨_,_,rfl,HH,⟨mO⟩,HP,⟨bq BM.1 (p:=⟨g,i.toNat,none⟩) R _⟩,⟨bq BF.1 (p:=⟨g,i.toNat,none⟩) L _⟩,⟨aN HB.1 GG.1⟩⟩
     ·
      rw[if_neg z]at H;cases H
    ·
     rw[if_neg m]at H;cases H
   ·
    rw[if_neg c]at H;have b:decide (i<(j.length:Int))=false:=decide_eq_false c;obtain rfl:=bc H;clear H A c;go_wp2_with (first|(go_at_call 109;(refine(cO.BH k I F j y u s gM gF g j.length cF a1 0 _ Z w _ HB.1 GG.1 BM.1 BF.1 HO.1 M.1 H2.1).mono ?_;rintro e dU ⟨rfl,ho,hb,hm,hf⟩;clear HO BM BF HB;have HO:=Az ho;have BM:=Az hm;have BF:=Az hf;have HB:=Az hb;clear ho hm hf hb;have ag:dU.cell? ⟨gM,0,none⟩=some (.slice I j.length F):=(ap BM.1 0).trans rfl;have n:dU.cell? ⟨gM,1,none⟩=some (.slice y s.length u):=(ap BM.1 1).trans rfl)));clear H2;go_loopg [31] k (fun kq U w'=>∃(nn:Int) (l:List Int),U= .int .i64 nn/\ae (cO.l1 kq j s l nn=some r)/\ae (kq<=k)/\ae (ai w' w (fun _=>True) (.slice (some ⟨g,0,none⟩) j.length cF) l)/\ae (w'.heap[gM]?=some (.cells #[.slice I j.length F,.slice y s.length u] 29 (0,0)))/\ae (w'.heap[gF]?=some (.cells #[.slice (some ⟨g,0,none⟩) j.length cF] 23 (0,0)))/\ae (Below w.heap.size w w'))
    case atStart=>exact⟨0,_,rfl,H3,⟨Nat.le_refl _⟩,HO,BM,BF,HB⟩
    case round=>
     clear H3 HO BM BF HB b;obtain⟨nn,l,rfl,HA,ca,HO,BM,BF,HB⟩:=hrel;rcases gk with _|k1;exact(nN HA.1).elim;have H:=HA.1;clear HA;simp only[cO.l1]at H;have n:wr.cell? ⟨gM,1,none⟩=some (.slice y s.length u):=(ap BM.1 1).trans rfl;have J:wr.cell? ⟨gF,0,none⟩=some (.slice (some ⟨g,0,none⟩) j.length cF):=(ap BF.1 0).trans rfl;by_cases c:nn<(j.length:Int)
     ·
      rw[if_pos c]at H;have b:decide (nn<(j.length:Int))=true:=decide_eq_true c;obtain⟨ys,h4,h5⟩:=Option.bind_eq_some_iff.mp H;have H4:=Az h4;have H5:=Az h5;clear h4 h5 H c;go_wp2;clear n J b;go_loopg [37] k1 (fun kq q w'=>∃(i:Int) (l:List Int),q= .int .i64 i/\ae (cO.l2 kq j s nn l i=some ys)/\ae (kq<=k1)/\ae (ai w' w (fun _=>True) (.slice (some ⟨g,0,none⟩) j.length cF) l)/\ae (w'.heap[gM]?=some (.cells #[.slice I j.length F,.slice y s.length u] 29 (0,0)))/\ae (w'.heap[gF]?=some (.cells #[.slice (some ⟨g,0,none⟩) j.length cF] 23 (0,0)))/\ae (Below w.heap.size w w'))
      case atStart=>exact⟨0,_,rfl,H4,⟨Nat.le_refl _⟩,HO,BM,BF,HB⟩
      case round=>
       clear H4 HO BM BF HB;obtain⟨i,l,rfl,HA,bM,HO,BM,BF,HB⟩:=hrel;rcases gk with _|k2;exact(nN HA.1).elim;have H:=HA.1;clear HA;simp only[cO.l2]at H;have A:j.length=l.length:=(Kd.am HO.1).1;have J:wr.cell? ⟨gF,0,none⟩=some (.slice (some ⟨g,0,none⟩) j.length cF):=(ap BF.1 0).trans rfl;by_cases c:i<(s.length:Int)
       ·
        rw[if_pos c]at H;have b:decide (i<(s.length:Int))=true:=decide_eq_true c;by_cases m:0<=i
        ·
         rw[if_pos m]at H;by_cases z:i<(l.length:Int)
         ·
          rw[if_pos z]at H;have d:i<(j.length:Int):=by rw[A];exact z
          have p1:(0<=i)=True:=eq_true m;have q1:(i<(j.length:Int))=True:=eq_true d;have q2:(i<(s.length:Int))=True:=eq_true c;have K:wr.cell? ⟨g,i.toNat,none⟩=some (.int .i64 (rd l i)):=(Kd.bm 0 HO.1 i m d).1;obtain⟨ad,e0,G⟩:=Kd.eQ be.1 i m c;cases e0;have aa:=(HB.1.cell (World.block_lt_of_cell? w _ G)).trans G;clear A c m z d G;by_cases c4_:rd l i=nn
          ·
           rw[if_pos c4_]at H;have V:(rd l i==nn)=true:=beq_iff_eq.mpr c4_;obtain⟨zs,h6,h7⟩:=Option.bind_eq_some_iff.mp H;have H6:=Az h6;have H7:=Az h7;clear h6 h7 H c4_;go_wp2_with (first|(go_at_call 109;(refine(cO.BH k2 I F j _ u s gM gF g j.length cF (rd s i) (wrap64 (nn+1)) l zs w _ HB.1 GG.1 BM.1 BF.1 HO.1 M.1 H6.1).mono ?_;rintro e dU ⟨rfl,ho,hb,hm,hf⟩;clear HO BM BF HB;have HO:=Az ho;have BM:=Az hm;have BF:=Az hf;have HB:=Az hb;clear ho hm hf hb)));go_roundg k2
           case measure=>exact mO
           case rel=>exact⟨_,_,rfl,H7,⟨mO⟩,HO,BM,BF,HB⟩
          ·
           rw[if_neg c4_]at H;have V:(rd l i==nn)=false:=beq_eq_false_iff_ne.mpr c4_;have H7:=Az H;clear H c4_;go_wp2;go_roundg k2
           case measure=>exact mO
           case rel=>exact⟨_,_,rfl,H7,⟨mO⟩,HO,BM,BF,HB⟩
         ·
          rw[if_neg z]at H;cases H
        ·
         rw[if_neg m]at H;cases H
       ·
        rw[if_neg c]at H;have b:decide (i<(s.length:Int))=false:=decide_eq_false c;obtain rfl:=bc H;clear H A c J;go_wp2;go_roundg k1
        case measure=>exact mO
        case rel=>exact⟨_,_,rfl,H5,⟨mO⟩,HO,BM,BF,HB⟩
     ·rw[if_neg c]at H;have b:decide (nn<(j.length:Int))=false:=decide_eq_false c;obtain rfl:=bc H;clear H c;go_wp2;go_ret;exact⟨_,rfl,HO.1,HB.1⟩
 ·
  rw[if_neg hn]at h;cases h
end Go.Proofs.Ytlpbalebodlipaa.PL
