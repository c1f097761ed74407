/- A part of the proof of FnTutteMap. There are no conditions. -/
import Derived.Test.YtlpbalebodlipaaProg
import Derived.Below
import Derived.Deep.Draws
import Derived.Deep.AppendLies
import Derived.Maps.AppendAt
import Derived.OwnWalk
import Derived.Laws.BytesArg
import Derived.Laws.MakeOwn
import Derived.Laws.OwnMore
import Derived.Tactics
import Derived.Lib.ConvBytes
import Derived.Laws.Slices
import Derived.WalkKit
import Derived.KernelRfl
import Derived.RowKit3
import Derived.Deep.LoopGhost
import Derived.Deep.QuietTactic
import Derived.BigQuiet
import Derived.WideLaws
import Derived.Deep.DeepCutAuto
import Derived.Deep.CutBlock
import Derived.Deep.RegionHeld3
import Derived.Lib.AppendStr
import Derived.ArgAppend
import Derived.Laws.IdiomCopy
import Derived.OrdersHeld
import Derived.Laws.BitsLemmas
import Derived.RowKit
import Derived.Laws.RangeAny
import Derived.Laws.RangeString
import Derived.Shelf.Sort.Plain
import Derived.Sort.OwnSortedInts
import Derived.ProofKit
import Derived.OpenShut
import Derived.ShutString
import Derived.ChangeOld
import Derived.SizedLaws
import Derived.Test.YtlpbalebodlipaaKTMWWords
import Derived.Test.YtlpbalebodlipaaKTMWLast
import Derived.Test.YtlpbalebodlipaaKTMWTab
import Derived.Test.YtlpbalebodlipaaKTMWQPut
import Derived.Test.YtlpbalebodlipaaKTMWApart
import Derived.Test.YtlpbalebodlipaaKTMWFoot
import Derived.Test.YtlpbalebodlipaaKTMWKept
import Derived.Test.YtlpbalebodlipaaKTMWShare
import Derived.Test.YtlpbalebodlipaaKTMWN
import Derived.Test.YtlpbalebodlipaaKTMWAt
import Derived.Test.YtlpbalebodlipaaKTMWRepsOne
import Derived.Test.YtlpbalebodlipaaKTMWInv
import Derived.Test.YtlpbalebodlipaaKTMWGuard
import Derived.Test.YtlpbalebodlipaaKTMWNEv
import Derived.Test.YtlpbalebodlipaaKTMWMore
import Derived.Test.YtlpbalebodlipaaKTMWSized
import Derived.Deep.OwnRows
import Derived.Laws.Rows
import Derived.Test.YtlpbalebodlipaaRows
namespace Go.Proofs.Ytlpbalebodlipaa.PL
open Go.RowKit Go.Proofs.YtlpbalebodlipaaW.PrintWords Go.Proofs.YtlpbalebodlipaaW.PrintLast Go.Proofs.YtlpbalebodlipaaW.PrintMore
theorem qc_ {p:Prop} (h:p:=by repeat (first|exact cy.refl _|apply cy.step)):p:=h
theorem qr_ {p:Prop} (h:p:=by repeat (first|(with_reducible first|exact HK.out|apply Kept.alloc|apply Kept.drewN|apply Kept.drew)|exact HK.out)):p:=h
theorem oA {p:Prop} [Decidable p] (h:decide p=true:=by first|(with_reducible assumption)|assumption):p:=of_decide_eq_true h
theorem rS {p:Prop} (h:p:=by first|rfl|(simp;done)|(simp[*];done)):p:=h
theorem rE {p:Prop} (h:p:=by first|rfl|(simp[kg,j9]<;>rfl)|(simp[*,kg,j9]<;>rfl)):p:=h
theorem Az {p:Prop} (h:p):ae p:=ae.mk h
theorem rU {p q:Prop} (h:q) (f:q->p:=by intro h;(with_reducible repeat (first|apply Kd.Fz|apply Kd.E9|apply Kd.bK));exact h):p:=f h
theorem sU {p q:Prop} (h:q) (f:q->p:=by intro h;(with_reducible repeat (first|apply Kd.pE|apply Kd.pB|apply Kd.pF));exact h):p:=f h
theorem vU {p q:Prop} (h:q) (f:q->p:=by intro h;(with_reducible repeat (first|apply Kd.ah1|apply Kd.afe|apply Kd.aga));exact h):p:=f h
theorem nU {p q:Prop} (h:q) (f:q->p:=by intro h;(with_reducible repeat (first|apply Kd.ahr|apply Kd.afo|apply Kd.agZ));exact h):p:=f h
theorem qU {p q:Prop} (h:q) (f:q->p:=by intro h;(with_reducible repeat (first|apply Kd.nc|apply Kd.ng|apply Kd.jd));exact h):p:=f h
theorem kU {p q:Prop} (h:q) (f:q->p:=by intro h;(with_reducible repeat (first|refine N1 ?_ _|refine ce ?_|refine qb ?_ _));exact h):p:=f h
theorem cU {p q:Prop} (h:q) (f:q->p:=by intro h;repeat (first|exact h|(with_reducible refine Kd.ag5 ?_ _)|(with_reducible refine Kd.ahG ?_ _)|(with_reducible refine Kd.af7 ?_))):p:=f h
theorem bU0 {p q:Prop} (h:q) (f:q->p:=by intro h;repeat (first|(with_reducible first|exact h|apply bm|apply bw|apply a8)|exact h)):p:=f h
theorem bU1 {p q a0:Prop} (h:q) (g0:a0) (f:q->a0->p:=by intro h g0;repeat (first|(with_reducible first|exact h|apply bm|apply bw|apply a8|refine ap ?_ g0)|exact h)):p:=f h g0
theorem bU2 {p q a0 a1:Prop} (h:q) (g0:a0) (g1:a1) (f:q->a0->a1->p:=by intro h g0 g1;repeat (first|(with_reducible first|exact h|apply bm|apply bw|apply a8|refine ap ?_ g0|refine ap ?_ g1)|exact h)):p:=f h g0 g1
theorem bU3 {p q a0 a1 a2:Prop} (h:q) (g0:a0) (g1:a1) (g2:a2) (f:q->a0->a1->a2->p:=by intro h g0 g1 g2;repeat (first|(with_reducible first|exact h|apply bm|apply bw|apply a8|refine ap ?_ g0|refine ap ?_ g1|refine ap ?_ g2)|exact h)):p:=f h g0 g1 g2
theorem bU4 {p q a0 a1 a2 a3:Prop} (h:q) (g0:a0) (g1:a1) (g2:a2) (g3:a3) (f:q->a0->a1->a2->a3->p:=by intro h g0 g1 g2 g3;repeat (first|(with_reducible first|exact h|apply bm|apply bw|apply a8|refine ap ?_ g0|refine ap ?_ g1|refine ap ?_ g2|refine ap ?_ g3)|exact h)):p:=f h g0 g1 g2 g3
theorem bU5 {p q a0 a1 a2 a3 a4:Prop} (h:q) (g0:a0) (g1:a1) (g2:a2) (g3:a3) (g4:a4) (f:q->a0->a1->a2->a3->a4->p:=by intro h g0 g1 g2 g3 g4;repeat (first|(with_reducible first|exact h|apply bm|apply bw|apply a8|refine ap ?_ g0|refine ap ?_ g1|refine ap ?_ g2|refine ap ?_ g3|refine ap ?_ g4)|exact h)):p:=f h g0 g1 g2 g3 g4
theorem hR {α:Type} {a b:α} {p q:Prop} (e:a=b) (h:q) (f:a=b->q->p:=by intro e H;first|(rw[e];with_reducible exact H)|(have Om:=(Option.bind_some _ _).symm.trans H;rw[e];with_reducible exact Om)|(have Om:=(Option.bind_some _ _).symm.trans H;with_reducible exact Om)|with_reducible exact H|(rw[e];exact H)|exact H):p:=f e h
theorem sA {W W':World} {g:Nat} {o:Obj} (h:W'.heap[g]?=some o) (k:(W'.heap[g]?=some o)->(W.heap[g]?=some o):=by intro h_;(with_reducible repeat (first|refine N1 ?_ _|refine ce ?_|refine qb ?_ _));exact h_):W.heap[g]?=some o:=k h
theorem rA {α:Type} {d:Kd α} {e base:Nat} {W W':World} {ok:Nat->Prop} {v:Value} {xs:List α} (h:d.R e W' base ok v xs) (k:d.R e W' base ok v xs->d.R e W base ok v xs:=by intro h_;(with_reducible repeat (first|apply Kd.Fz|apply Kd.E9|apply Kd.bK));exact h_):d.R e W base ok v xs:=k h
theorem Jk {p:Prop} (h:p:=by exact(aQ (by repeat (first|(with_reducible first|exact HBW.out|apply bm|apply bw|apply a8)|exact HBW.out)))):p:=h
theorem yD {p:Prop} (h:p:=by exact(ay (bU1 HB.out rQ.out) hb)):p:=h
theorem Dp {p:Prop} (h:p:=by exact(ay (bU1 HB.out tX.out) hb)):p:=h
theorem C0 {p:Prop} (h:p:=by exact(Kd.C_F (Kd.qd .i64) ck.out)):p:=h
theorem C4 {p:Prop} (h:p:=by exact(Kd.C_F (Kd.qd .i64) bP.out)):p:=h
theorem Oi {p:Prop} (h:p:=by first|exact Kd.agy oN|exact Kd.Od oN|exact Kd.ax oN):p:=h
theorem Y7 {p:Prop} (h:p:=by exact(Kd.oI (ok':=fun k_=>oS k_ fA bc.length eR) (Kd.agD (cB.out) hkp (fun k_ hk_ hs_=>(hk_) hs_)) (fun k_ hk_=>hk_.1))):p:=h
theorem lQ {p:Prop} (h:p:=by(try simp only[List.map_toArray,List.map_cons,List.map_nil]);first|done|rfl|(simp only[List.length_drop,List.length_take];rfl)):p:=h
theorem rB {q b r:Prop} (h:q) (hb:b) (f:q->b->r:=by intro h hb;exact Kd.kJ (rU h) hb):ae r:=ae.mk (f h hb)
theorem sB {q b r:Prop} (h:q) (hb:b) (f:q->b->r:=by intro h hb;exact Kd.Jn (sU h) hb):ae r:=ae.mk (f h hb)
theorem vB {q b r:Prop} (h:q) (hb:b) (f:q->b->r:=by intro h hb;exact Kd.MU (vU h) hb):ae r:=ae.mk (f h hb)
theorem nB {q b r:Prop} (h:q) (hb:b) (f:q->b->r:=by intro h hb;exact Kd.FF (nU h) hb):ae r:=ae.mk (f h hb)
theorem qB {q b r:Prop} (h:q) (hb:b) (f:q->b->r:=by intro h hb;exact Kd.Ar (qU h) hb):ae r:=ae.mk (f h hb)
theorem kF1 {p q a0:Prop} (h:q) (n0:a0) (f:q->a0->p:=by intro h n0;repeat (first|exact h|refine N1 ?_ _|refine ce ?_|refine qb ?_ _|refine bU ?_ n0 _)):p:=f h n0
theorem rW2 {p q b:Prop} (h:q) (bk:b) (f:q->b->p:=by intro h bk;(with_reducible repeat (first|apply Kd.Fz|apply Kd.E9|apply Kd.bK));exact(Kd.ah (Kd.aY (Kd.aY (Kd.cj h bk (by decide)) (fun _ hk=>hk.2) _) (fun _ hk=>hk.2) _) (fun _ h_=>h_.1))):p:=f h bk
theorem qW2 {p q b:Prop} (h:q) (bk:b) (f:q->b->p:=by intro h bk;(with_reducible repeat (first|apply Kd.nc|apply Kd.ng|apply Kd.jd));exact(Kd.ec (Kd.gU (Kd.gU (Kd.mj h bk (by decide)) (fun _ hk=>hk.2) _) (fun _ hk=>hk.2) _) (fun _ h_=>h_.1))):p:=f h bk
theorem yP {p:Prop} (h:p:=by intro w';go_simp;with_reducible rfl):p:=h
def bv (n m:Nat):Array Bool:=((List.range n).map (fun i=>m.testBit i)).toArray
theorem kG {q b c r:Prop} (h:q) (hb:b) (hc:c) (f:q->b->c->r:=by intro h hb hc;exact WV (kU h) hb hc):r:=f h hb hc
theorem kB {q b r:Prop} (h:q) (hb:b) (f:q->b->r:=by intro h hb;exact lI (kU h) hb):ae r:=ae.mk (f h hb)
theorem aP {p:Prop} (h:p:=by simp only[Act.put,List.setIfInBounds_toArray,List.set_cons_zero,List.set_cons_succ,bo,bD];rfl):p:=h
theorem cz {w:World} {g:Nat} {t:TypeId} {cs:Array Value} {v:Value} (h:w.heap[g]?=some (.cells cs t (0,0))) (i:Nat) (e:cs[i]?=some v:=by rfl):w.cell? ⟨g,i,none⟩=some v:=(ai h i).trans e
theorem gD1 {α:Type} {p0:Prop} {a:Option α} {r:α} {d0:Decidable p0} (h:(if p0 then a else none)=some r):@decide p0 d0=true/\a=some r:=by split at h;(exact⟨decide_eq_true (by assumption),h⟩);(cases h)
theorem gD2 {α:Type} {p0 p1:Prop} {a:Option α} {r:α} {d0:Decidable p0} {d1:Decidable p1} (h:(if p0 then(if p1 then a else none)else none)=some r):@decide p0 d0=true/\ @decide p1 d1=true/\a=some r:=⟨(gD1 h).1,gD1 (gD1 h).2⟩
theorem gD3 {α:Type} {p0 p1 p2:Prop} {a:Option α} {r:α} {d0:Decidable p0} {d1:Decidable p1} {d2:Decidable p2} (h:(if p0 then(if p1 then(if p2 then a else none)else none)else none)=some r):@decide p0 d0=true/\ @decide p1 d1=true/\ @decide p2 d2=true/\a=some r:=⟨(gD1 h).1,gD2 (gD1 h).2⟩
theorem gD4 {α:Type} {p0 p1 p2 p3:Prop} {a:Option α} {r:α} {d0:Decidable p0} {d1:Decidable p1} {d2:Decidable p2} {d3:Decidable p3} (h:(if p0 then(if p1 then(if p2 then(if p3 then a else none)else none)else none)else none)=some r):@decide p0 d0=true/\ @decide p1 d1=true/\ @decide p2 d2=true/\ @decide p3 d3=true/\a=some r:=⟨(gD1 h).1,gD3 (gD1 h).2⟩
theorem gD5 {α:Type} {p0 p1 p2 p3 p4:Prop} {a:Option α} {r:α} {d0:Decidable p0} {d1:Decidable p1} {d2:Decidable p2} {d3:Decidable p3} {d4:Decidable p4} (h:(if p0 then(if p1 then(if p2 then(if p3 then(if p4 then a else none)else none)else none)else none)else none)=some r):@decide p0 d0=true/\ @decide p1 d1=true/\ @decide p2 d2=true/\ @decide p3 d3=true/\ @decide p4 d4=true/\a=some r:=⟨(gD1 h).1,gD4 (gD1 h).2⟩
theorem gD6 {α:Type} {p0 p1 p2 p3 p4 p5:Prop} {a:Option α} {r:α} {d0:Decidable p0} {d1:Decidable p1} {d2:Decidable p2} {d3:Decidable p3} {d4:Decidable p4} {d5:Decidable p5} (h:(if p0 then(if p1 then(if p2 then(if p3 then(if p4 then(if p5 then a else none)else none)else none)else none)else none)else none)=some r):@decide p0 d0=true/\ @decide p1 d1=true/\ @decide p2 d2=true/\ @decide p3 d3=true/\ @decide p4 d4=true/\ @decide p5 d5=true/\a=some r:=⟨(gD1 h).1,gD5 (gD1 h).2⟩
theorem gP {α:Type} {p:Prop} {a:Option α} {r:α} {d:Decidable p} (h:(if p then a else none)=some r):p/\a=some r:=by split at h;(exact⟨by assumption,h⟩);(cases h)
theorem gE {α:Type} {p:Prop} {a:Option α} {r:α} {d:Decidable p} (h:(if p then a else none)=some r):(p=True)/\ @decide p d=true/\a=some r:=⟨eq_true (gP h).1,gD1 h⟩
theorem gB {α:Type} {p:Prop} {a b:Option α} {r:α} {d:Decidable p} (h:(if p then a else b)=some r):(@decide p d=true/\a=some r)\/(@decide p d=false/\b=some r):=by split at h;(exact .inl ⟨decide_eq_true (by assumption),h⟩);(exact .inr ⟨decide_eq_false (by assumption),h⟩)
theorem gQ {α β:Type} [BEq β] [LawfulBEq β] {x y:β} {a b:Option α} {r:α} {d:Decidable (x=y)} (h:(if x=y then a else b)=some r):((x==y)=true/\(x !=y)=false/\a=some r)\/((x==y)=false/\(x !=y)=true/\b=some r):=by split at h;exact .inl ⟨beq_iff_eq.mpr (by assumption),bne_eq_false_iff_eq.mpr (by assumption),h⟩;exact .inr ⟨beq_eq_false_iff_ne.mpr (by assumption),bne_iff_ne.mpr (by assumption),h⟩
theorem bZ (w:World):ae (Below w.heap.size w w):=ae.mk (Below.refl w.heap.size w)
theorem nS {a b:Nat} (h:ae (a≠b)):ae (b≠a):=ae.mk h.out.symm
theorem hS {p:Prop} (h:p:=by first|(go_simp;done)|(go_simp;rfl)):p:=h
def oV (k:Nat) (v:Value):Prop:=some k≠v.ownBlock
def oS (k:Nat) (A:Option Addr) (n c:Nat):Prop:=some k≠(Value.slice A n c).ownBlock
theorem bd {α β:Type} {x:Option α} {f:α->Option β} {r:β} (h:x.bind f=some r):∃t,ae (x=some t)/\f t=some r:=by obtain⟨t,a,b⟩:=Option.bind_eq_some_iff.mp h;exact⟨t,ae.mk a,b⟩
theorem Ay {α:Type} {a b:α} (h:a=b):ae (b=a):=ae.mk h.symm
theorem nN {α:Type} {x:Option α} {r:α} (h:x=some r) (e:x=none:=by rfl):False:=by rw[e]at h;cases h
theorem nT:¬(false=true):=by decide
theorem aI {kd:IntKind} {w:World} {A:Option Addr} {n:Nat} {xs:List Int} (h:(Kd.int kd).C w A n xs) (i:Int) (h0:0<=i:=by exact oA) (h1:i<n:=by exact oA):∃ad,A=some ad/\((0<=i)=True)/\((i<n)=True)/\w.cell? (ad.add i.toNat)=some (.int kd (rd xs i)):=by obtain⟨ad,e,hx⟩:=Kd.pH h i h0 h1;exact⟨ad,e,eq_true h0,eq_true h1,hx⟩
theorem aB {w:World} {A:Option Addr} {n:Nat} {xs:List Bool} (h:Kd.bool.C w A n xs) (i:Int) (h0:0<=i:=by exact oA) (h1:i<n:=by exact oA):∃ad,A=some ad/\((0<=i)=True)/\((i<n)=True)/\w.cell? (ad.add i.toNat)=some (.bool (gH false xs i)):=by obtain⟨ad,e,hx⟩:=Kd.ah6 h i h0 h1;exact⟨ad,e,eq_true h0,eq_true h1,hx⟩
theorem aJ {kd:IntKind} {w:World} {ad:Addr} {n:Nat} {xs:List Int} (h:(Kd.int kd).C w (some ad) n xs) (i:Int) (h0:0<=i:=by exact oA) (h1:i<n:=by exact oA):((0<=i)=True)/\((i<n)=True)/\w.cell? (ad.add i.toNat)=some (.int kd (rd xs i)):=by obtain⟨ad,e,hx⟩:=Kd.pH h i h0 h1;cases e;exact⟨eq_true h0,eq_true h1,hx⟩
theorem hT {w w':World} {a:Addr} {v:Value} (hb:Below w.heap.size w w') (h:w.cell? a=some v):w'.cell? a=some v:=(hb.cell (World.block_lt_of_cell? w _ h)).trans h
theorem mO {p:Prop} (h:p:=by(try have cK:=eZ.out);(try have cL:=eE.out);(try have cM:=rR.out);(try have cN:=FQ.out);(try have cO:=HK5.out);(try have dj:=HK6.out);first|omega|exact Nat.le_refl _):p:=h
theorem gW {w W:World} {g:Nat} (hg:g=W.heap.size) (h:Below w.heap.size w W):ae (w.heap.size<=g):=ae.mk (by rw[hg];exact aQ h)
theorem nL {W:World} {g g':Nat} {o:Obj} (hg:g'=W.heap.size) (h:W.heap[g]?=some o):ae (g≠g'):=ae.mk (by rw[hg];exact Nat.ne_of_lt (xf h))
theorem nP {a b:Nat} (h:ae (a≠b)):a≠b/\b≠a:=⟨h.out,h.out.symm⟩
theorem bc2 {w:World} {g:Nat} {t:TypeId} {a0 a1:Value} (h:w.heap[g]?=some (.cells #[a0,a1] t (0,0))):w.cell? ⟨g,0,none⟩=some a0/\w.cell? ⟨g,1,none⟩=some a1/\w.frozen? ⟨g,0,none⟩=false/\w.frozen? ⟨g,1,none⟩=false:=⟨(ai h 0).trans rfl,(ai h 1).trans rfl,gJ h 0,gJ h 1⟩
theorem gK {P:Program} {ops:Array Oper} {o:Oper} {a:Act} {Q:Exit->Act->World->Prop} {rest:List Oper} {W:World} (f:FuncId) {ops_:Array Operand} {ts:Array TypeId} (_ho:o.op= .call {callee:=.value (.func f),args:=ops_,argTypes:=ts}) (h:wpList P ops Q (o::rest) a W):wpList P ops Q (o::rest) a W:=h
theorem gd {P:Program} {ops:Array Oper} {o:Oper} {a:Act} {Q:Exit->Act->World->Prop} {rest:List Oper} {W:World} (N:Tmp) (_hN:o.dst=some N) (h:wpList P ops Q (o::rest) a W):wpList P ops Q (o::rest) a W:=h
theorem gs {P:Program} {ops:Array Oper} {o:Oper} {a:Act} {Q:Exit->Act->World->Prop} {rest:List Oper} {W:World} (t:TypeId) (p:Tmp) {v:Operand} (_ho:o.op= .store t (.tmp p) v) (h:wpList P ops Q (o::rest) a W):wpList P ops Q (o::rest) a W:=h
theorem gC {P:Program} {ops:Array Oper} {o:Oper} {a:Act} {Q:Exit->Act->World->Prop} {rest:List Oper} {W:World} (N:Option Tmp) {f:FuncId} {fn:Func} {ops_:Array Operand} {ts:Array TypeId} (hf:P.funcs[f]?=some fn) (args:Array Value) (h:Calls P f args W fun e w'=>∃v,e= .returned v/\wpList P ops Q rest (a.put N v) w') (hd:o.dst=N:=by rfl) (hg:o.guard=none:=by rfl) (hname:(fn.name== "runtime.NumGoroutine")=false:=by kernel_rfl) (hb:fn.body.isSome=true:=by rfl) (hop:o.op= .call {callee:=.value (.func f),args:=ops_,argTypes:=ts}:=by rfl) (hargs:ops_.map a.eval=args:=by exact lQ):wpList P ops Q (o::rest) a W:=NF N hd hg hf hname hb args hop hargs h
theorem bE {P:Program} {ops:Array Oper} {o:Oper} {a:Act} {Q:Exit->Act->World->Prop} {rest:List Oper} {W:World} (N:Tmp) (cs:Array Value) (t:TypeId) (h:∀g,g=W.heap.size->∀w1,w1.heap[g]?=some (.cells cs t (0,0))->Below W.heap.size W w1->wpList P ops Q rest (a.put o.dst (.pointer (some ⟨g,0,none⟩))) w1) (hgd:o.guard=none:=by rfl) (hd:o.dst=some N:=by rfl) (hrun:(execOp a.eval o).run P W= .ok (.value (.pointer (some ⟨W.heap.size,0,none⟩))) (W.alloc (.cells cs t (0,0))):=by first|(go_simp;done)|(go_simp;rfl)):wpList P ops Q (o::rest) a W:=ahA hgd hd hrun h
theorem sE {P:Program} {ops:Array Oper} {o:Oper} {a:Act} {Q:Exit->Act->World->Prop} {rest:List Oper} {W:World} (t:TypeId) (p:Tmp) {v:Operand} (w1:World) (h:∀w',w'=w1->wpList P ops Q rest a w') (ho:o.op= .store t (.tmp p) v:=by rfl) (hgd:o.guard=none:=by rfl) (hN:o.dst=none:=by rfl) (hrun:(execOp a.eval o).run P W= .ok .skip w1:=by first|(go_simp;done)|(go_simp;rfl)):wpList P ops Q (o::rest) a W:=ag6 hgd ho hN hrun h
theorem rM {p q:Prop} (h:q) (f:q->p:=by intro h;(with_reducible repeat (first|apply Kd.Fz|apply Kd.E9|apply Kd.bK));exact Kd.ah h (fun _ hk=>by first|trivial|exact hk.1|(simp only[hk,and_self,ne_eq,not_false_eq_true,true_and,and_true,true_or,or_true];done)|((try simp only[oS,oV]at hk ⊢);simp only[hk,and_self,ne_eq,not_false_eq_true,true_and,and_true,true_or,or_true]))):p:=f h
theorem sM {p q:Prop} (h:q) (f:q->p:=by intro h;(with_reducible repeat (first|apply Kd.pE|apply Kd.pB|apply Kd.pF));exact Kd.oI h (fun _ hk=>by first|trivial|exact hk.1|(simp only[hk,and_self,ne_eq,not_false_eq_true,true_and,and_true,true_or,or_true];done)|((try simp only[oS,oV]at hk ⊢);simp only[hk,and_self,ne_eq,not_false_eq_true,true_and,and_true,true_or,or_true]))):p:=f h
theorem qM {p q:Prop} (h:q) (f:q->p:=by intro h;(with_reducible repeat (first|apply Kd.nc|apply Kd.ng|apply Kd.jd));exact Kd.ec h (fun _ hk=>by first|trivial|exact hk.1|(simp only[hk,and_self,ne_eq,not_false_eq_true,true_and,and_true,true_or,or_true];done)|((try simp only[oS,oV]at hk ⊢);simp only[hk,and_self,ne_eq,not_false_eq_true,true_and,and_true,true_or,or_true]))):p:=f h
attribute [local go_sem] tH tW tL tB tJ tE tM tP
set_option linter.unusedVariables false
set_option linter.unusedSimpArgs false
def YU:Option Int->Value
 |none=>.nilIface
 |some c=>.iface 0 (.int .i64 c)
theorem kg:YU none= .nilIface:=rfl
theorem j9 (c:Int):YU (some c)= .iface 0 (.int .i64 c):=rfl
theorem dE:(Try.prog.info? 3).map (fun i=>(i.zero,i.size,i.bytes))=some (some (.int .i64 0),1,8):=by kernel_rfl
theorem Yh:(Try.prog.info? 4).map (fun i=>(i.zero,i.size,i.bytes))=some (some (.bool false),1,1):=by kernel_rfl
theorem info5:(Try.prog.info? 5).map (fun i=>(i.zero,i.size,i.bytes))=some (some (.int .u8 0),1,1):=by kernel_rfl
theorem VQ:(Try.prog.info? 23).map (fun i=>(i.zero,i.size,i.bytes))=some (some (.slice none 0 0),1,24):=by kernel_rfl
def d7 (xs:List (List Int)) (i:Int):(List Int):=xs.getD i.toNat ([]:List Int)
theorem Fu {w:World} {A:Option Addr} {n:Nat} {xs:List (List Int)} (h:Kd.C (Kd.slice 3 (Kd.int .i64)) w A n xs) (i:Int) (h0:0<=i) (h1:i<n):∃ad A0 c0,A=some ad/\w.cell? (ad.add i.toNat)=some (.slice A0 (d7 xs i).length c0)/\(d7 xs i).length<=c0/\(Kd.int .i64).C w A0 (d7 xs i).length (d7 xs i):=by
 obtain⟨ad,c,e,_,hK,hc0⟩:=Kd.af4 h ([]:List Int) i h0 h1;have hc:∀j u,c[j]?=some u->w.cell? (ad.add (i.toNat*1+j))=some u:=hc0;obtain⟨A0,c0,rfl,l0,g0⟩:=hK;exact⟨ad,A0,c0,e,by have hq:=hc 0 _ rfl;rwa [Nat.mul_one,Nat.add_zero]at hq,l0,g0⟩
end Go.Proofs.Ytlpbalebodlipaa.PL
namespace Go.Proofs.Ytlpbalebodlipaa.PL
open Go.RowKit Go.Proofs.YtlpbalebodlipaaW.PrintWords Go.Proofs.YtlpbalebodlipaaW.PrintLast Go.Proofs.YtlpbalebodlipaaW.PrintMore
attribute [local go_sem] tH tW tL tB tJ tE tM tP
set_option linter.unusedVariables false
set_option linter.unusedSimpArgs false
mutual
def gV.l0:Nat->List Int->List (List Int)->List Bool->Int->Int->Option ((List (List Int)))
 |0,_,_,_,_,_=>none
 |k+1,x0,x3,x4,dK,oO=>if oO<dK then(gV.l1 k x0 x3 x4 (([]:List Int)) oO dK oO)else(some x3)
def gV.l1:Nat->List Int->List (List Int)->List Bool->List Int->Int->Int->Int->Option ((List (List Int)))
 |0,_,_,_,_,_,_,_=>none
 |k+1,x0,x3,x4,x6,x7,dK,oO=>if 0<=x7 then(if x7<(x4.length:Int)then(if gH false x4 x7=true then(if(x6.length:Int)>0 then(if x3.length<5864062014805 then(gV.l0 k x0 (x3++[x6]) x4 dK (wrap64 (oO+1)))else(none))else(gV.l0 k x0 x3 x4 dK (wrap64 (oO+1))))else(if x6.length<17592186044416 then(if x7<(x0.length:Int)then(gV.l1 k x0 x3 (x4.set (x7:Int).toNat true) (x6++[x7]) (rd x0 x7) dK oO)else(none))else(none)))else(none))else(none)
end
def gV.f (k:Nat) (l0:List Int):Option ((List (List Int))):=if 0<=(l0.length:Int)then(if((l0.length:Int):Int).toNat<=281474976710656 then(gV.l0 k l0 (([]:List (List Int))) (List.replicate ((l0.length:Int):Int).toNat false) (l0.length:Int) 0)else(none))else(none)
set_option maxHeartbeats 8000000 in
set_option maxRecDepth 100000 in
theorem gV.calls (k:Nat) (A0:Option Addr) (c0:Nat) (l0:List Int) (r:List (List Int)) (w:World) (hr0:Kd.C (Kd.int .i64) w A0 l0.length l0) (hc0:l0.length<=c0) (h:gV.f k l0=some r):
 Calls Try.prog 67 #[.slice A0 l0.length c0] w fun e w'=>∃bC:Value,e= .returned (bC)/\Kd.S (Kd.slice 3 (Kd.int .i64)) 23 w' w.heap.size (fun _=>True) bC r/\Below w.heap.size w w':=by
 have dt:=Az hr0;have iX:=Az hc0;clear hr0 hc0;have HB:=bZ w;have H:=h;clear h;unfold gV.f at H;generalize Jt:(([]:List (List Int)):List (List Int))=y119 at H;replace Jt:=Ay Jt;replace H:=gE H;obtain⟨sL,uK,H⟩:=H;replace H:=gE H;obtain⟨lJ,tY,H⟩:=H;generalize Ju:(List.replicate ((l0.length:Int):Int).toNat false:List Bool)=y122 at H;replace Ju:=Ay Ju;have H':=Az H;clear H;go_enter Try.func67,Try.ntmps67
 go_wp2_with (first|((with_reducible refine gd 8 rfl ?_);refine Kd.Xt (Kd.slice 3 (Kd.int .i64)) _ 23 rfl (N:=8) rfl (xs:=([]:List (List Int))) (inner:=[]) (ok:=fun _=>True) (okp:=fun _=>True) hS ?hp (fun _ hk=>hk) trivial (Below.refl _ _) (Nat.le_refl _) (by simp) ?_;(case hp=>exact(Reps.none _ _));intro asg w4 jj hb hg_ hnew_;clear hg_ hnew_;(first|rw[<-Jt.out]at jj|(simp only[Int.reduceToNat]at jj;rw[<-Jt.out]at jj));have On:=Az (Kd.yG jj (aQ (bU0 HB.out)));replace HB:=Az (ay (bU0 HB.out) hb);clear hb jj)|((with_reducible refine gd 11 rfl ?_);refine Kd.sD Kd.bool _ 4 rfl (N:=11) rfl 93 _ _ rfl (l0.length:Int) rfl rfl Try.underlying93 (.bool false) 1 Yh rfl (by decide) (by omega) false (ok:=fun _=>True) (okp:=fun _=>True) rfl (fun _ hk=>hk) trivial (oA) (Nat.le_trans (Nat.mul_le_mul_right _ (oA:(l0.length:Int).toNat<=281474976710656)) (by omega)) (Below.refl _ _) (Nat.le_refl _) ?_;intro ZH w6 lc hb hg_ hnew_;clear hg_ hnew_;(first|rw[<-Ju.out]at lc|(simp only[Int.reduceToNat]at lc;rw[<-Ju.out]at lc));replace On:=sB On.out hb;have aid:=Az (Kd.a7 lc (aQ (bU0 HB.out)));replace HB:=Az (ay (bU0 HB.out) hb);clear hb lc))
 go_loopg [3,14] k (fun kq v3 v14 w'=>∃(bc:List (List Int)) (bF:List Bool) (uL:Int),v14= .int .i64 uL/\ae (gV.l0 kq l0 bc bF (l0.length:Int) uL=some r)/\ae (kq<=k)/\ae (Kd.S (Kd.slice 3 (Kd.int .i64)) 23 w' w.heap.size (fun _=>True) v3 bc)/\ae (Kd.R Kd.bool 4 w' w.heap.size (fun _=>True) ZH bF)/\ae (Below w.heap.size w w'))
 case atStart=>exact⟨(y119),(y122),(0),rS,H',⟨Nat.le_refl _⟩,⟨sU On.out⟩,⟨rU aid.out⟩,⟨bU0 HB.out⟩⟩
 case round=>
  clear H';obtain⟨bc,bF,uL,rfl,HA,eZ,aZ,b9,HB⟩:=hrel
  rcases gk with _|k1
  exact(nN HA.out).elim;have H:=HA.out;clear HA;simp only[gV.l0]at H
  by_cases c8:uL<(l0.length:Int)
  ·
   rw[if_pos c8]at H;have jS:=decide_eq_true c8;clear c8;generalize Jv:(([]:List Int):List Int)=y125 at H;replace Jv:=Ay Jv;have H':=Az H;clear H
   go_wp2_with (first|((with_reducible refine gd 17 rfl ?_);refine Kd.ji (Kd.int .i64) _ 3 rfl (N:=17) rfl (xs:=([]:List Int)) (inner:=[]) (ok:=fun _=>True) (okp:=fun _=>True) hS ?hp (fun _ hk=>hk) trivial (Below.refl _ _) (Nat.le_refl _) (by simp) ?_;(case hp=>exact(Reps.none _ _));intro ash w9 DG hb hg_ hnew_;clear hg_ hnew_;(first|rw[<-Jv.out]at DG|(simp only[Int.reduceToNat]at DG;rw[<-Jv.out]at DG));replace aZ:=Az (Kd.yC (sU aZ.out) (Kd.ax DG) hb);replace b9:=rB b9.out hb;have aie:=Az (Kd.a7 DG (aQ (bU0 HB.out)));replace HB:=Az (ay (bU0 HB.out) hb);clear hb DG))
   go_loopg [6,7] k1 (fun kq v6 v7 w'=>∃(fY:List Bool) (cm:List Int) (aN:Int),v7= .int .i64 aN/\ae (gV.l1 kq l0 bc fY cm aN (l0.length:Int) uL=some r)/\ae (kq<=k1)/\ae (Kd.S (Kd.slice 3 (Kd.int .i64)) 23 w' w.heap.size (fun k_=>oV k_ v6) u3 bc)/\ae (Kd.R Kd.bool 4 w' w.heap.size (fun _=>True) ZH fY)/\ae (Kd.R (Kd.int .i64) 3 w' w.heap.size (fun _=>True) v6 cm)/\ae (Below w.heap.size w w'))
   case atStart=>exact⟨(bF),(y125),(uL),rS,H',⟨Nat.le_refl _⟩,⟨by(with_reducible repeat (first|apply Kd.pE|apply Kd.pB|apply Kd.pF));exact Kd.oI aZ.out (fun _ hk=>hk.2)⟩,⟨rU b9.out⟩,⟨rU aie.out⟩,⟨bU0 HB.out⟩⟩
   case round=>
    clear H';obtain⟨fY,cm,aN,rfl,HA,eE,aZ,b9,aM,HB⟩:=hrel
    rcases gk with _|k2
    exact(nN HA.out).elim;have H:=HA.out;clear HA;simp only[gV.l1]at H;replace H:=gD2 H;obtain⟨rT,yW,H⟩:=H;obtain⟨ZI,Oo⟩:∃b_:Bool,b_=(gH false fY aN):=⟨_,rfl⟩
    replace H:(if ZI=true then(if(cm.length:Int)>0 then(if bc.length<5864062014805 then(gV.l0 k2 l0 (bc++[cm]) fY (l0.length:Int) (wrap64 (uL+1)))else(none))else(gV.l0 k2 l0 bc fY (l0.length:Int) (wrap64 (uL+1))))else(if cm.length<17592186044416 then(if aN<(l0.length:Int)then(gV.l1 k2 l0 bc (fY.set (aN:Int).toNat true) (cm++[aN]) (rd l0 aN) (l0.length:Int) uL)else(none))else(none)))=some r:=by rw[<-Oo]at H;exact H
    have Oq:=Az Oo;clear Oo
    by_cases c14:ZI=true
    ·
     subst c14;rw[if_pos rfl]at H
     by_cases c15:(cm.length:Int)>0
     ·
      rw[if_pos c15]at H;have AW:=decide_eq_true c15;have Ot:decide (0<cm.length)=true:=decide_eq_true (by omega);clear c15;replace H:=gP H;obtain⟨c16,H⟩:=H;have aif:=Az c16;clear c16;generalize Ou:(bc++[cm]:List (List Int))=y129 at H;replace Ou:=Ay Ou;have H':=Az H;clear H;obtain⟨bI,bG,vS⟩:=Kd.aH b9.out;subst vS;obtain⟨ZJ,e128,ZK,ZL,DI⟩:=aB (Kd.au b9.out).2.2 aN;rw[<-Oq.out]at DI
      cases e128;obtain⟨yX,sN,sO⟩:=Kd.aH aM.out;subst sO
      go_wp2_with (first|((with_reducible refine mf (b:=.append) (xs:=#[.tmp 38,.tmp 40]) rfl ?_);at_builtin;refine Kd.Yx (Kd.slice 3 (Kd.int .i64)) (w0:=w) w.heap.size rfl (.tmp 38) (.tmp 40) 82 23 (.slice none 0 0) 24 rfl Try.underlying82 VQ rfl (by decide) (by omega) u3 bc cm [.slice yX cm.length sN] (fun _=>True) (fun k_=>some k_=(.slice yX cm.length sN:Value).ownBlock) rfl rfl ?aP (fun k_ hk_=>((Kd.ah (ok':=fun k_=>((fun _=>True)) k_/\oV k_ u3) (Kd.Jf (aM.out) (Kd.CY aZ.out) (by decide)) (fun k_ hk=>⟨trivial,hk.2⟩))).1 k_ hk_.symm) ?aF ?aO ?aB ?aS ?aL ?_;(case aP=>exact Kd.YK (Kd.ah (Kd.yJ rfl (Kd.ah (ok':=fun k_=>((fun _=>True)) k_/\oV k_ u3) (Kd.Jf (aM.out) (Kd.CY aZ.out) (by decide)) (fun k_ hk=>⟨trivial,hk.2⟩))) (fun _ h_=>h_)));(case aB=>exact(bU0 HB.out));(case aF=>exact(fun _ _=>trivial));(case aO=>exact(by(with_reducible repeat (first|apply Kd.pE|apply Kd.pB|apply Kd.pF));exact Kd.oI aZ.out (fun k_ hk=>⟨trivial,fun e_=>hk e_⟩)));(case aS=>exact(aQ (bU0 HB.out)));(case aL=>have:=aif.out;omega);intro v130 Jw ho hb hg hat;rw[<-Ou.out]at ho;replace b9:=Az (Kd.AH (rU b9.out) (Kd.CY (sU aZ.out)) (by decide) hg);replace HB:=Az (hb);have aig:=Az (ho);clear aZ aM ho hb hg hat))
      go_roundg k2
      case measure=>exact mO
      case rel=>exact⟨(y129),(fY),(wrap64 (uL+1)),rS,H',⟨mO⟩,⟨sU aig.out⟩,⟨rU b9.out⟩,⟨bU0 HB.out⟩⟩
     ·
      rw[if_neg c15]at H;have AW:=decide_eq_false c15;have Ot:decide (0<cm.length)=false:=decide_eq_false (by omega);clear c15;have H':=Az H;clear H;obtain⟨FR,FS,DJ⟩:=Kd.aH b9.out;subst DJ;obtain⟨ZJ,e128,ZK,ZL,DI⟩:=aB (Kd.au b9.out).2.2 aN;rw[<-Oq.out]at DI
      cases e128;obtain⟨jk,gL,vT⟩:=Kd.aH aM.out;subst vT;go_wp2;go_roundg k2
      case measure=>exact mO
      case rel=>exact⟨(bc),(fY),(wrap64 (uL+1)),rS,H',⟨mO⟩,⟨sM aZ.out⟩,⟨rU b9.out⟩,⟨bU0 HB.out⟩⟩
    ·
     replace c14:=Bool.eq_false_iff.mpr c14;subst c14;rw[if_neg nT]at H;generalize Ov:(fY.set (aN:Int).toNat true:List Bool)=y132 at H;replace Ov:=Ay Ov;replace H:=gP H;obtain⟨c23,H⟩:=H;have aih:=Az c23;clear c23;generalize Ow:(cm++[aN]:List Int)=y133 at H;replace Ow:=Ay Ow;replace H:=gD1 H;obtain⟨DK,H⟩:=H;have H':=Az H;clear H;obtain⟨cP,cC,uM⟩:=Kd.aH b9.out;subst uM;obtain⟨ZJ,e128,ZK,ZL,DI⟩:=aB (Kd.au b9.out).2.2 aN;rw[<-Oq.out]at DI
     cases e128;have Ox:0<=(aN:Int):=oA;have q22:(aN:Int)<((fY.length:Int):Int):=oA;obtain⟨FT,tZ,xi,ZM,aii,asi,ZN⟩:=Kd.jQ b9.out (by omega);(first|cases xi|(injection xi with ea_ en_ ec_;(first|subst ea_|(injection ea_ with ea_;subst ea_));subst ec_;clear en_));have aij:=Az ZM;have asj:=Az ZN;clear ZM aii ZN;simp only[add_plain]at DI;obtain⟨asl,asm⟩:=Kd.dd false b9.out (aN:Int) Ox q22;replace Ox:=eq_true Ox;replace q22:=eq_true q22;obtain⟨asn,aso⟩:=Kd.dd false b9.out (aN:Int) (oA) (oA);have Oy:=Kd.jy b9.out (aN:Int) true
     go_wp2_with (first|((with_reducible refine gs 4 30 rfl ?_);refine sE 4 30 (wr.setCell ⟨FT,(aN:Int).toNat,none⟩ (.bool true)) ?_;intro nh hw;have hg:wr.grownBy nh (some FT):=(by rw[hw];exact Oy.2);have hp_:Kd.R Kd.bool 4 nh w.heap.size (fun _=>True) (.slice (some ⟨FT,0,none⟩) fY.length cC) y132:=(by rw[hw,Ov.out];exact Oy.1);clear Oy;replace aZ:=Az (Kd.Wg (v:=(.slice (some ⟨FT,0,none⟩) fY.length cC)) (sU aZ.out) (Kd.AV b9.out) (by decide) hg);replace aM:=Az (Kd.AH (v:=(.slice (some ⟨FT,0,none⟩) fY.length cC)) (rU aM.out) (Kd.AV b9.out) (by decide) hg);replace b9:=Az (hp_);replace HB:=Az ((by rw[hw];exact ap (HB.out) aij.out:Below w.heap.size w nh));clear hg hw hp_)|((with_reducible refine mf (b:=.append) (xs:=#[.tmp 31,.tmp 33]) rfl ?_);at_builtin;refine Kd.na (Kd.int .i64) (w0:=w) w.heap.size rfl (.tmp 31) (.tmp 33) 23 3 (.int .i64 0) 8 rfl Try.underlying23 dE rfl (by decide) (by omega) u6 cm aN [.int .i64 aN] (fun _=>True) (fun _=>False) rfl rfl ?aP (fun _ hk=>hk.elim) ?aF ?aO ?aB ?aS ?aL ?_;(case aP=>exact rfl);(case aB=>exact(bU0 HB.out));(case aF=>exact(fun _ _=>trivial));(case aO=>exact(rU aM.out));(case aS=>exact(aQ (bU0 HB.out)));(case aL=>have:=aih.out;omega);intro asp rV ho hb hg hat;rw[<-Ow.out]at ho;replace aZ:=Az (Kd.Jr (ok:=(fun _=>True)) (by(with_reducible repeat (first|apply Kd.pE|apply Kd.pB|apply Kd.pF));exact Kd.oI aZ.out (fun _ hk=>⟨trivial,hk⟩)) hg hat);replace b9:=Az (Kd.AH (rU b9.out) (Kd.AV (rU aM.out)) (by decide) hg);replace HB:=Az (hb);have aik:=Az (ho);clear aM ho hb hg hat;obtain⟨asq,ail,_,_,ZO⟩:=aI dt.out aN;cases ail;replace ZO:=hT HB.out ZO))
     go_roundg k2
     case measure=>exact mO
     case rel=>exact⟨(y132),(y133),(rd l0 aN),rS,H',⟨mO⟩,⟨by(with_reducible repeat (first|apply Kd.pE|apply Kd.pB|apply Kd.pF));exact Kd.oI aZ.out (fun _ hk=>hk.2)⟩,⟨rU b9.out⟩,⟨rU aik.out⟩,⟨bU0 HB.out⟩⟩
  ·rw[if_neg c8]at H;have jS:=decide_eq_false c8;clear c8;obtain rfl:=Option.some.inj H;go_wp2;go_ret;exact⟨_,rE,sU aZ.out,bU0 HB.out⟩
def iH.l0:Nat->List Int->List Int->List Int->Int->Int->Option (List Int)
 |0,_,_,_,_,_=>none
 |k+1,x1,x5,cu,fO,dK=>if dK<fO then(if 0<=dK then(if dK<(cu.length:Int)then(if 0<=(rd cu dK)then(if(rd cu dK)<(x1.length:Int)then(if dK<(x5.length:Int)then(iH.l0 k x1 (x5.set (dK:Int).toNat (rd x1 (rd cu dK))) cu fO (wrap64 (dK+1)))else(none))else(none))else(none))else(none))else(none))else(some x5)
def iH.f (k:Nat) (l0:List Int) (l1:List Int):Option (List Int):=if 0<=(l0.length:Int)then(if((l0.length:Int):Int).toNat<=35184372088832 then(iH.l0 k l1 (List.replicate ((l0.length:Int):Int).toNat 0) l0 (l0.length:Int) 0)else(none))else(none)
set_option maxHeartbeats 8000000 in
set_option maxRecDepth 100000 in
theorem iH.calls (k:Nat) (A0:Option Addr) (c0:Nat) (l0:List Int) (A1:Option Addr) (c1:Nat) (l1:List Int) (r:List Int) (w:World) (hr0:Kd.C (Kd.int .i64) w A0 l0.length l0) (hc0:l0.length<=c0) (hr1:Kd.C (Kd.int .i64) w A1 l1.length l1) (hc1:l1.length<=c1) (h:iH.f k l0 l1=some r):
 Calls Try.prog 68 #[.slice A0 l0.length c0,.slice A1 l1.length c1] w fun e w'=>∃bC:Value,e= .returned (bC)/\Kd.R (Kd.int .i64) 3 w' w.heap.size (fun _=>True) bC r/\Below w.heap.size w w':=by
 have dt:=Az hr0;have iX:=Az hc0;clear hr0 hc0;have HR1:=Az hr1;have ml:=Az hc1;clear hr1 hc1;have HB:=bZ w;have H:=h;clear h;unfold iH.f at H;replace H:=gE H;obtain⟨lJ,tY,H⟩:=H;replace H:=gE H;obtain⟨kL,DL,H⟩:=H;generalize Jx:(List.replicate ((l0.length:Int):Int).toNat 0:List Int)=y137 at H;replace Jx:=Ay Jx;have H':=Az H;clear H;go_enter Try.func68,Try.ntmps68
 go_wp2_with (first|((with_reducible refine gd 10 rfl ?_);refine Kd.sD (Kd.int .i64) _ 3 rfl (N:=10) rfl 23 _ _ rfl (l0.length:Int) rfl rfl Try.underlying23 (.int .i64 0) 8 dE rfl (by decide) (by omega) 0 (ok:=fun _=>True) (okp:=fun _=>True) rfl (fun _ hk=>hk) trivial (oA) (Nat.le_trans (Nat.mul_le_mul_right _ (oA:(l0.length:Int).toNat<=35184372088832)) (by omega)) (Below.refl _ _) (Nat.le_refl _) ?_;intro v138 w5 qk hb hg_ hnew_;clear hg_ hnew_;(first|rw[<-Jx.out]at qk|(simp only[Int.reduceToNat]at qk;rw[<-Jx.out]at qk));have aim:=Az (Kd.a7 qk (aQ (bU0 HB.out)));replace HB:=Az (ay (bU0 HB.out) hb);clear hb qk))
 go_loopg [13] k (fun kq v13 w'=>∃(bg:List Int) (je:Int),v13= .int .i64 je/\ae (iH.l0 kq l1 bg l0 (l0.length:Int) je=some r)/\ae (kq<=k)/\ae (Kd.R (Kd.int .i64) 3 w' w.heap.size (fun _=>True) v138 bg)/\ae (Below w.heap.size w w'))
 case atStart=>exact⟨(y137),(0),rS,H',⟨Nat.le_refl _⟩,⟨rU aim.out⟩,⟨bU0 HB.out⟩⟩
 case round=>
  clear H';obtain⟨bg,je,rfl,HA,eZ,aG,HB⟩:=hrel
  rcases gk with _|k1
  exact(nN HA.out).elim;have H:=HA.out;clear HA;simp only[iH.l0]at H
  replace H:=gB H;rcases H with⟨jl,H⟩|⟨jl,H⟩
  ·
   replace H:=gD5 H;obtain⟨jS,mK,ni,rT,yW,H⟩:=H;generalize Oz:(bg.set (je:Int).toNat (rd l1 (rd l0 je)):List Int)=y142 at H;replace Oz:=Ay Oz;have H':=Az H;clear H;obtain⟨asr,ain,_,_,ZP⟩:=aI dt.out je
   cases ain
   replace ZP:=hT HB.out ZP;obtain⟨ass,aio,_,_,ZQ⟩:=aI HR1.out (rd l0 je)
   cases aio
   replace ZQ:=hT HB.out ZQ;have AX:0<=(je:Int):=oA;have AY:(je:Int)<((bg.length:Int):Int):=oA;obtain⟨AZ,iJ,nj,FU,OA,aip,FV⟩:=Kd.jQ aG.out (by omega);(first|cases nj|(injection nj with ea_ en_ ec_;(first|subst ea_|(injection ea_ with ea_;subst ea_));subst ec_;clear en_));have OB:=Az FU;have aiq:=Az FV;clear FU OA FV;obtain⟨air,ais⟩:=Kd.dd 0 aG.out (je:Int) AX AY;replace AX:=eq_true AX;replace AY:=eq_true AY;obtain⟨ait,aiu⟩:=Kd.dd 0 aG.out (je:Int) (oA) (oA);have Ba:=Kd.jy aG.out (je:Int) (rd l1 (rd l0 je))
   go_wp2_with (first|((with_reducible refine gs 3 24 rfl ?_);refine sE 3 24 (wr.setCell ⟨AZ,(je:Int).toNat,none⟩ (.int .i64 (rd l1 (rd l0 je)))) ?_;intro pK hw;have hg:wr.grownBy pK (some AZ):=(by rw[hw];exact Ba.2);have hp_:Kd.R (Kd.int .i64) 3 pK w.heap.size (fun _=>True) (.slice (some ⟨AZ,0,none⟩) bg.length iJ) y142:=(by rw[hw,Oz.out];exact Ba.1);clear Ba;replace aG:=Az (hp_);replace HB:=Az ((by rw[hw];exact ap (HB.out) OB.out:Below w.heap.size w pK));clear hg hw hp_))
   go_roundg k1
   case measure=>exact mO
   case rel=>exact⟨(y142),(wrap64 (je+1)),rS,H',⟨mO⟩,⟨rU aG.out⟩,⟨bU0 HB.out⟩⟩
  ·obtain rfl:=Option.some.inj H;go_wp2;go_ret;exact⟨_,rE,rU aG.out,bU0 HB.out⟩
def qK.f (k:Nat) (af:List Int) (ag:List Int):Option (Int):=(gV.f k af).bind fun OC=>((iH.f k ag af).bind fun FW=>((gV.f k FW).bind fun OD=>(some (wrap64 (Int.tdiv (wrap64 ((wrap64 ((wrap64 (2-(OC.length:Int)))+(wrap64 ((ag.length:Int)/2))))-(OD.length:Int))) 2)))))
def qK.T1:Bool×List (List Nat×List Nat):=(true,[([],[]),([0],[0]),([1],[1]),([2],[2]),([3],[3]),([],[]),([5],[5]),([6],[6]),([7],[7]),([4,8],[4,8]),([],[]),([10],[10]),([],[]),([12],[12]),([11,13,2],[11,13]),([14,14],[14]),([15],[15]),([9,16],[9,16]),([17],[17]),([18,15,0,1,2,3,4,5,6,7,8,9,10,11,12,13,14,15,16,17,18],[18])])
def qK.B1:List Nat:=[0,1,3,7,15,0,32,96,224,511,0,1024,0,4096,15367,31751,64519,131071,262143,524287]
theorem qK.M5:rtab .any (opsOf Try.f87 1)=qK.T1:=by kernel_rfl
theorem qK.N3:gG qK.T1.2 qK.B1=true:=by kernel_rfl
set_option maxHeartbeats 8000000 in
set_option maxRecDepth 100000 in
theorem qK.calls (k:Nat) (aA:Option Addr) (az:Nat) (af:List Int) (ak:Option Addr) (aj:Nat) (ag:List Int) (r:Int) (w:World) (dF:Kd.C (Kd.int .i64) w aA af.length af) (dL:af.length<=az) (de:Kd.C (Kd.int .i64) w ak ag.length ag) (dk:ag.length<=aj) (h:qK.f k af ag=some r):
 Calls Try.prog 87 #[.agg #[.slice aA af.length az,.slice ak ag.length aj]] w fun e w'=>e= .returned (.int .i64 r)/\Below w.heap.size w w':=by
 have jT:=Try.underlying29;have ck:=Az dF;have cv:=Az dL;clear dF dL;have bP:=Az de;have cx:=Az dk;clear de dk;have HB:=bZ w;have H:=h;clear h;unfold qK.f at H;replace H:=bd H;obtain⟨OC,A2,H⟩:=H;replace H:=bd H;obtain⟨FW,A3,H⟩:=H;replace H:=bd H;obtain⟨OD,A4,H⟩:=H;obtain rfl:=Option.some.inj H;go_enter Try.func87,Try.ntmps87
 try go_wp2_with (first|((with_reducible refine gd 1 rfl ?_);refine bE 1 #[.slice aA af.length az,.slice ak ag.length aj] 29 ?_;intro ZR hg w5 hbox hb;have pL:=Az (hbox);have Bb:=gW hg (bU0 HB.out);replace HB:=Az (ay (bU0 HB.out) hb);clear hb hbox hg))
 replace pL:=Az (ce pL.out);replace HB:=Az (a8 HB.out);refine eX (n:=20) (S:=fun w'=>w'.cell? ⟨ZR,0,none⟩=some (.slice aA af.length az)/\w'.cell? ⟨ZR,1,none⟩=some (.slice ak ag.length aj)) (ds:=[]) (bv 20 0) (by kernel_rfl) rfl rfl ⟨(ai pL.out 0).trans rfl,(ai pL.out 1).trans rfl⟩ (fun hHeld=>?_);refine fL qK.M5 qK.N3 (fun HT_ HW_=>?_);generalize w5.drew=w6 at pL HB hHeld ⊢;refine av (i:=0) (N:=some 3) (v:=?_) (a':=?_) (bv 20 1) rfl rfl (ao HT_.out (by kernel_rfl)) (fun _ _ _ h=>h) (Or.inl ⟨by rfl,?_⟩) ?_ ?_;rotate_left;(exact yP);rotate_left;(exact aP);refine av (i:=5) (N:=some 8) (v:=?_) (a':=?_) (bv 20 33) rfl rfl (ao HT_.out (by kernel_rfl)) (fun _ _ _ h=>h) (Or.inl ⟨by rfl,?_⟩) ?_ ?_;rotate_left;(exact yP);rotate_left;(exact aP);refine av (i:=10) (N:=some 13) (v:=?_) (a':=?_) (bv 20 1057) rfl rfl (ao HT_.out (by kernel_rfl)) (fun _ _ _ h=>h) (Or.inl ⟨by rfl,?_⟩) ?_ ?_;rotate_left;(exact yP);rotate_left;(exact aP);refine av (i:=12) (N:=some 15) (v:=?_) (a':=?_) (bv 20 5153) rfl rfl (ao HT_.out (by kernel_rfl)) (fun _ _ _ h=>h) (Or.inl ⟨by rfl,?_⟩) ?_ ?_;rotate_left;(exact yP);rotate_left;(exact aP);refine bS (i:=1) (N:=some 4) (v:=?_) (a':=?_) (bv 20 5155) rfl rfl (bW HT_.out HW_.out (by kernel_rfl)) (fun _ _ _ h=>h) (Or.inl ⟨by rfl,?_⟩) hHeld ?_ ?_;rotate_left
 ·
  rintro w' ⟨s0,s1⟩;go_simp
  with_reducible rfl
 rotate_left;(exact aP);refine bS (i:=6) (N:=some 9) (v:=?_) (a':=?_) (bv 20 5219) rfl rfl (bW HT_.out HW_.out (by kernel_rfl)) (fun _ _ _ h=>h) (Or.inl ⟨by rfl,?_⟩) hHeld ?_ ?_;rotate_left
 ·
  rintro w' ⟨s0,s1⟩;go_simp
  with_reducible rfl
 rotate_left;(exact aP);refine av (i:=7) (N:=some 10) (v:=?_) (a':=?_) (bv 20 5347) rfl rfl (ao HT_.out (by kernel_rfl)) (fun _ _ _ h=>h) (Or.inl ⟨by rfl,?_⟩) ?_ ?_;rotate_left;(exact yP);rotate_left;(exact aP);refine av (i:=8) (N:=some 11) (v:=?_) (a':=?_) (bv 20 5603) rfl rfl (ao HT_.out (by kernel_rfl)) (fun _ _ _ h=>h) (Or.inl ⟨by rfl,?_⟩) ?_ ?_;rotate_left;(exact yP);rotate_left;(exact aP);refine bS (i:=11) (N:=some 14) (v:=?_) (a':=?_) (bv 20 7651) rfl rfl (bW HT_.out HW_.out (by kernel_rfl)) (fun _ _ _ h=>h) (Or.inl ⟨by rfl,?_⟩) hHeld ?_ ?_;rotate_left
 ·
  rintro w' ⟨s0,s1⟩;go_simp
  with_reducible rfl
 rotate_left;(exact aP);refine bS (i:=13) (N:=some 16) (v:=?_) (a':=?_) (bv 20 15843) rfl rfl (bW HT_.out HW_.out (by kernel_rfl)) (fun _ _ _ h=>h) (Or.inl ⟨by rfl,?_⟩) hHeld ?_ ?_;rotate_left
 ·
  rintro w' ⟨s0,s1⟩;go_simp
  with_reducible rfl
 rotate_left;(exact aP);refine dm (i:=2) (N:=some 5) (bv 20 15847) rfl rfl (cJ HT_.out (by kernel_rfl)) (by decide) (fun K hK=>?_);refine eQ Try.func67 (by kernel_rfl) rfl #[.slice aA af.length az] (by rfl) rfl rfl lQ ?_
 with_reducible refine(gV.calls k _ _ af OC _ ?side1 ?side2 A2.out).mono ?_
 (case side1=>exact cU (Kd.bn ck.out HB.out))
 (case side2=>exact cv.out)
 rintro e w7 ⟨v145,rfl,ho0,hb⟩;refine⟨_,rfl,?_⟩;have DN:=Az (Kd.yG ho0 (aQ (bU1 HB.out Bb.out)));replace pL:=kB pL.out hb;replace HB:=Az (ay (bU1 HB.out Bb.out) hb);clear hb ho0;obtain⟨DO,Bc,vV⟩:=Kd.yN DN.out;(first|subst vV|(injection vV with al aT am;have aU:=al.symm;have aV:=am.symm;clear al aT am;subst aU;subst aV));refine hK.out _ _ ⟨(ai pL.out 0).trans rfl,(ai pL.out 1).trans rfl⟩ (fun hHeld=>?_);clear hK K;refine aX (a':=?_) ?_ ?_;rotate_left
 ·
  show Act.put _ (some 5) _=_
  simp only[Act.put,List.setIfInBounds_toArray,List.set_cons_zero,List.set_cons_succ,bo,bD];rfl
 refine av (i:=3) (N:=some 6) (v:=?_) (a':=?_) (bv 20 15855) rfl rfl (ao HT_.out (by kernel_rfl)) (fun _ _ _ h=>h) (Or.inl ⟨by rfl,?_⟩) ?_ ?_;rotate_left;(exact yP);rotate_left;(exact aP);refine av (i:=4) (N:=some 7) (v:=?_) (a':=?_) (bv 20 15871) rfl rfl (ao HT_.out (by kernel_rfl)) (fun _ _ _ h=>h) (Or.inl ⟨by rfl,?_⟩) ?_ ?_;rotate_left;(exact yP);rotate_left;(exact aP);refine av (i:=9) (N:=some 12) (v:=?_) (a':=?_) (bv 20 16383) rfl rfl (ao HT_.out (by kernel_rfl)) (fun _ _ _ h=>h) (Or.inl ⟨by rfl,?_⟩) ?_ ?_;rotate_left;(exact yP);rotate_left;(exact aP);refine dm (i:=14) (N:=some 17) (bv 20 32767) rfl rfl (cJ HT_.out (by kernel_rfl)) (by decide) (fun K hK=>?_);refine eQ Try.func68 (by kernel_rfl) rfl #[.slice ak ag.length aj,.slice aA af.length az] (by rfl) rfl rfl lQ ?_
 with_reducible refine(iH.calls k _ _ ag _ _ af FW _ ?side1 ?side2 ?side3 ?side4 A3.out).mono ?_
 (case side1=>exact cU (Kd.bn bP.out HB.out))
 (case side2=>exact cx.out)
 (case side3=>exact cU (Kd.bn ck.out HB.out))
 (case side4=>exact cv.out)
 rintro e w9 ⟨v148,rfl,ho0,hb⟩;refine⟨_,rfl,?_⟩;replace DN:=Az (Kd.yC (sU DN.out) (Kd.ax ho0) hb);have DR:=Az (Kd.a7 ho0 (aQ (bU1 HB.out Bb.out)));replace pL:=kB pL.out hb;replace HB:=Az (ay (bU1 HB.out Bb.out) hb);clear hb ho0;obtain⟨aiv,Jy,yY⟩:=Kd.aH DR.out;(first|subst yY|(injection yY with al aT am;have aU:=al.symm;have aV:=am.symm;clear al aT am;subst aU;subst aV));refine hK.out _ _ ⟨(ai pL.out 0).trans rfl,(ai pL.out 1).trans rfl⟩ (fun hHeld=>?_);clear hK K;refine aX (a':=?_) ?_ ?_;rotate_left
 ·
  show Act.put _ (some 17) _=_
  simp only[Act.put,List.setIfInBounds_toArray,List.set_cons_zero,List.set_cons_succ,bo,bD];rfl
 refine dm (i:=15) (N:=some 18) (bv 20 65535) rfl rfl (cJ HT_.out (by kernel_rfl)) (by decide) (fun K hK=>?_);refine eQ Try.func67 (by kernel_rfl) rfl #[.slice aiv FW.length Jy] (by rfl) rfl rfl lQ ?_
 with_reducible refine(gV.calls k _ _ FW OD _ ?side1 ?side2 A4.out).mono ?_
 (case side1=>exact cU ((Kd.au DR.out).2.2))
 (case side2=>exact(Kd.au DR.out).2.1)
 rintro e lg ⟨ast,rfl,ho0,hb⟩;refine⟨_,rfl,?_⟩;have aiw:=Az (Kd.yG (Kd.Du (Kd.Du ho0 (Kd.Xb (sU DN.out))) (Kd.ar (rU DR.out))) (aQ (bU1 HB.out Bb.out)));replace DN:=Az (Kd.yC (sU DN.out) (Kd.Od ho0) hb);replace DR:=rB DR.out hb;replace pL:=kB pL.out hb;replace HB:=Az (ay (bU1 HB.out Bb.out) hb);clear hb ho0;obtain⟨ql,pM,qm⟩:=Kd.yN aiw.out;(first|subst qm|(injection qm with al aT am;have aU:=al.symm;have aV:=am.symm;clear al aT am;subst aU;subst aV));refine hK.out _ _ ⟨(ai pL.out 0).trans rfl,(ai pL.out 1).trans rfl⟩ (fun hHeld=>?_);clear hK K;refine aX (a':=?_) ?_ ?_;rotate_left
 ·
  show Act.put _ (some 18) _=_
  simp only[Act.put,List.setIfInBounds_toArray,List.set_cons_zero,List.set_cons_succ,bo,bD];rfl
 refine av (i:=16) (N:=some 19) (v:=?_) (a':=?_) (bv 20 131071) rfl rfl (ao HT_.out (by kernel_rfl)) (fun _ _ _ h=>h) (Or.inl ⟨by rfl,?_⟩) ?_ ?_;rotate_left;(exact yP);rotate_left;(exact aP);refine av (i:=17) (N:=some 20) (v:=?_) (a':=?_) (bv 20 262143) rfl rfl (ao HT_.out (by kernel_rfl)) (fun _ _ _ h=>h) (Or.inl ⟨by rfl,?_⟩) ?_ ?_;rotate_left;(exact yP);rotate_left;(exact aP);refine av (i:=18) (N:=some 21) (v:=?_) (a':=?_) (bv 20 524287) rfl rfl (ao HT_.out (by kernel_rfl)) (fun _ _ _ h=>h) (Or.inl ⟨by rfl,?_⟩) ?_ ?_;rotate_left;(exact yP);rotate_left;(exact aP);refine av (i:=19) (N:=some 2) (v:=?_) (a':=?_) (bv 20 1048575) rfl rfl (ao HT_.out (by kernel_rfl)) (fun _ _ _ h=>h) (Or.inl ⟨by rfl,?_⟩) ?_ ?_;rotate_left;(exact yP);rotate_left;(exact aP);refine eY (fN HT_.out (by kernel_rfl)) ?_
 try go_wp2
 go_ret;exact⟨rE,bU1 HB.out Bb.out⟩
def kK.l0:Nat->List Int->List Bool->Int->Option Bool
 |0,_,_,_=>none
 |k+1,l,s,i=>if i<(l.length:Int)then(if 0<=i then(if rd l i<0 then(some false)else(if rd l i>=(l.length:Int)then(some false)else(if s.getD (rd l i).toNat false=true then(some false)else(kK.l0 k l (s.set (rd l i).toNat true) (wrap64 (i+1))))))else none)else(some true)
def kK.f (k:Nat) (l0:List Int):Option Bool:=if(l0.length:Int)<1 then(some false)else(if(l0.length:Int)>12 then(some false)else(kK.l0 k l0 (List.replicate 12 false) 0))
set_option maxHeartbeats 8000000 in
set_option maxRecDepth 100000 in
theorem kK.calls (k:Nat) (A0:Option Addr) (c0:Nat) (l0:List Int) (r:Bool) (w:World) (hr0:Kd.C (Kd.int .i64) w A0 l0.length l0) (hc0:l0.length<=c0) (h:kK.f k l0=some r):
 Calls Try.prog 105 #[.slice A0 l0.length c0] w fun e w'=>e= .returned (.bool r)/\Below w.heap.size w w':=by
 have dt:=Az hr0;have iX:=Az hc0;clear hr0 hc0;have HB:=bZ w;have H:=h;clear h;unfold kK.f at H
 replace H:=gB H;rcases H with⟨lJ,H⟩|⟨lJ,H⟩
 ·obtain rfl:=Option.some.inj H;go_enter Try.func105,Try.ntmps105;go_wp2;go_ret;exact⟨rfl,bm HB.out _⟩
 ·
  by_cases c4:(l0.length:Int)>12
  ·rw[if_pos c4]at H;have kL:=decide_eq_true c4;clear c4;obtain rfl:=Option.some.inj H;go_enter Try.func105,Try.ntmps105;go_wp2;go_ret;exact⟨rfl,bm HB.out _⟩
  ·
   rw[if_neg c4]at H;have kL:=decide_eq_false c4
   have c4p:(l0.length:Int)<=12:=by omega
   clear c4;have H':=Az H;clear H;go_enter Try.func105,Try.ntmps105;go_wp2
   go_loopg [17] k (fun kq v17 w'=>∃(s:List Bool) (i:Int),v17= .int .i64 i/\ae (kK.l0 kq l0 s i=some r)/\ae (kq<=k)/\ae (s.length=12)/\ae (w'.heap[w.heap.size]?=some (.cells (s.map Value.bool).toArray 110 (0,0)))/\ae (Below w.heap.size w w'))
   case atStart=>exact⟨List.replicate 12 false,0,rfl,H',⟨Nat.le_refl _⟩,⟨rfl⟩,⟨by simpa using heap_alloc_new w _⟩,⟨bm HB.out _⟩⟩
   case round=>
    clear H';obtain⟨s,i,rfl,HA,eZ,HL,BK,HB⟩:=hrel
    rcases gk with _|k1
    exact(nN HA.out).elim;have H:=HA.out;clear HA;simp only[kK.l0]at H
    by_cases c5:i<(l0.length:Int)
    ·
     rw[if_pos c5]at H;have qZ:=decide_eq_true c5;replace H:=gP H;obtain⟨c6,H⟩:=H;have kk:=decide_eq_true c6;obtain⟨ad,e,hx⟩:=Kd.pH dt.out i c6 c5
     cases e
     replace hx:=(HB.out.cell (World.block_lt_of_cell? w _ hx)).trans hx;replace c6:=eq_true c6;replace c5:=eq_true c5
     by_cases c7:rd l0 i<0
     ·rw[if_pos c7]at H;have jl:=decide_eq_true c7;clear c7;obtain rfl:=Option.some.inj H;go_wp2;go_ret;exact⟨rfl,HB.out⟩
     ·
      rw[if_neg c7]at H;have jl:=decide_eq_false c7
      have c7p:0<=rd l0 i:=by omega
      clear c7
      by_cases c8:rd l0 i>=(l0.length:Int)
      ·rw[if_pos c8]at H;have jS:=decide_eq_true c8;clear c8;obtain rfl:=Option.some.inj H;go_wp2;go_ret;exact⟨rfl,HB.out⟩
      ·
       rw[if_neg c8]at H;have jS:=decide_eq_false c8
       have c8p:rd l0 i<12:=by omega
       clear c8;have hcs:wr.cell? ⟨w.heap.size,(rd l0 i).toNat,none⟩=some (.bool (s.getD (rd l0 i).toNat false)):=(ai BK.out _).trans (by have hl:=HL.out;simp[List.getD_eq_getElem?_getD];rw[List.getElem?_eq_getElem (by omega)];rfl);have hfs:=gJ BK.out (rd l0 i).toNat;generalize hb:s.getD (rd l0 i).toNat false=b at H hcs
       cases b with
       |true=>
        rw[if_pos rfl]at H;obtain rfl:=Option.some.inj H;clear hb;go_wp2;go_ret;exact⟨rfl,HB.out⟩
       |false=>
        rw[if_neg (by decide)]at H;have H':=Az H;clear H hb;go_wp2;go_roundg k1
        case measure=>exact mO
        case rel=>exact⟨s.set (rd l0 i).toNat true,wrap64 (i+1),rS,H',⟨mO⟩,⟨by rw[List.length_set];exact HL.out⟩,⟨by simpa using I4 BK.out (rd l0 i).toNat (.bool true)⟩,⟨ap HB.out (Nat.le_refl _)⟩⟩
    ·rw[if_neg c5]at H;have qZ:=decide_eq_false c5;clear c5;obtain rfl:=Option.some.inj H;go_wp2;go_ret;exact⟨rfl,HB.out⟩
def qj.l0:Nat->List Int->Int->Int->Option (Int)
 |0,_,_,_=>none
 |k+1,x0,x3,x4=>if x4<(x0.length:Int)then(if 0<=x4 then(qj.l0 k x0 (mx x3 (rd x0 x4)) (wrap64 (x4+1)))else(none))else(some x3)
def qj.f (k:Nat) (l0:List Int):Option (Int):=if(l0.length:Int)<1 then(none)else(if 0<(l0.length:Int)then(qj.l0 k l0 (rd l0 0) 1)else(none))
set_option maxHeartbeats 8000000 in
set_option maxRecDepth 100000 in
theorem qj.calls (k:Nat) (A0:Option Addr) (c0:Nat) (l0:List Int) (r:Int) (w:World) (hr0:Kd.C (Kd.int .i64) w A0 l0.length l0) (hc0:l0.length<=c0) (h:qj.f k l0=some r):
 Calls Try.prog 106 #[.slice A0 l0.length c0] w fun e w'=>e= .returned (.int .i64 r)/\Below w.heap.size w w':=by
 have dt:=Az hr0;have iX:=Az hc0;clear hr0 hc0;have HB:=bZ w;have H:=h;clear h;unfold qj.f at H
 by_cases c2:(l0.length:Int)<1
 ·rw[if_pos c2]at H;exact absurd H (by simp)
 ·
  rw[if_neg c2]at H;have sL:=decide_eq_false c2;have uK:decide (l0.length<1)=false:=decide_eq_false (by omega);clear c2;replace H:=gP H;obtain⟨c3,H⟩:=H;have lJ:=decide_eq_true c3;have tY:decide (0<l0.length)=true:=decide_eq_true (by omega);clear c3;have H':=Az H;clear H;have OE:0<=(0:Int):=(by omega);have OG:0<(l0.length:Int):=oA;obtain⟨asx,e153,ZS⟩:=Kd.pH dt.out 0 OE OG
  cases e153
  have asy:(0<l0.length)=True:=eq_true (by omega);rw[show((0:Int)).toNat=0 from rfl]at ZS;rw[Addr.add_zero']at ZS;replace OE:=eq_true OE;replace OG:=eq_true OG;go_enter Try.func106,Try.ntmps106;go_wp2
  go_loopg [3,4] k (fun kq v3 v4 w'=>∃(bc:Int) (bF:Int),v3= .int .i64 bc/\v4= .int .i64 bF/\ae (qj.l0 kq l0 bc bF=some r)/\ae (kq<=k)/\ae (Below w.heap.size w w'))
  case atStart=>exact⟨(rd l0 0),(1),rS,rS,H',⟨Nat.le_refl _⟩,⟨bU0 HB.out⟩⟩
  case round=>
   clear H';obtain⟨bc,bF,rfl,rfl,HA,eZ,HB⟩:=hrel
   rcases gk with _|k1
   exact(nN HA.out).elim;have H:=HA.out;clear HA;simp only[qj.l0]at H
   replace H:=gB H;rcases H with⟨kL,H⟩|⟨kL,H⟩
   ·
    replace H:=gD1 H;obtain⟨qZ,H⟩:=H;obtain⟨nk,t6⟩:∃j_:Int,(mx bc (rd l0 bF))=j_:=⟨_,rfl⟩;(first|rw[t6]at H|simp only[t6]at H);have asz:(if bc<(rd l0 bF)then(rd l0 bF)else bc)=nk:=t6;have H':=Az H;clear H;obtain⟨_,_,ZT⟩:=aJ dt.out bF;replace ZT:=hT HB.out ZT;go_wp2;go_roundg k1
    case measure=>exact mO
    case rel=>exact⟨(nk),(wrap64 (bF+1)),(by first|rfl|(simp;done)|(simp only[<-t6]<;>(first|rfl|simp))|(simp[*];done)),rS,H',⟨mO⟩,⟨bU0 HB.out⟩⟩
   ·obtain rfl:=Option.some.inj H;go_wp2;go_ret;exact⟨rE,bU0 HB.out⟩
def qP.l0:Nat->List Int->Int->Int->Option (List Int)
 |0,_,_,_=>none
 |k+1,x3,x8,x9=>if x9<x8 then(if 0<=x9 then(if x9<(x3.length:Int)then(qP.l0 k (x3.set (x9:Int).toNat x9) x8 (wrap64 (x9+1)))else(none))else(none))else(some x3)
def qP.f (k:Nat) (a0:Int):Option (List Int):=if 0<=a0 then(if(a0:Int).toNat<=35184372088832 then((some (List.replicate (a0:Int).toNat 0:List Int)).bind fun Bd=>(qP.l0 k Bd (Bd.length:Int) 0))else(none))else(none)
set_option maxHeartbeats 8000000 in
set_option maxRecDepth 100000 in
theorem qP.calls (k:Nat) (a0:Int) (r:List Int) (w:World) (h:qP.f k a0=some r):
 Calls Try.prog 122 #[.int .i64 a0] w fun e w'=>∃bC:Value,e= .returned (bC)/\Kd.R (Kd.int .i64) 3 w' w.heap.size (fun _=>True) bC r/\Below w.heap.size w w':=by
 have HB:=bZ w;have H:=h;clear h;unfold qP.f at H;replace H:=gE H;obtain⟨sL,uK,H⟩:=H;replace H:=gE H;obtain⟨lJ,tY,H⟩:=H;generalize Jz:(List.replicate (a0:Int).toNat 0:List Int)=Bd at H;simp only[Option.bind_some]at H;replace Jz:=Ay Jz;have H':=Az H;clear H;go_enter Try.func122,Try.ntmps122
 go_wp2_with (first|((with_reducible refine gd 6 rfl ?_);refine Kd.sD (Kd.int .i64) _ 3 rfl (N:=6) rfl 23 _ _ rfl a0 rfl rfl Try.underlying23 (.int .i64 0) 8 dE rfl (by decide) (by omega) 0 (ok:=fun _=>True) (okp:=fun _=>True) rfl (fun _ hk=>hk) trivial (oA) (Nat.le_trans (Nat.mul_le_mul_right _ (oA:a0.toNat<=35184372088832)) (by omega)) (Below.refl _ _) (Nat.le_refl _) ?_;intro asA w4 jj hb hg_ hnew_;clear hg_ hnew_;(first|rw[<-Jz.out]at jj|(simp only[Int.reduceToNat]at jj;rw[<-Jz.out]at jj));have ZU:=Az (Kd.a7 jj (aQ (bU0 HB.out)));replace HB:=Az (ay (bU0 HB.out) hb);clear hb jj;obtain⟨OH,FX,OI⟩:=Kd.aH ZU.out;subst OI))
 go_loopg [9] k (fun kq v9 w'=>∃(bc:List Int) (e6:Int),v9= .int .i64 e6/\ae (qP.l0 kq bc (Bd.length:Int) e6=some r)/\ae (kq<=k)/\ae (Kd.R (Kd.int .i64) 3 w' w.heap.size (fun _=>True) (.slice OH Bd.length FX) bc)/\ae (Below w.heap.size w w'))
 case atStart=>exact⟨(Bd),(0),rS,H',⟨Nat.le_refl _⟩,⟨rU ZU.out⟩,⟨bU0 HB.out⟩⟩
 case round=>
  clear H';obtain⟨bc,e6,rfl,HA,eZ,aZ,HB⟩:=hrel;have DT:=(Kd.au aZ.out).1;rw[DT]at aZ;simp only[DT]
  rcases gk with _|k1
  exact(nN HA.out).elim;have H:=HA.out;clear HA;simp only[qP.l0]at H
  by_cases c7:e6<(Bd.length:Int)
  ·
   rw[if_pos c7]at H;have jl:=decide_eq_true c7;(have OJ:=jl;rw[DT]at OJ);clear c7;replace H:=gD1 H;obtain⟨jS,H⟩:=H;replace H:=gP H;obtain⟨c9,H⟩:=H;have mK:=decide_eq_true c9;clear c9;generalize OK:(bc.set (e6:Int).toNat e6:List Int)=y158 at H;replace OK:=Ay OK;have H':=Az H;clear H;have xj:0<=(e6:Int):=oA;have Be:(e6:Int)<((bc.length:Int):Int):=oA;obtain⟨Bf,Jy,yY,FY,OL,aix,FZ⟩:=Kd.jQ aZ.out (by omega);(first|cases yY|(injection yY with ea_ en_ ec_;(first|subst ea_|(injection ea_ with ea_;subst ea_));subst ec_;clear en_));have OM:=Az FY;have aiy:=Az FZ;clear FY OL FZ;obtain⟨aiz,aiA⟩:=Kd.dd 0 aZ.out (e6:Int) xj Be;replace xj:=eq_true xj;replace Be:=eq_true Be;obtain⟨aiB,aiC⟩:=Kd.dd 0 aZ.out (e6:Int) (oA) (oA);have uN:=Kd.jy aZ.out (e6:Int) e6
   go_wp2_with (first|((with_reducible refine gs 3 15 rfl ?_);refine sE 3 15 (wr.setCell ⟨Bf,(e6:Int).toNat,none⟩ (.int .i64 e6)) ?_;intro nJ hw;have hg:wr.grownBy nJ (some Bf):=(by rw[hw];exact uN.2);have hp_:Kd.R (Kd.int .i64) 3 nJ w.heap.size (fun _=>True) (.slice (some ⟨Bf,0,none⟩) bc.length FX) y158:=(by rw[hw,OK.out];exact uN.1);clear uN;replace aZ:=Az (hp_);replace HB:=Az ((by rw[hw];exact ap (HB.out) OM.out:Below w.heap.size w nJ));clear hg hw hp_))
   simp only[<-DT];go_roundg k1
   case measure=>exact mO
   case rel=>exact⟨(y158),(wrap64 (e6+1)),rS,H',⟨mO⟩,⟨by simp only[DT];refine rA ?_;exact aZ.out⟩,⟨bU0 HB.out⟩⟩
  ·rw[if_neg c7]at H;have jl:=decide_eq_false c7;(have OJ:=jl;rw[DT]at OJ);clear c7;obtain rfl:=Option.some.inj H;go_wp2;go_ret;exact⟨_,rE,rU aZ.out,bU0 HB.out⟩
mutual
def fX.l0:Nat->List (List Int)->List Int->Bool->Option (List Int)
 |0,_,_,_=>none
 |k+1,x0,x3,x4=>if x4=true then(fX.l1 k x0 x3 false x0 (x0.length:Int) 0)else(some x3)
def fX.l1:Nat->List (List Int)->List Int->Bool->List (List Int)->Int->Int->Option (List Int)
 |0,_,_,_,_,_,_=>none
 |k+1,x0,x3,x4,lh,mL,x18=>if x18<mL then(if 0<=x18 then(if x18<(lh.length:Int)then(fX.l2 k x0 x3 x4 lh mL x18 (d7 lh x18) ((d7 lh x18).length:Int) 0)else(none))else(none))else(fX.l0 k x0 x3 x4)
def fX.l2:Nat->List (List Int)->List Int->Bool->List (List Int)->Int->Int->List Int->Int->Int->Option (List Int)
 |0,_,_,_,_,_,_,_,_,_=>none
 |k+1,x0,x3,x4,lh,mL,x18,nK,DU,x24=>if x24<DU then(if 0<=x24 then(if x24<(nK.length:Int)then(if x24<(x3.length:Int)then(if 0<=(rd nK x24)then(if(rd nK x24)<(x3.length:Int)then(if(rd x3 x24)=(mn (rd x3 x24) (rd x3 (rd nK x24)))then(if(rd x3 (rd nK x24))=(mn (rd x3 x24) (rd x3 (rd nK x24)))then(fX.l2 k x0 x3 x4 lh mL x18 nK DU (wrap64 (x24+1)))else(fX.l2 k x0 ((x3.set (x24:Int).toNat (mn (rd x3 x24) (rd x3 (rd nK x24)))).set ((rd nK x24):Int).toNat (mn (rd x3 x24) (rd x3 (rd nK x24)))) true lh mL x18 nK DU (wrap64 (x24+1))))else(fX.l2 k x0 ((x3.set (x24:Int).toNat (mn (rd x3 x24) (rd x3 (rd nK x24)))).set ((rd nK x24):Int).toNat (mn (rd x3 x24) (rd x3 (rd nK x24)))) true lh mL x18 nK DU (wrap64 (x24+1))))else(none))else(none))else(none))else(none))else(none))else(fX.l1 k x0 x3 x4 lh mL (wrap64 (x18+1)))
end
def fX.f (k:Nat) (l0:List (List Int)):Option (List Int):=if 0<(l0.length:Int)then((qP.f k ((d7 l0 0).length:Int)).bind fun t160=>(fX.l0 k l0 t160 true))else(none)
set_option maxHeartbeats 8000000 in
set_option maxRecDepth 100000 in
theorem fX.calls (k:Nat) (A0:Option Addr) (c0:Nat) (l0:List (List Int)) (r:List Int) (w:World) (hr0:Kd.C (Kd.slice 3 (Kd.int .i64)) w A0 l0.length l0) (hc0:l0.length<=c0) (h:fX.f k l0=some r):
 Calls Try.prog 107 #[.slice A0 l0.length c0] w fun e w'=>∃bC:Value,e= .returned (bC)/\Kd.R (Kd.int .i64) 3 w' w.heap.size (fun _=>True) bC r/\Below w.heap.size w w':=by
 have dt:=Az hr0;have iX:=Az hc0;clear hr0 hc0;have HB:=bZ w;have H:=h;clear h;unfold fX.f at H;replace H:=gP H;obtain⟨c2,H⟩:=H;have sL:=decide_eq_true c2;have uK:decide (0<l0.length)=true:=decide_eq_true (by omega);clear c2;replace H:=bd H;obtain⟨t160,A3,H⟩:=H;have H':=Az H;clear H;have ON:0<=(0:Int):=(by omega);have OO:0<(l0.length:Int):=oA;obtain⟨aiD,asB,asC,aiE,ZV,ZW,ZX⟩:=Fu dt.out 0 ON OO
 cases aiE
 have asD:(0<l0.length)=True:=eq_true (by omega);rw[show((0:Int)).toNat=0 from rfl]at ZV;rw[Addr.add_zero']at ZV;have asE:=Az ZX;have asF:=Az ZW;clear ZX ZW;replace ON:=eq_true ON;replace OO:=eq_true OO;go_enter Try.func107,Try.ntmps107
 go_wp2_with (first|(go_at_call 122;(with_reducible refine(qP.calls k ((d7 l0 0).length:Int) t160 _ A3.out).mono ?_);rintro e w4 ⟨OP,rfl,ho0,hb⟩;have aiF:=Az (Kd.a7 ho0 (aQ (bU0 HB.out)));replace HB:=Az (ay (bU0 HB.out) hb);clear hb ho0))
 repeat (go_quiet (fail);try go_wp2_with (fail))
 go_loopg [4] k (fun kq v4 w'=>∃(bc:List Int) (bF:Bool),v4= .bool bF/\ae (fX.l0 kq l0 bc bF=some r)/\ae (kq<=k)/\ae (Kd.R (Kd.int .i64) 3 w' w.heap.size (fun _=>True) OP bc)/\ae (Below w.heap.size w w'))
 case atStart=>exact⟨(t160),(true),rS,H',⟨Nat.le_refl _⟩,⟨rU aiF.out⟩,⟨bU0 HB.out⟩⟩
 case round=>
  clear H';obtain⟨bc,bF,rfl,HA,eZ,aZ,HB⟩:=hrel
  rcases gk with _|k1
  exact(nN HA.out).elim;have H:=HA.out;clear HA;simp only[fX.l0]at H
  by_cases c5:bF=true
  ·
   subst c5;rw[if_pos rfl]at H;have H':=Az H;clear H;go_wp2
   repeat (go_quiet (fail);try go_wp2)
   go_loopg [4,18] k1 (fun kq v4 v18 w'=>∃(sP:List Int) (fY:Bool) (iy:Int),v4= .bool fY/\v18= .int .i64 iy/\ae (fX.l1 kq l0 sP fY l0 (l0.length:Int) iy=some r)/\ae (kq<=k1)/\ae (Kd.R (Kd.int .i64) 3 w' w.heap.size (fun _=>True) OP sP)/\ae (Below w.heap.size w w'))
   case atStart=>exact⟨(bc),(false),(0),rS,rS,H',⟨Nat.le_refl _⟩,⟨rU aZ.out⟩,⟨bU0 HB.out⟩⟩
   case round=>
    clear H';obtain⟨sP,fY,iy,rfl,rfl,HA,eE,aZ,HB⟩:=hrel
    rcases gk with _|k2
    exact(nN HA.out).elim;have H:=HA.out;clear HA;simp only[fX.l1]at H
    by_cases c6:iy<(l0.length:Int)
    ·
     rw[if_pos c6]at H;have kk:=decide_eq_true c6;clear c6;replace H:=gD2 H;obtain⟨jl,jS,H⟩:=H;have H':=Az H;clear H;have OQ:0<=(iy:Int):=oA;have OR:iy<(l0.length:Int):=oA;obtain⟨aiG,asG,asH,aiH,ZY,ZZ,Z0⟩:=Fu dt.out iy OQ OR;obtain rfl:aiD=aiG:=(by injection aiH);replace ZY:=hT HB.out ZY;have OS:=Az Z0;have asI:=Az ZZ;clear Z0 ZZ;replace OQ:=eq_true OQ;replace OR:=eq_true OR;go_wp2
     repeat (go_quiet (fail);try go_wp2)
     go_loopg [4,24] k2 (fun kq v4 v24 w'=>∃(mM:List Int) (F0:Bool) (dQ:Int),v4= .bool F0/\v24= .int .i64 dQ/\ae (fX.l2 kq l0 mM F0 l0 (l0.length:Int) iy (d7 l0 iy) ((d7 l0 iy).length:Int) dQ=some r)/\ae (kq<=k2)/\ae (Kd.R (Kd.int .i64) 3 w' w.heap.size (fun _=>True) OP mM)/\ae (Below w.heap.size w w'))
     case atStart=>exact⟨(sP),(fY),(0),rS,rS,H',⟨Nat.le_refl _⟩,⟨rU aZ.out⟩,⟨bU0 HB.out⟩⟩
     case round=>
      clear H';obtain⟨mM,F0,dQ,rfl,rfl,HA,rR,aZ,HB⟩:=hrel
      rcases gk with _|k3
      exact(nN HA.out).elim;have H:=HA.out;clear HA;simp only[fX.l2]at H
      replace H:=gB H;rcases H with⟨mK,H⟩|⟨mK,H⟩
      ·
       replace H:=gD5 H;obtain⟨ni,rT,yW,vW,yZ,H⟩:=H;obtain⟨jU,Bg⟩:∃j_:Int,(mn (rd mM dQ) (rd mM (rd (d7 l0 iy) dQ)))=j_:=⟨_,rfl⟩;(first|rw[Bg]at H|simp only[Bg]at H);have aiI:(if(rd mM (rd (d7 l0 iy) dQ))<(rd mM dQ)then(rd mM (rd (d7 l0 iy) dQ))else(rd mM dQ))=jU:=Bg
       replace H:=gQ H;rcases H with⟨za,Z1,H⟩|⟨za,Z1,H⟩
       ·
        replace H:=gQ H;rcases H with⟨Bh,OT,H⟩|⟨Bh,OT,H⟩
        ·
         have H':=Az H;clear H;obtain⟨Z2,F1,Z3,Z4,zb⟩:=aI OS.out dQ
         cases F1
         replace zb:=hT HB.out zb;obtain⟨yX,sN,sO⟩:=Kd.aH aZ.out;subst sO;obtain⟨Z5,e165,Z6,Z7,JA⟩:=aI (Kd.au aZ.out).2.2 dQ
         cases e165;obtain⟨Z8,Z9,JB⟩:=aJ (Kd.au aZ.out).2.2 (rd (d7 l0 iy) dQ);obtain⟨aaa,aab,JC⟩:=aJ (Kd.au aZ.out).2.2 dQ;obtain⟨aiJ,aiK,aac⟩:=aJ (Kd.au aZ.out).2.2 (rd (d7 l0 iy) dQ);go_wp2
         repeat (go_quiet (fail);try go_wp2)
         go_roundg k3
         case measure=>exact mO
         case rel=>exact⟨(mM),(F0),(wrap64 (dQ+1)),rS,rS,H',⟨mO⟩,⟨rU aZ.out⟩,⟨bU0 HB.out⟩⟩
        ·
         generalize OU:(mM.set (dQ:Int).toNat (jU):List Int)=y169 at H;replace OU:=Ay OU;generalize OV:(y169.set ((rd (d7 l0 iy) dQ):Int).toNat (jU):List Int)=y170 at H;replace OV:=Ay OV;have H':=Az H;clear H;obtain⟨Z2,F1,Z3,Z4,zb⟩:=aI OS.out dQ
         cases F1
         replace zb:=hT HB.out zb;obtain⟨jk,gL,vT⟩:=Kd.aH aZ.out;subst vT;obtain⟨Z5,e165,Z6,Z7,JA⟩:=aI (Kd.au aZ.out).2.2 dQ
         cases e165;obtain⟨Z8,Z9,JB⟩:=aJ (Kd.au aZ.out).2.2 (rd (d7 l0 iy) dQ);obtain⟨aaa,aab,JC⟩:=aJ (Kd.au aZ.out).2.2 dQ;obtain⟨aiJ,aiK,aac⟩:=aJ (Kd.au aZ.out).2.2 (rd (d7 l0 iy) dQ);have OW:0<=(dQ:Int):=oA;have OX:(dQ:Int)<((mM.length:Int):Int):=oA;obtain⟨DV,bz,zc,aad,aiL,asJ,aae⟩:=Kd.jQ aZ.out (by omega);(first|cases zc|(injection zc with ea_ en_ ec_;(first|subst ea_|(injection ea_ with ea_;subst ea_));subst ec_;clear en_));have aaf:=Az aad;have asK:=Az aae;clear aad aiL aae;simp only[add_plain]at JA;simp only[add_plain]at JB;simp only[add_plain]at JC;simp only[add_plain]at aac;obtain⟨asL,asM⟩:=Kd.dd 0 aZ.out (dQ:Int) OW OX;replace OW:=eq_true OW;replace OX:=eq_true OX;obtain⟨aag,aah⟩:=Kd.dd 0 aZ.out (dQ:Int) (oA) (oA);have zd:=Kd.jy aZ.out (dQ:Int) jU
         go_wp2_with (fail)
         repeat (go_quiet (fail);try go_wp2_with (first|((with_reducible refine gs 3 58 rfl ?_);(rw[Nw wr];generalize hq_:World.drewN wr _=wr;replace aZ:=Az (Kd.Oh hq_ aZ.out);replace HB:=Az (Ol hq_ HB.out);clear hq_;(obtain⟨aag,aah⟩:=Kd.dd 0 aZ.out (dQ:Int) (oA) (oA));(have zd:=Kd.jy aZ.out (dQ:Int) jU));refine sE 3 58 (wr.setCell ⟨DV,(dQ:Int).toNat,none⟩ (.int .i64 jU)) ?_;intro ig hw;have hg:wr.grownBy ig (some DV):=(by rw[hw];exact zd.2);have hp_:Kd.R (Kd.int .i64) 3 ig w.heap.size (fun _=>True) (.slice (some ⟨DV,0,none⟩) mM.length gL) y169:=(by rw[hw,OU.out];exact zd.1);clear zd;replace aZ:=Az (hp_);replace HB:=Az ((by rw[hw];exact ap (HB.out) aaf.out:Below w.heap.size w ig));clear hg hw hp_;have OY:0<=((rd (d7 l0 iy) dQ):Int):=oA;have OZ:((rd (d7 l0 iy) dQ):Int)<((mM.length:Int):Int):=oA;obtain⟨asN,asO⟩:=Kd.dd 0 aZ.out ((rd (d7 l0 iy) dQ):Int) OY OZ;replace OY:=eq_true OY;replace OZ:=eq_true OZ;obtain⟨aiM,aiN⟩:=Kd.dd 0 aZ.out ((rd (d7 l0 iy) dQ):Int) (oA) (oA);have Bi:=Kd.jy aZ.out ((rd (d7 l0 iy) dQ):Int) jU)|((with_reducible refine gs 3 59 rfl ?_);refine sE 3 59 (ig.setCell ⟨DV,((rd (d7 l0 iy) dQ):Int).toNat,none⟩ (.int .i64 jU)) ?_;intro nl hw;have hg:ig.grownBy nl (some DV):=(by rw[hw];exact Bi.2);have hp_:Kd.R (Kd.int .i64) 3 nl w.heap.size (fun _=>True) (.slice (some ⟨DV,0,none⟩) mM.length gL) y170:=(by rw[hw,OV.out];exact Bi.1);clear Bi;replace aZ:=Az (hp_);replace HB:=Az ((by rw[hw];exact ap (HB.out) aaf.out:Below w.heap.size w nl));clear hg hw hp_)))
         go_roundg k3
         case measure=>exact mO
         case rel=>exact⟨(y170),(true),(wrap64 (dQ+1)),rS,rS,H',⟨mO⟩,⟨rU aZ.out⟩,⟨bU0 HB.out⟩⟩
       ·
        generalize O0:(mM.set (dQ:Int).toNat (jU):List Int)=y171 at H;replace O0:=Ay O0;generalize O1:(y171.set ((rd (d7 l0 iy) dQ):Int).toNat (jU):List Int)=y172 at H;replace O1:=Ay O1;have H':=Az H;clear H;obtain⟨Z2,F1,Z3,Z4,zb⟩:=aI OS.out dQ
        cases F1
        replace zb:=hT HB.out zb;obtain⟨bY,bJ,uO⟩:=Kd.aH aZ.out;subst uO;obtain⟨Z5,e165,Z6,Z7,JA⟩:=aI (Kd.au aZ.out).2.2 dQ
        cases e165;obtain⟨Z8,Z9,JB⟩:=aJ (Kd.au aZ.out).2.2 (rd (d7 l0 iy) dQ);obtain⟨aaa,aab,JC⟩:=aJ (Kd.au aZ.out).2.2 dQ;have p26:0<=(dQ:Int):=oA;have O2:(dQ:Int)<((mM.length:Int):Int):=oA;obtain⟨DW,e7,ll,aai,aiO,asP,aaj⟩:=Kd.jQ aZ.out (by omega);(first|cases ll|(injection ll with ea_ en_ ec_;(first|subst ea_|(injection ea_ with ea_;subst ea_));subst ec_;clear en_));have aak:=Az aai;have asQ:=Az aaj;clear aai aiO aaj;simp only[add_plain]at JA;simp only[add_plain]at JB;simp only[add_plain]at JC;obtain⟨asR,asS⟩:=Kd.dd 0 aZ.out (dQ:Int) p26 O2;replace p26:=eq_true p26;replace O2:=eq_true O2;obtain⟨aiP,aiQ⟩:=Kd.dd 0 aZ.out (dQ:Int) (oA) (oA);have JD:=Kd.jy aZ.out (dQ:Int) jU
        go_wp2_with (fail)
        repeat (go_quiet (fail);try go_wp2_with (first|((with_reducible refine gs 3 58 rfl ?_);(rw[Nw wr];generalize hq_:World.drewN wr _=wr;replace aZ:=Az (Kd.Oh hq_ aZ.out);replace HB:=Az (Ol hq_ HB.out);clear hq_;(obtain⟨aiP,aiQ⟩:=Kd.dd 0 aZ.out (dQ:Int) (oA) (oA));(have JD:=Kd.jy aZ.out (dQ:Int) jU));refine sE 3 58 (wr.setCell ⟨DW,(dQ:Int).toNat,none⟩ (.int .i64 jU)) ?_;intro lK hw;have hg:wr.grownBy lK (some DW):=(by rw[hw];exact JD.2);have hp_:Kd.R (Kd.int .i64) 3 lK w.heap.size (fun _=>True) (.slice (some ⟨DW,0,none⟩) mM.length bJ) y171:=(by rw[hw,O0.out];exact JD.1);clear JD;replace aZ:=Az (hp_);replace HB:=Az ((by rw[hw];exact ap (HB.out) aak.out:Below w.heap.size w lK));clear hg hw hp_;have p27:0<=((rd (d7 l0 iy) dQ):Int):=oA;have O3:((rd (d7 l0 iy) dQ):Int)<((mM.length:Int):Int):=oA;obtain⟨asT,asU⟩:=Kd.dd 0 aZ.out ((rd (d7 l0 iy) dQ):Int) p27 O3;replace p27:=eq_true p27;replace O3:=eq_true O3;obtain⟨asV,asW⟩:=Kd.dd 0 aZ.out ((rd (d7 l0 iy) dQ):Int) (oA) (oA);have O4:=Kd.jy aZ.out ((rd (d7 l0 iy) dQ):Int) jU)|((with_reducible refine gs 3 59 rfl ?_);refine sE 3 59 (lK.setCell ⟨DW,((rd (d7 l0 iy) dQ):Int).toNat,none⟩ (.int .i64 jU)) ?_;intro w32 hw;have hg:lK.grownBy w32 (some DW):=(by rw[hw];exact O4.2);have hp_:Kd.R (Kd.int .i64) 3 w32 w.heap.size (fun _=>True) (.slice (some ⟨DW,0,none⟩) mM.length bJ) y172:=(by rw[hw,O1.out];exact O4.1);clear O4;replace aZ:=Az (hp_);replace HB:=Az ((by rw[hw];exact ap (HB.out) aak.out:Below w.heap.size w w32));clear hg hw hp_)))
        go_roundg k3
        case measure=>exact mO
        case rel=>exact⟨(y172),(true),(wrap64 (dQ+1)),rS,rS,H',⟨mO⟩,⟨rU aZ.out⟩,⟨bU0 HB.out⟩⟩
      ·
       have H':=Az H;clear H;go_wp2
       repeat (go_quiet (fail);try go_wp2)
       go_roundg k3
       case measure=>exact mO
       case rel=>exact⟨(mM),(F0),(wrap64 (iy+1)),rS,rS,H',⟨mO⟩,⟨rU aZ.out⟩,⟨bU0 HB.out⟩⟩
    ·
     rw[if_neg c6]at H;have kk:=decide_eq_false c6;clear c6;have H':=Az H;clear H;go_wp2
     repeat (go_quiet (fail);try go_wp2)
     go_roundg k2
     case measure=>exact mO
     case rel=>exact⟨(sP),(fY),rS,H',⟨mO⟩,⟨rU aZ.out⟩,⟨bU0 HB.out⟩⟩
  ·
   replace c5:=Bool.eq_false_iff.mpr c5;subst c5;rw[if_neg nT]at H;obtain rfl:=Option.some.inj H;go_wp2
   repeat (go_quiet (fail);try go_wp2)
   go_ret;exact⟨_,rE,rU aZ.out,bU0 HB.out⟩
mutual
def eN.j0:Nat->Bool->List Int->List Int->Option (Bool)
 |0,_,_,_=>none
 |k+1,DU,bT,bQ=>if DU=true then(some false)else(eN.l0 k bQ (bQ.length:Int) 0 bT bQ)
def eN.l0:Nat->List Int->Int->Int->List Int->List Int->Option (Bool)
 |0,_,_,_,_,_=>none
 |k+1,x25,x26,x27,bT,bQ=>if x27<x26 then(if 0<=x27 then(if x27<(x25.length:Int)then(if(rd x25 x27)=x27 then(some false)else(if 0<=(rd x25 x27)then(if(rd x25 x27)<(bQ.length:Int)then(if(rd bQ (rd x25 x27))=x27 then(eN.l0 k x25 x26 (wrap64 (x27+1)) bT bQ)else(some false))else(none))else(none)))else(none))else(none))else((fX.f k (([bT,bQ]:List (List Int)))).bind fun F2=>((qj.f k F2).bind fun O5=>(some (O5==0))))
end
def eN.f (k:Nat) (af:List Int) (ag:List Int):Option (Bool):=(kK.f k af).bind fun O6=>(if O6=true then((kK.f k ag).bind fun t175=>(if t175=true then(eN.j0 k ((af.length:Int) !=(ag.length:Int)) af ag)else(eN.j0 k true af ag)))else(eN.j0 k true af ag))
set_option maxHeartbeats 8000000 in
set_option maxRecDepth 100000 in
theorem eN.calls (k:Nat) (q6:Nat->Prop) (aA:Option Addr) (az:Nat) (af:List Int) (q7:Nat->Prop) (ak:Option Addr) (aj:Nat) (ag:List Int) (r:Bool) (w:World) (aiR:Kd.V (Kd.int .i64) 3 w w.heap.size (fun k_=>q6 k_) (.slice aA af.length az) af) (aiS:Kd.V (Kd.int .i64) 3 w w.heap.size (fun k_=>q7 k_) (.slice ak ag.length aj) ag) (h:eN.f k af ag=some r):
 Calls Try.prog 66 #[.agg #[.slice aA af.length az,.slice ak ag.length aj]] w fun e w'=>e= .returned (.bool r)/\Below w.heap.size w w':=by
 have jT:=Try.underlying29;have mN:=Az (show Kd.V (Kd.int .i64) 3 w w.heap.size (fun k_=>((q6 k_\/q7 k_)\/w.heap.size<=k_)) (.slice aA af.length az) af from Kd.Db aiR (fun k_ hk=>.inl (.inl hk)));have nM:=Az (show Kd.V (Kd.int .i64) 3 w w.heap.size (fun k_=>((q6 k_\/q7 k_)\/w.heap.size<=k_)) (.slice ak ag.length aj) ag from Kd.Db aiS (fun k_ hk=>.inl (.inr hk)));have HB:=bZ w;have H:=h;clear h;unfold eN.f at H;have uP:=Az H;clear H;go_enter Try.func66,Try.ntmps66
 go_upto_region 1 with(first|((with_reducible refine gd 1 rfl ?_);(refine nG (by rfl) ?_;dsimp only);refine bE 1 #[.slice aA af.length az,.slice ak ag.length aj] 29 ?_;intro pN hg w3 hbox hb;replace mN:=Az (Kd.MU (Kd.Vz (vU mN.out) pN (Nat.le_of_eq hg.symm)) hb);replace nM:=Az (Kd.MU (Kd.Vz (vU nM.out) pN (Nat.le_of_eq hg.symm)) hb);have ij:=Az (hbox);have rQ:=gW hg (bU0 HB.out);replace HB:=Az (ay (bU0 HB.out) hb);clear hb hbox hg))
 go_cut [23] (fun v23 wc=>∃(kq:Nat) (JE:Bool),v23= .bool JE/\ae (eN.j0 kq JE af ag=some r)/\ae (kq<=k)/\ae (Kd.V (Kd.int .i64) 3 wc w.heap.size (fun k_=>((q6 k_\/q7 k_)\/w.heap.size<=k_)/\k_≠pN) (.slice aA af.length az) af)/\ae (Kd.V (Kd.int .i64) 3 wc w.heap.size (fun k_=>((q6 k_\/q7 k_)\/w.heap.size<=k_)/\k_≠pN) (.slice ak ag.length aj) ag)/\ae (wc.heap[pN]?=some (.cells #[(.slice aA af.length az),(.slice ak ag.length aj)] 29 (0,0)))/\ae (Below w.heap.size w wc))
 case first=>
  have H:=uP.out;clear uP;replace H:=bd H;obtain⟨O6,A4,H⟩:=H
  by_cases c5:O6=true
  ·
   subst c5;rw[if_pos rfl]at H;replace H:=bd H;obtain⟨t175,A6,H⟩:=H
   by_cases c7:t175=true
   ·
    subst c7;rw[if_pos rfl]at H;have H':=Az H;clear H;have DX:=bc2 ij.out
    go_wp2_with (first|((with_reducible refine gK 105 rfl ?_);refine gC (some 7) Try.func105 #[.slice aA af.length az] ?_;(with_reducible refine(kK.calls k _ _ af true _ ?_ ?_ A4.out).mono ?_);exact cU ((Kd.pD mN.out).2.2);exact(Kd.pD mN.out).2.1;rintro e w9 ⟨rfl,hb⟩;refine⟨_,rfl,?_⟩;replace mN:=vB mN.out hb;replace nM:=vB nM.out hb;replace ij:=kB ij.out hb;replace HB:=Az yD;clear hb;have ze:=bc2 ij.out)|(go_at_call 105;(with_reducible refine(kK.calls k _ _ ag true _ ?_ ?_ A6.out).mono ?_);exact cU ((Kd.pD nM.out).2.2);exact(Kd.pD nM.out).2.1;rintro e lg ⟨rfl,hb⟩;replace mN:=vB mN.out hb;replace nM:=vB nM.out hb;replace ij:=kB ij.out hb;replace HB:=Az yD;clear hb;have DY:=bc2 ij.out))
    go_meet
    case rel=>exact⟨_,(((af.length:Int) !=(ag.length:Int))),rS,H',⟨mO⟩,⟨vU mN.out⟩,⟨vU nM.out⟩,⟨kU ij.out⟩,⟨bU1 HB.out rQ.out⟩⟩
   ·
    replace c7:=Bool.eq_false_iff.mpr c7;subst c7;rw[if_neg nT]at H;have H':=Az H;clear H;have F3:=bc2 ij.out
    go_wp2_with (first|((with_reducible refine gK 105 rfl ?_);refine gC (some 7) Try.func105 #[.slice aA af.length az] ?_;(with_reducible refine(kK.calls k _ _ af true _ ?_ ?_ A4.out).mono ?_);exact cU ((Kd.pD mN.out).2.2);exact(Kd.pD mN.out).2.1;rintro e uQ ⟨rfl,hb⟩;refine⟨_,rfl,?_⟩;replace mN:=vB mN.out hb;replace nM:=vB nM.out hb;replace ij:=kB ij.out hb;replace HB:=Az yD;clear hb;have Bj:=bc2 ij.out)|(go_at_call 105;(with_reducible refine(kK.calls k _ _ ag false _ ?_ ?_ A6.out).mono ?_);exact cU ((Kd.pD nM.out).2.2);exact(Kd.pD nM.out).2.1;rintro e w16 ⟨rfl,hb⟩;replace mN:=vB mN.out hb;replace nM:=vB nM.out hb;replace ij:=kB ij.out hb;replace HB:=Az yD;clear hb))
    go_meet
    case rel=>exact⟨_,(true),rS,H',⟨mO⟩,⟨vU mN.out⟩,⟨vU nM.out⟩,⟨kU ij.out⟩,⟨bU1 HB.out rQ.out⟩⟩
  ·
   replace c5:=Bool.eq_false_iff.mpr c5;subst c5;rw[if_neg nT]at H;have H':=Az H;clear H;have aiT:=bc2 ij.out
   go_wp2_with (first|((with_reducible refine gK 105 rfl ?_);refine gC (some 7) Try.func105 #[.slice aA af.length az] ?_;(with_reducible refine(kK.calls k _ _ af false _ ?_ ?_ A4.out).mono ?_);exact cU ((Kd.pD mN.out).2.2);exact(Kd.pD mN.out).2.1;rintro e Bl ⟨rfl,hb⟩;refine⟨_,rfl,?_⟩;replace mN:=vB mN.out hb;replace nM:=vB nM.out hb;replace ij:=kB ij.out hb;replace HB:=Az yD;clear hb))
   go_meet
   case rel=>exact⟨_,(true),rS,H',⟨mO⟩,⟨vU mN.out⟩,⟨vU nM.out⟩,⟨kU ij.out⟩,⟨bU1 HB.out rQ.out⟩⟩
 case rest=>
  clear uP;obtain⟨kq,JE,rfl,HA,zf,bl,aK,ij,HB⟩:=hcut
  rcases kq with _|rW
  exact(nN HA.out).elim;have H:=HA.out;clear HA;simp only[eN.j0]at H
  by_cases c19:JE=true
  ·subst c19;rw[if_pos rfl]at H;obtain rfl:=Option.some.inj H;go_wp2;go_ret;exact⟨rE,bU1 HB.out rQ.out⟩
  ·
   replace c19:=Bool.eq_false_iff.mpr c19;subst c19;rw[if_neg nT]at H;have H':=Az H;clear H;have O7:=bc2 ij.out;go_wp2
   go_loopg [27] rW (fun kq v27 w'=>∃(xk:Int),v27= .int .i64 xk/\ae (eN.l0 kq ag (ag.length:Int) xk af ag=some r)/\ae (kq<=rW)/\ae (Kd.V (Kd.int .i64) 3 w' w.heap.size (fun k_=>((q6 k_\/q7 k_)\/w.heap.size<=k_)/\k_≠pN) (.slice ak ag.length aj) ag)/\ae (Kd.V (Kd.int .i64) 3 w' w.heap.size (fun k_=>((q6 k_\/q7 k_)\/w.heap.size<=k_)/\k_≠pN) (.slice aA af.length az) af)/\ae (Kd.V (Kd.int .i64) 3 w' w.heap.size (fun k_=>((q6 k_\/q7 k_)\/w.heap.size<=k_)/\k_≠pN) (.slice ak ag.length aj) ag)/\ae (w'.heap[pN]?=some (.cells #[(.slice aA af.length az),(.slice ak ag.length aj)] 29 (0,0)))/\ae (Below w.heap.size w w'))
   case atStart=>exact⟨(0),rS,H',⟨Nat.le_refl _⟩,⟨vU aK.out⟩,⟨vU bl.out⟩,⟨vU aK.out⟩,⟨kU ij.out⟩,⟨bU1 HB.out rQ.out⟩⟩
   case round=>
    clear H';obtain⟨xk,rfl,HA,eE,vX,bl,aK,ij,HB⟩:=hrel
    rcases gk with _|k2
    exact(nN HA.out).elim;have H:=HA.out;clear HA;simp only[eN.l0]at H
    replace H:=gB H;rcases H with⟨DZ,H⟩|⟨DZ,H⟩
    ·
     replace H:=gD2 H;obtain⟨zg,zh,H⟩:=H
     replace H:=gQ H;rcases H with⟨DK,aal,H⟩|⟨DK,aal,H⟩
     ·
      obtain rfl:=Option.some.inj H;obtain⟨aam,F4,aan,aao,aap⟩:=aI (Kd.pD vX.out).2.2 xk
      cases F4;go_wp2;go_ret;exact⟨rE,bU1 HB.out rQ.out⟩
     ·
      replace H:=gD2 H;obtain⟨O8,F5,H⟩:=H
      replace H:=gQ H;rcases H with⟨O9,aiU,H⟩|⟨O9,aiU,H⟩
      ·
       have H':=Az H;clear H;obtain⟨aam,F4,aan,aao,aap⟩:=aI (Kd.pD vX.out).2.2 xk
       cases F4;have aiV:=bc2 ij.out;obtain⟨aiW,aiX,aiY⟩:=aJ (Kd.pD aK.out).2.2 (rd ag xk);go_wp2;go_roundg k2
       case measure=>have:=zf.out;have:=eE.out;omega
       case rel=>exact⟨(wrap64 (xk+1)),rS,H',⟨by have:=zf.out;have:=eE.out;omega⟩,⟨vU vX.out⟩,⟨vU bl.out⟩,⟨vU aK.out⟩,⟨kU ij.out⟩,⟨bU1 HB.out rQ.out⟩⟩
      ·
       obtain rfl:=Option.some.inj H;obtain⟨aam,F4,aan,aao,aap⟩:=aI (Kd.pD vX.out).2.2 xk
       cases F4;have aiZ:=bc2 ij.out;obtain⟨aiW,aiX,aiY⟩:=aJ (Kd.pD aK.out).2.2 (rd ag xk);go_wp2;go_ret;exact⟨rE,bU1 HB.out rQ.out⟩
    ·
     generalize JF:(([af,ag]:List (List Int)):List (List Int))=y178 at H;replace JF:=Ay JF;replace H:=bd H;obtain⟨F2,A30,H⟩:=H;replace H:=bd H;obtain⟨O5,F6,H⟩:=H;obtain rfl:=Option.some.inj H;have hz32:=bc2 ij.out
     go_wp2_with (first|((with_reducible refine gd 49 rfl ?_);(refine nG (by rfl) ?_;dsimp only);refine Kd.af0 (Kd.slice 3 (Kd.int .i64)) _ 23 ?hg (N':=49) ?hd (xs:=([af,ag]:List (List Int))) (inner:=[.slice aA af.length az,.slice ak ag.length aj]) (ok:=(fun k_=>((q6 k_\/q7 k_)\/w.heap.size<=k_)/\k_≠pN)) (okp:=(fun k_=>((q6 k_\/q7 k_)\/w.heap.size<=k_)/\k_≠pN)) ?hr ?hp (fun _ hk=>hk) ((show ∀k_,wr.heap.size<=k_->(fun k_=>((q6 k_\/q7 k_)\/w.heap.size<=k_)/\k_≠pN) k_ from fun k_ hk=>⟨(.inr (Nat.le_trans (aQ (bU1 HB.out rQ.out)) hk)),Kd.Xw (g:=pN) (o:=.cells #[.slice aA af.length az,.slice ak ag.length aj] 29 (0,0)) (kU ij.out) k_ hk⟩) _ (Nat.le_refl _)) (Below.refl _ _) (Nat.le_refl _) (by simp) ?_;(case hd=>rfl);(case hg=>rfl);(case hr=>first|(go_simp;done)|(go_simp;rfl));(case hp=>exact(Reps.one (show Kd.FK (Kd.slice 3 (Kd.int .i64)) _ _ af [.slice aA af.length az]from(Kd.Zb (Kd.pD (Kd.Db (ok':=(fun k_=>((q6 k_\/q7 k_)\/w.heap.size<=k_)/\k_≠pN)) (bl.out) (fun k_ hk=>⟨hk.1,hk.2⟩))).2.1 (Kd.V_F (Kd.Db (ok':=(fun k_=>((q6 k_\/q7 k_)\/w.heap.size<=k_)/\k_≠pN)) (bl.out) (fun k_ hk=>⟨hk.1,hk.2⟩))))) (Reps.one (show Kd.FK (Kd.slice 3 (Kd.int .i64)) _ _ ag [.slice ak ag.length aj]from(Kd.Zb (Kd.pD (Kd.Db (ok':=(fun k_=>((q6 k_\/q7 k_)\/w.heap.size<=k_)/\k_≠pN)) (aK.out) (fun k_ hk=>⟨hk.1,hk.2⟩))).2.1 (Kd.V_F (Kd.Db (ok':=(fun k_=>((q6 k_\/q7 k_)\/w.heap.size<=k_)/\k_≠pN)) (aK.out) (fun k_ hk=>⟨hk.1,hk.2⟩))))) (Reps.none _ _))));intro asX w33 oN hb hg_ hnew_;clear hg_ hnew_;(first|rw[<-JF.out]at oN|(simp only[Int.reduceToNat]at oN;rw[<-JF.out]at oN));replace vX:=Az (Kd.Dc (vU vX.out) Oi hb);replace bl:=Az (Kd.Dc (vU bl.out) Oi hb);replace aK:=Az (Kd.Dc (vU aK.out) Oi hb);have Bm:=Az (Kd.afW oN (aQ (bU1 HB.out rQ.out)));replace ij:=kB ij.out hb;replace HB:=Az yD;clear hb oN;obtain⟨xl,xm,sQ⟩:=Kd.afE Bm.out;subst sQ)|((with_reducible refine gK 107 rfl ?_);refine gC (some 50) Try.func107 #[.slice xl y178.length xm] ?_;(with_reducible refine(fX.calls k2 _ _ y178 F2 _ ?_ ?_ A30.out).mono ?_);exact cU ((Kd.XP Bm.out).2.2);exact(Kd.XP Bm.out).2.1;rintro e Pb ⟨v182,rfl,ho0,hb⟩;refine⟨_,rfl,?_⟩;replace vX:=Az (Kd.Dc (vU vX.out) (Kd.ax ho0) hb);replace bl:=Az (Kd.Dc (vU bl.out) (Kd.ax ho0) hb);replace aK:=Az (Kd.Dc (vU aK.out) (Kd.ax ho0) hb);replace Bm:=Az (Kd.af2 (nU Bm.out) (Kd.ax ho0) hb);have F7:=Az (Kd.a7 (Kd.ahk (M:=fun k_=>(w.heap.size<=k_)) ho0 (aQ (bU1 HB.out rQ.out)) (fun k_ h_=>h_)) (aQ (bU1 HB.out rQ.out)));replace ij:=kB ij.out hb;replace HB:=Az yD;clear hb ho0;obtain⟨Bn,Bo,JG⟩:=Kd.aH F7.out;subst JG)|((with_reducible refine gK 106 rfl ?_);refine gC (some 51) Try.func106 #[.slice Bn F2.length Bo] ?_;(with_reducible refine(qj.calls k2 _ _ F2 O5 _ ?_ ?_ F6.out).mono ?_);exact cU ((Kd.au F7.out).2.2);exact(Kd.au F7.out).2.1;rintro e w38 ⟨rfl,hb⟩;refine⟨_,rfl,?_⟩;replace vX:=vB vX.out hb;replace bl:=vB bl.out hb;replace aK:=vB aK.out hb;replace Bm:=nB Bm.out hb;replace F7:=rB F7.out hb;replace ij:=kB ij.out hb;replace HB:=Az yD;clear hb))
     go_ret;exact⟨rE,bU1 HB.out rQ.out⟩
def cmp_isNaN_int.f (a0:Int):Option (Bool):=some (a0 !=a0)
set_option maxHeartbeats 8000000 in
set_option maxRecDepth 100000 in
theorem cmp_isNaN_int.calls (a0:Int) (r:Bool) (w:World) (h:cmp_isNaN_int.f a0=some r):
 Calls Try.prog 131 #[.int .i64 a0] w fun e w'=>e= .returned (.bool r)/\cy w w':=by
 have H:=h;clear h;unfold cmp_isNaN_int.f at H;obtain rfl:=Option.some.inj H;go_enter Try.func131,Try.ntmps131;go_wp2;go_ret;exact⟨by first|rfl|(simp;done)|(simp[*];done),qc_⟩
def laysSort_ren : Go.Shelf.Ren := ⟨fun | 189 => 123 | 125 => 130 | 257 => 129 | 128 => 141 | 129 => 142 | 294 => 132 | 295 => 133 | 296 => 134 | 297 => 135 | 298 => 136 | 299 => 137 | 216 => 138 | 300 => 139 | 301 => 140 | 328 => 143 | 329 => 144 | 330 => 145 | 331 => 146 | 332 => 147 | 215 => 131 | 343 => 148 | n => n, fun | 28 => 23 | 3 => 3 | 46 => 115 | 0 => 0 | 51 => 127 | 53 => 129 | 4 => 4 | 183 => 119 | 182 => 118 | 131 => 124 | 5 => 5 | 9 => 9 | 218 => 130 | 222 => 134 | 228 => 136 | 229 => 137 | n => n, fun | n => n⟩
theorem laysSort : Lays.n189 Try.prog laysSort_ren := { mixed := by kernel_rfl, f125 := Try.func130.trans (congrArg some (by kernel_rfl)), f128 := Try.func141.trans (congrArg some (by kernel_rfl)), f129 := Try.func142.trans (congrArg some (by kernel_rfl)), f189 := Try.func123.trans (congrArg some (by kernel_rfl)), f215 := Try.func131.trans (congrArg some (by kernel_rfl)), f216 := Try.func138.trans (congrArg some (by kernel_rfl)), f257 := Try.func129.trans (congrArg some (by kernel_rfl)), f294 := Try.func132.trans (congrArg some (by kernel_rfl)), f295 := Try.func133.trans (congrArg some (by kernel_rfl)), f296 := Try.func134.trans (congrArg some (by kernel_rfl)), f297 := Try.func135.trans (congrArg some (by kernel_rfl)), f298 := Try.func136.trans (congrArg some (by kernel_rfl)), f299 := Try.func137.trans (congrArg some (by kernel_rfl)), f300 := Try.func139.trans (congrArg some (by kernel_rfl)), f301 := Try.func140.trans (congrArg some (by kernel_rfl)), f328 := Try.func143.trans (congrArg some (by kernel_rfl)), f329 := Try.func144.trans (congrArg some (by kernel_rfl)), f330 := Try.func145.trans (congrArg some (by kernel_rfl)), f331 := Try.func146.trans (congrArg some (by kernel_rfl)), f332 := Try.func147.trans (congrArg some (by kernel_rfl)), f343 := Try.func148.trans (congrArg some (by kernel_rfl)), t0 := Try.underlying0, a0 := Try.isAgg0, z0 := Try.sizeOf0, v0 := Try.zeroValue0, t3 := Try.underlying3, a3 := Try.isAgg3, z3 := Try.sizeOf3, v3 := Try.zeroValue3, t4 := Try.underlying4, a4 := Try.isAgg4, z4 := Try.sizeOf4, v4 := Try.zeroValue4, t5 := Try.underlying5, a5 := Try.isAgg5, z5 := Try.sizeOf5, v5 := Try.zeroValue5, t9 := Try.underlying9, a9 := Try.isAgg9, z9 := Try.sizeOf9, v9 := Try.zeroValue9, t28 := Try.underlying23, a28 := Try.isAgg23, z28 := Try.sizeOf23, v28 := Try.zeroValue23, t46 := Try.underlying115, a46 := Try.isAgg115, z46 := Try.sizeOf115, v46 := Try.zeroValue115, t51 := Try.underlying127, a51 := Try.isAgg127, z51 := Try.sizeOf127, v51 := Try.zeroValue127, t53 := Try.underlying129, a53 := Try.isAgg129, z53 := Try.sizeOf129, v53 := Try.zeroValue129, t131 := Try.underlying124, a131 := Try.isAgg124, z131 := Try.sizeOf124, v131 := Try.zeroValue124, t182 := Try.underlying118, a182 := Try.isAgg118, z182 := Try.sizeOf118, v182 := Try.zeroValue118, t183 := Try.underlying119, a183 := Try.isAgg119, z183 := Try.sizeOf119, v183 := Try.zeroValue119, t218 := Try.underlying130, a218 := Try.isAgg130, z218 := Try.sizeOf130, v218 := Try.zeroValue130, t222 := Try.underlying134, a222 := Try.isAgg134, z222 := Try.sizeOf134, v222 := Try.zeroValue134, t228 := Try.underlying136, a228 := Try.isAgg136, z228 := Try.sizeOf136, v228 := Try.zeroValue136, t229 := Try.underlying137, a229 := Try.isAgg137, z229 := Try.sizeOf137, v229 := Try.zeroValue137 }
def AM.f (l0:List Int):Option (List Int):=if 0<l0.length/\l0.length<4611686018427387904 then some (l0.mergeSort fun x y=>decide (x<=y))else none
theorem AM.calls (lL:Nat->Prop) (rX:Value) (l0:List Int) (r:List Int) (w0 w:World) (hB:Below w0.heap.size w0 w) (ho0:Kd.R (Kd.int .i64) 3 w w0.heap.size lL rX l0) (h:AM.f l0=some r):
 Calls Try.prog 123 #[rX] w fun e w'=>e= .returned (.tuple #[])/\Kd.R (Kd.int .i64) 3 w' w0.heap.size (fun k_=>(lL k_\/w.heap.size<=k_)) rX r/\Below w0.heap.size w0 w'/\Kept w w' (fun k_=>lL k_):=by
 unfold AM.f at h
 split at h
 ·
  rename_i hn
  obtain rfl:=Option.some.inj h;have ow:=Kd.MV ho0;obtain⟨hlen,⟨_,h0⟩|⟨g,cap,cur,hv,hbase,hb,h1,h2,h3,h4⟩⟩:=ow
  ·omega
  subst hv;have hg:g<w.heap.size:=(Array.getElem?_eq_some_iff.1 hb).1;have hP:lL g:=ho0.1 g rfl;have hH:=holds_of_blockI (ss:=l0) hb (by rw[<-Nat.mul_one l0.length,h4];rfl);refine(Any.slices_Sort_int laysSort g 0 cap l0 w hH hg hn.2).mono ?_;rintro e w' ⟨rfl,n,os,rfl⟩;have hgr:=grownBy_sortedI (w:=w) (g:=g) (n:=n) (os:=os) (l0.mergeSort fun x y=>decide (x<=y)).toArray;have hl:(l0.mergeSort fun x y=>decide (x<=y)).length=l0.length:=List.length_mergeSort _;have own:=ownsRow_sortedI (n:=n) (os:=os) (ts:=l0.mergeSort fun x y=>decide (x<=y)) hl hbase hb h1 h2 (by rw[h3]);refine⟨rfl,?_,?_,?_⟩
  ·
   refine Kd.Zz ?_ (fun k hk=>.inl ?_)
   ·rw[hl];exact own
   ·have:g=k:=Option.some.inj hk;rw[<-this];exact hP
  ·exact hB.grown hgr (by have:=hB.size;omega) (fun k hk=>by have:=Option.some.inj hk;omega)
  ·exact Kept.uG hgr (Kept.refl w _) (fun k hk=>.inl (by have:=Option.some.inj hk;rw[<-this];exact hP))
 ·cases h
def kD.l0:Nat->List Int->Int->Int->Option (List Int)
 |0,_,_,_=>none
 |k+1,x0,x2,x3=>if x2<x3 then(if 0<=x3 then(if x3<(x0.length:Int)then(if 0<=x2 then(if x2<(x0.length:Int)then(kD.l0 k ((x0.set (x2:Int).toNat (rd x0 x3)).set (x3:Int).toNat (rd x0 x2)) (wrap64 (x2+1)) (wrap64 (x3-1)))else(none))else(none))else(none))else(none))else(some x0)
def kD.f (k:Nat) (l0:List Int):Option (List Int):=kD.l0 k l0 0 (wrap64 ((l0.length:Int)-1))
def kD.T3:Bool×List (List Nat×List Nat):=(true,[([],[]),([],[]),([],[]),([],[]),([],[]),([],[]),([4,5],[4,5]),([6],[6]),([],[]),([],[]),([8,9],[8,9]),([10],[10]),([0,1,0,1,4,5,6,7,11],[0,1]),([12,7,0,1,4,5,6,7,11],[7,12]),([2,3,0,1,2,3,4,5,6,7,8,9,10,11,12,13],[2,3]),([14,11,13,0,1,2,3,4,5,6,7,8,9,10,11,12,13],[11,14])])
def kD.B3:List Nat:=[0,0,0,0,0,0,48,112,0,0,768,1792,4083,8179,16383,32767]
theorem kD.AC:rtab .any (opsOf Try.f124 3)=kD.T3:=by kernel_rfl
theorem kD.AU:gG kD.T3.2 kD.B3=true:=by kernel_rfl
set_option maxHeartbeats 8000000 in
set_option maxRecDepth 100000 in
theorem kD.calls (k:Nat) (lL:Nat->Prop) (rX:Value) (l0:List Int) (r:List Int) (w0 w:World) (hB:Below w0.heap.size w0 w) (ho0:Kd.R (Kd.int .i64) 3 w w0.heap.size lL rX l0) (h:kD.f k l0=some r):
 Calls Try.prog 124 #[rX] w fun e w'=>e= .returned (.tuple #[])/\Kd.R (Kd.int .i64) 3 w' w0.heap.size (fun k_=>(lL k_\/w.heap.size<=k_)) rX r/\Below w0.heap.size w0 w'/\Kept w w' (fun k_=>lL k_):=by
 have JH:=Az (show Kd.R (Kd.int .i64) 3 w w0.heap.size (fun k_=>(lL k_\/w.heap.size<=k_)) rX l0 from Kd.ah ho0 (fun k_ hk=>(.inl hk)));have HK:=Az (Kept.refl w (fun k_=>lL k_));have HW0:=Az hB.size;have HB:=Az hB;clear hB;have H:=h;clear h;unfold kD.f at H;have H':=Az H;clear H;obtain⟨Ao2,co2,eo2⟩:=Kd.aH JH.out;subst eo2;go_enter Try.func124,Try.ntmps124;go_wp2
 go_loopg [2,3] k (fun kq v2 v3 w'=>∃(oP:List Int) (rY:Int) (bc:Int),v2= .int .i64 rY/\v3= .int .i64 bc/\ae (kD.l0 kq oP rY bc=some r)/\ae (kq<=k)/\ae (Kd.R (Kd.int .i64) 3 w' w0.heap.size (fun k_=>(lL k_\/w.heap.size<=k_)) (.slice Ao2 l0.length co2) oP)/\ae (Kept w w' (fun k_=>lL k_))/\ae (Below w0.heap.size w0 w'))
 case atStart=>exact⟨(l0),(0),(wrap64 ((l0.length:Int)-1)),rS,rS,H',⟨Nat.le_refl _⟩,⟨rU JH.out⟩,⟨qr_⟩,⟨bU0 HB.out⟩⟩
 case round=>
  clear H';obtain⟨oP,rY,bc,rfl,rfl,HA,eZ,lM,HK,HB⟩:=hrel;have F8:=(Kd.au lM.out).1;rw[F8]at lM;simp only[F8]
  rcases gk with _|k1
  exact(nN HA.out).elim;have H:=HA.out;clear HA;simp only[kD.l0]at H
  replace H:=gB H;rcases H with⟨lJ,H⟩|⟨lJ,H⟩
  ·
   replace H:=gD1 H;obtain⟨kL,H⟩:=H;replace H:=gP H;obtain⟨c5,H⟩:=H;have qZ:=decide_eq_true c5;clear c5;replace H:=gD1 H;obtain⟨kk,H⟩:=H;replace H:=gP H;obtain⟨c7,H⟩:=H;have jl:=decide_eq_true c7;clear c7;generalize Pf:(oP.set (rY:Int).toNat (rd oP bc):List Int)=y309 at H;replace Pf:=Ay Pf;generalize Pg:(y309.set (bc:Int).toNat (rd oP rY):List Int)=y310 at H;replace Pg:=Ay Pg;have H':=Az H;clear H
   try go_wp2
   have gX:=Az (Kd.bK lM.out);have gY:=Az (Kept.drew HK.out);have jz:=Az (a8 HB.out);clear lM HK HB;have lM:=gX;have HK:=gY;have HB:=jz;clear gX gY jz;obtain⟨asZ,e307,_,_,Ph⟩:=aI (Kd.au lM.out).2.2 bc
   cases e307;obtain⟨_,_,Pi⟩:=aJ (Kd.au lM.out).2.2 rY;have p8:0<=(rY:Int):=oA;have q8:(rY:Int)<((oP.length:Int):Int):=oA;obtain⟨JI,Bc,vV,gb8,gl8,cl8,HG8⟩:=Kd.jQ lM.out (by omega);(first|cases vV|(injection vV with ea_ en_ ec_;(first|subst ea_|(injection ea_ with ea_;subst ea_));subst ec_;clear en_));have GB8:=Az gb8;have GG8:=Az HG8;clear gb8 gl8 HG8;have aau:=Az (show(lL JI\/w.heap.size<=JI)from(lM.out.1 _ rfl));simp only[add_plain]at Ph;simp only[add_plain]at Pi;obtain⟨ai6,ai7⟩:=Kd.dd 0 lM.out (rY:Int) p8 q8;replace p8:=eq_true p8;replace q8:=eq_true q8;have uN:=Kd.qY lM.out (rY:Int) (rd oP bc);rw[<-Pf.out]at uN;have Pj:=Az uN;clear uN;have p9:0<=(bc:Int):=oA;have q9:(bc:Int)<((oP.length:Int):Int):=oA;obtain⟨ai8,ai9⟩:=Kd.dd 0 Pj.out (bc:Int) p9 q9;replace p9:=eq_true p9;replace q9:=eq_true q9;have Bp:=Kd.qY Pj.out (bc:Int) (rd oP rY);rw[<-Pg.out]at Bp;have aav:=Az Bp;clear Bp;refine eX (n:=16) (S:=fun w'=>w'.cell? ⟨JI,(bc).toNat,none⟩=some (.int .i64 (rd oP bc))/\w'.cell? ⟨JI,(rY).toNat,none⟩=some (.int .i64 (rd oP rY))) (ds:=[13,15]) (bv 16 0) (by kernel_rfl) rfl rfl ⟨Ph,Pi⟩ (fun hHeld=>?_);refine fL kD.AC kD.AU (fun HT_ HW_=>?_);generalize wr.drew=rc at lM HK HB GG8 Pj aav ai7 ai9 Ph Pi ai6 ai8 hHeld ⊢;refine av (i:=0) (N:=some 14) (v:=?_) (a':=?_) (bv 16 1) rfl rfl (ao HT_.out (by kernel_rfl)) (fun _ _ _ h=>h) (Or.inl ⟨by rfl,?_⟩) ?_ ?_;rotate_left;(exact yP);rotate_left;(exact aP);refine av (i:=1) (N:=some 15) (v:=?_) (a':=?_) (bv 16 3) rfl rfl (ao HT_.out (by kernel_rfl)) (fun _ _ _ h=>h) (Or.inl ⟨by rfl,?_⟩) ?_ ?_;rotate_left;(exact yP);rotate_left;(exact aP);refine av (i:=2) (N:=some 16) (v:=?_) (a':=?_) (bv 16 7) rfl rfl (ao HT_.out (by kernel_rfl)) (fun _ _ _ h=>h) (Or.inl ⟨by rfl,?_⟩) ?_ ?_;rotate_left;(exact yP);rotate_left;(exact aP);refine av (i:=3) (N:=some 17) (v:=?_) (a':=?_) (bv 16 15) rfl rfl (ao HT_.out (by kernel_rfl)) (fun _ _ _ h=>h) (Or.inl ⟨by rfl,?_⟩) ?_ ?_;rotate_left;(exact yP);rotate_left;(exact aP);refine av (i:=4) (N:=some 18) (v:=?_) (a':=?_) (bv 16 31) rfl rfl (ao HT_.out (by kernel_rfl)) (fun _ _ _ h=>h) (Or.inl ⟨by rfl,?_⟩) ?_ ?_;rotate_left;(exact yP);rotate_left;(exact aP);refine av (i:=5) (N:=some 19) (v:=?_) (a':=?_) (bv 16 63) rfl rfl (ao HT_.out (by kernel_rfl)) (fun _ _ _ h=>h) (Or.inl ⟨by rfl,?_⟩) ?_ ?_;rotate_left;(exact yP);rotate_left;(exact aP);refine av (i:=6) (N:=some 20) (v:=?_) (a':=?_) (bv 16 127) rfl rfl (ao HT_.out (by kernel_rfl)) (fun _ _ _ h=>h) (Or.inl ⟨by rfl,?_⟩) ?_ ?_;rotate_left;(exact yP);rotate_left;(exact aP);refine av (i:=8) (N:=some 22) (v:=?_) (a':=?_) (bv 16 383) rfl rfl (ao HT_.out (by kernel_rfl)) (fun _ _ _ h=>h) (Or.inl ⟨by rfl,?_⟩) ?_ ?_;rotate_left;(exact yP);rotate_left;(exact aP);refine av (i:=9) (N:=some 23) (v:=?_) (a':=?_) (bv 16 895) rfl rfl (ao HT_.out (by kernel_rfl)) (fun _ _ _ h=>h) (Or.inl ⟨by rfl,?_⟩) ?_ ?_;rotate_left;(exact yP);rotate_left;(exact aP);refine av (i:=10) (N:=some 24) (v:=?_) (a':=?_) (bv 16 1919) rfl rfl (ao HT_.out (by kernel_rfl)) (fun _ _ _ h=>h) (Or.inl ⟨by rfl,?_⟩) ?_ ?_;rotate_left;(exact yP);rotate_left;(exact aP);refine bS (i:=7) (N:=some 21) (v:=?_) (a':=?_) (bv 16 2047) rfl rfl (bW HT_.out HW_.out (by kernel_rfl)) (fun _ _ _ h=>h) (Or.inl ⟨by rfl,?_⟩) hHeld ?_ ?_;rotate_left
   ·
    rintro w' ⟨s0,s1⟩;go_simp
    with_reducible rfl
   rotate_left;(exact aP);refine bS (i:=11) (N:=some 25) (v:=?_) (a':=?_) (bv 16 4095) rfl rfl (bW HT_.out HW_.out (by kernel_rfl)) (fun _ _ _ h=>h) (Or.inl ⟨by rfl,?_⟩) hHeld ?_ ?_;rotate_left
   ·
    rintro w' ⟨s0,s1⟩;go_simp
    with_reducible rfl
   rotate_left;(exact aP);refine av (i:=12) (N:=some 26) (v:=?_) (a':=?_) (bv 16 8191) rfl rfl (ao HT_.out (by kernel_rfl)) (fun _ _ _ h=>h) (Or.inl ⟨by rfl,?_⟩) ?_ ?_;rotate_left;(exact yP);rotate_left;(exact aP);refine k9 (i:=13) (N:=none) (bv 16 16383) rfl rfl (cJ HT_.out (by kernel_rfl)) (by decide) (fun K hK=>?_);refine iW (w1:=?_) (by rfl) rfl ?_ ?_;rotate_left
   ·go_simp;rfl
   refine hK.out _ _ ?_;clear hK K;refine av (i:=14) (N:=some 27) (v:=?_) (a':=?_) (bv 16 32767) rfl rfl (ao HT_.out (by kernel_rfl)) (fun _ _ _ h=>h) (Or.inl ⟨by rfl,?_⟩) ?_ ?_;rotate_left;(exact yP);rotate_left;(exact aP);refine k9 (i:=15) (N:=none) (bv 16 65535) rfl rfl (cJ HT_.out (by kernel_rfl)) (by decide) (fun K hK=>?_);refine iW (w1:=?_) (by rfl) rfl ?_ ?_;rotate_left
   ·go_simp;rfl
   refine hK.out _ _ ?_;clear hK K;refine eY (fN HT_.out (by kernel_rfl)) ?_
   try go_wp2
   simp only[<-F8];go_roundg k1
   case measure=>exact mO
   case rel=>exact⟨(y310),(wrap64 (rY+1)),(wrap64 (bc-1)),rS,rS,H',⟨mO⟩,⟨by simp only[F8];refine rA ?_;exact aav.out⟩,⟨by repeat (first|(with_reducible first|exact HK.out|apply Kept.alloc|apply Kept.drewN|apply Kept.drew|refine Kept.setCell ?_ aau.out _|refine Kept.setCell ?_ aau.out _)|exact HK.out)⟩,⟨bU2 HB.out GB8.out GB8.out⟩⟩
  ·
   obtain rfl:=Option.some.inj H;go_wp2
   first|go_end0|((try simp only[Exit.inBlock,Exit.then]);refine bodyPost_ret (results_none rfl _ _ _) rfl ?_)
   exact⟨rE,(by first|exact(rU lM.out)|(simp only[F8];exact(rU lM.out))),bU0 HB.out,qr_⟩
def qQ.l0:Nat->List Int->List (List Int)->Int->Int->Option (List Int)
 |0,_,_,_,_=>none
 |k+1,x3,x8,x9,fi=>if fi<x9 then(if 0<=fi then(if fi<(x8.length:Int)then(if x3.length<17592186044416 then(qQ.l0 k (x3++[((d7 x8 fi).length:Int)]) x8 x9 (wrap64 (fi+1)))else(none))else(none))else(none))else((AM.f x3).bind fun JJ=>((kD.f k JJ).bind fun Pk=>(some Pk)))
def qQ.f (k:Nat) (l0:List Int):Option (List Int):=(gV.f k l0).bind fun rZ=>(qQ.l0 k (([]:List Int)) rZ (rZ.length:Int) 0)
set_option maxHeartbeats 8000000 in
set_option maxRecDepth 100000 in
theorem qQ.calls (k:Nat) (A0:Option Addr) (c0:Nat) (l0:List Int) (r:List Int) (w:World) (hr0:Kd.C (Kd.int .i64) w A0 l0.length l0) (hc0:l0.length<=c0) (h:qQ.f k l0=some r):
 Calls Try.prog 110 #[.slice A0 l0.length c0] w fun e w'=>∃bC:Value,e= .returned (bC)/\Kd.R (Kd.int .i64) 3 w' w.heap.size (fun _=>True) bC r/\Below w.heap.size w w':=by
 have dt:=Az hr0;have iX:=Az hc0;clear hr0 hc0;have HB:=bZ w;have H:=h;clear h;unfold qQ.f at H;generalize JK:(([]:List Int):List Int)=y311 at H;replace JK:=Ay JK;replace H:=bd H;obtain⟨rZ,A2,H⟩:=H;have H':=Az H;clear H;go_enter Try.func110,Try.ntmps110
 go_wp2_with (first|((with_reducible refine gd 6 rfl ?_);refine Kd.ji (Kd.int .i64) _ 3 rfl (N:=6) rfl (xs:=([]:List Int)) (inner:=[]) (ok:=fun _=>True) (okp:=fun _=>True) hS ?hp (fun _ hk=>hk) trivial (Below.refl _ _) (Nat.le_refl _) (by simp) ?_;(case hp=>exact(Reps.none _ _));intro as1 w3 lN hb hg_ hnew_;clear hg_ hnew_;(first|rw[<-JK.out]at lN|(simp only[Int.reduceToNat]at lN;rw[<-JK.out]at lN));have gX:=Az (Kd.a7 lN (aQ (bU0 HB.out)));have gY:=Az (ay (bU0 HB.out) hb);clear HB;have F9:=gX;have HB:=gY;clear gX gY hb lN)|((with_reducible refine gK 67 rfl ?_);refine gC (some 8) Try.func67 #[.slice A0 l0.length c0] ?_;(with_reducible refine(gV.calls k _ _ l0 rZ _ ?_ ?_ A2.out).mono ?_);exact cU (Kd.bn dt.out HB.out);exact iX.out;rintro e w5 ⟨as2,rfl,ho0,hb⟩;refine⟨_,rfl,?_⟩;have gX:=rB F9.out hb;have gY:=Az (Kd.yG (Kd.Du ho0 (Kd.ar (rU F9.out))) (aQ (bU0 HB.out)));have jz:=Az (ay (bU0 HB.out) hb);clear F9 HB;have F9:=gX;have aaw:=gY;have HB:=jz;clear gX gY jz hb ho0;obtain⟨OH,FX,OI⟩:=Kd.yN aaw.out;subst OI))
 go_loopg [3,10] k (fun kq v3 v10 w'=>∃(bc:List Int) (iz:Int),v10= .int .i64 iz/\ae (qQ.l0 kq bc rZ (rZ.length:Int) iz=some r)/\ae (kq<=k)/\ae (Kd.R (Kd.int .i64) 3 w' w.heap.size (fun _=>True) v3 bc)/\ae (Kd.S (Kd.slice 3 (Kd.int .i64)) 23 w' w.heap.size (fun k_=>oV k_ v3) (.slice OH rZ.length FX) rZ)/\ae (Below w.heap.size w w'))
 case atStart=>exact⟨(y311),(0),rS,H',⟨Nat.le_refl _⟩,⟨rU F9.out⟩,⟨by(with_reducible repeat (first|apply Kd.pE|apply Kd.pB|apply Kd.pF));exact Kd.oI aaw.out (fun _ hk=>hk.2)⟩,⟨bU0 HB.out⟩⟩
 case round=>
  clear H';obtain⟨bc,iz,rfl,HA,eZ,aZ,cB,HB⟩:=hrel
  rcases gk with _|k1
  exact(nN HA.out).elim;have H:=HA.out;clear HA;simp only[qQ.l0]at H
  replace H:=gB H;rcases H with⟨jl,H⟩|⟨jl,H⟩
  ·
   replace H:=gD2 H;obtain⟨jS,mK,H⟩:=H;replace H:=gP H;obtain⟨c10,H⟩:=H;have Pl:=Az c10;clear c10;generalize Pm:(bc++[((d7 rZ iz).length:Int)]:List Int)=y318 at H;replace Pm:=Ay Pm;have H':=Az H;clear H;have JL:0<=(iz:Int):=oA;have JM:iz<(rZ.length:Int):=oA;obtain⟨aja,as3,as4,e317,ajb,aax,aay⟩:=Fu (Kd.Da cB.out).2.2 iz JL JM
   cases e317
   obtain⟨as5,ajc,ajd,aaz⟩:=Kd.NH cB.out [] iz JL (by first|exact JM|exact oA|(have e_:=(Kd.Da cB.out).1;omega));obtain⟨as6,rfl,Pn⟩:=ajd;have Ga:=aaz 0 _ rfl;rw[Nat.add_zero,show((Kd.slice 3 (Kd.int .i64))).sz=1 from rfl,Nat.mul_one]at Ga;replace Ga:=Option.some.inj (Ga.symm.trans ajb);rw[Ga]at Pn;have Po:=Az (show Kd.R (Kd.int .i64) 3 _ _ _ _ (d7 rZ iz)from Pn);clear Ga Pn aaz ajc;have as7:=Az aay;have as8:=Az aax;clear aay aax;replace JL:=eq_true JL;replace JM:=eq_true JM
   go_wp2_with (first|((with_reducible refine mf (b:=.append) (xs:=#[.tmp 14,.tmp 17]) rfl ?_);at_builtin;refine Kd.na (Kd.int .i64) (w0:=w) w.heap.size rfl (.tmp 14) (.tmp 17) 23 3 (.int .i64 0) 8 rfl Try.underlying23 dE rfl (by decide) (by omega) u3 bc ((d7 rZ iz).length:Int) [.int .i64 ((d7 rZ iz).length:Int)] (fun _=>True) (fun _=>False) rfl rfl ?aP (fun _ hk=>hk.elim) ?aF ?aO ?aB ?aS ?aL ?_;(case aP=>exact rfl);(case aB=>exact(bU0 HB.out));(case aF=>exact(fun _ _=>trivial));(case aO=>exact(rU aZ.out));(case aS=>exact(aQ (bU0 HB.out)));(case aL=>have:=Pl.out;omega);intro as9 lg ho hb hg hat;rw[<-Pm.out]at ho;have gX:=Az (Kd.Jr (ok:=(fun _=>True)) (by(with_reducible repeat (first|apply Kd.pE|apply Kd.pB|apply Kd.pF));exact Kd.oI cB.out (fun _ hk=>⟨trivial,hk⟩)) hg hat);have gY:=Az (Kd.cA (ok:=(fun k_=>some k_≠(.slice (some aja) rZ.length FX:Value).ownBlock)) (rA (Kd.ah Po.out (fun _ hk=>⟨hk.2,hk.1⟩))) hg hat);have jz:=Az (hb);have uR:=Az (ho);clear cB Po HB aZ;have cB:=gX;have Po:=gY;have HB:=jz;have aje:=uR;clear gX gY jz uR ho hb hg hat))
   go_roundg k1
   case measure=>exact mO
   case rel=>exact⟨(y318),(wrap64 (iz+1)),rS,H',⟨mO⟩,⟨rU aje.out⟩,⟨by(with_reducible repeat (first|apply Kd.pE|apply Kd.pB|apply Kd.pF));exact Kd.oI cB.out (fun _ hk=>hk.2)⟩,⟨bU0 HB.out⟩⟩
  ·
   replace H:=bd H;obtain⟨JJ,Pp,H⟩:=H;replace H:=bd H;obtain⟨Pk,A13,H⟩:=H;obtain rfl:=Option.some.inj H;obtain⟨fA,eR,pO⟩:=Kd.aH aZ.out;subst pO
   go_wp2_with (first|((with_reducible refine gK 123 rfl ?_);refine gC (some 21) Try.func123 #[.slice fA bc.length eR] ?_;(with_reducible refine(AM.calls (fun k_=>some k_=(.slice fA bc.length eR:Value).ownBlock) (.slice fA bc.length eR) bc JJ w _ ?_ ?_ Pp.out).mono ?_);(repeat (first|(with_reducible first|exact HB.out|apply bm|apply bw|apply a8)|exact HB.out));exact Kd.yJ rfl aZ.out;rintro e pK ⟨rfl,hy0,hb,hkp⟩;refine⟨_,rfl,?_⟩;have gX:=Az (Kd.IR rfl hy0 (fun k_ e_=>aZ.out.1 k_ e_));have gY:=Az Y7;have jz:=Az (hb);clear aZ cB HB;have aZ:=gX;have cB:=gY;have HB:=jz;clear gX gY jz hb)|((with_reducible refine gK 124 rfl ?_);refine gC (some 23) Try.func124 #[.slice fA bc.length eR] ?_;(with_reducible refine(kD.calls k1 (fun k_=>some k_=(.slice fA bc.length eR:Value).ownBlock) (.slice fA bc.length eR) JJ Pk w _ ?_ ?_ A13.out).mono ?_);(repeat (first|(with_reducible first|exact HB.out|apply bm|apply bw|apply a8)|exact HB.out));exact Kd.yJ rfl aZ.out;rintro e w16 ⟨rfl,hy0,hb,hkp⟩;refine⟨_,rfl,?_⟩;have gX:=Az (Kd.IR rfl hy0 (fun k_ e_=>aZ.out.1 k_ e_));have gY:=Az Y7;have jz:=Az (hb);clear aZ cB HB;have aZ:=gX;have cB:=gY;have HB:=jz;clear gX gY jz hb))
   go_ret;exact⟨_,rE,rU aZ.out,bU0 HB.out⟩
def oG.l0:Nat->List Int->Int->Int->Option (Bool)
 |0,_,_,_=>none
 |k+1,dK,oO,Bq=>if Bq<oO then(if 0<=Bq then(if Bq<(dK.length:Int)then(if(rd dK Bq)=4 then(oG.l0 k dK oO (wrap64 (Bq+1)))else(some false))else(none))else(none))else(some true)
def oG.f (k:Nat) (af:List Int) (ag:List Int):Option (Bool):=(eN.f k af ag).bind fun Pq=>(if Pq=true then((iH.f k ag af).bind fun Gb=>((qQ.f k Gb).bind fun zi=>(oG.l0 k zi (zi.length:Int) 0)))else(some false))
set_option maxHeartbeats 8000000 in
set_option maxRecDepth 100000 in
theorem oG.calls (k:Nat) (aA:Option Addr) (az:Nat) (af:List Int) (ak:Option Addr) (aj:Nat) (ag:List Int) (r:Bool) (w:World) (dF:Kd.C (Kd.int .i64) w aA af.length af) (dL:af.length<=az) (de:Kd.C (Kd.int .i64) w ak ag.length ag) (dk:ag.length<=aj) (h:oG.f k af ag=some r):
 Calls Try.prog 89 #[.agg #[.slice aA af.length az,.slice ak ag.length aj]] w fun e w'=>e= .returned (.bool r)/\Below w.heap.size w w':=by
 have jT:=Try.underlying29;have ck:=Az dF;have cv:=Az dL;clear dF dL;have bP:=Az de;have cx:=Az dk;clear de dk;have HB:=bZ w;have H:=h;clear h;unfold oG.f at H;replace H:=bd H;obtain⟨Pq,A2,H⟩:=H
 by_cases c3:Pq=true
 ·
  subst c3;rw[if_pos rfl]at H;replace H:=bd H;obtain⟨Gb,A4,H⟩:=H;replace H:=bd H;obtain⟨zi,A5,H⟩:=H;have H':=Az H;clear H;go_enter Try.func89,Try.ntmps89
  go_wp2_with (first|((with_reducible refine gd 1 rfl ?_);refine bE 1 #[.slice aA af.length az,.slice ak ag.length aj] 29 ?_;intro JN hg w6 hbox hb;have gX:=Az (ay (bU0 HB.out) hb);have gY:=Az (hbox);have jz:=Az ((by rw[hg];exact(aQ (bU0 HB.out)):w.heap.size<=JN));have uR:=jz;clear HB;have HB:=gX;have nO:=gY;have ajg:=jz;have qn:=uR;clear gX gY jz uR hb hbox hg;have hz7:=bc2 nO.out)|((with_reducible refine gK 66 rfl ?_);refine gC (some 6) Try.func66 #[.agg #[.slice aA af.length az,.slice ak ag.length aj]] ?_;(with_reducible refine(eN.calls k (fun k_=>k_<w.heap.size) _ _ af (fun k_=>k_<w.heap.size) _ _ ag true _ ?_ ?_ A2.out).mono ?_);exact Kd.kj cv.out (Kd.jc C0 (bU1 HB.out qn.out));exact Kd.kj cx.out (Kd.jc C4 (bU1 HB.out qn.out));rintro e w8 ⟨rfl,hb⟩;refine⟨_,rfl,?_⟩;have gX:=kB nO.out hb;have gY:=Az (ay (bU1 HB.out qn.out) hb);clear nO HB;have nO:=gX;have HB:=gY;clear gX gY hb;have D1:=bc2 nO.out)|((with_reducible refine gK 68 rfl ?_);refine gC (some 12) Try.func68 #[.slice ak ag.length aj,.slice aA af.length az] ?_;(with_reducible refine(iH.calls k _ _ ag _ _ af Gb _ ?_ ?_ ?_ ?_ A4.out).mono ?_);exact cU (Kd.bn bP.out HB.out);exact cx.out;exact cU (Kd.bn ck.out HB.out);exact cv.out;rintro e rc ⟨ata,rfl,ho0,hb⟩;refine⟨_,rfl,?_⟩;have gX:=Az (Kd.a7 ho0 (aQ (bU1 HB.out qn.out)));have gY:=kB nO.out hb;have jz:=Az (ay (bU1 HB.out qn.out) hb);clear nO HB;have Br:=gX;have nO:=gY;have HB:=jz;clear gX gY jz hb ho0;obtain⟨gx,fj,qo⟩:=Kd.aH Br.out;subst qo)|((with_reducible refine gK 110 rfl ?_);refine gC (some 13) Try.func110 #[.slice gx Gb.length fj] ?_;(with_reducible refine(qQ.calls k _ _ Gb zi _ ?_ ?_ A5.out).mono ?_);exact cU ((Kd.au Br.out).2.2);exact(Kd.au Br.out).2.1;rintro e nJ ⟨atb,rfl,ho0,hb⟩;refine⟨_,rfl,?_⟩;have gX:=Az (Kd.aW (rU Br.out) (Kd.ax ho0) hb);have gY:=Az (Kd.a7 (Kd.aD ho0 (Kd.ar (rU Br.out))) (aQ (bU1 HB.out qn.out)));have jz:=kB nO.out hb;have uR:=Az (ay (bU1 HB.out qn.out) hb);clear Br nO HB;have Br:=gX;have aaA:=gY;have nO:=jz;have HB:=uR;clear gX gY jz uR hb ho0;obtain⟨jm,iJ,nj⟩:=Kd.aH aaA.out;subst nj))
  go_loopg [15] k (fun kq v15 w'=>∃(uS:Int),v15= .int .i64 uS/\ae (oG.l0 kq zi (zi.length:Int) uS=some r)/\ae (kq<=k)/\ae (Kd.R (Kd.int .i64) 3 w' w.heap.size (fun _=>True) (.slice jm zi.length iJ) zi)/\ae (w'.heap[JN]?=some (.cells #[(.slice aA af.length az),(.slice ak ag.length aj)] 29 (0,0)))/\ae (Below w.heap.size w w'))
  case atStart=>exact⟨(0),rS,H',⟨Nat.le_refl _⟩,⟨rM aaA.out⟩,⟨kU nO.out⟩,⟨bU1 HB.out qn.out⟩⟩
  case round=>
   clear H';obtain⟨uS,rfl,HA,eZ,Pr,nO,HB⟩:=hrel
   rcases gk with _|k1
   exact(nN HA.out).elim;have H:=HA.out;clear HA;simp only[oG.l0]at H
   replace H:=gB H;rcases H with⟨yZ,H⟩|⟨yZ,H⟩
   ·
    replace H:=gD2 H;obtain⟨AW,za,H⟩:=H
    replace H:=gQ H;rcases H with⟨Bh,OT,H⟩|⟨Bh,OT,H⟩
    ·
     have H':=Az H;clear H;obtain⟨aji,e331,ajj,ajk,ajl⟩:=aI (Kd.au Pr.out).2.2 uS
     cases e331;go_wp2;go_roundg k1
     case measure=>exact mO
     case rel=>exact⟨(wrap64 (uS+1)),rS,H',⟨mO⟩,⟨rU Pr.out⟩,⟨kU nO.out⟩,⟨bU1 HB.out qn.out⟩⟩
    ·
     obtain rfl:=Option.some.inj H;obtain⟨aji,e331,ajj,ajk,ajl⟩:=aI (Kd.au Pr.out).2.2 uS
     cases e331;go_wp2;go_ret;exact⟨rE,bU1 HB.out qn.out⟩
   ·obtain rfl:=Option.some.inj H;go_wp2;go_ret;exact⟨rE,bU1 HB.out qn.out⟩
 ·
  replace c3:=Bool.eq_false_iff.mpr c3;subst c3;rw[if_neg nT]at H;obtain rfl:=Option.some.inj H;go_enter Try.func89,Try.ntmps89
  go_wp2_with (first|((with_reducible refine gd 1 rfl ?_);refine bE 1 #[.slice aA af.length az,.slice ak ag.length aj] 29 ?_;intro JN hg Bl hbox hb;have gX:=Az (ay (bU0 HB.out) hb);have gY:=Az (hbox);have jz:=Az ((by rw[hg];exact(aQ (bU0 HB.out)):w.heap.size<=JN));have uR:=jz;clear HB;have HB:=gX;have nO:=gY;have ajg:=jz;have qn:=uR;clear gX gY jz uR hb hbox hg;have aaB:=bc2 nO.out)|((with_reducible refine gK 66 rfl ?_);refine gC (some 6) Try.func66 #[.agg #[.slice aA af.length az,.slice ak ag.length aj]] ?_;(with_reducible refine(eN.calls k (fun k_=>k_<w.heap.size) _ _ af (fun k_=>k_<w.heap.size) _ _ ag false _ ?_ ?_ A2.out).mono ?_);exact Kd.kj cv.out (Kd.jc C0 (bU1 HB.out qn.out));exact Kd.kj cx.out (Kd.jc C4 (bU1 HB.out qn.out));rintro e re ⟨rfl,hb⟩;refine⟨_,rfl,?_⟩;have gX:=kB nO.out hb;have gY:=Az (ay (bU1 HB.out qn.out) hb);clear nO HB;have nO:=gX;have HB:=gY;clear gX gY hb))
  go_ret;exact⟨rE,bU1 HB.out qn.out⟩
def dfar.at:Nat->List Int->Int->List Int->Int->Option (List Int)
 |0,_,_,_,_=>none
 |k+1,t,n,xs,d=>if 0<=d then(if d<(xs.length:Int)then(if rd xs d<0 then(if d<(t.length:Int)then dfar.at k t n (xs.set d.toNat n) (rd t d)else none)else some xs)else none)else none
set_option maxHeartbeats 4000000 in
set_option maxRecDepth 100000 in
theorem dfar.YP (k:Nat) (A0:Option Addr) (c0:Nat) (l0:List Int) (A1:Option Addr) (c1:Nat) (l1:List Int) (gM gF g n cF:Nat) (d nn:Int) (xs r:List Int) (w0 w:World)
 (hB:Below w0.heap.size w0 w) (hg:w0.heap.size<=g)
 (hM:w.heap[gM]?=some (.cells #[.slice A0 l0.length c0,.slice A1 l1.length c1] 29 (0,0))) (hF:w.heap[gF]?=some (.cells #[.slice (some ⟨g,0,none⟩) n cF] 23 (0,0)))
 (hR:Kd.R (Kd.int .i64) 3 w w0.heap.size (fun _=>True) (.slice (some ⟨g,0,none⟩) n cF) xs)
 (hr0:Kd.C (Kd.int .i64) w0 A0 l0.length l0) (h:dfar.at k l0 nn xs d=some r):
 Calls Try.prog 109 #[.int .i64 d,.int .i64 nn,.pointer (some ⟨gF,0,none⟩),.pointer (some ⟨gM,0,none⟩)] w fun e w'=>e= .returned (.tuple #[])/\Kd.R (Kd.int .i64) 3 w' w0.heap.size (fun _=>True) (.slice (some ⟨g,0,none⟩) n cF) r/\Below w0.heap.size w0 w'/\
  w'.heap[gM]?=some (.cells #[.slice A0 l0.length c0,.slice A1 l1.length c1] 29 (0,0))/\w'.heap[gF]?=some (.cells #[.slice (some ⟨g,0,none⟩) n cF] 23 (0,0)):=by
 have jT:=Try.underlying29;have HB:=Az hB;have BM:=Az hM;have BF:=Az hF;have HO:=Az hR;have dt:=Az hr0;have H':=Az h;clear hB hM hF hR hr0 h;go_enter Try.func109,Try.ntmps109;go_wp2
 go_loopg [0] k (fun kq v0 w'=>∃(d':Int) (xs':List Int),v0= .int .i64 d'/\ae (dfar.at kq l0 nn xs' d'=some r)/\ae (kq<=k)/\ae (Kd.R (Kd.int .i64) 3 w' w0.heap.size (fun _=>True) (.slice (some ⟨g,0,none⟩) n cF) xs')/\ae (w'.heap[gM]?=some (.cells #[.slice A0 l0.length c0,.slice A1 l1.length c1] 29 (0,0)))/\ae (w'.heap[gF]?=some (.cells #[.slice (some ⟨g,0,none⟩) n cF] 23 (0,0)))/\ae (Below w0.heap.size w0 w'))
 case atStart=>exact⟨d,xs,rfl,H',⟨Nat.le_refl _⟩,HO,BM,BF,HB⟩
 case round=>
  clear H' HO BM BF HB;obtain⟨d',xs',rfl,HA,eZ,HO,BM,BF,HB⟩:=hrel
  rcases gk with _|k1
  exact(nN HA.out).elim;have H:=HA.out;clear HA;simp only[dfar.at]at H;have hnx:n=xs'.length:=(Kd.au HO.out).1
  by_cases c1_:0<=d'
  ·
   rw[if_pos c1_]at H
   by_cases c2_:d'<(xs'.length:Int)
   ·
    rw[if_pos c2_]at H
    have JO:d'<(n:Int):=by rw[hnx];exact c2_
    have hx1:wr.cell? ⟨g,d'.toNat,none⟩=some (.int .i64 (rd xs' d')):=(Kd.dd 0 HO.out d' c1_ JO).1;have hf1:=(Kd.dd 0 HO.out d' c1_ JO).2;clear hnx;have p1:(0<=d')=True:=eq_true c1_;have q1:(d'<(n:Int))=True:=eq_true JO;have hcf:wr.cell? ⟨gF,0,none⟩=some (.slice (some ⟨g,0,none⟩) n cF):=(ai BF.out 0).trans rfl
    by_cases c3_:rd xs' d'<0
    ·
     rw[if_pos c3_]at H;have c3b:decide (rd xs' d'<0)=true:=decide_eq_true c3_
     by_cases c4_:d'<(l0.length:Int)
     ·
      rw[if_pos c4_]at H;have q4:(d'<(l0.length:Int))=True:=eq_true c4_;obtain⟨ad,e0,hx0⟩:=Kd.pH dt.out d' c1_ c4_
      cases e0
      have HX0:=Az hx0;have HH:=Az H;have HP:=Az (Kd.qY HO.out d' nn)
      have neM:gM≠g:=fun e=>Kd.cG HO.out BM.out (by decide) (by rw[e];rfl)
      have neF:gF≠g:=fun e=>Kd.cG HO.out BF.out (by decide) (by rw[e];rfl)
      clear H c1_ c2_ JO c3_ c4_ hx0
      go_wp2_with (first|((with_reducible refine gs 3 14 rfl ?_);refine sE 3 14 (wr.setCell ⟨g,d'.toNat,none⟩ (.int .i64 nn)) ?_;intro pK hw;have n1:=Az (by rw[hw];exact HP.out:Kd.R (Kd.int .i64) 3 pK w0.heap.size (fun _=>True) (.slice (some ⟨g,0,none⟩) n cF) (xs'.set d'.toNat nn));have n2:=Az (by rw[hw];exact bU BM.out (p:=⟨g,d'.toNat,none⟩) neM _:pK.heap[gM]?=some (.cells #[.slice (some ad) l0.length c0,.slice A1 l1.length c1] 29 (0,0)));have n3:=Az (by rw[hw];exact bU BF.out (p:=⟨g,d'.toNat,none⟩) neF _:pK.heap[gF]?=some (.cells #[.slice (some ⟨g,0,none⟩) n cF] 23 (0,0)));have n4:=Az (by rw[hw];exact ap HB.out hg:Below w0.heap.size w0 pK);clear HO BM BF HB HP hw hx1 hf1 hcf;have HO:=n1;have BM:=n2;have BF:=n3;have HB:=n4;clear n1 n2 n3 n4;have hcm:pK.cell? ⟨gM,0,none⟩=some (.slice (some ad) l0.length c0):=(ai BM.out 0).trans rfl;have hxt:=(HB.out.cell (World.block_lt_of_cell? w0 _ HX0.out)).trans HX0.out))
      (first|go_roundg k1|(refine Handed.intro k1 ?measure ?_;rotate_left;go_step;(try simp only[add_plain]);(repeat apply Exists.intro);refine⟨?rel,rfl⟩))
      case measure=>exact mO
      case rel=>exact⟨_,_,rfl,HH,⟨mO⟩,HO,BM,BF,HB⟩
     ·
      rw[if_neg c4_]at H
      cases H
    ·rw[if_neg c3_]at H;have c3b:decide (rd xs' d'<0)=false:=decide_eq_false c3_;obtain rfl:=Option.some.inj H;go_wp2;refine bodyPost_end (results_none rfl _ _ _) rfl ?_;exact⟨rfl,HO.out,HB.out,BM.out,BF.out⟩
   ·
    rw[if_neg c2_]at H
    cases H
  ·
   rw[if_neg c1_]at H
   cases H
def dfar.l0:Nat->List Int->Int->Int->Option (List Int)
 |0,_,_,_=>none
 |k+1,xs,i,m=>if i<m then(if 0<=i then(if i<(xs.length:Int)then dfar.l0 k (xs.set i.toNat (-1)) (wrap64 (i+1)) m else none)else none)else some xs
def dfar.l2:Nat->List Int->List Int->Int->List Int->Int->Option (List Int)
 |0,_,_,_,_,_=>none
 |k+1,t,f,n,xs,i=>if i<(f.length:Int)then(if 0<=i then(if i<(xs.length:Int)then(if rd xs i=n then((dfar.at k t (wrap64 (n+1)) xs (rd f i)).bind fun ys=>dfar.l2 k t f n ys (wrap64 (i+1)))else dfar.l2 k t f n xs (wrap64 (i+1)))else none)else none)else some xs
def dfar.l1:Nat->List Int->List Int->List Int->Int->Option (List Int)
 |0,_,_,_,_=>none
 |k+1,t,f,xs,n=>if n<(t.length:Int)then((dfar.l2 k t f n xs 0).bind fun ys=>dfar.l1 k t f ys (wrap64 (n+1)))else some xs
def xh.f (k:Nat) (t f:List Int) (a:Int):Option (List Int):=if 0<t.length/\t.length<=1048576 then((dfar.l0 k (List.replicate t.length 0) 0 (t.length:Int)).bind fun xs=>(dfar.at k t 0 xs a).bind fun ys=>dfar.l1 k t f ys 0)else none
set_option maxHeartbeats 4000000 in
set_option maxRecDepth 100000 in
theorem xh.calls (k:Nat) (aA:Option Addr) (az:Nat) (af:List Int) (ak:Option Addr) (aj:Nat) (ag:List Int) (a1:Int) (r:List Int) (w:World) (dF:Kd.C (Kd.int .i64) w aA af.length af) (dL:af.length<=az) (de:Kd.C (Kd.int .i64) w ak ag.length ag) (dk:ag.length<=aj) (h:xh.f k af ag a1=some r):
 Calls Try.prog 88 #[.agg #[.slice aA af.length az,.slice ak ag.length aj],.int .i64 a1] w fun e w'=>∃bC:Value,e= .returned bC/\Kd.R (Kd.int .i64) 3 w' w.heap.size (fun _=>True) bC r/\Below w.heap.size w w':=by
 have jT:=Try.underlying29;have dt:=Az dF;have HR1:=Az de;have HB:=bZ w;clear dF de
 unfold xh.f at h
 by_cases hn:0<af.length/\af.length<=1048576
 ·
  rw[if_pos hn]at h;obtain⟨xs1,h1,h⟩:=Option.bind_eq_some_iff.mp h;obtain⟨xs2,h2,h3⟩:=Option.bind_eq_some_iff.mp h;clear h;have H1:=Az h1;have H2:=Az h2;have H3:=Az h3;have HN:=Az hn;clear h1 h2 h3 hn;go_enter Try.func88,Try.ntmps88
  go_wp2_with (first|((with_reducible refine gd 2 rfl ?_);refine bE 2 #[.slice aA af.length az,.slice ak ag.length aj] 29 ?_;intro gM hg w5 hbox hb;have n1:=Az (ay HB.out hb);have BM:=Az hbox;have GM:=Az ((by rw[hg];exact aQ HB.out):w.heap.size<=gM);clear HB hb hbox hg;have HB:=n1;clear n1;have ajp:=cz BM.out 0)|((with_reducible refine gd 14 rfl ?_);refine Kd.sD (Kd.int .i64) _ 3 rfl (N:=14) rfl 23 _ _ rfl (af.length:Int) rfl rfl Try.underlying23 (.int .i64 0) 8 dE rfl (by decide) (by omega) 0 (ok:=fun _=>True) (okp:=fun _=>True) rfl (fun _ hk=>hk) trivial (by omega) (by have:=HN.out;omega) (Below.refl _ _) (Nat.le_refl _) ?_;intro v14 w6 qk hb hg_ hnew_;clear hg_ hnew_;rw[Int.toNat_natCast]at qk;obtain⟨g,cF,ev,gb,gl,_⟩:=Kd.jQ qk (by rw[List.length_replicate];exact HN.out.1);have n1:=Az (Kd.a7 qk (aQ HB.out));have GG:=Az (Nat.le_trans (aQ HB.out) gb);subst ev;have n2:=Az (ay HB.out hb);have n3:=Az (lI BM.out hb);clear HB BM hb qk gb gl ajp;have HO:=n1;have HB:=n2;have BM:=n3;clear n1 n2 n3;rw[List.length_replicate]at HO ⊢))
  have n1:=qb BM.out (.cells #[.slice (some ⟨g,0,none⟩) af.length cF] 23);have n2:=Kd.Fz HO.out (.cells #[.slice (some ⟨g,0,none⟩) af.length cF] 23);have n3:=bm HB.out (.cells #[.slice (some ⟨g,0,none⟩) af.length cF] 23);have n4:=N9 w6 (.cells #[.slice (some ⟨g,0,none⟩) af.length cF] 23);clear BM HO HB;generalize hw7:w6.alloc (.cells #[.slice (some ⟨g,0,none⟩) af.length cF] 23)=w7 at n1 n2 n3 n4 ⊢;generalize hgF:w6.heap.size=gF at n4 ⊢;clear hw7 hgF;have HB:=Az n3;have BM:=Az n1;have BF:=Az n4;have HO:=Az n2;clear n1 n2 n3 n4 GM
  go_loopg [17] k (fun kq v17 w'=>∃(i:Int) (xs':List Int),v17= .int .i64 i/\ae (dfar.l0 kq xs' i (af.length:Int)=some xs1)/\ae (kq<=k)/\ae (Kd.R (Kd.int .i64) 3 w' w.heap.size (fun _=>True) (.slice (some ⟨g,0,none⟩) af.length cF) xs')/\ae (w'.heap[gM]?=some (.cells #[.slice aA af.length az,.slice ak ag.length aj] 29 (0,0)))/\ae (w'.heap[gF]?=some (.cells #[.slice (some ⟨g,0,none⟩) af.length cF] 23 (0,0)))/\ae (Below w.heap.size w w'))
  case atStart=>exact⟨0,_,rfl,H1,⟨Nat.le_refl _⟩,HO,BM,BF,HB⟩
  case round=>
   clear H1 HO BM BF HB;obtain⟨i,xs',rfl,HA,eZ,HO,BM,BF,HB⟩:=hrel
   rcases gk with _|k1
   exact(nN HA.out).elim;have H:=HA.out;clear HA;simp only[dfar.l0]at H;have hnx:af.length=xs'.length:=(Kd.au HO.out).1
   by_cases c1_:i<(af.length:Int)
   ·
    rw[if_pos c1_]at H;have Bs:decide (i<(af.length:Int))=true:=decide_eq_true c1_
    by_cases c2_:0<=i
    ·
     rw[if_pos c2_]at H
     by_cases c3_:i<(xs'.length:Int)
     ·
      rw[if_pos c3_]at H;have p1:(0<=i)=True:=eq_true c2_;have q1:(i<(af.length:Int))=True:=eq_true c1_;have hcf:wr.cell? ⟨gF,0,none⟩=some (.slice (some ⟨g,0,none⟩) af.length cF):=(ai BF.out 0).trans rfl;have hx1:wr.cell? ⟨g,i.toNat,none⟩=some (.int .i64 (rd xs' i)):=(Kd.dd 0 HO.out i c2_ c1_).1;have hf1:=(Kd.dd 0 HO.out i c2_ c1_).2;have HP:=Az (Kd.qY HO.out i (-1));have HH:=Az H
      have neM:gM≠g:=fun e=>Kd.cG HO.out BM.out (by decide) (by rw[e];rfl)
      have neF:gF≠g:=fun e=>Kd.cG HO.out BF.out (by decide) (by rw[e];rfl)
      clear H c1_ c2_ c3_ hnx;go_wp2;go_roundg k1
      case measure=>exact mO
      case rel=>exact⟨_,_,rfl,HH,⟨mO⟩,HP,⟨bU BM.out (p:=⟨g,i.toNat,none⟩) neM _⟩,⟨bU BF.out (p:=⟨g,i.toNat,none⟩) neF _⟩,⟨ap HB.out GG.out⟩⟩
     ·
      rw[if_neg c3_]at H
      cases H
    ·
     rw[if_neg c2_]at H
     cases H
   ·
    rw[if_neg c1_]at H;have Bs:decide (i<(af.length:Int))=false:=decide_eq_false c1_;obtain rfl:=Option.some.inj H;clear H hnx c1_
    go_wp2_with (first|(go_at_call 109;(refine(dfar.YP k aA az af ak aj ag gM gF g af.length cF a1 0 _ xs2 w _ HB.out GG.out BM.out BF.out HO.out dt.out H2.out).mono ?_;rintro e w16 ⟨rfl,ho,hb,hm,hf⟩;clear HO BM BF HB;have HO:=Az ho;have BM:=Az hm;have BF:=Az hf;have HB:=Az hb;clear ho hm hf hb;have hcm0:w16.cell? ⟨gM,0,none⟩=some (.slice aA af.length az):=(ai BM.out 0).trans rfl;have hcm1:w16.cell? ⟨gM,1,none⟩=some (.slice ak ag.length aj):=(ai BM.out 1).trans rfl)))
    clear H2
    go_loopg [31] k (fun kq v31 w'=>∃(nn:Int) (xs':List Int),v31= .int .i64 nn/\ae (dfar.l1 kq af ag xs' nn=some r)/\ae (kq<=k)/\ae (Kd.R (Kd.int .i64) 3 w' w.heap.size (fun _=>True) (.slice (some ⟨g,0,none⟩) af.length cF) xs')/\ae (w'.heap[gM]?=some (.cells #[.slice aA af.length az,.slice ak ag.length aj] 29 (0,0)))/\ae (w'.heap[gF]?=some (.cells #[.slice (some ⟨g,0,none⟩) af.length cF] 23 (0,0)))/\ae (Below w.heap.size w w'))
    case atStart=>exact⟨0,_,rfl,H3,⟨Nat.le_refl _⟩,HO,BM,BF,HB⟩
    case round=>
     clear H3 HO BM BF HB Bs;obtain⟨nn,xs',rfl,HA,eZ,HO,BM,BF,HB⟩:=hrel
     rcases gk with _|k1
     exact(nN HA.out).elim;have H:=HA.out;clear HA;simp only[dfar.l1]at H;have hcm1:wr.cell? ⟨gM,1,none⟩=some (.slice ak ag.length aj):=(ai BM.out 1).trans rfl;have hcf:wr.cell? ⟨gF,0,none⟩=some (.slice (some ⟨g,0,none⟩) af.length cF):=(ai BF.out 0).trans rfl
     by_cases c1_:nn<(af.length:Int)
     ·
      rw[if_pos c1_]at H;have Bs:decide (nn<(af.length:Int))=true:=decide_eq_true c1_;obtain⟨ys,h4,h5⟩:=Option.bind_eq_some_iff.mp H;have H4:=Az h4;have H5:=Az h5;clear h4 h5 H c1_;go_wp2;clear hcm1 hcf Bs
      go_loopg [37] k1 (fun kq v37 w'=>∃(i:Int) (xs':List Int),v37= .int .i64 i/\ae (dfar.l2 kq af ag nn xs' i=some ys)/\ae (kq<=k1)/\ae (Kd.R (Kd.int .i64) 3 w' w.heap.size (fun _=>True) (.slice (some ⟨g,0,none⟩) af.length cF) xs')/\ae (w'.heap[gM]?=some (.cells #[.slice aA af.length az,.slice ak ag.length aj] 29 (0,0)))/\ae (w'.heap[gF]?=some (.cells #[.slice (some ⟨g,0,none⟩) af.length cF] 23 (0,0)))/\ae (Below w.heap.size w w'))
      case atStart=>exact⟨0,_,rfl,H4,⟨Nat.le_refl _⟩,HO,BM,BF,HB⟩
      case round=>
       clear H4 HO BM BF HB;obtain⟨i,xs',rfl,HA,eE,HO,BM,BF,HB⟩:=hrel
       rcases gk with _|k2
       exact(nN HA.out).elim;have H:=HA.out;clear HA;simp only[dfar.l2]at H;have hnx:af.length=xs'.length:=(Kd.au HO.out).1;have hcf:wr.cell? ⟨gF,0,none⟩=some (.slice (some ⟨g,0,none⟩) af.length cF):=(ai BF.out 0).trans rfl
       by_cases c1_:i<(ag.length:Int)
       ·
        rw[if_pos c1_]at H;have Bs:decide (i<(ag.length:Int))=true:=decide_eq_true c1_
        by_cases c2_:0<=i
        ·
         rw[if_pos c2_]at H
         by_cases c3_:i<(xs'.length:Int)
         ·
          rw[if_pos c3_]at H
          have Ps:i<(af.length:Int):=by rw[hnx];exact c3_
          have p1:(0<=i)=True:=eq_true c2_;have q1:(i<(af.length:Int))=True:=eq_true Ps;have q2:(i<(ag.length:Int))=True:=eq_true c1_;have hx1:wr.cell? ⟨g,i.toNat,none⟩=some (.int .i64 (rd xs' i)):=(Kd.dd 0 HO.out i c2_ Ps).1;obtain⟨ad,e0,hx0⟩:=Kd.pH HR1.out i c2_ c1_
          cases e0
          have hx2:=(HB.out.cell (World.block_lt_of_cell? w _ hx0)).trans hx0;clear hnx c1_ c2_ c3_ Ps hx0
          by_cases c4_:rd xs' i=nn
          ·
           rw[if_pos c4_]at H;have c4b:(rd xs' i==nn)=true:=beq_iff_eq.mpr c4_;obtain⟨zs,h6,h7⟩:=Option.bind_eq_some_iff.mp H;have H6:=Az h6;have H7:=Az h7;clear h6 h7 H c4_
           go_wp2_with (first|(go_at_call 109;(refine(dfar.YP k2 aA az af _ aj ag gM gF g af.length cF (rd ag i) (wrap64 (nn+1)) xs' zs w _ HB.out GG.out BM.out BF.out HO.out dt.out H6.out).mono ?_;rintro e w16 ⟨rfl,ho,hb,hm,hf⟩;clear HO BM BF HB;have HO:=Az ho;have BM:=Az hm;have BF:=Az hf;have HB:=Az hb;clear ho hm hf hb)))
           go_roundg k2
           case measure=>exact mO
           case rel=>exact⟨_,_,rfl,H7,⟨mO⟩,HO,BM,BF,HB⟩
          ·
           rw[if_neg c4_]at H;have c4b:(rd xs' i==nn)=false:=beq_eq_false_iff_ne.mpr c4_;have H7:=Az H;clear H c4_;go_wp2;go_roundg k2
           case measure=>exact mO
           case rel=>exact⟨_,_,rfl,H7,⟨mO⟩,HO,BM,BF,HB⟩
         ·
          rw[if_neg c3_]at H
          cases H
        ·
         rw[if_neg c2_]at H
         cases H
       ·
        rw[if_neg c1_]at H;have Bs:decide (i<(ag.length:Int))=false:=decide_eq_false c1_;obtain rfl:=Option.some.inj H;clear H hnx c1_ hcf;go_wp2;go_roundg k1
        case measure=>exact mO
        case rel=>exact⟨_,_,rfl,H5,⟨mO⟩,HO,BM,BF,HB⟩
     ·rw[if_neg c1_]at H;have Bs:decide (nn<(af.length:Int))=false:=decide_eq_false c1_;obtain rfl:=Option.some.inj H;clear H c1_;go_wp2;go_ret;exact⟨_,rfl,HO.out,HB.out⟩
 ·
  rw[if_neg hn]at h
  cases h
def lD.f (a0:Int) (a1:Int) (a2:Int):Option (Bool):=if a0>=a1 then(some (decide (a0<=a2)))else(some false)
set_option maxHeartbeats 8000000 in
set_option maxRecDepth 100000 in
theorem lD.calls (a0:Int) (a1:Int) (a2:Int) (r:Bool) (w:World) (h:lD.f a0 a1 a2=some r):
 Calls Try.prog 63 #[.int .i64 a0,.int .i64 a1,.int .i64 a2] w fun e w'=>e= .returned (.bool r)/\cy w w':=by
 have H:=h;clear h;unfold lD.f at H
 replace H:=gB H;rcases H with⟨kL,H⟩|⟨kL,H⟩
 ·obtain rfl:=Option.some.inj H;go_enter Try.func63,Try.ntmps63;go_wp2;go_ret;exact⟨by first|rfl|(simp;done)|(simp[*];done),qc_⟩
 ·obtain rfl:=Option.some.inj H;go_enter Try.func63,Try.ntmps63;go_wp2;go_ret;exact⟨by first|rfl|(simp;done)|(simp[*];done),qc_⟩
mutual
def gI.l0:Nat->List Int->Int->Option (Bool)
 |0,_,_=>none
 |k+1,x0,x3=>if x3<(x0.length:Int)then(if 0<=x3 then((lD.f (rd x0 x3) 0 (wrap64 ((x0.length:Int)-1))).bind fun Pt=>(if Pt=true then(gI.l1 k x0 x3 0)else(some false)))else(none))else((lD.f (x0.length:Int) 1 12).bind fun Pu=>(some Pu))
def gI.l1:Nat->List Int->Int->Int->Option (Bool)
 |0,_,_,_=>none
 |k+1,x0,x3,x4=>if x4<x3 then(if 0<=x4 then(if x4<(x0.length:Int)then(if 0<=x3 then(if x3<(x0.length:Int)then(if(rd x0 x4)=(rd x0 x3)then(some false)else(gI.l1 k x0 x3 (wrap64 (x4+1))))else(none))else(none))else(none))else(none))else(gI.l0 k x0 (wrap64 (x3+1)))
end
def gI.f (k:Nat) (l0:List Int):Option (Bool):=gI.l0 k l0 0
set_option maxHeartbeats 8000000 in
set_option maxRecDepth 100000 in
theorem gI.calls (k:Nat) (A0:Option Addr) (c0:Nat) (l0:List Int) (r:Bool) (w:World) (hr0:Kd.C (Kd.int .i64) w A0 l0.length l0) (hc0:l0.length<=c0) (h:gI.f k l0=some r):
 Calls Try.prog 125 #[.slice A0 l0.length c0] w fun e w'=>e= .returned (.bool r)/\cy w w':=by
 have dt:=Az hr0;have iX:=Az hc0;clear hr0 hc0;have H:=h;clear h;unfold gI.f at H;have H':=Az H;clear H;go_enter Try.func125,Try.ntmps125;go_wp2
 repeat (go_quiet (fail);try go_wp2)
 go_loopg [3] k (fun kq v3 w'=>∃(bc:Int),v3= .int .i64 bc/\ae (gI.l0 kq l0 bc=some r)/\ae (kq<=k)/\cy w w')
 case atStart=>exact⟨(0),rS,H',⟨Nat.le_refl _⟩,qc_⟩
 case round=>
  clear H';obtain⟨bc,rfl,HA,eZ,⟨m1,rfl⟩⟩:=hrel
  rcases gk with _|k1
  exact(nN HA.out).elim;have H:=HA.out;clear HA;simp only[gI.l0]at H
  by_cases c2:bc<(l0.length:Int)
  ·
   rw[if_pos c2]at H;have sL:=decide_eq_true c2;clear c2;replace H:=gD1 H;obtain⟨lJ,H⟩:=H;replace H:=bd H;obtain⟨Pt,A4,H⟩:=H
   by_cases c5:Pt=true
   ·
    subst c5;rw[if_pos rfl]at H;have H':=Az H;clear H;obtain⟨ajr,Pv,ajs,ajt,aju⟩:=aI dt.out bc
    cases Pv
    go_wp2_with (first|(go_at_call 63;(with_reducible refine(lD.calls (rd l0 bc) 0 (wrap64 ((l0.length:Int)-1)) true _ A4.out).mono ?_);rintro e w' ⟨rfl,⟨nd,rfl⟩⟩))
    repeat (go_quiet (fail);try go_wp2_with (fail))
    go_loopg [4] k1 (fun kq v4 w'=>∃(fY:Int),v4= .int .i64 fY/\ae (gI.l1 kq l0 bc fY=some r)/\ae (kq<=k1)/\cy w w')
    case atStart=>exact⟨(0),rS,H',⟨Nat.le_refl _⟩,qc_⟩
    case round=>
     clear H';obtain⟨fY,rfl,HA,eE,⟨m2,rfl⟩⟩:=hrel
     rcases gk with _|k2
     exact(nN HA.out).elim;have H:=HA.out;clear HA;simp only[gI.l1]at H
     replace H:=gB H;rcases H with⟨kk,H⟩|⟨kk,H⟩
     ·
      replace H:=gD4 H;obtain⟨jl,jS,mK,ni,H⟩:=H
      replace H:=gQ H;rcases H with⟨rT,JP,H⟩|⟨rT,JP,H⟩
      ·
       obtain rfl:=Option.some.inj H;obtain⟨ajv,ajw,ajx⟩:=aJ dt.out fY;obtain⟨ajy,ajz,ajA⟩:=aJ dt.out bc;go_wp2
       repeat (go_quiet (fail);try go_wp2)
       go_ret;exact⟨by first|rfl|(simp;done)|(simp[*];done),qc_⟩
      ·
       have H':=Az H;clear H;obtain⟨ajv,ajw,ajx⟩:=aJ dt.out fY;obtain⟨ajy,ajz,ajA⟩:=aJ dt.out bc;go_wp2
       repeat (go_quiet (fail);try go_wp2)
       go_roundg k2
       case measure=>exact mO
       case rel=>exact⟨(wrap64 (fY+1)),rS,H',⟨mO⟩,qc_⟩
     ·
      have H':=Az H;clear H;go_wp2
      repeat (go_quiet (fail);try go_wp2)
      go_roundg k2
      case measure=>exact mO
      case rel=>exact⟨(wrap64 (bc+1)),rS,H',⟨mO⟩,qc_⟩
   ·
    replace c5:=Bool.eq_false_iff.mpr c5;subst c5;rw[if_neg nT]at H;obtain rfl:=Option.some.inj H;obtain⟨ajr,Pv,ajs,ajt,aju⟩:=aI dt.out bc
    cases Pv
    go_wp2_with (first|(go_at_call 63;(with_reducible refine(lD.calls (rd l0 bc) 0 (wrap64 ((l0.length:Int)-1)) false _ A4.out).mono ?_);rintro e w' ⟨rfl,⟨nd,rfl⟩⟩))
    repeat (go_quiet (fail);try go_wp2_with (fail))
    go_ret;exact⟨by first|rfl|(simp;done)|(simp[*];done),qc_⟩
  ·
   rw[if_neg c2]at H;have sL:=decide_eq_false c2;clear c2;replace H:=bd H;obtain⟨Pu,Pp,H⟩:=H;obtain rfl:=Option.some.inj H
   go_wp2_with (first|(go_at_call 63;(with_reducible refine(lD.calls (l0.length:Int) 1 12 Pu _ Pp.out).mono ?_);rintro e w' ⟨rfl,⟨nd,rfl⟩⟩))
   repeat (go_quiet (fail);try go_wp2_with (fail))
   go_ret;exact⟨by first|rfl|(simp;done)|(simp[*];done),qc_⟩
def sy.f (k:Nat) (l0:List Int) (l1:List Int):Option (Bool):=(gI.f k l0).bind fun Pw=>(if Pw=true then((gI.f k l1).bind fun Px=>(if Px=true then(some ((l0.length:Int)==(l1.length:Int)))else(some false)))else(some false))
set_option maxHeartbeats 8000000 in
set_option maxRecDepth 100000 in
theorem sy.calls (k:Nat) (A0:Option Addr) (c0:Nat) (l0:List Int) (A1:Option Addr) (c1:Nat) (l1:List Int) (r:Bool) (w:World) (hr0:Kd.C (Kd.int .i64) w A0 l0.length l0) (hc0:l0.length<=c0) (hr1:Kd.C (Kd.int .i64) w A1 l1.length l1) (hc1:l1.length<=c1) (h:sy.f k l0 l1=some r):
 Calls Try.prog 111 #[.slice A0 l0.length c0,.slice A1 l1.length c1] w fun e w'=>e= .returned (.bool r)/\cy w w':=by
 have dt:=Az hr0;have iX:=Az hc0;clear hr0 hc0;have HR1:=Az hr1;have ml:=Az hc1;clear hr1 hc1;have H:=h;clear h;unfold sy.f at H;replace H:=bd H;obtain⟨Pw,A3,H⟩:=H
 by_cases c4:Pw=true
 ·
  subst c4;rw[if_pos rfl]at H;replace H:=bd H;obtain⟨Px,A5,H⟩:=H
  by_cases c6:Px=true
  ·
   subst c6;rw[if_pos rfl]at H;obtain rfl:=Option.some.inj H;go_enter Try.func111,Try.ntmps111
   go_wp2_with (first|((with_reducible refine gK 125 rfl ?_);refine gC (some 6) Try.func125 #[.slice A0 l0.length c0] ?_;(with_reducible refine(gI.calls k _ _ l0 true _ ?_ ?_ A3.out).mono ?_);exact cU (dt.out);exact iX.out;rintro e w' ⟨rfl,⟨nd,rfl⟩⟩;refine⟨_,rfl,?_⟩)|(go_at_call 125;(with_reducible refine(gI.calls k _ _ l1 true _ ?_ ?_ A5.out).mono ?_);exact cU (HR1.out);exact ml.out;rintro e w' ⟨rfl,⟨nd,rfl⟩⟩))
   go_ret;exact⟨by first|rfl|(simp;done)|(simp[*];done),qc_⟩
  ·
   replace c6:=Bool.eq_false_iff.mpr c6;subst c6;rw[if_neg nT]at H;obtain rfl:=Option.some.inj H;go_enter Try.func111,Try.ntmps111
   go_wp2_with (first|((with_reducible refine gK 125 rfl ?_);refine gC (some 6) Try.func125 #[.slice A0 l0.length c0] ?_;(with_reducible refine(gI.calls k _ _ l0 true _ ?_ ?_ A3.out).mono ?_);exact cU (dt.out);exact iX.out;rintro e w' ⟨rfl,⟨nd,rfl⟩⟩;refine⟨_,rfl,?_⟩)|(go_at_call 125;(with_reducible refine(gI.calls k _ _ l1 false _ ?_ ?_ A5.out).mono ?_);exact cU (HR1.out);exact ml.out;rintro e w' ⟨rfl,⟨nd,rfl⟩⟩))
   go_ret;exact⟨by first|rfl|(simp;done)|(simp[*];done),qc_⟩
 ·
  replace c4:=Bool.eq_false_iff.mpr c4;subst c4;rw[if_neg nT]at H;obtain rfl:=Option.some.inj H;go_enter Try.func111,Try.ntmps111
  go_wp2_with (first|((with_reducible refine gK 125 rfl ?_);refine gC (some 6) Try.func125 #[.slice A0 l0.length c0] ?_;(with_reducible refine(gI.calls k _ _ l0 false _ ?_ ?_ A3.out).mono ?_);exact cU (dt.out);exact iX.out;rintro e w' ⟨rfl,⟨nd,rfl⟩⟩;refine⟨_,rfl,?_⟩))
  go_ret;exact⟨by first|rfl|(simp;done)|(simp[*];done),qc_⟩
def qN.l0:Nat->Int->List Int->Int->Option (List Int)
 |0,_,_,_=>none
 |k+1,x0,x3,x4=>if x4<x0 then(if x3.length<17592186044416 then(qN.l0 k x0 (x3++[x4]) (wrap64 (x4+1)))else(none))else(some x3)
def qN.f (k:Nat) (a0:Int):Option (List Int):=qN.l0 k a0 (([]:List Int)) 0
set_option maxHeartbeats 8000000 in
set_option maxRecDepth 100000 in
theorem qN.calls (k:Nat) (a0:Int) (r:List Int) (w:World) (h:qN.f k a0=some r):
 Calls Try.prog 126 #[.int .i64 a0] w fun e w'=>∃bC:Value,e= .returned (bC)/\Kd.R (Kd.int .i64) 3 w' w.heap.size (fun _=>True) bC r/\Below w.heap.size w w':=by
 have HB:=bZ w;have H:=h;clear h;unfold qN.f at H;generalize JQ:(([]:List Int):List Int)=y420 at H;replace JQ:=Ay JQ;have H':=Az H;clear H;go_enter Try.func126,Try.ntmps126
 go_wp2_with (first|((with_reducible refine gd 5 rfl ?_);refine Kd.ji (Kd.int .i64) _ 3 rfl (N:=5) rfl (xs:=([]:List Int)) (inner:=[]) (ok:=fun _=>True) (okp:=fun _=>True) hS ?hp (fun _ hk=>hk) trivial (Below.refl _ _) (Nat.le_refl _) (by simp) ?_;(case hp=>exact(Reps.none _ _));intro atc w2 ho3 hb hg_ hnew_;clear hg_ hnew_;(first|rw[<-JQ.out]at ho3|(simp only[Int.reduceToNat]at ho3;rw[<-JQ.out]at ho3));have ajB:=Az (Kd.a7 ho3 (aQ (bU0 HB.out)));replace HB:=Az (ay (bU0 HB.out) hb);clear hb ho3))
 go_loopg [3,4] k (fun kq v3 v4 w'=>∃(bc:List Int) (bF:Int),v4= .int .i64 bF/\ae (qN.l0 kq a0 bc bF=some r)/\ae (kq<=k)/\ae (Kd.R (Kd.int .i64) 3 w' w.heap.size (fun _=>True) v3 bc)/\ae (Below w.heap.size w w'))
 case atStart=>exact⟨(y420),(0),rS,H',⟨Nat.le_refl _⟩,⟨rU ajB.out⟩,⟨bU0 HB.out⟩⟩
 case round=>
  clear H';obtain⟨bc,bF,rfl,HA,eZ,aZ,HB⟩:=hrel
  rcases gk with _|k1
  exact(nN HA.out).elim;have H:=HA.out;clear HA;simp only[qN.l0]at H
  replace H:=gB H;rcases H with⟨kL,H⟩|⟨kL,H⟩
  ·
   replace H:=gP H;obtain⟨c5,H⟩:=H;have Py:=Az c5;clear c5;generalize Pz:(bc++[bF]:List Int)=y423 at H;replace Pz:=Ay Pz;have H':=Az H;clear H
   go_wp2_with (first|((with_reducible refine mf (b:=.append) (xs:=#[.tmp 11,.tmp 13]) rfl ?_);at_builtin;refine Kd.na (Kd.int .i64) (w0:=w) w.heap.size rfl (.tmp 11) (.tmp 13) 23 3 (.int .i64 0) 8 rfl Try.underlying23 dE rfl (by decide) (by omega) u3 bc bF [.int .i64 bF] (fun _=>True) (fun _=>False) rfl rfl ?aP (fun _ hk=>hk.elim) ?aF ?aO ?aB ?aS ?aL ?_;(case aP=>exact rfl);(case aB=>exact(bU0 HB.out));(case aF=>exact(fun _ _=>trivial));(case aO=>exact(rU aZ.out));(case aS=>exact(aQ (bU0 HB.out)));(case aL=>have:=Py.out;omega);intro atd w6 ho hb hg hat;rw[<-Pz.out]at ho;replace HB:=Az (hb);have ajC:=Az (ho);clear aZ ho hb hg hat))
   go_roundg k1
   case measure=>exact mO
   case rel=>exact⟨(y423),(wrap64 (bF+1)),rS,H',⟨mO⟩,⟨rU ajC.out⟩,⟨bU0 HB.out⟩⟩
  ·obtain rfl:=Option.some.inj H;go_wp2;go_ret;exact⟨_,rE,rU aZ.out,bU0 HB.out⟩
mutual
def jR.l0:Nat->List Int->List Int->List Int->Int->Option (List Int)
 |0,_,_,_,_=>none
 |k+1,x0,x1,x5,x6=>if x6<(x0.length:Int)then(jR.l1 k x0 x1 x5 x6 0)else(some x5)
def jR.l1:Nat->List Int->List Int->List Int->Int->Int->Option (List Int)
 |0,_,_,_,_,_=>none
 |k+1,x0,x1,x5,x6,x7=>if x7<(x0.length:Int)then(if 0<=x7 then(if x7<(x5.length:Int)then(if 0<=(rd x0 x7)then(if(rd x0 x7)<(x5.length:Int)then(if x7<(x1.length:Int)then(if 0<=(rd x1 x7)then(if(rd x1 x7)<(x5.length:Int)then(jR.l1 k x0 x1 (((x5.set (x7:Int).toNat (mn (rd x5 x7) (mn (rd x5 (rd x0 x7)) (rd x5 (rd x1 x7))))).set ((rd x0 x7):Int).toNat (mn (rd x5 x7) (mn (rd x5 (rd x0 x7)) (rd x5 (rd x1 x7))))).set ((rd x1 x7):Int).toNat (mn (rd x5 x7) (mn (rd x5 (rd x0 x7)) (rd x5 (rd x1 x7))))) x6 (wrap64 (x7+1)))else(none))else(none))else(none))else(none))else(none))else(none))else(none))else(jR.l0 k x0 x1 x5 (wrap64 (x6+1)))
end
def jR.f (k:Nat) (l0:List Int) (l1:List Int):Option (List Int):=(qN.f k (l0.length:Int)).bind fun JR=>(jR.l0 k l0 l1 JR 0)
set_option maxHeartbeats 8000000 in
set_option maxRecDepth 100000 in
theorem jR.calls (k:Nat) (A0:Option Addr) (c0:Nat) (l0:List Int) (A1:Option Addr) (c1:Nat) (l1:List Int) (r:List Int) (w:World) (hr0:Kd.C (Kd.int .i64) w A0 l0.length l0) (hc0:l0.length<=c0) (hr1:Kd.C (Kd.int .i64) w A1 l1.length l1) (hc1:l1.length<=c1) (h:jR.f k l0 l1=some r):
 Calls Try.prog 112 #[.slice A0 l0.length c0,.slice A1 l1.length c1] w fun e w'=>∃bC:Value,e= .returned (bC)/\Kd.R (Kd.int .i64) 3 w' w.heap.size (fun _=>True) bC r/\Below w.heap.size w w':=by
 have dt:=Az hr0;have iX:=Az hc0;clear hr0 hc0;have HR1:=Az hr1;have ml:=Az hc1;clear hr1 hc1;have HB:=bZ w;have H:=h;clear h;unfold jR.f at H;replace H:=bd H;obtain⟨JR,A3,H⟩:=H;have H':=Az H;clear H;go_enter Try.func112,Try.ntmps112
 go_wp2_with (first|(go_at_call 126;(with_reducible refine(qN.calls k (l0.length:Int) JR _ A3.out).mono ?_);rintro e w4 ⟨aaC,rfl,ho0,hb⟩;have ajD:=Az (Kd.a7 ho0 (aQ (bU0 HB.out)));replace HB:=Az (ay (bU0 HB.out) hb);clear hb ho0))
 repeat (go_quiet (fail);try go_wp2_with (fail))
 go_loopg [6] k (fun kq v6 w'=>∃(bg:List Int) (en:Int),v6= .int .i64 en/\ae (jR.l0 kq l0 l1 bg en=some r)/\ae (kq<=k)/\ae (Kd.R (Kd.int .i64) 3 w' w.heap.size (fun _=>True) aaC bg)/\ae (Below w.heap.size w w'))
 case atStart=>exact⟨(JR),(0),rS,H',⟨Nat.le_refl _⟩,⟨rU ajD.out⟩,⟨bU0 HB.out⟩⟩
 case round=>
  clear H';obtain⟨bg,en,rfl,HA,eZ,aG,HB⟩:=hrel
  rcases gk with _|k1
  exact(nN HA.out).elim;have H:=HA.out;clear HA;simp only[jR.l0]at H
  by_cases c5:en<(l0.length:Int)
  ·
   rw[if_pos c5]at H;have qZ:=decide_eq_true c5;clear c5;have H':=Az H;clear H;go_wp2
   repeat (go_quiet (fail);try go_wp2)
   go_loopg [7] k1 (fun kq v7 w'=>∃(dx:List Int) (aN:Int),v7= .int .i64 aN/\ae (jR.l1 kq l0 l1 dx en aN=some r)/\ae (kq<=k1)/\ae (Kd.R (Kd.int .i64) 3 w' w.heap.size (fun _=>True) aaC dx)/\ae (Below w.heap.size w w'))
   case atStart=>exact⟨(bg),(0),rS,H',⟨Nat.le_refl _⟩,⟨rU aG.out⟩,⟨bU0 HB.out⟩⟩
   case round=>
    clear H';obtain⟨dx,aN,rfl,HA,eE,aG,HB⟩:=hrel
    rcases gk with _|k2
    exact(nN HA.out).elim;have H:=HA.out;clear HA;simp only[jR.l1]at H
    replace H:=gB H;rcases H with⟨kk,H⟩|⟨kk,H⟩
    ·
     replace H:=gD6 H;obtain⟨jl,jS,mK,ni,rT,yW,H⟩:=H;replace H:=gD1 H;obtain⟨vW,H⟩:=H;obtain⟨D2,Bt⟩:∃j_:Int,(mn (rd dx (rd l0 aN)) (rd dx (rd l1 aN)))=j_:=⟨_,rfl⟩;(first|rw[Bt]at H|simp only[Bt]at H);have ate:(if(rd dx (rd l1 aN))<(rd dx (rd l0 aN))then(rd dx (rd l1 aN))else(rd dx (rd l0 aN)))=D2:=Bt;obtain⟨jU,Bg⟩:∃j_:Int,(mn (rd dx aN) (D2))=j_:=⟨_,rfl⟩;(first|rw[Bg]at H|simp only[Bg]at H);have aiI:(if(D2)<(rd dx aN)then(D2)else(rd dx aN))=jU:=Bg;generalize PD:(dx.set (aN:Int).toNat (jU):List Int)=y434 at H;replace PD:=Ay PD;generalize PE:(y434.set ((rd l0 aN):Int).toNat (jU):List Int)=y436 at H;replace PE:=Ay PE;generalize PF:(y436.set ((rd l1 aN):Int).toNat (jU):List Int)=y438 at H;replace PF:=Ay PF;have H':=Az H;clear H;obtain⟨bH,bz,zc⟩:=Kd.aH aG.out;subst zc;obtain⟨atf,ajE,_,_,ajF⟩:=aI (Kd.au aG.out).2.2 aN
     cases ajE;obtain⟨atg,ajG,_,_,aaD⟩:=aI dt.out aN
     cases ajG
     replace aaD:=hT HB.out aaD;obtain⟨_,_,ajH⟩:=aJ (Kd.au aG.out).2.2 (rd l0 aN);obtain⟨ath,ajI,_,_,aaE⟩:=aI HR1.out aN
     cases ajI
     replace aaE:=hT HB.out aaE;obtain⟨_,_,ajJ⟩:=aJ (Kd.au aG.out).2.2 (rd l1 aN);have p16:0<=(aN:Int):=oA;have q16:(aN:Int)<((dx.length:Int):Int):=oA;obtain⟨xn,ajK,Gc,aaF,ajL,ati,aaG⟩:=Kd.jQ aG.out (by omega);(first|cases Gc|(injection Gc with ea_ en_ ec_;(first|subst ea_|(injection ea_ with ea_;subst ea_));subst ec_;clear en_));have PG:=Az aaF;have atj:=Az aaG;clear aaF ajL aaG;simp only[add_plain]at ajF;simp only[add_plain]at ajH;simp only[add_plain]at ajJ;obtain⟨atk,atl⟩:=Kd.dd 0 aG.out (aN:Int) p16 q16;replace p16:=eq_true p16;replace q16:=eq_true q16;obtain⟨ajM,ajN⟩:=Kd.dd 0 aG.out (aN:Int) (oA) (oA);have JS:=Kd.jy aG.out (aN:Int) jU
     go_wp2_with (fail)
     repeat (go_quiet (fail);try go_wp2_with (first|((with_reducible refine gs 3 47 rfl ?_);(rw[Nw wr];generalize hq_:World.drewN wr _=wr;replace aG:=Az (Kd.Oh hq_ aG.out);replace HB:=Az (Ol hq_ HB.out);clear hq_;(obtain⟨ajM,ajN⟩:=Kd.dd 0 aG.out (aN:Int) (oA) (oA));(have JS:=Kd.jy aG.out (aN:Int) jU));refine sE 3 47 (wr.setCell ⟨xn,(aN:Int).toNat,none⟩ (.int .i64 jU)) ?_;intro rh hw;have hg:wr.grownBy rh (some xn):=(by rw[hw];exact JS.2);have hp_:Kd.R (Kd.int .i64) 3 rh w.heap.size (fun _=>True) (.slice (some ⟨xn,0,none⟩) dx.length bz) y434:=(by rw[hw,PD.out];exact JS.1);clear JS;replace aG:=Az (hp_);replace HB:=Az ((by rw[hw];exact ap (HB.out) PG.out:Below w.heap.size w rh));clear hg hw hp_;obtain⟨_,_,aaH⟩:=aJ dt.out aN;replace aaH:=hT HB.out aaH;have Bu:0<=((rd l0 aN):Int):=oA;have Bv:((rd l0 aN):Int)<((dx.length:Int):Int):=oA;obtain⟨ajO,ajP⟩:=Kd.dd 0 aG.out ((rd l0 aN):Int) Bu Bv;replace Bu:=eq_true Bu;replace Bv:=eq_true Bv;obtain⟨aag,aah⟩:=Kd.dd 0 aG.out ((rd l0 aN):Int) (oA) (oA);have zd:=Kd.jy aG.out ((rd l0 aN):Int) jU)|((with_reducible refine gs 3 54 rfl ?_);refine sE 3 54 (rh.setCell ⟨xn,((rd l0 aN):Int).toNat,none⟩ (.int .i64 jU)) ?_;intro ig hw;have hg:rh.grownBy ig (some xn):=(by rw[hw];exact zd.2);have hp_:Kd.R (Kd.int .i64) 3 ig w.heap.size (fun _=>True) (.slice (some ⟨xn,0,none⟩) dx.length bz) y436:=(by rw[hw,PE.out];exact zd.1);clear zd;replace aG:=Az (hp_);replace HB:=Az ((by rw[hw];exact ap (HB.out) PG.out:Below w.heap.size w ig));clear hg hw hp_;obtain⟨_,_,aaI⟩:=aJ HR1.out aN;replace aaI:=hT HB.out aaI;have Bw:0<=((rd l1 aN):Int):=oA;have Bz:((rd l1 aN):Int)<((dx.length:Int):Int):=oA;obtain⟨ajQ,ajR⟩:=Kd.dd 0 aG.out ((rd l1 aN):Int) Bw Bz;replace Bw:=eq_true Bw;replace Bz:=eq_true Bz;obtain⟨aiM,aiN⟩:=Kd.dd 0 aG.out ((rd l1 aN):Int) (oA) (oA);have Bi:=Kd.jy aG.out ((rd l1 aN):Int) jU)|((with_reducible refine gs 3 61 rfl ?_);refine sE 3 61 (ig.setCell ⟨xn,((rd l1 aN):Int).toNat,none⟩ (.int .i64 jU)) ?_;intro nl hw;have hg:ig.grownBy nl (some xn):=(by rw[hw];exact Bi.2);have hp_:Kd.R (Kd.int .i64) 3 nl w.heap.size (fun _=>True) (.slice (some ⟨xn,0,none⟩) dx.length bz) y438:=(by rw[hw,PF.out];exact Bi.1);clear Bi;replace aG:=Az (hp_);replace HB:=Az ((by rw[hw];exact ap (HB.out) PG.out:Below w.heap.size w nl));clear hg hw hp_)))
     go_roundg k2
     case measure=>exact mO
     case rel=>exact⟨(y438),(wrap64 (aN+1)),rS,H',⟨mO⟩,⟨rU aG.out⟩,⟨bU0 HB.out⟩⟩
    ·
     have H':=Az H;clear H;go_wp2
     repeat (go_quiet (fail);try go_wp2)
     go_roundg k2
     case measure=>exact mO
     case rel=>exact⟨(dx),(wrap64 (en+1)),rS,H',⟨mO⟩,⟨rU aG.out⟩,⟨bU0 HB.out⟩⟩
  ·
   rw[if_neg c5]at H;have qZ:=decide_eq_false c5;clear c5;obtain rfl:=Option.some.inj H;go_wp2
   repeat (go_quiet (fail);try go_wp2)
   go_ret;exact⟨_,rE,rU aG.out,bU0 HB.out⟩
def oH.f (k:Nat) (af:List Int) (ag:List Int):Option (List Int×Bool):=(eN.f k af ag).bind fun PH=>(if PH=true then((gV.f k af).bind fun zj=>((iH.f k ag af).bind fun Gd=>((gV.f k Gd).bind fun zk=>(some ((([(zj.length:Int),wrap64 ((ag.length:Int)/2),(zk.length:Int)]:List Int)),true)))))else(some (([]:List Int),false)))
def oH.T3:Bool×List (List Nat×List Nat):=(true,[([],[]),([0],[0]),([1],[1]),([2],[2]),([],[]),([4],[4]),([5],[5]),([6],[6]),([],[]),([8],[8]),([],[]),([10],[10]),([9,11,2],[9,11]),([12,12],[12]),([13],[13]),([3,7,14],[3,7,14]),([15,13,0,1,2,3,4,5,6,7,8,9,10,11,12,13,14,15],[15]),([16,0,1,2,3,4,5,6,7,8,9,10,11,12,13,14,15,16],[])])
def oH.B3:List Nat:=[0,1,3,7,0,16,48,112,0,256,0,1024,3847,7943,16135,32767,65535,131071]
theorem oH.AC:rtab .any (opsOf Try.f19 3)=oH.T3:=by kernel_rfl
theorem oH.AU:gG oH.T3.2 oH.B3=true:=by kernel_rfl
set_option maxHeartbeats 8000000 in
set_option maxRecDepth 100000 in
theorem oH.calls (k:Nat) (aA:Option Addr) (az:Nat) (af:List Int) (ak:Option Addr) (aj:Nat) (ag:List Int) (r1:List Int) (r2:Bool) (w:World) (dF:Kd.C (Kd.int .i64) w aA af.length af) (dL:af.length<=az) (de:Kd.C (Kd.int .i64) w ak ag.length ag) (dk:ag.length<=aj) (h:oH.f k af ag=some (r1,r2)):
 Calls Try.prog 19 #[.agg #[.slice aA af.length az,.slice ak ag.length aj]] w fun e w'=>∃bC:Value,e= .returned (.tuple #[bC,.bool r2])/\Kd.R (Kd.int .i64) 3 w' w.heap.size (fun _=>True) bC r1/\Below w.heap.size w w':=by
 have jT:=Try.underlying29;have ck:=Az dF;have cv:=Az dL;clear dF dL;have bP:=Az de;have cx:=Az dk;clear de dk;have HB:=bZ w;have H:=h;clear h;unfold oH.f at H;replace H:=bd H;obtain⟨PH,A2,H⟩:=H
 by_cases c3:PH=true
 ·
  subst c3;rw[if_pos rfl]at H;replace H:=bd H;obtain⟨zj,A4,H⟩:=H;replace H:=bd H;obtain⟨Gd,A5,H⟩:=H;replace H:=bd H;obtain⟨zk,A6,H⟩:=H;generalize JU:(([(zj.length:Int),wrap64 ((ag.length:Int)/2),(zk.length:Int)]:List Int):List Int)=y675 at H;replace JU:=Ay JU;simp only[Option.some.injEq,Prod.mk.injEq]at H;obtain⟨rfl,rfl⟩:=H;go_enter Try.func19,Try.ntmps19
  try go_wp2_with (first|((with_reducible refine gd 1 rfl ?_);refine bE 1 #[.slice aA af.length az,.slice ak ag.length aj] 29 ?_;intro PI hg w7 hbox hb;have jA:=Az (hbox);have tX:=gW hg (bU0 HB.out);replace HB:=Az (ay (bU0 HB.out) hb);clear hb hbox hg;have DX:=bc2 jA.out)|((with_reducible refine gK 66 rfl ?_);refine gC (some 5) Try.func66 #[.agg #[.slice aA af.length az,.slice ak ag.length aj]] ?_;(with_reducible refine(eN.calls k (fun k_=>k_<w.heap.size) _ _ af (fun k_=>k_<w.heap.size) _ _ ag true _ ?_ ?_ A2.out).mono ?_);exact Kd.kj cv.out (Kd.jc C0 (bU1 HB.out tX.out));exact Kd.kj cx.out (Kd.jc C4 (bU1 HB.out tX.out));rintro e w9 ⟨rfl,hb⟩;refine⟨_,rfl,?_⟩;replace jA:=kB jA.out hb;replace HB:=Az Dp;clear hb))
  replace jA:=Az (ce jA.out);replace HB:=Az (a8 HB.out);refine eX (n:=18) (S:=fun w'=>w'.cell? ⟨PI,0,none⟩=some (.slice aA af.length az)/\w'.cell? ⟨PI,1,none⟩=some (.slice ak ag.length aj)) (ds:=[]) (bv 18 0) (by kernel_rfl) rfl rfl ⟨(ai jA.out 0).trans rfl,(ai jA.out 1).trans rfl⟩ (fun hHeld=>?_);refine fL oH.AC oH.AU (fun HT_ HW_=>?_);generalize w9.drew=rc at jA HB hHeld ⊢;refine av (i:=0) (N:=some 7) (v:=?_) (a':=?_) (bv 18 1) rfl rfl (ao HT_.out (by kernel_rfl)) (fun _ _ _ h=>h) (Or.inl ⟨by rfl,?_⟩) ?_ ?_;rotate_left;(exact yP);rotate_left;(exact aP);refine av (i:=4) (N:=some 11) (v:=?_) (a':=?_) (bv 18 17) rfl rfl (ao HT_.out (by kernel_rfl)) (fun _ _ _ h=>h) (Or.inl ⟨by rfl,?_⟩) ?_ ?_;rotate_left;(exact yP);rotate_left;(exact aP);refine av (i:=8) (N:=some 15) (v:=?_) (a':=?_) (bv 18 273) rfl rfl (ao HT_.out (by kernel_rfl)) (fun _ _ _ h=>h) (Or.inl ⟨by rfl,?_⟩) ?_ ?_;rotate_left;(exact yP);rotate_left;(exact aP);refine av (i:=10) (N:=some 17) (v:=?_) (a':=?_) (bv 18 1297) rfl rfl (ao HT_.out (by kernel_rfl)) (fun _ _ _ h=>h) (Or.inl ⟨by rfl,?_⟩) ?_ ?_;rotate_left;(exact yP);rotate_left;(exact aP);refine bS (i:=1) (N:=some 8) (v:=?_) (a':=?_) (bv 18 1299) rfl rfl (bW HT_.out HW_.out (by kernel_rfl)) (fun _ _ _ h=>h) (Or.inl ⟨by rfl,?_⟩) hHeld ?_ ?_;rotate_left
  ·
   rintro w' ⟨s0,s1⟩;go_simp
   with_reducible rfl
  rotate_left;(exact aP);refine bS (i:=5) (N:=some 12) (v:=?_) (a':=?_) (bv 18 1331) rfl rfl (bW HT_.out HW_.out (by kernel_rfl)) (fun _ _ _ h=>h) (Or.inl ⟨by rfl,?_⟩) hHeld ?_ ?_;rotate_left
  ·
   rintro w' ⟨s0,s1⟩;go_simp
   with_reducible rfl
  rotate_left;(exact aP);refine av (i:=6) (N:=some 13) (v:=?_) (a':=?_) (bv 18 1395) rfl rfl (ao HT_.out (by kernel_rfl)) (fun _ _ _ h=>h) (Or.inl ⟨by rfl,?_⟩) ?_ ?_;rotate_left;(exact yP);rotate_left;(exact aP);refine av (i:=7) (N:=some 14) (v:=?_) (a':=?_) (bv 18 1523) rfl rfl (ao HT_.out (by kernel_rfl)) (fun _ _ _ h=>h) (Or.inl ⟨by rfl,?_⟩) ?_ ?_;rotate_left;(exact yP);rotate_left;(exact aP);refine bS (i:=9) (N:=some 16) (v:=?_) (a':=?_) (bv 18 2035) rfl rfl (bW HT_.out HW_.out (by kernel_rfl)) (fun _ _ _ h=>h) (Or.inl ⟨by rfl,?_⟩) hHeld ?_ ?_;rotate_left
  ·
   rintro w' ⟨s0,s1⟩;go_simp
   with_reducible rfl
  rotate_left;(exact aP);refine bS (i:=11) (N:=some 18) (v:=?_) (a':=?_) (bv 18 4083) rfl rfl (bW HT_.out HW_.out (by kernel_rfl)) (fun _ _ _ h=>h) (Or.inl ⟨by rfl,?_⟩) hHeld ?_ ?_;rotate_left
  ·
   rintro w' ⟨s0,s1⟩;go_simp
   with_reducible rfl
  rotate_left;(exact aP);refine dm (i:=2) (N:=some 9) (bv 18 4087) rfl rfl (cJ HT_.out (by kernel_rfl)) (by decide) (fun K hK=>?_);refine eQ Try.func67 (by kernel_rfl) rfl #[.slice aA af.length az] (by rfl) rfl rfl lQ ?_
  with_reducible refine(gV.calls k _ _ af zj _ ?side1 ?side2 A4.out).mono ?_
  (case side1=>exact cU (Kd.bn ck.out HB.out))
  (case side2=>exact cv.out)
  rintro e lg ⟨atm,rfl,ho0,hb⟩;refine⟨_,rfl,?_⟩;have zl:=Az (Kd.yG ho0 (aQ (bU1 HB.out tX.out)));replace jA:=kB jA.out hb;replace HB:=Az Dp;clear hb ho0;obtain⟨ql,pM,qm⟩:=Kd.yN zl.out;(first|subst qm|(injection qm with al aT am;have aU:=al.symm;have aV:=am.symm;clear al aT am;subst aU;subst aV));refine hK.out _ _ ⟨(ai jA.out 0).trans rfl,(ai jA.out 1).trans rfl⟩ (fun hHeld=>?_);clear hK K;refine aX (a':=?_) ?_ ?_;rotate_left
  ·
   show Act.put _ (some 9) _=_
   simp only[Act.put,List.setIfInBounds_toArray,List.set_cons_zero,List.set_cons_succ,bo,bD];rfl
  refine av (i:=3) (N:=some 10) (v:=?_) (a':=?_) (bv 18 4095) rfl rfl (ao HT_.out (by kernel_rfl)) (fun _ _ _ h=>h) (Or.inl ⟨by rfl,?_⟩) ?_ ?_;rotate_left;(exact yP);rotate_left;(exact aP);refine dm (i:=12) (N:=some 19) (bv 18 8191) rfl rfl (cJ HT_.out (by kernel_rfl)) (by decide) (fun K hK=>?_);refine eQ Try.func68 (by kernel_rfl) rfl #[.slice ak ag.length aj,.slice aA af.length az] (by rfl) rfl rfl lQ ?_
  with_reducible refine(iH.calls k _ _ ag _ _ af Gd _ ?side1 ?side2 ?side3 ?side4 A5.out).mono ?_
  (case side1=>exact cU (Kd.bn bP.out HB.out))
  (case side2=>exact cx.out)
  (case side3=>exact cU (Kd.bn ck.out HB.out))
  (case side4=>exact cv.out)
  rintro e vY ⟨atn,rfl,ho0,hb⟩;refine⟨_,rfl,?_⟩;replace zl:=Az (Kd.yC (sU zl.out) (Kd.ax ho0) hb);have xo:=Az (Kd.a7 ho0 (aQ (bU1 HB.out tX.out)));replace jA:=kB jA.out hb;replace HB:=Az Dp;clear hb ho0;obtain⟨fA,eR,pO⟩:=Kd.aH xo.out;(first|subst pO|(injection pO with al aT am;have aU:=al.symm;have aV:=am.symm;clear al aT am;subst aU;subst aV));refine hK.out _ _ ⟨(ai jA.out 0).trans rfl,(ai jA.out 1).trans rfl⟩ (fun hHeld=>?_);clear hK K;refine aX (a':=?_) ?_ ?_;rotate_left
  ·
   show Act.put _ (some 19) _=_
   simp only[Act.put,List.setIfInBounds_toArray,List.set_cons_zero,List.set_cons_succ,bo,bD];rfl
  refine dm (i:=13) (N:=some 20) (bv 18 16383) rfl rfl (cJ HT_.out (by kernel_rfl)) (by decide) (fun K hK=>?_);refine eQ Try.func67 (by kernel_rfl) rfl #[.slice fA Gd.length eR] (by rfl) rfl rfl lQ ?_
  with_reducible refine(gV.calls k _ _ Gd zk _ ?side1 ?side2 A6.out).mono ?_
  (case side1=>exact cU ((Kd.au xo.out).2.2))
  (case side2=>exact(Kd.au xo.out).2.1)
  rintro e pK ⟨ato,rfl,ho0,hb⟩;refine⟨_,rfl,?_⟩;have PK:=Az (Kd.yG (Kd.Du (Kd.Du ho0 (Kd.Xb (sU zl.out))) (Kd.ar (rU xo.out))) (aQ (bU1 HB.out tX.out)));replace zl:=Az (Kd.yC (sU zl.out) (Kd.Od ho0) hb);replace xo:=rB xo.out hb;replace jA:=kB jA.out hb;replace HB:=Az Dp;clear hb ho0;obtain⟨atp,ajK,Gc⟩:=Kd.yN PK.out;(first|subst Gc|(injection Gc with al aT am;have aU:=al.symm;have aV:=am.symm;clear al aT am;subst aU;subst aV));refine hK.out _ _ ⟨(ai jA.out 0).trans rfl,(ai jA.out 1).trans rfl⟩ (fun hHeld=>?_);clear hK K;refine aX (a':=?_) ?_ ?_;rotate_left
  ·
   show Act.put _ (some 20) _=_
   simp only[Act.put,List.setIfInBounds_toArray,List.set_cons_zero,List.set_cons_succ,bo,bD];rfl
  refine av (i:=14) (N:=some 21) (v:=?_) (a':=?_) (bv 18 32767) rfl rfl (ao HT_.out (by kernel_rfl)) (fun _ _ _ h=>h) (Or.inl ⟨by rfl,?_⟩) ?_ ?_;rotate_left;(exact yP);rotate_left;(exact aP);refine dm (i:=15) (N:=some 22) (bv 18 65535) rfl rfl (cJ HT_.out (by kernel_rfl)) (by decide) (fun K hK=>?_);refine Kd.Ak (Kd.int .i64) _ 3 ?hg (N:=22) ?hd (xs:=([(zj.length:Int),wrap64 ((ag.length:Int)/2),(zk.length:Int)]:List Int)) (inner:=[.int .i64 (zj.length:Int),.int .i64 (wrap64 ((ag.length:Int)/2)),.int .i64 (zk.length:Int)]) (ok:=fun _=>True) (okp:=fun _=>True) ?hr ?hp (fun _ hk=>hk) trivial (Below.refl _ _) (Nat.le_refl _) (by simp) ?_;(case hd=>rfl);(case hg=>rfl);(case hr=>first|(go_simp;done)|(go_simp;rfl));(case hp=>exact(Reps.one (show Kd.M (Kd.int .i64) _ _ _ (zj.length:Int) [.int .i64 (zj.length:Int)]from rfl) (Reps.one (show Kd.M (Kd.int .i64) _ _ _ (wrap64 ((ag.length:Int)/2)) [.int .i64 (wrap64 ((ag.length:Int)/2))]from rfl) (Reps.one (show Kd.M (Kd.int .i64) _ _ _ (zk.length:Int) [.int .i64 (zk.length:Int)]from rfl) (Reps.none _ _)))));intro atq PM zm hb hg_ hnew_;clear hg_ hnew_;(first|rw[<-JU.out]at zm|(simp only[Int.reduceToNat]at zm;rw[<-JU.out]at zm));replace zl:=Az (Kd.yC (sU zl.out) (Kd.ax zm) hb);replace PK:=Az (Kd.yC (sU PK.out) (Kd.ax zm) hb);have ajS:=Az (Kd.a7 (Kd.aD zm (Kd.ar (rU xo.out))) (aQ (bU1 HB.out tX.out)));replace xo:=Az (Kd.aW (rU xo.out) (Kd.ax zm) hb);replace jA:=kB jA.out hb;replace HB:=Az Dp;clear hb zm;refine hK.out _ _ ⟨(ai jA.out 0).trans rfl,(ai jA.out 1).trans rfl⟩ (fun hHeld=>?_);clear hK K;refine aX (a':=?_) ?_ ?_;rotate_left
  ·
   show Act.put _ (some 22) _=_
   simp only[Act.put,List.setIfInBounds_toArray,List.set_cons_zero,List.set_cons_succ,bo,bD];rfl
  refine av (i:=16) (N:=some 2) (v:=?_) (a':=?_) (bv 18 131071) rfl rfl (ao HT_.out (by kernel_rfl)) (fun _ _ _ h=>h) (Or.inl ⟨by rfl,?_⟩) ?_ ?_;rotate_left;(exact yP);rotate_left;(exact aP);refine av (i:=17) (N:=some 3) (v:=?_) (a':=?_) (bv 18 262143) rfl rfl (ao HT_.out (by kernel_rfl)) (fun _ _ _ h=>h) (Or.inl ⟨by rfl,?_⟩) ?_ ?_;rotate_left;(exact yP);rotate_left;(exact aP);refine eY (fN HT_.out (by kernel_rfl)) ?_
  try go_wp2
  go_ret2
  exact⟨_,rE,by refine rA ?_;exact Kd.ah ajS.out (fun _ hk=>trivial),bU1 HB.out tX.out⟩
 ·
  replace c3:=Bool.eq_false_iff.mpr c3;subst c3;rw[if_neg nT]at H;simp only[Option.some.injEq,Prod.mk.injEq]at H;obtain⟨rfl,rfl⟩:=H;go_enter Try.func19,Try.ntmps19
  go_wp2_with (first|((with_reducible refine gd 1 rfl ?_);refine bE 1 #[.slice aA af.length az,.slice ak ag.length aj] 29 ?_;intro PI hg Jw hbox hb;have jA:=Az (hbox);have tX:=gW hg (bU0 HB.out);replace HB:=Az (ay (bU0 HB.out) hb);clear hb hbox hg;have O7:=bc2 jA.out)|((with_reducible refine gK 66 rfl ?_);refine gC (some 5) Try.func66 #[.agg #[.slice aA af.length az,.slice ak ag.length aj]] ?_;(with_reducible refine(eN.calls k (fun k_=>k_<w.heap.size) _ _ af (fun k_=>k_<w.heap.size) _ _ ag false _ ?_ ?_ A2.out).mono ?_);exact Kd.kj cv.out (Kd.jc C0 (bU1 HB.out tX.out));exact Kd.kj cx.out (Kd.jc C4 (bU1 HB.out tX.out));rintro e rh ⟨rfl,hb⟩;refine⟨_,rfl,?_⟩;replace jA:=kB jA.out hb;replace HB:=Az Dp;clear hb))
  go_ret2
  exact⟨_,rE,by first|exact Kd.oJ _ _ _ _ _|exact Kd.qL _ _ _ _ _|exact Kd.qT _ _ _ _ _|exact Kd.qS _ _ _ _ _|exact Kd.qR _ _ _ _ _,bU1 HB.out tX.out⟩
def xa.f (k:Nat) (af:List Int) (ag:List Int):Option (Int):=(eN.f k af ag).bind fun PN=>(if PN=true then((qK.f k af ag).bind fun PO=>(some PO))else(some (-1)))
set_option maxHeartbeats 8000000 in
set_option maxRecDepth 100000 in
theorem xa.calls (k:Nat) (aA:Option Addr) (az:Nat) (af:List Int) (ak:Option Addr) (aj:Nat) (ag:List Int) (r:Int) (w:World) (dF:Kd.C (Kd.int .i64) w aA af.length af) (dL:af.length<=az) (de:Kd.C (Kd.int .i64) w ak ag.length ag) (dk:ag.length<=aj) (h:xa.f k af ag=some r):
 Calls Try.prog 43 #[.agg #[.slice aA af.length az,.slice ak ag.length aj]] w fun e w'=>e= .returned (.int .i64 r)/\Below w.heap.size w w':=by
 have jT:=Try.underlying29;have ck:=Az dF;have cv:=Az dL;clear dF dL;have bP:=Az de;have cx:=Az dk;clear de dk;have HB:=bZ w;have H:=h;clear h;unfold xa.f at H;replace H:=bd H;obtain⟨PN,A2,H⟩:=H
 by_cases c3:PN=true
 ·
  subst c3;rw[if_pos rfl]at H;replace H:=bd H;obtain⟨PO,A4,H⟩:=H;obtain rfl:=Option.some.inj H;go_enter Try.func43,Try.ntmps43
  go_wp2_with (first|((with_reducible refine gd 1 rfl ?_);refine bE 1 #[.slice aA af.length az,.slice ak ag.length aj] 29 ?_;intro ajT hg w5 hbox hb;have vZ:=Az (hbox);have wa:=gW hg (bU0 HB.out);replace HB:=Az (ay (bU0 HB.out) hb);clear hb hbox hg;have hz6:=bc2 vZ.out)|((with_reducible refine gK 66 rfl ?_);refine gC (some 4) Try.func66 #[.agg #[.slice aA af.length az,.slice ak ag.length aj]] ?_;(with_reducible refine(eN.calls k (fun k_=>k_<w.heap.size) _ _ af (fun k_=>k_<w.heap.size) _ _ ag true _ ?_ ?_ A2.out).mono ?_);exact Kd.kj cv.out (Kd.jc C0 (bU1 HB.out wa.out));exact Kd.kj cx.out (Kd.jc C4 (bU1 HB.out wa.out));rintro e w7 ⟨rfl,hb⟩;refine⟨_,rfl,?_⟩;replace vZ:=kB vZ.out hb;replace HB:=Az (ay (bU1 HB.out wa.out) hb);clear hb;have DX:=bc2 vZ.out)|((with_reducible refine gK 87 rfl ?_);refine gC (some 7) Try.func87 #[.agg #[.slice aA af.length az,.slice ak ag.length aj]] ?_;(with_reducible refine(qK.calls k _ _ af _ _ ag PO _ ?_ ?_ ?_ ?_ A4.out).mono ?_);exact cU (Kd.bn ck.out HB.out);exact cv.out;exact cU (Kd.bn bP.out HB.out);exact cx.out;rintro e w9 ⟨rfl,hb⟩;refine⟨_,rfl,?_⟩;replace vZ:=kB vZ.out hb;replace HB:=Az (ay (bU1 HB.out wa.out) hb);clear hb))
  go_ret;exact⟨rE,bU1 HB.out wa.out⟩
 ·
  replace c3:=Bool.eq_false_iff.mpr c3;subst c3;rw[if_neg nT]at H;obtain rfl:=Option.some.inj H;go_enter Try.func43,Try.ntmps43
  go_wp2_with (first|((with_reducible refine gd 1 rfl ?_);refine bE 1 #[.slice aA af.length az,.slice ak ag.length aj] 29 ?_;intro ajT hg rc hbox hb;have vZ:=Az (hbox);have wa:=gW hg (bU0 HB.out);replace HB:=Az (ay (bU0 HB.out) hb);clear hb hbox hg;have PP:=bc2 vZ.out)|((with_reducible refine gK 66 rfl ?_);refine gC (some 4) Try.func66 #[.agg #[.slice aA af.length az,.slice ak ag.length aj]] ?_;(with_reducible refine(eN.calls k (fun k_=>k_<w.heap.size) _ _ af (fun k_=>k_<w.heap.size) _ _ ag false _ ?_ ?_ A2.out).mono ?_);exact Kd.kj cv.out (Kd.jc C0 (bU1 HB.out wa.out));exact Kd.kj cx.out (Kd.jc C4 (bU1 HB.out wa.out));rintro e nJ ⟨rfl,hb⟩;refine⟨_,rfl,?_⟩;replace vZ:=kB vZ.out hb;replace HB:=Az (ay (bU1 HB.out wa.out) hb);clear hb))
  go_ret;exact⟨rE,bU1 HB.out wa.out⟩
def ac (w0 W:World) (g:Nat) (f0:List Int) (f1:Int):Prop:=∃A0 c0,W.heap[g]?=some (.cells #[.slice A0 f0.length c0,.int .i64 f1] 104 (0,0))/\w0.heap.size<=g/\Kd.C (Kd.int .u8) w0 A0 f0.length f0
theorem ac.grown {w0 W:World} {g:Nat} {f0:List Int} {f1:Int} {W1:World} {row:Option Nat} (h:ac w0 W g f0 f1) (hw:W.grownBy W1 row) (hne:some g≠row):ac w0 W1 g f0 f1:=by
 obtain⟨A0,c0,hb,hg,hr0⟩:=h;exact⟨A0,c0,WV hb hw hne,hg,hr0⟩
theorem ac.fresh {w0 W:World} {g:Nat} {f0:List Int} {f1:Int} (h:ac w0 W g f0 f1):∀k,W.heap.size<=k->k≠g:=by
 obtain⟨A0,c0,hb,hg,hr0⟩:=h;exact Kd.Xw hb
theorem ac.kept {w0 W:World} {g:Nat} {f0:List Int} {f1:Int} {W1:World} {S:Nat->Prop} (h:ac w0 W g f0 f1) (hk:Kept W W1 S) (hne:¬S g):ac w0 W1 g f0 f1:=by
 obtain⟨A0,c0,hb,hg,hr0⟩:=h;exact⟨A0,c0,Ap hb hk hne,hg,hr0⟩
theorem ac.below {w0 W:World} {g:Nat} {f0:List Int} {f1:Int} {W1:World} (h:ac w0 W g f0 f1) (hw:Below W.heap.size W W1):ac w0 W1 g f0 f1:=h.grown (Xr hw none) (by simp)
theorem ac.alloc {w0 W:World} {g:Nat} {f0:List Int} {f1:Int} (h:ac w0 W g f0 f1) (o:Obj):ac w0 (W.alloc o) g f0 f1:=h.below (bm (Below.refl _ _) o)
theorem ac.drewN {w0 W:World} {g:Nat} {f0:List Int} {f1:Int} (h:ac w0 W g f0 f1) (m:Nat):ac w0 (W.drewN m) g f0 f1:=h
theorem ac.drew {w0 W:World} {g:Nat} {f0:List Int} {f1:Int} (h:ac w0 W g f0 f1):ac w0 W.drew g f0 f1:=h
theorem ac.at_ {w0 W:World} {g:Nat} {f0:List Int} {f1:Int} {w':World} {m:Nat} (hq:W.drewN m=w') (h:ac w0 W g f0 f1):ac w0 w' g f0 f1:=by subst hq;exact ac.drewN h m
theorem ac.apart {w0 W:World} {g:Nat} {f0:List Int} {f1:Int} {α:Type} {d:Kd α} {e:Nat} {base:Nat} {ok:Nat->Prop} {v:Value} {xs:List α} (h:ac w0 W g f0 f1) (ho:d.R e W base ok v xs) (ht:∀q,q∈e::d.E->q≠104):d.R e W base (fun k=>ok k/\k≠g) v xs:=by
 obtain⟨A0,c0,hb,hg,hr0⟩:=h;exact Kd.cj ho hb ht
theorem ac.uD {w0 W:World} {g:Nat} {f0:List Int} {f1:Int} {α:Type} {d:Kd α} {e:Nat} {base:Nat} {ok:Nat->Prop} {v:Value} {xs:List α} (h:ac w0 W g f0 f1) (ho:d.R e W base ok v xs) (ht:e≠104):some g≠v.ownBlock:=by
 obtain⟨A0,c0,hb,hg,hr0⟩:=h;exact Kd.cG ho hb ht
theorem ac.pJ {w0 W:World} {g:Nat} {f0:List Int} {f1:Int} {α:Type} {d:Kd α} {e:Nat} {base:Nat} {ok:Nat->Prop} {v:Value} {xs:List α} (h:ac w0 W g f0 f1) (ho:d.Q e W base ok v xs) (ht:∀q,q∈e::d.E->q≠104):d.Q e W base (fun k=>ok k/\k≠g) v xs:=by
 obtain⟨A0,c0,hb,hg,hr0⟩:=h;exact Kd.mj ho hb ht
theorem ac.Dm {w0 W:World} {g:Nat} {f0:List Int} {f1:Int} {α:Type} {d:Kd α} {e:Nat} {base:Nat} {ok:Nat->Prop} {v:Value} {xs:List α} (h:ac w0 W g f0 f1) (ho:d.Q e W base ok v xs) (ht:e≠104):some g≠v.ownBlock:=by
 obtain⟨A0,c0,hb,hg,hr0⟩:=h;exact Kd.sH ho hb ht
theorem ac.lt {w0 W:World} {g:Nat} {f0:List Int} {f1:Int} (h:ac w0 W g f0 f1):g<W.heap.size:=by
 obtain⟨A0,c0,hb,hg,hr0⟩:=h;exact xf hb
theorem ac.ge {w0 W:World} {g:Nat} {f0:List Int} {f1:Int} (h:ac w0 W g f0 f1):w0.heap.size<=g:=by
 obtain⟨A0,c0,hb,hg,hr0⟩:=h;exact hg
theorem ac.XA {w0 W:World} {g:Nat} {f0:List Int} {f1:Int} {a:Nat} {cs:Array Value} {t:TypeId} {fr:Nat×Nat} (h:ac w0 W g f0 f1) (hb2:W.heap[a]?=some (.cells cs t fr)) (ht:t≠104):g≠a:=by
 obtain⟨A0,c0,hb,hg,hr0⟩:=h;rintro rfl;rw[hb]at hb2;injection hb2 with hb2;injection hb2 with _ ht2;exact ht ht2.symm
theorem ac.far {w0 W:World} {g:Nat} {f0:List Int} {f1:Int} {p:Addr} (h:ac w0 W g f0 f1) (hne:g≠p.block) (u:Value):ac w0 (W.setCell p u) g f0 f1:=by
 obtain⟨A0,c0,hb,hg,hr0⟩:=h;exact⟨A0,c0,bU hb hne u,hg,hr0⟩
theorem Jh {W:World} {g:Nat} {A0:Option Addr} {c0:Nat} {f0:List Int} {f1:Int} (h:W.heap[g]?=some (.cells #[.slice A0 f0.length c0,.int .i64 f1] 104 (0,0))):W.cell? ⟨g,0,none⟩=some (.slice A0 f0.length c0):=(ai h 0).trans rfl
theorem I5 {W:World} {g:Nat} {A0:Option Addr} {c0:Nat} {f0:List Int} {f1:Int} (h:W.heap[g]?=some (.cells #[.slice A0 f0.length c0,.int .i64 f1] 104 (0,0))):W.cell? ⟨g,1,none⟩=some (.int .i64 f1):=(ai h 1).trans rfl
theorem ac.bh {w0 W:World} {g:Nat} {f0:List Int} {f1:Int} (h:ac w0 W g f0 f1) (x:Int):ac w0 (W.setCell ⟨g,1,none⟩ (.int .i64 x)) g f0 x:=by
 obtain⟨A0,c0,hb,hg,hr0⟩:=h;exact⟨A0,c0,by simpa using I4 hb 1 (.int .i64 x),hg,hr0⟩
def AF.f (l0:List Int):Option (List Int×Int):=if(l0.length:Int)>2000 then(if 2000<=(l0.length:Int)then(some (l0.take 2000,0))else(none))else(some (l0,0))
set_option maxHeartbeats 8000000 in
set_option maxRecDepth 100000 in
theorem AF.calls (A0:Option Addr) (c0:Nat) (l0:List Int) (r1:List Int) (r2:Int) (w0 w:World) (hB:Below w0.heap.size w0 w) (hr0:Kd.C (Kd.int .u8) w0 A0 l0.length l0) (hc0:l0.length<=c0) (h:AF.f l0=some (r1,r2)):
 Calls Try.prog 62 #[.slice A0 l0.length c0] w fun e w'=>∃g_:Nat,e= .returned (.pointer (some ⟨g_,0,none⟩))/\ac w0 w' g_ r1 r2/\Below w0.heap.size w0 w'/\Below w.heap.size w w':=by
 have atr:=Try.underlying104;have dt:=Az hr0;have iX:=Az hc0;clear hr0 hc0;have HBW:=bZ w;have HW0:=Az hB.size;have HB:=Az hB;clear hB;have H:=h;clear h;unfold AF.f at H
 by_cases c2:(l0.length:Int)>2000
 ·
  rw[if_pos c2]at H;have sL:=decide_eq_true c2;have uK:decide (2000<l0.length)=true:=decide_eq_true (by omega);clear c2;replace H:=gE H;obtain⟨lJ,tY,H⟩:=H;simp only[Option.some.injEq,Prod.mk.injEq]at H;obtain⟨rfl,rfl⟩:=H;obtain⟨i04,aaK,_,aaL,_⟩:=info_parts info5;obtain⟨atu,hA4,hC4⟩:=ah3 (P:=Try.prog) (Value.int .u8) 0 22 5 .i64 Try.underlying22 aaK aaL A0 c0 l0 2000 (by omega) (oA) iX.out;have ajU:=Az (Kd.YV (h1:=fun _=>rfl) (hA4 _ (Kd.Ji dt.out)));have atv:=Az hC4;clear hA4 hC4 aaK aaL;go_enter Try.func62,Try.ntmps62
  go_wp2_with (first|((with_reducible refine gd 10 rfl ?_);refine bE 10 #[.slice A0 (l0.take 2000).length c0,.int .i64 0] 104 ?_;intro JV hg w5 hbox hb;replace HB:=Az (ay (bU0 HB.out) hb);have ajV:=Az (hbox);have ajW:=Az ((by rw[hg];exact Jk:w.heap.size<=JV));have aaO:=Az ((Nat.le_trans HW0.out (by rw[hg];exact Jk:w.heap.size<=JV):w0.heap.size<=JV));replace HBW:=Az (ay HBW.out hb);clear hb hbox hg))
  go_ret;exact⟨_,rfl,(show ac w0 _ JV (l0.take 2000) 0 from⟨_,_,kU ajV.out,aaO.out,ajU.out⟩),bU1 HB.out aaO.out,by repeat (first|(with_reducible first|exact HBW.out|apply bm|apply bw|apply a8|refine ap ?_ ajW.out)|exact HBW.out)⟩
 ·
  rw[if_neg c2]at H;have sL:=decide_eq_false c2;have uK:decide (2000<l0.length)=false:=decide_eq_false (by omega);clear c2;simp only[Option.some.injEq,Prod.mk.injEq]at H;obtain⟨rfl,rfl⟩:=H;go_enter Try.func62,Try.ntmps62
  go_wp2_with (first|((with_reducible refine gd 10 rfl ?_);refine bE 10 #[.slice A0 l0.length c0,.int .i64 0] 104 ?_;intro JW hg w6 hbox hb;replace HB:=Az (ay (bU0 HB.out) hb);have ajX:=Az (hbox);have ajY:=Az ((by rw[hg];exact Jk:w.heap.size<=JW));have aaP:=Az ((Nat.le_trans HW0.out (by rw[hg];exact Jk:w.heap.size<=JW):w0.heap.size<=JW));replace HBW:=Az (ay HBW.out hb);clear hb hbox hg))
  go_ret;exact⟨_,rfl,(show ac w0 _ JW l0 0 from⟨_,_,kU ajX.out,aaP.out,dt.out⟩),bU1 HB.out aaP.out,by repeat (first|(with_reducible first|exact HBW.out|apply bm|apply bw|apply a8|refine ap ?_ ajY.out)|exact HBW.out)⟩
mutual
def dJ.l0:Nat->Int->Int->Int->ByteArray->List Int->Option (Bool)
 |0,_,_,_,_,_=>none
 |k+1,x3,x4,x5,bT,bQ=>if x5<(bT.size:Int)then(if 0<=x5 then(if(bt bT x5)=40 then(if(wrap64 (x3+1))<0 then(some false)else(dJ.l0 k (wrap64 (x3+1)) (wrap64 (x4+1)) (wrap64 (x5+1)) bT bQ))else(if(bt bT x5)=41 then(if(wrap64 (x3-1))<0 then(some false)else(dJ.l0 k (wrap64 (x3-1)) x4 (wrap64 (x5+1)) bT bQ))else(some false)))else(none))else(dJ.l1 k x3 x4 0 bT bQ)
def dJ.l1:Nat->Int->Int->Int->ByteArray->List Int->Option (Bool)
 |0,_,_,_,_,_=>none
 |k+1,x3,x4,x6,bT,bQ=>if x6<(bQ.length:Int)then(if 0<=x6 then((lD.f (rd bQ x6) (-1) 1).bind fun PQ=>(if PQ=true then(dJ.l1 k x3 x4 (wrap64 (x6+1)) bT bQ)else(some false)))else(none))else(if x3=0 then((lD.f x4 1 3).bind fun PR=>(if PR=true then(some ((bQ.length:Int)==x4))else(some false)))else(some false))
end
def dJ.f (k:Nat) (cr:ByteArray) (ag:List Int):Option (Bool):=dJ.l0 k 0 0 0 cr ag
theorem dJ.mono_l:∀k,(∀y0 y1 y2 y3 y4,LeO (dJ.l0 k y0 y1 y2 y3 y4) (dJ.l0 (k+1) y0 y1 y2 y3 y4))/\(∀y0 y1 y2 y3 y4,LeO (dJ.l1 k y0 y1 y2 y3 y4) (dJ.l1 (k+1) y0 y1 y2 y3 y4))
 |0=>⟨fun _ _ _ _ _ r h=>by simp[dJ.l0]at h,fun _ _ _ _ _ r h=>by simp[dJ.l1]at h⟩
 |k+1=>by
  obtain⟨eV,ih1⟩:=dJ.mono_l k;refine⟨?_,?_⟩
  ·
   intro y0 y1 y2 y3 y4
   unfold dJ.l0
   repeat' first
   |(with_reducible exact eV _ _ _ _ _)
   |(with_reducible exact ih1 _ _ _ _ _)
   |(with_reducible exact LeO.refl _)
   |(with_reducible exact LeO.none _)
   |(with_reducible refine LeO.ite ?_ ?_)
   |(with_reducible refine LeO.bind ?_ (fun _=>?_))
   |exact eV _ _ _ _ _
   |exact ih1 _ _ _ _ _
   |exact LeO.none _
   |refine LeO.ite ?_ ?_
   |refine LeO.bind ?_ (fun _=>?_)
  ·
   intro y0 y1 y2 y3 y4
   unfold dJ.l1
   repeat' first
   |(with_reducible exact eV _ _ _ _ _)
   |(with_reducible exact ih1 _ _ _ _ _)
   |(with_reducible exact LeO.refl _)
   |(with_reducible exact LeO.none _)
   |(with_reducible refine LeO.ite ?_ ?_)
   |(with_reducible refine LeO.bind ?_ (fun _=>?_))
   |exact eV _ _ _ _ _
   |exact ih1 _ _ _ _ _
   |exact LeO.none _
   |refine LeO.ite ?_ ?_
   |refine LeO.bind ?_ (fun _=>?_)
theorem dJ.mono:∀a0 a1 k,LeO (dJ.f k a0 a1) (dJ.f (k+1) a0 a1):=by
 intro a0 a1 k;obtain⟨eV,ih1⟩:=dJ.mono_l k
 unfold dJ.f
 repeat' first
  |(with_reducible exact eV _ _ _ _ _)
  |(with_reducible exact ih1 _ _ _ _ _)
  |(with_reducible exact LeO.refl _)
  |(with_reducible exact LeO.none _)
  |(with_reducible refine LeO.ite ?_ ?_)
  |(with_reducible refine LeO.bind ?_ (fun _=>?_))
  |exact eV _ _ _ _ _
  |exact ih1 _ _ _ _ _
  |exact LeO.none _
  |refine LeO.ite ?_ ?_
  |refine LeO.bind ?_ (fun _=>?_)
set_option maxHeartbeats 8000000 in
set_option maxRecDepth 100000 in
theorem dJ.calls (k:Nat) (cr:ByteArray) (ak:Option Addr) (aj:Nat) (ag:List Int) (r:Bool) (w:World) (de:Kd.C (Kd.int .i64) w ak ag.length ag) (dk:ag.length<=aj) (h:dJ.f k cr ag=some r):
 Calls Try.prog 17 #[.agg #[.string cr,.slice ak ag.length aj]] w fun e w'=>e= .returned (.bool r)/\Below w.heap.size w w':=by
 have PS:=Try.underlying25;have bP:=Az de;have cx:=Az dk;clear de dk;have HB:=bZ w;have H:=h;clear h;unfold dJ.f at H;have H':=Az H;clear H;go_enter Try.func17,Try.ntmps17
 go_wp2_with (first|((with_reducible refine gd 1 rfl ?_);(refine nG (by rfl) ?_;dsimp only);refine bE 1 #[.string cr,.slice ak ag.length aj] 25 ?_;intro aaQ hg w2 hbox hb;have oQ:=Az (hbox);have t7:=gW hg (bU0 HB.out);replace HB:=Az (ay (bU0 HB.out) hb);clear hb hbox hg))
 go_loopg [3,4,5] k (fun kq v3 v4 v5 w'=>∃(bc:Int) (bF:Int) (bg:Int),v3= .int .i64 bc/\v4= .int .i64 bF/\v5= .int .i64 bg/\ae (dJ.l0 kq bc bF bg cr ag=some r)/\ae (kq<=k)/\ae (w'.heap[aaQ]?=some (.cells #[.string cr,(.slice ak ag.length aj)] 25 (0,0)))/\ae (Below w.heap.size w w'))
 case atStart=>exact⟨(0),(0),(0),rS,rS,rS,H',⟨Nat.le_refl _⟩,⟨kU oQ.out⟩,⟨bU1 HB.out t7.out⟩⟩
 case round=>
  clear H';obtain⟨bc,bF,bg,rfl,rfl,rfl,HA,eZ,oQ,HB⟩:=hrel
  rcases gk with _|k1
  exact(nN HA.out).elim;have H:=HA.out;clear HA;simp only[dJ.l0]at H
  by_cases c3:bg<(cr.size:Int)
  ·
   rw[if_pos c3]at H;have lJ:=decide_eq_true c3;clear c3;replace H:=gD1 H;obtain⟨kL,H⟩:=H
   replace H:=gQ H;rcases H with⟨kk,JX,H⟩|⟨kk,JX,H⟩
   ·
    replace H:=gB H;rcases H with⟨jl,H⟩|⟨jl,H⟩
    ·obtain rfl:=Option.some.inj H;have DX:=bc2 oQ.out;have p5:0<=(bg:Int):=oA;have q5:bg<(cr.size:Int):=oA;have hx5:=yH cr bg;replace p5:=eq_true p5;replace q5:=eq_true q5;go_wp2;go_ret;exact⟨rE,bU1 HB.out t7.out⟩
    ·
     have H':=Az H;clear H;have D1:=bc2 oQ.out;have p5:0<=(bg:Int):=oA;have q5:bg<(cr.size:Int):=oA;have hx5:=yH cr bg;replace p5:=eq_true p5;replace q5:=eq_true q5;go_wp2;go_roundg k1
     case measure=>exact mO
     case rel=>exact⟨(wrap64 (bc+1)),(wrap64 (bF+1)),(wrap64 (bg+1)),rS,rS,rS,H',⟨mO⟩,⟨kU oQ.out⟩,⟨bU1 HB.out t7.out⟩⟩
   ·
    replace H:=gQ H;rcases H with⟨ni,PT,H⟩|⟨ni,PT,H⟩
    ·
     replace H:=gB H;rcases H with⟨rT,H⟩|⟨rT,H⟩
     ·obtain rfl:=Option.some.inj H;have DY:=bc2 oQ.out;have p5:0<=(bg:Int):=oA;have q5:bg<(cr.size:Int):=oA;have hx5:=yH cr bg;replace p5:=eq_true p5;replace q5:=eq_true q5;go_wp2;go_ret;exact⟨rE,bU1 HB.out t7.out⟩
     ·
      have H':=Az H;clear H;have F3:=bc2 oQ.out;have p5:0<=(bg:Int):=oA;have q5:bg<(cr.size:Int):=oA;have hx5:=yH cr bg;replace p5:=eq_true p5;replace q5:=eq_true q5;go_wp2;go_roundg k1
      case measure=>exact mO
      case rel=>exact⟨(wrap64 (bc-1)),(bF),(wrap64 (bg+1)),rS,rS,rS,H',⟨mO⟩,⟨kU oQ.out⟩,⟨bU1 HB.out t7.out⟩⟩
    ·obtain rfl:=Option.some.inj H;have JY:=bc2 oQ.out;have p5:0<=(bg:Int):=oA;have q5:bg<(cr.size:Int):=oA;have hx5:=yH cr bg;replace p5:=eq_true p5;replace q5:=eq_true q5;go_wp2;go_ret;exact⟨rE,bU1 HB.out t7.out⟩
  ·
   rw[if_neg c3]at H;have lJ:=decide_eq_false c3;clear c3;have H':=Az H;clear H;have Bj:=bc2 oQ.out;go_wp2
   go_loopg [6] k1 (fun kq v6 w'=>∃(cm:Int),v6= .int .i64 cm/\ae (dJ.l1 kq bc bF cm cr ag=some r)/\ae (kq<=k1)/\ae (w'.heap[aaQ]?=some (.cells #[.string cr,(.slice ak ag.length aj)] 25 (0,0)))/\ae (Below w.heap.size w w'))
   case atStart=>exact⟨(0),rS,H',⟨Nat.le_refl _⟩,⟨kU oQ.out⟩,⟨bU1 HB.out t7.out⟩⟩
   case round=>
    clear H';obtain⟨cm,rfl,HA,eE,oQ,HB⟩:=hrel
    rcases gk with _|k2
    exact(nN HA.out).elim;have H:=HA.out;clear HA;simp only[dJ.l1]at H
    replace H:=gB H;rcases H with⟨za,H⟩|⟨za,H⟩
    ·
     replace H:=gD1 H;obtain⟨Bh,H⟩:=H;replace H:=bd H;obtain⟨PQ,D3,H⟩:=H
     by_cases c19:PQ=true
     ·
      subst c19;rw[if_pos rfl]at H;have H':=Az H;clear H;have O7:=bc2 oQ.out;obtain⟨ajZ,PU,aj0,aj1,Ge⟩:=aI bP.out cm
      cases PU
      replace Ge:=hT HB.out Ge
      go_wp2_with (first|((with_reducible refine gK 63 rfl ?_);refine gC (some 42) Try.func63 #[.int .i64 (rd ag cm),.int .i64 (-1),.int .i64 1] ?_;(with_reducible refine(lD.calls (rd ag cm) (-1) 1 true _ D3.out).mono ?_);rintro e w' ⟨rfl,⟨nd,rfl⟩⟩;refine⟨_,rfl,?_⟩))
      go_roundg k2
      case measure=>exact mO
      case rel=>exact⟨(wrap64 (cm+1)),rS,H',⟨mO⟩,⟨kU oQ.out⟩,⟨bU1 HB.out t7.out⟩⟩
     ·
      replace c19:=Bool.eq_false_iff.mpr c19;subst c19;rw[if_neg nT]at H;obtain rfl:=Option.some.inj H;have aaR:=bc2 oQ.out;obtain⟨ajZ,PU,aj0,aj1,Ge⟩:=aI bP.out cm
      cases PU
      replace Ge:=hT HB.out Ge
      go_wp2_with (first|((with_reducible refine gK 63 rfl ?_);refine gC (some 42) Try.func63 #[.int .i64 (rd ag cm),.int .i64 (-1),.int .i64 1] ?_;(with_reducible refine(lD.calls (rd ag cm) (-1) 1 false _ D3.out).mono ?_);rintro e w' ⟨rfl,⟨nd,rfl⟩⟩;refine⟨_,rfl,?_⟩))
      go_ret;exact⟨rE,bU1 HB.out t7.out⟩
    ·
     replace H:=gQ H;rcases H with⟨zg,JZ,H⟩|⟨zg,JZ,H⟩
     ·
      replace H:=bd H;obtain⟨PR,A23,H⟩:=H
      by_cases c24:PR=true
      ·
       subst c24;rw[if_pos rfl]at H;obtain rfl:=Option.some.inj H;have aaT:=bc2 oQ.out
       go_wp2_with (first|(go_at_call 63;(with_reducible refine(lD.calls bF 1 3 true _ A23.out).mono ?_);rintro e w' ⟨rfl,⟨nd,rfl⟩⟩))
       go_ret;exact⟨rE,bU1 HB.out t7.out⟩
      ·
       replace c24:=Bool.eq_false_iff.mpr c24;subst c24;rw[if_neg nT]at H;obtain rfl:=Option.some.inj H;have aaU:=bc2 oQ.out
       go_wp2_with (first|(go_at_call 63;(with_reducible refine(lD.calls bF 1 3 false _ A23.out).mono ?_);rintro e w' ⟨rfl,⟨nd,rfl⟩⟩))
       go_ret;exact⟨rE,bU1 HB.out t7.out⟩
     ·obtain rfl:=Option.some.inj H;have aj2:=bc2 oQ.out;go_wp2;go_ret;exact⟨rE,bU1 HB.out t7.out⟩
def mH.l0:Nat->List Int->List Int->Int->Int->Option (List Int)
 |0,_,_,_,_=>none
 |k+1,x3,x9,fi,cu=>if cu<fi then(if 0<=cu then(if cu<(x9.length:Int)then(if 0<=(rd x9 cu)then(if(rd x9 cu)<(x3.length:Int)then(mH.l0 k (x3.set ((rd x9 cu):Int).toNat cu) x9 fi (wrap64 (cu+1)))else(none))else(none))else(none))else(none))else(some x3)
def mH.f (k:Nat) (l0:List Int):Option (List Int):=if 0<=(l0.length:Int)then(if((l0.length:Int):Int).toNat<=35184372088832 then(mH.l0 k (List.replicate ((l0.length:Int):Int).toNat 0) l0 (l0.length:Int) 0)else(none))else(none)
set_option maxHeartbeats 8000000 in
set_option maxRecDepth 100000 in
theorem mH.calls (k:Nat) (A0:Option Addr) (c0:Nat) (l0:List Int) (r:List Int) (w:World) (hr0:Kd.C (Kd.int .i64) w A0 l0.length l0) (hc0:l0.length<=c0) (h:mH.f k l0=some r):
 Calls Try.prog 94 #[.slice A0 l0.length c0] w fun e w'=>∃bC:Value,e= .returned (bC)/\Kd.R (Kd.int .i64) 3 w' w.heap.size (fun _=>True) bC r/\Below w.heap.size w w':=by
 have dt:=Az hr0;have iX:=Az hc0;clear hr0 hc0;have HB:=bZ w;have H:=h;clear h;unfold mH.f at H;replace H:=gE H;obtain⟨sL,uK,H⟩:=H;replace H:=gE H;obtain⟨lJ,tY,H⟩:=H;generalize J0:(List.replicate ((l0.length:Int):Int).toNat 0:List Int)=y1017 at H;replace J0:=Ay J0;have H':=Az H;clear H;go_enter Try.func94,Try.ntmps94
 go_wp2_with (first|((with_reducible refine gd 8 rfl ?_);refine Kd.sD (Kd.int .i64) _ 3 rfl (N:=8) rfl 23 _ _ rfl (l0.length:Int) rfl rfl Try.underlying23 (.int .i64 0) 8 dE rfl (by decide) (by omega) 0 (ok:=fun _=>True) (okp:=fun _=>True) rfl (fun _ hk=>hk) trivial (oA) (Nat.le_trans (Nat.mul_le_mul_right _ (oA:(l0.length:Int).toNat<=35184372088832)) (by omega)) (Below.refl _ _) (Nat.le_refl _) ?_;intro aj3 w4 jj hb hg_ hnew_;clear hg_ hnew_;(first|rw[<-J0.out]at jj|(simp only[Int.reduceToNat]at jj;rw[<-J0.out]at jj));have aj4:=Az (Kd.a7 jj (aQ (bU0 HB.out)));replace HB:=Az (ay (bU0 HB.out) hb);clear hb jj))
 go_loopg [11] k (fun kq v11 w'=>∃(bc:List Int) (dW:Int),v11= .int .i64 dW/\ae (mH.l0 kq bc l0 (l0.length:Int) dW=some r)/\ae (kq<=k)/\ae (Kd.R (Kd.int .i64) 3 w' w.heap.size (fun _=>True) aj3 bc)/\ae (Below w.heap.size w w'))
 case atStart=>exact⟨(y1017),(0),rS,H',⟨Nat.le_refl _⟩,⟨rU aj4.out⟩,⟨bU0 HB.out⟩⟩
 case round=>
  clear H';obtain⟨bc,dW,rfl,HA,eZ,aZ,HB⟩:=hrel
  rcases gk with _|k1
  exact(nN HA.out).elim;have H:=HA.out;clear HA;simp only[mH.l0]at H
  replace H:=gB H;rcases H with⟨kk,H⟩|⟨kk,H⟩
  ·
   replace H:=gD4 H;obtain⟨jl,jS,mK,ni,H⟩:=H;generalize PV:(bc.set ((rd l0 dW):Int).toNat dW:List Int)=y1021 at H;replace PV:=Ay PV;have H':=Az H;clear H;obtain⟨atw,aj5,_,_,aaV⟩:=aI dt.out dW
   cases aj5
   replace aaV:=hT HB.out aaV;have t8:0<=((rd l0 dW):Int):=oA;have uT:((rd l0 dW):Int)<((bc.length:Int):Int):=oA;obtain⟨wb,fj,qo,zn,Gf,aaW,zo⟩:=Kd.jQ aZ.out (by omega);(first|cases qo|(injection qo with ea_ en_ ec_;(first|subst ea_|(injection ea_ with ea_;subst ea_));subst ec_;clear en_));have Gg:=Az zn;have PW:=Az zo;clear zn Gf zo;obtain⟨PX,PY⟩:=Kd.dd 0 aZ.out ((rd l0 dW):Int) t8 uT;replace t8:=eq_true t8;replace uT:=eq_true uT;obtain⟨atx,aty⟩:=Kd.dd 0 aZ.out ((rd l0 dW):Int) (oA) (oA);have Bp:=Kd.jy aZ.out ((rd l0 dW):Int) dW
   go_wp2_with (first|((with_reducible refine gs 3 19 rfl ?_);refine sE 3 19 (wr.setCell ⟨wb,((rd l0 dW):Int).toNat,none⟩ (.int .i64 dW)) ?_;intro vY hw;have hg:wr.grownBy vY (some wb):=(by rw[hw];exact Bp.2);have hp_:Kd.R (Kd.int .i64) 3 vY w.heap.size (fun _=>True) (.slice (some ⟨wb,0,none⟩) bc.length fj) y1021:=(by rw[hw,PV.out];exact Bp.1);clear Bp;replace aZ:=Az (hp_);replace HB:=Az ((by rw[hw];exact ap (HB.out) Gg.out:Below w.heap.size w vY));clear hg hw hp_))
   go_roundg k1
   case measure=>exact mO
   case rel=>exact⟨(y1021),(wrap64 (dW+1)),rS,H',⟨mO⟩,⟨rU aZ.out⟩,⟨bU0 HB.out⟩⟩
  ·obtain rfl:=Option.some.inj H;go_wp2;go_ret;exact⟨_,rE,rU aZ.out,bU0 HB.out⟩
end Go.Proofs.Ytlpbalebodlipaa.PL
