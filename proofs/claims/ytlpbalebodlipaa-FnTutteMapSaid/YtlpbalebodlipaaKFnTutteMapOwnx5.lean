/- A part of the proof of FnTutteMap. There are no conditions. -/
import Derived.Test.YtlpbalebodlipaaKFnTutteMapOwnx4
namespace Go.Proofs.Ytlpbalebodlipaa.PL
open Go.RowKit Go.Proofs.YtlpbalebodlipaaW.PrintWords Go.Proofs.YtlpbalebodlipaaW.PrintLast Go.Proofs.YtlpbalebodlipaaW.PrintMore
theorem qb_ {p:Prop} (h:p:=by repeat (first|(with_reducible first|exact HI0.out|apply ac.alloc|apply ac.drewN|apply ac.drew|apply ac.bh|refine ac.far ?_ fq.out _|refine ac.far ?_ fa.out _)|exact HI0.out)):p:=h
theorem qf_ {p:Prop} (h:p:=by repeat (first|(with_reducible first|exact HB.out|apply bm|apply bw|apply a8|refine ap ?_ (ac.ge HI0.out)|refine ap ?_ kv.out|refine ap ?_ lu.out)|exact HB.out)):p:=h
theorem qk_ {p:Prop} (h:p:=by repeat (first|(with_reducible first|exact HK.out|apply aE.dO|apply dU|apply dr|apply dV|refine cV ?_ sj.out _|refine cV ?_ tf.out _)|exact HK.out)):p:=h
theorem qs_ {p:Prop} (h:p:=by repeat (first|(with_reducible first|exact HI0.out|apply ac.alloc|apply ac.drewN|apply ac.drew|apply ac.bh|refine ac.far ?_ fq.out _)|exact HI0.out)):p:=h
theorem xe {p:Prop} (h:p:=by repeat (first|(with_reducible first|exact HK.out|apply aE.dO|apply dU|apply dr|apply dV|refine cV ?_ sj.out _|refine cV ?_ tf.out _)|exact HK.out)):p:=h
theorem yF {p:Prop} (h:p:=by repeat (first|(with_reducible first|exact HK.out|apply aE.dO|apply dU|apply dr|apply dV)|exact HK.out)):p:=h
theorem tA {p:Prop} (h:p:=by exact(aE.blk hk (g':=lr) (o:=.cells #[.string (⟨#[]⟩:ByteArray),.slice none 0 0] 25 (0,0)) (kU dh.out) G2.out (by simp))):p:=h
theorem AK {p:Prop} (h:p:=by repeat (first|(with_reducible first|exact HB.out|apply bm|apply bw|apply a8|refine ap ?_ (ac.ge HI0.out)|refine ap ?_ kv.out|refine ap ?_ lu.out)|exact HB.out)):p:=h
theorem AR {p:Prop} (h:p:=by repeat (first|(with_reducible first|exact HI0.out|apply ac.alloc|apply ac.drewN|apply ac.drew|apply ac.bh|refine ac.far ?_ fq.out _|refine ac.far ?_ fa.out _)|exact HI0.out)):p:=h
theorem DC {p:Prop} (h:p:=by repeat (first|(with_reducible first|exact HK.out|apply aE.dO|apply dU|apply dr|apply dV|refine cV ?_ sj.out _)|exact HK.out)):p:=h
theorem Al {p:Prop} (h:p:=by exact(aE.blk hk (g':=eh) (o:=.cells #[.string bN,da] 25 (0,0)) (kU bq.out) sk.out (by simp))):p:=h
theorem Ft {p:Prop} (h:p:=by repeat (first|(with_reducible first|exact HI0.out|apply ac.alloc|apply ac.drewN|apply ac.drew|apply ac.bh)|exact HI0.out)):p:=h
theorem IF {p:Prop} (h:p:=by repeat (first|(with_reducible first|exact HB.out|apply bm|apply bw|apply a8|refine ap ?_ (ac.ge HI0.out))|exact HB.out)):p:=h
theorem Yz {p:Prop} (h:p:=by refine sA ?_;refine bL (cs:=#[.string bN,.slice none 0 0]) ?_ 1 _ rfl;refine sA ?_;refine bL (cs:=#[.string (⟨#[]⟩:ByteArray),.slice none 0 0]) ?_ 0 _ rfl;refine sA ?_;exact dh.out):p:=h
theorem Y8 {p:Prop} (h:p:=by exact(Kd.ah (Kd.vG (ac.apart (show ac w0 _ g a6 kw from qd_) (rU aG.out) (by decide)) hk (fun _ h=>h.2)) (fun _ h=>h.1))):p:=h
theorem uE {p:Prop} (h:p:=by exact(aE.trans xe hk (.inl rfl))):p:=h
theorem Yf {p:Prop} (h:p:=by repeat (first|(with_reducible first|exact HB.out|apply bm|apply bw|apply a8|refine ap ?_ (ac.ge HI0.out)|refine ap ?_ kv.out)|exact HB.out)):p:=h
theorem WR {p:Prop} (h:p:=by exact(ac.lt (show ac w0 _ g a6 er from qd_))):p:=h
theorem WL {p:Prop} (h:p:=by repeat (first|(with_reducible first|exact HI0.out|apply ac.alloc|apply ac.drewN|apply ac.drew|apply ac.bh|refine ac.far ?_ fq.out _)|exact HI0.out)):p:=h
theorem FG {p:Prop} (h:p:=by exact(rO (w:=w) (g:=g) (row:=none) yF)):p:=h
theorem Fo {p:Prop} (h:p:=by exact(rO (w:=w) (g:=g) (row:=none) xe)):p:=h
theorem VT {p:Prop} (h:p:=by exact(Kd.gU (p:=⟨eh,0,none⟩) (Kd.mj aK.out bq.out (by decide)) (fun _ hk=>hk.2) (.string (bN++(⟨#[41]⟩:ByteArray))))):p:=h
theorem Wm {p:Prop} (h:p:=by exact(Kd.gU (p:=⟨eh,0,none⟩) (Kd.mj aK.out bq.out (by decide)) (fun _ hk=>hk.2) (.string (bN++(⟨#[40]⟩:ByteArray))))):p:=h
attribute [local go_sem] tH tW tL tB tJ tE tM tP
set_option linter.unusedVariables false
set_option linter.unusedSimpArgs false
def dP.l0:Nat->Int->Int->List Int->Int->ByteArray->List Int->Option (ByteArray×List Int×Int)
 |0,_,_,_,_,_,_=>none
 |k+1,x5,x7,x1000,fB,bT,bQ=>if(bT.size:Int)<(wrap64 (2*x5))then(if x7>0 then(if(bQ.length:Int)=x5 then(if bT.size+1<=9223372036854775807 then(dP.l0 k x5 (wrap64 (x7-1)) x1000 fB (bT++(⟨#[41]⟩:ByteArray)) bQ)else(none))else((eC.f k x1000 fB 2).bind fun RO=>(if RO.1=0 then(if bT.size+1<=9223372036854775807 then(dP.l0 k x5 (wrap64 (x7-1)) x1000 RO.2 (bT++(⟨#[41]⟩:ByteArray)) bQ)else(none))else(if bT.size+1<=9223372036854775807 then((eC.f k x1000 RO.2 3).bind fun acI=>(if bQ.length<17592186044416 then(dP.l0 k x5 (wrap64 (x7+1)) x1000 acI.2 (bT++(⟨#[40]⟩:ByteArray)) (bQ++[wrap64 (acI.1-1)]))else(none)))else(none)))))else(if bT.size+1<=9223372036854775807 then((eC.f k x1000 fB 3).bind fun acJ=>(if bQ.length<17592186044416 then(dP.l0 k x5 (wrap64 (x7+1)) x1000 acJ.2 (bT++(⟨#[40]⟩:ByteArray)) (bQ++[wrap64 (acJ.1-1)]))else(none)))else(none)))else((eC.f k x1000 fB 40).bind fun Ch=>(if Ch.1=0 then((AD.f k x1000 Ch.2 (([(⟨#[40]⟩:ByteArray),(⟨#[41]⟩:ByteArray),(⟨#[120]⟩:ByteArray),(⟨#[40,41]⟩:ByteArray)]:List ByteArray))).bind fun RP=>(if bT.size+RP.1.size<=9223372036854775807 then(some (bT++RP.1,bQ,RP.2))else(none)))else(if Ch.1=1 then((some (([(-2),2]:List Int):List Int)).bind fun kT=>((eC.f k x1000 Ch.2 2).bind fun K9=>(if 0<=K9.1 then(if K9.1<(kT.length:Int)then(if 0<(bQ.length:Int)then(some (bT,(bQ.set (0:Int).toNat (rd kT K9.1)),K9.2))else(none))else(none))else(none))))else(if Ch.1=2 then(if 1<=(bQ.length:Int)then(some (bT,(bQ.drop (1:Int).toNat),Ch.2))else(none))else(some (bT,bQ,Ch.2))))))
def dP.f (k:Nat) (a6:List Int) (er:Int) (a1:Int):Option (ByteArray×List Int×Int):=(eC.f k a6 er a1).bind fun acK=>(dP.l0 k (wrap64 (1+acK.1)) 0 a6 acK.2 (⟨#[]⟩:ByteArray) (([]:List Int)))
def dP.T9:Bool×List (List Nat×List Nat):=(true,[([],[]),([0],[0]),([],[]),([2],[2]),([3],[3]),([4],[4]),([1,5,3],[1,5]),([0,1,2,3,4,5,6],[]),([7,6,6,0,1,2,3,4,5,6],[6,7])])
def dP.B9:List Nat:=[0,1,0,4,12,28,63,127,255]
theorem dP.AE:rtab .any (opsOf Try.f61 9)=dP.T9:=by kernel_rfl
theorem dP.AP:gG dP.T9.2 dP.B9=true:=by kernel_rfl
def dP.T13:Bool×List (List Nat×List Nat):=(true,[([],[]),([0],[0]),([],[]),([],[]),([2,3],[2,3]),([1,4],[1,4]),([0,1,2,3,4,5],[]),([6,5,4,0,1,2,3,4,5],[5,6])])
def dP.B13:List Nat:=[0,1,0,0,12,31,63,127]
theorem dP.NY:rtab .any (opsOf Try.f61 13)=dP.T13:=by kernel_rfl
theorem dP.NO:gG dP.T13.2 dP.B13=true:=by kernel_rfl
def dP.T15:Bool×List (List Nat×List Nat):=(true,[([],[]),([0],[0]),([],[]),([],[]),([3],[3]),([2,4],[2,4]),([5],[5]),([1,0,1,2,3,4,5,6],[1]),([7,6,4,0,1,2,3,4,5,6],[6,7])])
def dP.B15:List Nat:=[0,1,0,0,8,28,60,127,255]
theorem dP.agF:rtab .any (opsOf Try.f61 15)=dP.T15:=by kernel_rfl
theorem dP.ag2:gG dP.T15.2 dP.B15=true:=by kernel_rfl
set_option maxHeartbeats 8000000 in
set_option maxRecDepth 100000 in
theorem dP.calls (k:Nat) (g:Nat) (a6:List Int) (er:Int) (a1:Int) (r1:ByteArray) (r2:List Int) (r3:Int) (w0 w:World) (hI:ac w0 w g a6 er) (hB:Below w0.heap.size w0 w) (h:dP.f k a6 er a1=some (r1,r2,r3)):
 Calls Try.prog 61 #[.pointer (some ⟨g,0,none⟩),.int .i64 a1] w fun e w'=>∃v1_:Value,e= .returned (.agg #[.string r1,v1_])/\Kd.Q (Kd.int .i64) 3 w' w.heap.size (fun _=>True) v1_ r2/\ac w0 w' g a6 r3/\Below w0.heap.size w0 w'/\aE w w' g none:=by
 have PS:=Try.underlying25;have HI0:=Az hI;have HK:=Az (aE.refl w g none);have HL:=Az hB.size;clear hI;have HW0:=Az hB.size;have HB:=Az hB;clear hB;have H:=h;clear h;unfold dP.f at H;replace H:=bd H;obtain⟨⟨RQ,G3⟩,A3,H⟩:=H;dsimp only at H;obtain⟨La,RR⟩:∃y_:List Int,y_=(([]:List Int)):=⟨_,rfl⟩;replace H:(dP.l0 k (wrap64 (1+RQ)) 0 a6 G3 (⟨#[]⟩:ByteArray) La)=some (r1,r2,r3):=hR RR H;have acL:=Az RR;clear RR;have H':=Az H;clear H;go_enter Try.func61,Try.ntmps61
 go_wp2_with (first|((with_reducible refine gd 4 rfl ?_);(refine nG (by rfl) ?_;dsimp only);refine bE 4 #[.string (⟨#[]⟩:ByteArray),.slice none 0 0] 25 ?_;intro lr hg w4 hbox hb;replace HB:=Az (ay IF hb);have dh:=Az (hbox);have sj:=Az ((by rw[hg];exact FG:w.heap.size<=lr));have kv:=Az ((Nat.le_trans HW0.out (by rw[hg];exact FG:w.heap.size<=lr):w0.heap.size<=lr));replace HK:=Az (aE.trans yF (aE.of_below hb g none) (.inl rfl));have fq:=Az ((by rw[hg];exact Nat.ne_of_lt WR:g≠lr));have G2:=Az ((by rw[hg];exact Nat.ne_of_gt WR:lr≠g));replace HI0:=Az (ac.below Ft hb);clear hb hbox hg)|((with_reducible refine gK 79 rfl ?_);refine gC (some 10) Try.func79 #[.pointer (some ⟨g,0,none⟩),.int .i64 a1] ?_;(with_reducible refine(eC.calls k g a6 er a1 RQ G3 w0 _ ?side1 ?side2 A3.out).mono ?_);(case side1=>exact qs_);(case side2=>repeat (first|(with_reducible first|exact HB.out|apply bm|apply bw|apply a8|refine ap ?_ (ac.ge HI0.out)|refine ap ?_ kv.out)|exact HB.out));rintro e w5 ⟨rfl,hi,hb,hk⟩;refine⟨_,rfl,?_⟩;replace dh:=Az tA;replace HK:=Az (aE.trans DC hk (.inl rfl));replace HB:=Az (hb);replace HI0:=Az (hi);clear hb hk hi)|((with_reducible refine gd 12 rfl ?_);(refine nG (by rfl) ?_;dsimp only);refine Kd.ji (Kd.int .i64) _ 3 rfl (N:=12) rfl (xs:=([]:List Int)) (inner:=[]) (ok:=fun _=>True) (okp:=fun _=>True) hS ?hp (fun _ hk=>hk) trivial (Below.refl _ _) (Nat.le_refl _) (by simp) ?_;(case hp=>exact(Reps.none _ _));intro awg w6 lc hb hg_ hnew_;clear hg_ hnew_;(first|rw[<-acL.out]at lc|(simp only[Int.reduceToNat]at lc;rw[<-acL.out]at lc));have Lb:=Az (Kd.a7 lc (rO (w:=w) (g:=g) (row:=none) DC));replace dh:=kB dh.out hb;replace HK:=Az (aE.trans DC (aE.of_below hb g none) (.inl rfl));replace HB:=Az (ay Yf hb);replace HI0:=Az (ac.below WL hb);clear hb lc;obtain⟨DO,Bc,vV⟩:=Kd.aH Lb.out;subst vV)|((with_reducible refine gd 6 rfl ?_);(refine nG (by rfl) ?_;dsimp only);refine bE 6 #[.string (⟨#[]⟩:ByteArray),.slice none 0 0] 25 ?_;intro eh hg w9 hbox hb;replace Lb:=rB Lb.out hb;replace HB:=Az (ay Yf hb);have bq:=Az (hbox);have tf:=Az ((by rw[hg];exact(rO (w:=w) (g:=g) (row:=none) DC):w.heap.size<=eh));have lu:=Az ((Nat.le_trans HW0.out (by rw[hg];exact(rO (w:=w) (g:=g) (row:=none) DC):w.heap.size<=eh):w0.heap.size<=eh));replace HK:=Az (aE.trans DC (aE.of_below hb g none) (.inl rfl));have kV:=nL hg (kU dh.out);replace dh:=kB dh.out hb;have fa:=Az ((by rw[hg];exact Nat.ne_of_lt (ac.lt (show ac w0 _ g a6 G3 from qs_)):g≠eh));have sk:=Az ((by rw[hg];exact Nat.ne_of_gt (ac.lt (show ac w0 _ g a6 G3 from qs_)):eh≠g));replace HI0:=Az (ac.below WL hb);clear hb hbox hg;have RS:=nP kV;have RU:=sk.out;have RV:=fa.out;have DY:=bc2 bq.out))
 go_loopg [7] k (fun kq v7 w'=>∃(eH:Int) (kw:Int) (bN:ByteArray) (dG:List Int) (da:Value),v7= .int .i64 eH/\ae (dP.l0 kq (wrap64 (1+RQ)) eH a6 kw bN dG=some (r1,r2,r3))/\ae (kq<=k)/\ae (Kd.Q (Kd.int .i64) 3 w' w.heap.size (fun _=>True) da dG)/\ae (w'.heap[lr]?=some (.cells #[.string (⟨#[]⟩:ByteArray),(.slice none 0 0)] 25 (0,0)))/\ae (w'.heap[eh]?=some (.cells #[.string bN,da] 25 (0,0)))/\ae (ac w0 w' g a6 kw)/\ae (aE w w' g none)/\ae (Below w0.heap.size w0 w'))
 case atStart=>exact⟨(0),(G3),((⟨#[]⟩:ByteArray)),(La),(.slice DO La.length Bc),rS,H',⟨Nat.le_refl _⟩,⟨Kd.tG (rU (Kd.ah (Kd.aY (p:=⟨eh,1,none⟩) (Kd.aY (p:=⟨eh,0,none⟩) (Kd.cj Lb.out bq.out (by decide)) (fun _ hk=>hk.2) (.string (⟨#[]⟩:ByteArray))) (fun _ hk=>hk.2) (.slice DO La.length Bc)) (fun _ hk=>trivial)))⟩,⟨by refine sA ?_;refine bU ?_ kV.out _;refine sA ?_;refine bU ?_ kV.out _;refine sA ?_;exact dh.out⟩,⟨by refine sA ?_;refine bL (cs:=#[.string (⟨#[]⟩:ByteArray),.slice none 0 0]) ?_ 1 _ rfl;refine sA ?_;refine bL (cs:=#[.string (⟨#[]⟩:ByteArray),.slice none 0 0]) ?_ 0 _ rfl;refine sA ?_;exact bq.out⟩,⟨qb_⟩,⟨qk_⟩,⟨qf_⟩⟩
 case round=>
  clear H';obtain⟨eH,kw,bN,dG,da,rfl,HA,eZ,aK,dh,bq,HI0,HK,HB⟩:=hrel
  rcases gk with _|k1
  exact(nN HA.out).elim;have H:=HA.out;clear HA;simp only[dP.l0]at H
  replace H:=gB H;rcases H with⟨vW,H⟩|⟨vW,H⟩
  ·
   replace H:=gB H;rcases H with⟨yZ,H⟩|⟨yZ,H⟩
   ·
    replace H:=gQ H;rcases H with⟨AW,Ot,H⟩|⟨AW,Ot,H⟩
    ·
     replace H:=gP H;obtain⟨c16,H⟩:=H;have za:=eq_true c16;have Z1:=decide_eq_true c16
     try have awh:(9223372036854775807<bN.size+1)=False:=eq_false (Nat.not_lt.2 c16)
     have H':=Az H;clear H;have acM:=nP kV;have ans:=sk.out;have awi:=fa.out;have aaB:=bc2 bq.out;obtain⟨FR,FS,DJ,_⟩:=Kd.nf aK.out;subst DJ;go_wp2;go_roundg k1
     case measure=>exact mO
     case rel=>exact⟨(wrap64 (eH-1)),(kw),(bN++(⟨#[41]⟩:ByteArray)),(dG),(.slice FR dG.length FS),rS,H',⟨mO⟩,⟨qM VT⟩,⟨by refine sA ?_;refine bU ?_ kV.out _;refine sA ?_;exact dh.out⟩,⟨by refine sA ?_;refine bL (cs:=#[.string bN,.slice FR dG.length FS]) ?_ 0 _ rfl;refine sA ?_;exact bq.out⟩,⟨qb_⟩,⟨qk_⟩,⟨qf_⟩⟩
    ·
     replace H:=bd H;obtain⟨⟨acN,Em⟩,xI,H⟩:=H;dsimp only at H
     replace H:=gQ H;rcases H with⟨zg,JZ,H⟩|⟨zg,JZ,H⟩
     ·
      replace H:=gP H;obtain⟨c23,H⟩:=H;have zh:=eq_true c23;have akL:=decide_eq_true c23
      try have awj:(9223372036854775807<bN.size+1)=False:=eq_false (Nat.not_lt.2 c23)
      have H':=Az H;clear H;have ant:=nP kV;have akM:=sk.out;have akN:=fa.out;have aaU:=bc2 bq.out;obtain⟨ru,ry,qw,_⟩:=Kd.nf aK.out;subst qw
      go_wp2_with (first|(go_at_call 79;(with_reducible refine(eC.calls k1 g a6 kw 2 acN Em w0 _ ?side1 ?side2 xI.out).mono ?_);(case side1=>exact qb_);(case side2=>exact qf_);rintro e rV ⟨rfl,hi,hb,hk⟩;replace aK:=Az (Kd.ec (Kd.pA (ac.pJ (show ac w0 _ g a6 kw from qb_) (qU aK.out) (by decide)) hk (fun _ h=>h.2)) (fun _ h=>h.1));replace dh:=Az tA;replace bq:=Az (aE.blk hk (g':=eh) (o:=.cells #[.string bN,.slice ru dG.length ry] 25 (0,0)) (kU bq.out) sk.out (by simp));replace HK:=Az uE;replace HB:=Az (hb);replace HI0:=Az (hi);clear hb hk hi;have aiZ:=bc2 bq.out))
      go_roundg k1
      case measure=>exact mO
      case rel=>exact⟨(wrap64 (eH-1)),(Em),(bN++(⟨#[41]⟩:ByteArray)),(dG),(.slice ru dG.length ry),rS,H',⟨mO⟩,⟨qM VT⟩,⟨by refine sA ?_;refine bU ?_ kV.out _;refine sA ?_;exact dh.out⟩,⟨by refine sA ?_;refine bL (cs:=#[.string bN,.slice ru dG.length ry]) ?_ 0 _ rfl;refine sA ?_;exact bq.out⟩,⟨qb_⟩,⟨qk_⟩,⟨qf_⟩⟩
     ·
      replace H:=gP H;obtain⟨RX,H⟩:=H;have Q1:=eq_true RX;have awk:=decide_eq_true RX
      try have awl:(9223372036854775807<bN.size+1)=False:=eq_false (Nat.not_lt.2 RX)
      replace H:=bd H;obtain⟨⟨Lc,acO⟩,F6,H⟩:=H;dsimp only at H;replace H:=gP H;obtain⟨c32,H⟩:=H;have Q2:=Az c32;clear c32;generalize RY:(dG++[wrap64 (Lc-1)]:List Int)=y824 at H;replace RY:=Ay RY;have H':=Az H;clear H;have anu:=nP kV;have anv:=sk.out;have anw:=fa.out;have alW:=bc2 bq.out;obtain⟨pS,iG,xD,_⟩:=Kd.nf aK.out;subst xD
      try go_wp2_with (first|(go_at_call 79;(with_reducible refine(eC.calls k1 g a6 kw 2 acN Em w0 _ ?side1 ?side2 xI.out).mono ?_);(case side1=>exact qb_);(case side2=>exact qf_);rintro e wv ⟨rfl,hi,hb,hk⟩;replace aK:=Az (Kd.ec (Kd.pA (ac.pJ (show ac w0 _ g a6 kw from qb_) (qU aK.out) (by decide)) hk (fun _ h=>h.2)) (fun _ h=>h.1));replace dh:=Az tA;replace bq:=Az (aE.blk hk (g':=eh) (o:=.cells #[.string bN,.slice pS dG.length iG] 25 (0,0)) (kU bq.out) sk.out (by simp));replace HK:=Az uE;replace HB:=Az (hb);replace HI0:=Az (hi);clear hb hk hi;have anx:=bc2 bq.out))
      have n0:ae (Kd.Q (Kd.int .i64) 3 (wv.setCell ⟨eh,0,none⟩ (.string (bN++(⟨#[40]⟩:ByteArray)))) w.heap.size (fun _=>True) (.slice pS dG.length iG) dG):=⟨qM Wm⟩;have n1:ae ((wv.setCell ⟨eh,0,none⟩ (.string (bN++(⟨#[40]⟩:ByteArray)))).heap[lr]?=some (.cells #[.string (⟨#[]⟩:ByteArray),.slice none 0 0] 25 (0,0))):=⟨by refine sA ?_;refine bU ?_ kV.out _;refine sA ?_;exact dh.out⟩;have n2:ae ((wv.setCell ⟨eh,0,none⟩ (.string (bN++(⟨#[40]⟩:ByteArray)))).heap[eh]?=some (.cells #[.string (bN++(⟨#[40]⟩:ByteArray)),.slice pS dG.length iG] 25 (0,0))):=⟨by refine sA ?_;refine bL (cs:=#[.string bN,.slice pS dG.length iG]) ?_ 0 _ rfl;refine sA ?_;exact bq.out⟩;have n3:ae (ac w0 (wv.setCell ⟨eh,0,none⟩ (.string (bN++(⟨#[40]⟩:ByteArray)))) g a6 Em):=⟨qb_⟩;have n4:ae (aE w (wv.setCell ⟨eh,0,none⟩ (.string (bN++(⟨#[40]⟩:ByteArray)))) g none):=⟨qk_⟩;have n5:ae (Below w0.heap.size w0 (wv.setCell ⟨eh,0,none⟩ (.string (bN++(⟨#[40]⟩:ByteArray))))):=⟨qf_⟩;generalize (wv.setCell ⟨eh,0,none⟩ (.string (bN++(⟨#[40]⟩:ByteArray))))=Km at n0 n1 n2 n3 n4 n5 ⊢;have aK:=n0;have dh:=n1;have bq:=n2;have HI0:=n3;have HK:=n4;have HB:=n5;clear n0 n1 n2 n3 n4 n5;replace aK:=Az (Kd.jd aK.out);replace dh:=Az (ce dh.out);replace bq:=Az (ce bq.out);replace HI0:=Az (ac.drew HI0.out);replace HK:=Az (dr HK.out);replace HB:=Az (a8 HB.out);refine eX (n:=9) (S:=fun w'=>w'.cell? ⟨eh,0,none⟩=some (.string (bN++(⟨#[40]⟩:ByteArray)))/\w'.cell? ⟨eh,1,none⟩=some (.slice pS dG.length iG)) (ds:=[8]) (bv 9 0) (by kernel_rfl) rfl rfl ⟨(ai bq.out 0).trans rfl,(ai bq.out 1).trans rfl⟩ (fun hHeld=>?_);refine fL dP.AE dP.AP (fun HT_ HW_=>?_);generalize Km.drew=J6 at aK dh bq HI0 HK HB hHeld ⊢;refine av (i:=0) (N:=some 44) (v:=?_) (a':=?_) (bv 9 1) rfl rfl (ao HT_.out (by kernel_rfl)) (fun _ _ _ h=>h) (Or.inl ⟨by rfl,?_⟩) ?_ ?_;rotate_left;(exact yP);rotate_left;(exact aP);refine av (i:=2) (N:=some 46) (v:=?_) (a':=?_) (bv 9 5) rfl rfl (ao HT_.out (by kernel_rfl)) (fun _ _ _ h=>h) (Or.inl ⟨by rfl,?_⟩) ?_ ?_;rotate_left;(exact yP);rotate_left;(exact aP);refine bS (i:=1) (N:=some 45) (v:=?_) (a':=?_) (bv 9 7) rfl rfl (bW HT_.out HW_.out (by kernel_rfl)) (fun _ _ _ h=>h) (Or.inl ⟨by rfl,?_⟩) hHeld ?_ ?_;rotate_left
      ·
       rintro w' ⟨s0,s1⟩;go_simp
       with_reducible rfl
      rotate_left;(exact aP);refine dm (i:=3) (N:=some 47) (bv 9 15) rfl rfl (cJ HT_.out (by kernel_rfl)) (by decide) (fun K hK=>?_);refine eQ Try.func79 (by kernel_rfl) rfl #[.pointer (some ⟨g,0,none⟩),.int .i64 3] (by rfl) rfl rfl lQ ?_
      with_reducible refine(eC.calls k1 g a6 Em 3 Lc acO w0 _ ?side1 ?side2 F6.out).mono ?_
      (case side1=>exact qb_)
      (case side2=>exact qf_)
      rintro e w41 ⟨rfl,hi,hb,hk⟩;refine⟨_,rfl,?_⟩;replace aK:=Az (Kd.ec (Kd.pA (ac.pJ (show ac w0 _ g a6 Em from qb_) (qU aK.out) (by decide)) hk (fun _ h=>h.2)) (fun _ h=>h.1));replace dh:=Az tA;replace bq:=Az (aE.blk hk (g':=eh) (o:=.cells #[.string (bN++(⟨#[40]⟩:ByteArray)),.slice pS dG.length iG] 25 (0,0)) (kU bq.out) sk.out (by simp));replace HK:=Az uE;replace HB:=Az (hb);replace HI0:=Az (hi);clear hb hk hi;refine hK.out _ _ ⟨(ai bq.out 0).trans rfl,(ai bq.out 1).trans rfl⟩ (fun hHeld=>?_);clear hK K;refine aX (a':=?_) ?_ ?_;rotate_left
      ·
       show Act.put _ (some 47) _=_
       simp only[Act.put,List.setIfInBounds_toArray,List.set_cons_zero,List.set_cons_succ,bo,bD];rfl
      refine av (i:=4) (N:=some 48) (v:=?_) (a':=?_) (bv 9 31) rfl rfl (ao HT_.out (by kernel_rfl)) (fun _ _ _ h=>h) (Or.inl ⟨by rfl,?_⟩) ?_ ?_;rotate_left;(exact yP);rotate_left;(exact aP);refine dm (i:=5) (N:=some 49) (bv 9 63) rfl rfl (cJ HT_.out (by kernel_rfl)) (by decide) (fun K hK=>?_);refine Dq (w1:=?_) (v:=?_) (by rfl) rfl ?_ ?_;rotate_left 2
      ·
       go_simp
       constructor
       ·rfl
       ·rfl
      refine hK.out _ _ ⟨(ai (qb bq.out _) 0).trans rfl,(ai (qb bq.out _) 1).trans rfl⟩ (fun hHeld=>?_);clear hK K;refine aX (a':=?_) ?_ ?_;rotate_left
      ·
       show Act.put _ (some 49) _=_
       simp only[Act.put,List.setIfInBounds_toArray,List.set_cons_zero,List.set_cons_succ,bo,bD];rfl
      refine dm (i:=6) (N:=some 50) (bv 9 127) rfl rfl (cJ HT_.out (by kernel_rfl)) (by decide) (fun K hK=>?_);refine Kd.Zu (Kd.int .i64) w.heap.size (by rfl) (.tmp 45) (.tmp 49) 23 3 (.int .i64 0) 8 rfl Try.underlying23 dE rfl (by decide) (by omega) (.slice pS dG.length iG) dG (wrap64 (Lc-1)) [.int .i64 (wrap64 (Lc-1))] (fun _=>True) (fun _=>False) rfl rfl ?aP (fun _ hk=>hk.elim) ?aF ?aO (Below.refl _ _) ?aS ?aL ?_
      (case aP=>exact rfl)
      (case aF=>exact(fun _ _=>trivial))
      (case aO=>exact(qU aK.out))
      (case aS=>exact Fo)
      (case aL=>have:=Q2.out;omega)
      intro awm B0 ho hb hg hat;rw[<-RY.out]at ho;replace dh:=Az (kG dh.out hg (Kd.sH aK.out dh.out (by decide)));replace bq:=Az (kG bq.out hg (Kd.sH aK.out bq.out (by decide)));replace HB:=Az (IL AK HL.out hb);replace HI0:=Az (ac.grown AR hg (ac.Dm HI0.out aK.out (by decide)));replace HK:=Az (aE.trans xe (aE.uG hg g) (Kd.I2 aK.out));have acP:=Az (ho);clear aK ho hb hg hat;obtain⟨RZ,ud,uX,_⟩:=Kd.nf acP.out;(first|subst uX|(injection uX with al aT am;have aU:=al.symm;have aV:=am.symm;clear al aT am;subst aU;subst aV));refine hK.out _ _ ⟨(ai bq.out 0).trans rfl,(ai bq.out 1).trans rfl⟩ (fun hHeld=>?_);clear hK K;refine aX (a':=?_) ?_ ?_;rotate_left
      ·
       show Act.put _ (some 50) _=_
       simp only[Act.put,List.setIfInBounds_toArray,List.set_cons_zero,List.set_cons_succ,bo,bD];rfl
      refine av (i:=7) (N:=some 51) (v:=?_) (a':=?_) (bv 9 255) rfl rfl (ao HT_.out (by kernel_rfl)) (fun _ _ _ h=>h) (Or.inl ⟨by rfl,?_⟩) ?_ ?_;rotate_left;(exact yP);rotate_left;(exact aP);refine k9 (i:=8) (N:=none) (bv 9 511) rfl rfl (cJ HT_.out (by kernel_rfl)) (by decide) (fun K hK=>?_);have awn:B0.cell? ⟨eh,1,none⟩=some (.slice pS dG.length iG):=(ai bq.out 1).trans rfl;have awo:=gJ bq.out 1;have awp:=kV.out;have awq:=(kV.out).symm;refine iW (w1:=?_) (by rfl) rfl ?_ ?_;rotate_left
      ·go_simp;rfl
      refine hK.out _ _ ?_;clear hK K;refine eY (fN HT_.out (by kernel_rfl)) ?_
      try go_wp2
      go_roundg k1
      case measure=>exact mO
      case rel=>exact⟨(wrap64 (eH+1)),(acO),(bN++(⟨#[40]⟩:ByteArray)),(y824),(.slice RZ y824.length ud),rS,H',⟨mO⟩,⟨qM (Kd.gU (p:=⟨eh,1,none⟩) (Kd.mj acP.out bq.out (by decide)) (fun _ hk=>hk.2) (.slice RZ y824.length ud))⟩,⟨by refine sA ?_;refine bU ?_ kV.out _;refine sA ?_;exact dh.out⟩,⟨by refine sA ?_;refine bL (cs:=#[.string (bN++(⟨#[40]⟩:ByteArray)),.slice pS dG.length iG]) ?_ 1 _ rfl;refine sA ?_;exact bq.out⟩,⟨qb_⟩,⟨qk_⟩,⟨qf_⟩⟩
   ·
    replace H:=gP H;obtain⟨R0,H⟩:=H;have Rb:=eq_true R0;have Rc:=decide_eq_true R0
    try have awr:(9223372036854775807<bN.size+1)=False:=eq_false (Nat.not_lt.2 R0)
    replace H:=bd H;obtain⟨⟨Ld,acQ⟩,A46,H⟩:=H;dsimp only at H;replace H:=gP H;obtain⟨c47,H⟩:=H;have anA:=Az c47;clear c47;generalize R3:(dG++[wrap64 (Ld-1)]:List Int)=y829 at H;replace R3:=Ay R3;have H':=Az H;clear H;have aws:=nP kV;have anB:=sk.out;have awt:=fa.out;have awu:=bc2 bq.out
    try go_wp2
    have n0:ae (Kd.Q (Kd.int .i64) 3 (wr.setCell ⟨eh,0,none⟩ (.string (bN++(⟨#[40]⟩:ByteArray)))) w.heap.size (fun _=>True) da dG):=⟨qM Wm⟩;have n1:ae ((wr.setCell ⟨eh,0,none⟩ (.string (bN++(⟨#[40]⟩:ByteArray)))).heap[lr]?=some (.cells #[.string (⟨#[]⟩:ByteArray),.slice none 0 0] 25 (0,0))):=⟨by refine sA ?_;refine bU ?_ kV.out _;refine sA ?_;exact dh.out⟩;have n2:ae ((wr.setCell ⟨eh,0,none⟩ (.string (bN++(⟨#[40]⟩:ByteArray)))).heap[eh]?=some (.cells #[.string (bN++(⟨#[40]⟩:ByteArray)),da] 25 (0,0))):=⟨by refine sA ?_;refine bL (cs:=#[.string bN,da]) ?_ 0 _ rfl;refine sA ?_;exact bq.out⟩;have n3:ae (ac w0 (wr.setCell ⟨eh,0,none⟩ (.string (bN++(⟨#[40]⟩:ByteArray)))) g a6 kw):=⟨qb_⟩;have n4:ae (aE w (wr.setCell ⟨eh,0,none⟩ (.string (bN++(⟨#[40]⟩:ByteArray)))) g none):=⟨qk_⟩;have n5:ae (Below w0.heap.size w0 (wr.setCell ⟨eh,0,none⟩ (.string (bN++(⟨#[40]⟩:ByteArray))))):=⟨qf_⟩;generalize (wr.setCell ⟨eh,0,none⟩ (.string (bN++(⟨#[40]⟩:ByteArray))))=qx at n0 n1 n2 n3 n4 n5 ⊢;have aK:=n0;have dh:=n1;have bq:=n2;have HI0:=n3;have HK:=n4;have HB:=n5;clear n0 n1 n2 n3 n4 n5;replace aK:=Az (Kd.jd aK.out);replace dh:=Az (ce dh.out);replace bq:=Az (ce bq.out);replace HI0:=Az (ac.drew HI0.out);replace HK:=Az (dr HK.out);replace HB:=Az (a8 HB.out);refine eX (n:=9) (S:=fun w'=>w'.cell? ⟨eh,0,none⟩=some (.string (bN++(⟨#[40]⟩:ByteArray)))/\w'.cell? ⟨eh,1,none⟩=some (da)) (ds:=[8]) (bv 9 0) (by kernel_rfl) rfl rfl ⟨(ai bq.out 0).trans rfl,(ai bq.out 1).trans rfl⟩ (fun hHeld=>?_);refine fL dP.AE dP.AP (fun HT_ HW_=>?_);generalize qx.drew=w52 at aK dh bq HI0 HK HB hHeld ⊢;refine av (i:=0) (N:=some 44) (v:=?_) (a':=?_) (bv 9 1) rfl rfl (ao HT_.out (by kernel_rfl)) (fun _ _ _ h=>h) (Or.inl ⟨by rfl,?_⟩) ?_ ?_;rotate_left;(exact yP);rotate_left;(exact aP);refine av (i:=2) (N:=some 46) (v:=?_) (a':=?_) (bv 9 5) rfl rfl (ao HT_.out (by kernel_rfl)) (fun _ _ _ h=>h) (Or.inl ⟨by rfl,?_⟩) ?_ ?_;rotate_left;(exact yP);rotate_left;(exact aP);refine bS (i:=1) (N:=some 45) (v:=?_) (a':=?_) (bv 9 7) rfl rfl (bW HT_.out HW_.out (by kernel_rfl)) (fun _ _ _ h=>h) (Or.inl ⟨by rfl,?_⟩) hHeld ?_ ?_;rotate_left
    ·
     rintro w' ⟨s0,s1⟩;go_simp
     with_reducible rfl
    rotate_left;(exact aP);refine dm (i:=3) (N:=some 47) (bv 9 15) rfl rfl (cJ HT_.out (by kernel_rfl)) (by decide) (fun K hK=>?_);refine eQ Try.func79 (by kernel_rfl) rfl #[.pointer (some ⟨g,0,none⟩),.int .i64 3] (by rfl) rfl rfl lQ ?_
    with_reducible refine(eC.calls k1 g a6 kw 3 Ld acQ w0 _ ?side1 ?side2 A46.out).mono ?_
    (case side1=>exact qb_)
    (case side2=>exact qf_)
    rintro e w53 ⟨rfl,hi,hb,hk⟩;refine⟨_,rfl,?_⟩;replace aK:=Az (Kd.ec (Kd.pA (ac.pJ (show ac w0 _ g a6 kw from qb_) (qU aK.out) (by decide)) hk (fun _ h=>h.2)) (fun _ h=>h.1));replace dh:=Az tA;replace bq:=Az (aE.blk hk (g':=eh) (o:=.cells #[.string (bN++(⟨#[40]⟩:ByteArray)),da] 25 (0,0)) (kU bq.out) sk.out (by simp));replace HK:=Az uE;replace HB:=Az (hb);replace HI0:=Az (hi);clear hb hk hi;refine hK.out _ _ ⟨(ai bq.out 0).trans rfl,(ai bq.out 1).trans rfl⟩ (fun hHeld=>?_);clear hK K;refine aX (a':=?_) ?_ ?_;rotate_left
    ·
     show Act.put _ (some 47) _=_
     simp only[Act.put,List.setIfInBounds_toArray,List.set_cons_zero,List.set_cons_succ,bo,bD];rfl
    refine av (i:=4) (N:=some 48) (v:=?_) (a':=?_) (bv 9 31) rfl rfl (ao HT_.out (by kernel_rfl)) (fun _ _ _ h=>h) (Or.inl ⟨by rfl,?_⟩) ?_ ?_;rotate_left;(exact yP);rotate_left;(exact aP);refine dm (i:=5) (N:=some 49) (bv 9 63) rfl rfl (cJ HT_.out (by kernel_rfl)) (by decide) (fun K hK=>?_);refine Dq (w1:=?_) (v:=?_) (by rfl) rfl ?_ ?_;rotate_left 2
    ·
     go_simp
     constructor
     ·rfl
     ·rfl
    refine hK.out _ _ ⟨(ai (qb bq.out _) 0).trans rfl,(ai (qb bq.out _) 1).trans rfl⟩ (fun hHeld=>?_);clear hK K;refine aX (a':=?_) ?_ ?_;rotate_left
    ·
     show Act.put _ (some 49) _=_
     simp only[Act.put,List.setIfInBounds_toArray,List.set_cons_zero,List.set_cons_succ,bo,bD];rfl
    refine dm (i:=6) (N:=some 50) (bv 9 127) rfl rfl (cJ HT_.out (by kernel_rfl)) (by decide) (fun K hK=>?_);refine Kd.Zu (Kd.int .i64) w.heap.size (by rfl) (.tmp 45) (.tmp 49) 23 3 (.int .i64 0) 8 rfl Try.underlying23 dE rfl (by decide) (by omega) da dG (wrap64 (Ld-1)) [.int .i64 (wrap64 (Ld-1))] (fun _=>True) (fun _=>False) rfl rfl ?aP (fun _ hk=>hk.elim) ?aF ?aO (Below.refl _ _) ?aS ?aL ?_
    (case aP=>exact rfl)
    (case aF=>exact(fun _ _=>trivial))
    (case aO=>exact(qU aK.out))
    (case aS=>exact Fo)
    (case aL=>have:=anA.out;omega)
    intro awv w54 ho hb hg hat;rw[<-R3.out]at ho;replace dh:=Az (kG dh.out hg (Kd.sH aK.out dh.out (by decide)));replace bq:=Az (kG bq.out hg (Kd.sH aK.out bq.out (by decide)));replace HB:=Az (IL AK HL.out hb);replace HI0:=Az (ac.grown AR hg (ac.Dm HI0.out aK.out (by decide)));replace HK:=Az (aE.trans xe (aE.uG hg g) (Kd.I2 aK.out));have acU:=Az (ho);clear aK ho hb hg hat;obtain⟨kR,kS,zA,_⟩:=Kd.nf acU.out;(first|subst zA|(injection zA with al aT am;have aU:=al.symm;have aV:=am.symm;clear al aT am;subst aU;subst aV));refine hK.out _ _ ⟨(ai bq.out 0).trans rfl,(ai bq.out 1).trans rfl⟩ (fun hHeld=>?_);clear hK K;refine aX (a':=?_) ?_ ?_;rotate_left
    ·
     show Act.put _ (some 50) _=_
     simp only[Act.put,List.setIfInBounds_toArray,List.set_cons_zero,List.set_cons_succ,bo,bD];rfl
    refine av (i:=7) (N:=some 51) (v:=?_) (a':=?_) (bv 9 255) rfl rfl (ao HT_.out (by kernel_rfl)) (fun _ _ _ h=>h) (Or.inl ⟨by rfl,?_⟩) ?_ ?_;rotate_left;(exact yP);rotate_left;(exact aP);refine k9 (i:=8) (N:=none) (bv 9 511) rfl rfl (cJ HT_.out (by kernel_rfl)) (by decide) (fun K hK=>?_);have aww:w54.cell? ⟨eh,1,none⟩=some (da):=(ai bq.out 1).trans rfl;have awx:=gJ bq.out 1;have awy:=kV.out;have awz:=(kV.out).symm;refine iW (w1:=?_) (by rfl) rfl ?_ ?_;rotate_left
    ·go_simp;rfl
    refine hK.out _ _ ?_;clear hK K;refine eY (fN HT_.out (by kernel_rfl)) ?_
    try go_wp2
    go_roundg k1
    case measure=>exact mO
    case rel=>exact⟨(wrap64 (eH+1)),(acQ),(bN++(⟨#[40]⟩:ByteArray)),(y829),(.slice kR y829.length kS),rS,H',⟨mO⟩,⟨qM (Kd.gU (p:=⟨eh,1,none⟩) (Kd.mj acU.out bq.out (by decide)) (fun _ hk=>hk.2) (.slice kR y829.length kS))⟩,⟨by refine sA ?_;refine bU ?_ kV.out _;refine sA ?_;exact dh.out⟩,⟨by refine sA ?_;refine bL (cs:=#[.string (bN++(⟨#[40]⟩:ByteArray)),da]) ?_ 1 _ rfl;refine sA ?_;exact bq.out⟩,⟨qb_⟩,⟨qk_⟩,⟨qf_⟩⟩
  ·
   replace H:=bd H;obtain⟨⟨Le,ui⟩,Lf,H⟩:=H;dsimp only at H
   replace H:=gQ H;rcases H with⟨Ka,Kb,H⟩|⟨Ka,Kb,H⟩
   ·
    generalize Lg:(([(⟨#[40]⟩:ByteArray),(⟨#[41]⟩:ByteArray),(⟨#[120]⟩:ByteArray),(⟨#[40,41]⟩:ByteArray)]:List ByteArray):List ByteArray)=y834 at H;replace Lg:=Ay Lg;replace H:=bd H;obtain⟨⟨En,anD⟩,A59,H⟩:=H;dsimp only at H;replace H:=gP H;obtain⟨Eo,H⟩:=H;have BD:=eq_true Eo;have Qh:=decide_eq_true Eo
    try have awA:(9223372036854775807<bN.size+En.size)=False:=eq_false (Nat.not_lt.2 Eo)
    simp only[Option.some.injEq,Prod.mk.injEq]at H;obtain⟨rfl,rfl,rfl⟩:=H;have anF:=nP kV;have awB:=sk.out;have awC:=fa.out;have awD:=bc2 bq.out
    try go_wp2_with (first|((with_reducible refine gK 79 rfl ?_);refine gC (some 55) Try.func79 #[.pointer (some ⟨g,0,none⟩),.int .i64 40] ?_;(with_reducible refine(eC.calls k1 g a6 kw 40 Le ui w0 _ ?side1 ?side2 Lf.out).mono ?_);(case side1=>exact qb_);(case side2=>exact qf_);rintro e w64 ⟨rfl,hi,hb,hk⟩;refine⟨_,rfl,?_⟩;replace aK:=Az (Kd.ec (Kd.pA (ac.pJ (show ac w0 _ g a6 kw from qb_) (qU aK.out) (by decide)) hk (fun _ h=>h.2)) (fun _ h=>h.1));replace dh:=Az tA;replace bq:=Az Al;replace HK:=Az uE;replace HB:=Az (hb);replace HI0:=Az (hi);clear hb hk hi))
    replace aK:=Az (Kd.jd aK.out);replace dh:=Az (ce dh.out);replace bq:=Az (ce bq.out);replace HI0:=Az (ac.drew HI0.out);replace HK:=Az (dr HK.out);replace HB:=Az (a8 HB.out);refine eX (n:=8) (S:=fun w'=>w'.cell? ⟨eh,0,none⟩=some (.string bN)/\w'.cell? ⟨eh,1,none⟩=some (da)) (ds:=[7]) (bv 8 0) (by kernel_rfl) rfl rfl ⟨(ai bq.out 0).trans rfl,(ai bq.out 1).trans rfl⟩ (fun hHeld=>?_);refine fL dP.NY dP.NO (fun HT_ HW_=>?_);generalize w64.drew=sc at aK dh bq HI0 HK HB hHeld ⊢;refine av (i:=0) (N:=some 58) (v:=?_) (a':=?_) (bv 8 1) rfl rfl (ao HT_.out (by kernel_rfl)) (fun _ _ _ h=>h) (Or.inl ⟨by rfl,?_⟩) ?_ ?_;rotate_left;(exact yP);rotate_left;(exact aP);refine av (i:=2) (N:=some 60) (v:=?_) (a':=?_) (bv 8 5) rfl rfl (ao HT_.out (by kernel_rfl)) (fun _ _ _ h=>h) (Or.inl ⟨by rfl,?_⟩) ?_ ?_;rotate_left;(exact yP);rotate_left;(exact aP);refine bS (i:=1) (N:=some 59) (v:=?_) (a':=?_) (bv 8 7) rfl rfl (bW HT_.out HW_.out (by kernel_rfl)) (fun _ _ _ h=>h) (Or.inl ⟨by rfl,?_⟩) hHeld ?_ ?_;rotate_left
    ·
     rintro w' ⟨s0,s1⟩;go_simp
     with_reducible rfl
    rotate_left;(exact aP);refine dm (i:=3) (N:=some 61) (bv 8 15) rfl rfl (cJ HT_.out (by kernel_rfl)) (by decide) (fun K hK=>?_);refine Kd.Ak Kd.string _ 9 ?hg (N:=61) ?hd (xs:=([(⟨#[40]⟩:ByteArray),(⟨#[41]⟩:ByteArray),(⟨#[120]⟩:ByteArray),(⟨#[40,41]⟩:ByteArray)]:List ByteArray)) (inner:=[.string (⟨#[40]⟩:ByteArray),.string (⟨#[41]⟩:ByteArray),.string (⟨#[120]⟩:ByteArray),.string (⟨#[40,41]⟩:ByteArray)]) (ok:=fun _=>True) (okp:=fun _=>True) ?hr ?hp (fun _ hk=>hk) trivial (Below.refl _ _) (Nat.le_refl _) (by simp) ?_;(case hd=>rfl);(case hg=>rfl);(case hr=>first|(go_simp;done)|(go_simp;rfl));(case hp=>exact(Reps.one (show Kd.M Kd.string _ _ _ (⟨#[40]⟩:ByteArray) [.string (⟨#[40]⟩:ByteArray)]from rfl) (Reps.one (show Kd.M Kd.string _ _ _ (⟨#[41]⟩:ByteArray) [.string (⟨#[41]⟩:ByteArray)]from rfl) (Reps.one (show Kd.M Kd.string _ _ _ (⟨#[120]⟩:ByteArray) [.string (⟨#[120]⟩:ByteArray)]from rfl) (Reps.one (show Kd.M Kd.string _ _ _ (⟨#[40,41]⟩:ByteArray) [.string (⟨#[40,41]⟩:ByteArray)]from rfl) (Reps.none _ _))))));intro awE r8 G4 hb hg_ hnew_;clear hg_ hnew_;(first|rw[<-Lg.out]at G4|(simp only[Int.reduceToNat]at G4;rw[<-Lg.out]at G4));replace aK:=qB aK.out hb;have Ep:=Az (Kd.a7 G4 Fo);replace dh:=kB dh.out hb;replace bq:=kB bq.out hb;replace HK:=Az (aE.trans xe (aE.of_below hb g none) (.inl rfl));replace HB:=Az (ay AK hb);replace HI0:=Az (ac.below AR hb);clear hb G4;obtain⟨mP,mQ,BC⟩:=Kd.aH Ep.out;(first|subst BC|(injection BC with al aT am;have aU:=al.symm;have aV:=am.symm;clear al aT am;subst aU;subst aV));refine hK.out _ _ ⟨(ai bq.out 0).trans rfl,(ai bq.out 1).trans rfl⟩ (fun hHeld=>?_);clear hK K;refine aX (a':=?_) ?_ ?_;rotate_left
    ·
     show Act.put _ (some 61) _=_
     simp only[Act.put,List.setIfInBounds_toArray,List.set_cons_zero,List.set_cons_succ,bo,bD];rfl
    refine dm (i:=4) (N:=some 62) (bv 8 31) rfl rfl (cJ HT_.out (by kernel_rfl)) (by decide) (fun K hK=>?_);refine eQ Try.func104 (by kernel_rfl) rfl #[.pointer (some ⟨g,0,none⟩),.slice mP y834.length mQ] (by rfl) rfl rfl lQ ?_
    with_reducible refine(AD.calls k1 g a6 ui _ _ y834 En anD w0 _ ?side1 ?side2 ?side3 ?side4 ?side5 A59.out).mono ?_
    (case side1=>exact qb_)
    (case side2=>exact qf_)
    (case side3=>exact cU ((Kd.au Ep.out).2.2))
    (case side4=>exact(Kd.au Ep.out).2.1)
    (case side5=>exact afN (ac.uD HI0.out Ep.out (by decide)))
    rintro e GR ⟨rfl,hi,hb,hk⟩;refine⟨_,rfl,?_⟩;replace aK:=Az (Kd.ec (Kd.pA (ac.pJ (show ac w0 _ g a6 ui from qb_) (qU aK.out) (by decide)) hk (fun _ h=>h.2)) (fun _ h=>h.1));replace dh:=Az tA;replace bq:=Az Al;replace Ep:=Az (Kd.ah (Kd.vG (ac.apart (show ac w0 _ g a6 ui from qb_) (rU Ep.out) (by decide)) hk (fun _ h=>h.2)) (fun _ h=>h.1));replace HK:=Az uE;replace HB:=Az (hb);replace HI0:=Az (hi);clear hb hk hi;refine hK.out _ _ ⟨(ai bq.out 0).trans rfl,(ai bq.out 1).trans rfl⟩ (fun hHeld=>?_);clear hK K;refine aX (a':=?_) ?_ ?_;rotate_left
    ·
     show Act.put _ (some 62) _=_
     simp only[Act.put,List.setIfInBounds_toArray,List.set_cons_zero,List.set_cons_succ,bo,bD];rfl
    refine av (i:=5) (N:=some 63) (v:=?_) (a':=?_) (bv 8 63) rfl rfl (ao HT_.out (by kernel_rfl)) (fun _ _ _ h=>h) (Or.inl ⟨by rfl,?_⟩) ?_ ?_;rotate_left;(exact yP);rotate_left;(exact aP);refine av (i:=6) (N:=some 64) (v:=?_) (a':=?_) (bv 8 127) rfl rfl (ao HT_.out (by kernel_rfl)) (fun _ _ _ h=>h) (Or.inl ⟨by rfl,?_⟩) ?_ ?_;rotate_left;(exact yP);rotate_left;(exact aP);refine k9 (i:=7) (N:=none) (bv 8 255) rfl rfl (cJ HT_.out (by kernel_rfl)) (by decide) (fun K hK=>?_);have ak0:GR.cell? ⟨eh,0,none⟩=some (.string bN):=(ai bq.out 0).trans rfl;have ak1:=gJ bq.out 0;have ak2:=kV.out;have ak3:=(kV.out).symm;refine iW (w1:=?_) (by rfl) rfl ?_ ?_;rotate_left
    ·go_simp;rfl
    refine hK.out _ _ ?_;clear hK K;refine eY (fN HT_.out (by kernel_rfl)) ?_;have R4:=bc2 bq.out;have awF:=G2.out;have awG:=fq.out;have awH:=bc2 dh.out;obtain⟨Ek,El,RN,_⟩:=Kd.nf aK.out;subst RN
    try go_wp2
    refine bodyPost_ret (results_cell_row rfl _ _ lr 25 #[.string (bN++En),.slice Ek dG.length El] (0,0) _ rfl (by refine sA ?_;refine bL (cs:=#[.string (bN++En),.slice none 0 0]) ?_ 1 _ rfl;refine sA ?_;refine bL (cs:=#[.string (⟨#[]⟩:ByteArray),.slice none 0 0]) ?_ 0 _ rfl;refine sA ?_;refine bU ?_ kV.out _;refine sA ?_;exact dh.out) Try.underlying25 rfl (by kernel_rfl)) rfl ?_;exact⟨_,rE,by(with_reducible repeat (first|apply Kd.nc|apply Kd.ng|apply Kd.jd));exact Kd.ec (Kd.gU (p:=⟨lr,1,none⟩) (Kd.gU (p:=⟨lr,0,none⟩) (Kd.gU (p:=⟨eh,0,none⟩) (Kd.mj (Kd.mj aK.out bq.out (by decide)) dh.out (by decide)) (fun _ hk=>hk.1.2) (.string (bN++En))) (fun _ hk=>hk.2) (.string (bN++En))) (fun _ hk=>hk.2) (.slice Ek dG.length El)) (fun _ hk=>trivial),qb_,qf_,qk_⟩
   ·
    replace H:=gQ H;rcases H with⟨Kr,R5,H⟩|⟨Kr,R5,H⟩
    ·
     generalize zB:(([(-2),2]:List Int):List Int)=kT at H;simp only[Option.bind_some]at H;replace zB:=Ay zB;replace H:=bd H;obtain⟨⟨og,G5⟩,A76,H⟩:=H;dsimp only at H;replace H:=gD2 H;obtain⟨ak9,ala,H⟩:=H;replace H:=gP H;obtain⟨c79,H⟩:=H;have alb:=decide_eq_true c79;have awI:decide (0<dG.length)=true:=decide_eq_true (by omega);clear c79;generalize R6:(dG.set (0:Int).toNat (rd kT og):List Int)=y845 at H;replace R6:=Ay R6;simp only[Option.some.injEq,Prod.mk.injEq]at H;obtain⟨rfl,rfl,rfl⟩:=H;have awJ:=nP kV;have anp:=sk.out;have anq:=fa.out;have anr:=bc2 bq.out
     try go_wp2_with (first|((with_reducible refine gK 79 rfl ?_);refine gC (some 55) Try.func79 #[.pointer (some ⟨g,0,none⟩),.int .i64 40] ?_;(with_reducible refine(eC.calls k1 g a6 kw 40 Le ui w0 _ ?side1 ?side2 Lf.out).mono ?_);(case side1=>exact qb_);(case side2=>exact qf_);rintro e Gr ⟨rfl,hi,hb,hk⟩;refine⟨_,rfl,?_⟩;replace aK:=Az (Kd.ec (Kd.pA (ac.pJ (show ac w0 _ g a6 kw from qb_) (qU aK.out) (by decide)) hk (fun _ h=>h.2)) (fun _ h=>h.1));replace dh:=Az tA;replace bq:=Az Al;replace HK:=Az uE;replace HB:=Az (hb);replace HI0:=Az (hi);clear hb hk hi))
     have awK:(0<=(og:Int))=True:=eq_true (oA);have awL:(og<(kT.length:Int))=True:=eq_true (oA);replace aK:=Az (Kd.jd aK.out);replace dh:=Az (ce dh.out);replace bq:=Az (ce bq.out);replace HI0:=Az (ac.drew HI0.out);replace HK:=Az (dr HK.out);replace HB:=Az (a8 HB.out);refine eX (n:=9) (S:=fun w'=>w'.cell? ⟨eh,0,none⟩=some (.string bN)/\w'.cell? ⟨eh,1,none⟩=some (da)) (ds:=[8]) (bv 9 0) (by kernel_rfl) rfl rfl ⟨(ai bq.out 0).trans rfl,(ai bq.out 1).trans rfl⟩ (fun hHeld=>?_);refine fL dP.agF dP.ag2 (fun HT_ HW_=>?_);generalize Gr.drew=w85 at aK dh bq HI0 HK HB hHeld ⊢;refine av (i:=0) (N:=some 67) (v:=?_) (a':=?_) (bv 9 1) rfl rfl (ao HT_.out (by kernel_rfl)) (fun _ _ _ h=>h) (Or.inl ⟨by rfl,?_⟩) ?_ ?_;rotate_left;(exact yP);rotate_left;(exact aP);refine av (i:=3) (N:=some 70) (v:=?_) (a':=?_) (bv 9 9) rfl rfl (ao HT_.out (by kernel_rfl)) (fun _ _ _ h=>h) (Or.inl ⟨by rfl,?_⟩) ?_ ?_;rotate_left;(exact yP);rotate_left;(exact aP);refine bS (i:=1) (N:=some 68) (v:=?_) (a':=?_) (bv 9 11) rfl rfl (bW HT_.out HW_.out (by kernel_rfl)) (fun _ _ _ h=>h) (Or.inl ⟨by rfl,?_⟩) hHeld ?_ ?_;rotate_left
     ·
      rintro w' ⟨s0,s1⟩;go_simp
      with_reducible rfl
     rotate_left;(exact aP);refine kH (σ:=Value×Addr) 4 (bv 9 31) (fun s_=>[(69,s_.1),(71,.int .i64 og)]) (fun s_ w'=>(w'.cell? ⟨eh,0,none⟩=some (.string bN)/\w'.cell? ⟨eh,1,none⟩=some (da))/\(Kd.R (Kd.int .i64) 3 w' w.heap.size (fun k_=>oV k_ da) s_.1 kT)/\(Kd.Q (Kd.int .i64) 3 w' w.heap.size (fun k_=>some k_≠(s_.1:Value).ownBlock) da dG)/\(∃c_,(s_.1:Value)= .slice (some s_.2) kT.length c_)/\(w'.heap[lr]?=some (.cells #[.string (⟨#[]⟩:ByteArray),.slice none 0 0] 25 (0,0)))/\(w'.heap[eh]?=some (.cells #[.string bN,da] 25 (0,0)))/\(ac w0 w' g a6 G5)/\(aE w w' g none)/\(Below w0.heap.size w0 w')) ?_ ?_;rotate_left
     ·
      intro hCont;refine qg (i:=2) (j:=4) (Ni:=some 69) (Nj:=some 71) (bv 9 15) (bv 9 27) rfl rfl rfl rfl (AO HT_.out (by kernel_rfl)) (by decide) (by decide) (fun K hK=>?_) (fun K hK=>?_)
      ·
       skip
       refine Kd.Ak (Kd.int .i64) _ 3 ?hg (N:=69) ?hd (xs:=([(-2),2]:List Int)) (inner:=[.int .i64 (-2),.int .i64 2]) (ok:=fun _=>True) (okp:=fun _=>True) ?hr ?hp (fun _ hk=>hk) trivial (Below.refl _ _) (Nat.le_refl _) (by simp) ?_;(case hd=>rfl);(case hg=>rfl);(case hr=>first|(go_simp;done)|(go_simp;rfl));(case hp=>exact(Reps.one (show Kd.M (Kd.int .i64) _ _ _ (-2) [.int .i64 (-2)]from rfl) (Reps.one (show Kd.M (Kd.int .i64) _ _ _ 2 [.int .i64 2]from rfl) (Reps.none _ _))));intro G6 w86 Er hb hg_ hnew_;clear hg_ hnew_;(first|rw[<-zB.out]at Er|(simp only[Int.reduceToNat]at Er;rw[<-zB.out]at Er));have tg:=Az (Kd.a7 (Kd.aD Er (Kd.jh (qU aK.out))) Fo);replace aK:=Az (Kd.uI (qU aK.out) (Kd.ax Er) hb);replace dh:=kB dh.out hb;replace bq:=kB bq.out hb;replace HK:=Az (aE.trans xe (aE.of_below hb g none) (.inl rfl));replace HB:=Az (ay AK hb);replace HI0:=Az (ac.below AR hb);clear hb Er;obtain⟨awM,anH,anI⟩:=Kd.aH tg.out;subst anI;obtain⟨acX,anJ,_⟩:=Kd.pH (Kd.au tg.out).2.2 0 (by decide) (by rw[zB.out];simp)
       cases anJ
       refine hK.out _ _ ⟨(ai bq.out 0).trans rfl,(ai bq.out 1).trans rfl⟩ (fun hHeld=>?_);clear hK K;refine aX (a':=?_) ?_ ?_;rotate_left
       ·
        show Act.put _ (some 69) _=_
        simp only[Act.put,List.setIfInBounds_toArray,List.set_cons_zero,List.set_cons_succ,bo,bD];rfl
       refine dm (i:=4) (N:=some 71) (bv 9 31) rfl rfl (cJ HT_.out (by kernel_rfl)) (by decide) (fun K hK=>?_);refine eQ Try.func79 (by kernel_rfl) rfl #[.pointer (some ⟨g,0,none⟩),.int .i64 2] (by rfl) rfl rfl lQ ?_
       with_reducible refine(eC.calls k1 g a6 ui 2 og G5 w0 _ ?side1 ?side2 A76.out).mono ?_
       (case side1=>exact qb_)
       (case side2=>exact qf_)
       rintro e w89 ⟨rfl,hi,hb,hk⟩;refine⟨_,rfl,?_⟩;replace aK:=Az (Kd.ec (Kd.pA (ac.pJ (show ac w0 _ g a6 ui from qb_) (qU aK.out) (by decide)) hk (fun _ h=>h.2)) (fun _ h=>h.1));replace dh:=Az tA;replace bq:=Az Al;replace tg:=Az (Kd.ah (Kd.vG (ac.apart (show ac w0 _ g a6 ui from qb_) (rU tg.out) (by decide)) hk (fun _ h=>h.2)) (fun _ h=>h.1));replace HK:=Az uE;replace HB:=Az (hb);replace HI0:=Az (hi);clear hb hk hi;refine hK.out _ _ ⟨(ai bq.out 0).trans rfl,(ai bq.out 1).trans rfl⟩ (fun hHeld=>?_);clear hK K;refine aX (a':=?_) ?_ ?_;rotate_left
       ·
        show Act.put _ (some 71) _=_
        simp only[Act.put,List.setIfInBounds_toArray,List.set_cons_zero,List.set_cons_succ,bo,bD];rfl
       exact aX (by simp only[gv,Act.put,List.setIfInBounds_toArray,List.set_cons_zero,List.set_cons_succ]) (hCont (.slice (some acX) kT.length anH,acX) _ ⟨hHeld,(rU (Kd.ah tg.out (fun _ hk=>hk.2))),(qU (Kd.ec aK.out (fun _ hk=>hk.2))),⟨_,rfl⟩,(kU dh.out),(kU bq.out),AR,xe,AK⟩)
      ·
       skip
       refine eQ Try.func79 (by kernel_rfl) rfl #[.pointer (some ⟨g,0,none⟩),.int .i64 2] (by rfl) rfl rfl lQ ?_
       with_reducible refine(eC.calls k1 g a6 ui 2 og G5 w0 _ ?side1 ?side2 A76.out).mono ?_
       (case side1=>exact qb_)
       (case side2=>exact qf_)
       rintro e w86 ⟨rfl,hi,hb,hk⟩;refine⟨_,rfl,?_⟩;replace aK:=Az (Kd.ec (Kd.pA (ac.pJ (show ac w0 _ g a6 ui from qb_) (qU aK.out) (by decide)) hk (fun _ h=>h.2)) (fun _ h=>h.1));replace dh:=Az tA;replace bq:=Az Al;replace HK:=Az uE;replace HB:=Az (hb);replace HI0:=Az (hi);clear hb hk hi;refine hK.out _ _ ⟨(ai bq.out 0).trans rfl,(ai bq.out 1).trans rfl⟩ (fun hHeld=>?_);clear hK K;refine aX (a':=?_) ?_ ?_;rotate_left
       ·
        show Act.put _ (some 71) _=_
        simp only[Act.put,List.setIfInBounds_toArray,List.set_cons_zero,List.set_cons_succ,bo,bD];rfl
       refine dm (i:=2) (N:=some 69) (bv 9 31) rfl rfl (cJ HT_.out (by kernel_rfl)) (by decide) (fun K hK=>?_);refine Kd.Ak (Kd.int .i64) _ 3 ?hg (N:=69) ?hd (xs:=([(-2),2]:List Int)) (inner:=[.int .i64 (-2),.int .i64 2]) (ok:=fun _=>True) (okp:=fun _=>True) ?hr ?hp (fun _ hk=>hk) trivial (Below.refl _ _) (Nat.le_refl _) (by simp) ?_;(case hd=>rfl);(case hg=>rfl);(case hr=>first|(go_simp;done)|(go_simp;rfl));(case hp=>exact(Reps.one (show Kd.M (Kd.int .i64) _ _ _ (-2) [.int .i64 (-2)]from rfl) (Reps.one (show Kd.M (Kd.int .i64) _ _ _ 2 [.int .i64 2]from rfl) (Reps.none _ _))));intro G6 w87 Es hb hg_ hnew_;clear hg_ hnew_;(first|rw[<-zB.out]at Es|(simp only[Int.reduceToNat]at Es;rw[<-zB.out]at Es));have tg:=Az (Kd.a7 (Kd.aD Es (Kd.jh (qU aK.out))) Fo);replace aK:=Az (Kd.uI (qU aK.out) (Kd.ax Es) hb);replace dh:=kB dh.out hb;replace bq:=kB bq.out hb;replace HK:=Az (aE.trans xe (aE.of_below hb g none) (.inl rfl));replace HB:=Az (ay AK hb);replace HI0:=Az (ac.below AR hb);clear hb Es;obtain⟨awP,anK,anL⟩:=Kd.aH tg.out;subst anL;obtain⟨acY,anM,_⟩:=Kd.pH (Kd.au tg.out).2.2 0 (by decide) (by rw[zB.out];simp)
       cases anM
       refine hK.out _ _ ⟨(ai bq.out 0).trans rfl,(ai bq.out 1).trans rfl⟩ (fun hHeld=>?_);clear hK K;refine aX (a':=?_) ?_ ?_;rotate_left
       ·
        show Act.put _ (some 69) _=_
        simp only[Act.put,List.setIfInBounds_toArray,List.set_cons_zero,List.set_cons_succ,bo,bD];rfl
       exact aX (by simp only[gv,Act.put,List.setIfInBounds_toArray,List.set_cons_zero,List.set_cons_succ]) (hCont (.slice (some acY) kT.length anK,acY) _ ⟨hHeld,(rU (Kd.ah tg.out (fun _ hk=>hk.2))),(qU (Kd.ec aK.out (fun _ hk=>hk.2))),⟨_,rfl⟩,(kU dh.out),(kU bq.out),AR,xe,AK⟩)
     rintro⟨G6,Lh⟩ oh ⟨hS_,cY,cK,cL,cM,cN,cO,dj,du⟩;have n0:ae (Kd.R (Kd.int .i64) 3 oh w.heap.size (fun k_=>oV k_ da) G6 kT):=⟨cY⟩;have n1:ae (Kd.Q (Kd.int .i64) 3 oh w.heap.size (fun k_=>oV k_ G6) da dG):=⟨cK⟩;have n2:ae (∃c_,(G6:Value)= .slice (some Lh) kT.length c_):=⟨cL⟩;have n3:ae (oh.heap[lr]?=some (.cells #[.string (⟨#[]⟩:ByteArray),.slice none 0 0] 25 (0,0))):=⟨cM⟩;have n4:ae (oh.heap[eh]?=some (.cells #[.string bN,da] 25 (0,0))):=⟨cN⟩;have n5:ae (ac w0 oh g a6 G5):=⟨cO⟩;have n6:ae (aE w oh g none):=⟨dj⟩;have n7:ae (Below w0.heap.size w0 oh):=⟨du⟩;clear aK dh bq HI0 HK HB cY cK cL cM cN cO dj du;have tg:=n0;have aK:=n1;have acZ:=n2;have dh:=n3;have bq:=n4;have HI0:=n5;have HK:=n6;have HB:=n7;clear n0 n1 n2 n3 n4 n5 n6 n7;have hHeld:oh.cell? ⟨eh,0,none⟩=some (.string bN)/\oh.cell? ⟨eh,1,none⟩=some (da):=hS_;obtain⟨ac0,anN⟩:=acZ.out;clear acZ;subst anN;have R7:0<=(0:Int):=(by omega);have R8:(0:Int)<((dG.length:Int):Int):=oA;have awQ:(0<dG.length)=True:=eq_true (by omega);obtain⟨qy,sl,G7,ac1,ac2,anO,awR,ac3⟩:=Kd.NN aK.out (by omega);(first|cases ac1|(injection ac1 with ea_ en_ ec_;(first|subst ea_|(injection ea_ with ea_;subst ea_));subst ec_;clear en_));have ac4:=Az ac2;have awS:=Az ac3;clear ac2 anO ac3;obtain⟨anP,anQ⟩:=Kd.xb 0 aK.out (0:Int) R7 R8;rw[show((0:Int)).toNat=0 from rfl]at anP;rw[show((0:Int)).toNat=0 from rfl]at anQ;replace R7:=eq_true R7;replace R8:=eq_true R8;have anR:=Az (show g≠qy from by have h_:=ac.Dm HI0.out aK.out (by decide);intro e_;exact h_ (by rw[e_];rfl));have R9:=(Kd.IP aK.out (0:Int) (by omega) (by have h_:(0:Int)<((dG.length:Int):Int):=oA;first|exact h_|(have e_:=(Kd.fh aK.out).1;omega)|simpa using h_) (rd kT og)).1;rw[<-R6.out]at R9;have anS:=Az R9;clear R9;refine aX (a':=?_) ?_ ?_;rotate_left
     ·simp only[gv,Act.put,List.setIfInBounds_toArray,List.set_cons_zero,List.set_cons_succ];rfl
     refine av (i:=5) (N:=some 72) (v:=?_) (a':=?_) (bv 9 63) rfl rfl (ao HT_.out (by kernel_rfl)) (fun _ _ _ h=>h) (Or.inl ⟨by rfl,?_⟩) ?_ ?_;rotate_left;(exact yP);rotate_left;(exact aP);refine dm (i:=6) (N:=some 73) (bv 9 127) rfl rfl (cJ HT_.out (by kernel_rfl)) (by decide) (fun K hK=>?_)
     (have anT:0<=(og:Int):=oA;have anU:og<(kT.length:Int):=oA;obtain⟨anV,anW,anX⟩:=Kd.pH (Kd.au tg.out).2.2 og anT anU;obtain rfl:Lh=anV:=(by injection anW))
     refine Dq (w1:=?_) (v:=?_) (by rfl) rfl ?_ ?_;rotate_left 2
     ·
      go_simp
      constructor
      ·rfl
      ·rfl
     clear anX;refine hK.out _ _ ⟨(ai bq.out 0).trans rfl,(ai bq.out 1).trans rfl⟩ (fun hHeld=>?_);clear hK K;refine aX (a':=?_) ?_ ?_;rotate_left
     ·
      show Act.put _ (some 73) _=_
      simp only[Act.put,List.setIfInBounds_toArray,List.set_cons_zero,List.set_cons_succ,bo,bD];rfl
     refine av (i:=7) (N:=some 74) (v:=?_) (a':=?_) (bv 9 255) rfl rfl (ao HT_.out (by kernel_rfl)) (fun _ _ _ h=>h) (Or.inl ⟨by rfl,?_⟩) ?_ ?_;rotate_left;(exact yP);rotate_left;(exact aP);refine k9 (i:=8) (N:=none) (bv 9 511) rfl rfl (cJ HT_.out (by kernel_rfl)) (by decide) (fun K hK=>?_);(obtain⟨hyS_,hzS_⟩:=Kd.xb 0 aK.out 0 (by omega) (oA);simp only[Int.toNat_zero,Nat.add_zero]at hyS_ hzS_);refine iW (w1:=?_) (by rfl) rfl ?_ ?_;rotate_left
     ·go_simp;rfl
     refine hK.out _ _ ?_;clear hK K;refine eY (fN HT_.out (by kernel_rfl)) ?_;have n0:ae (Kd.Q (Kd.int .i64) 3 (oh.setCell ⟨qy,sl+(0:Int).toNat,none⟩ (.int .i64 (rd kT og))) w.heap.size (fun k_=>some k_≠(.slice (some Lh) kT.length ac0:Value).ownBlock) (.slice (some ⟨qy,sl,none⟩) dG.length G7) y845):=⟨qU anS.out⟩;have n1:ae (Kd.R (Kd.int .i64) 3 (oh.setCell ⟨qy,sl+(0:Int).toNat,none⟩ (.int .i64 (rd kT og))) w.heap.size (fun k_=>oS k_ (some ⟨qy,sl,none⟩) dG.length G7) (.slice (some Lh) kT.length ac0) kT):=⟨rM (Kd.aY (p:=⟨qy,sl+(0:Int).toNat,none⟩) (Kd.ah tg.out (fun k_ hk=>(⟨hk,fun e_=>hk (by rw[e_];rfl)⟩:_/\k_≠qy))) (fun _ hk=>hk.2) (.int .i64 (rd kT og)))⟩;have n2:ae ((oh.setCell ⟨qy,sl+(0:Int).toNat,none⟩ (.int .i64 (rd kT og))).heap[lr]?=some (.cells #[.string (⟨#[]⟩:ByteArray),.slice none 0 0] 25 (0,0))):=⟨by refine sA ?_;refine bU ?_ (by have h_:=Kd.sH aK.out dh.out (by decide);intro e_;exact h_ (by rw[e_];rfl)) _;refine sA ?_;exact dh.out⟩;have n3:ae ((oh.setCell ⟨qy,sl+(0:Int).toNat,none⟩ (.int .i64 (rd kT og))).heap[eh]?=some (.cells #[.string bN,.slice (some ⟨qy,sl,none⟩) dG.length G7] 25 (0,0))):=⟨by refine sA ?_;refine bU ?_ (by have h_:=Kd.sH aK.out bq.out (by decide);intro e_;exact h_ (by rw[e_];rfl)) _;refine sA ?_;exact bq.out⟩;have n4:ae (ac w0 (oh.setCell ⟨qy,sl+(0:Int).toNat,none⟩ (.int .i64 (rd kT og))) g a6 G5):=⟨by repeat (first|(with_reducible first|exact HI0.out|apply ac.alloc|apply ac.drewN|apply ac.drew|apply ac.bh|refine ac.far ?_ anR.out _|refine ac.far ?_ fq.out _|refine ac.far ?_ fa.out _)|exact HI0.out)⟩;have n5:ae (aE w (oh.setCell ⟨qy,sl+(0:Int).toNat,none⟩ (.int .i64 (rd kT og))) g none):=⟨by repeat (first|(with_reducible first|exact HK.out|apply aE.dO|apply dU|apply dr|apply dV|refine cV ?_ ac4.out _|refine cV ?_ sj.out _|refine cV ?_ tf.out _)|exact HK.out)⟩;have n6:ae (Below w0.heap.size w0 (oh.setCell ⟨qy,sl+(0:Int).toNat,none⟩ (.int .i64 (rd kT og)))):=⟨by repeat (first|(with_reducible first|exact HB.out|apply bm|apply bw|apply a8|refine ap ?_ (Nat.le_trans HL.out ac4.out)|refine ap ?_ (ac.ge HI0.out)|refine ap ?_ kv.out|refine ap ?_ lu.out)|exact HB.out)⟩;simp only[Int.toNat_zero,Nat.add_zero]at n0 n1 n2 n3 n4 n5 n6;generalize (oh.setCell ⟨qy,sl,none⟩ (.int .i64 (rd kT og)))=w93 at n0 n1 n2 n3 n4 n5 n6 ⊢;have aK:=n0;have tg:=n1;have dh:=n2;have bq:=n3;have HI0:=n4;have HK:=n5;have HB:=n6;clear n0 n1 n2 n3 n4 n5 n6;have awT:=bc2 bq.out;have awU:=G2.out;have awV:=fq.out;have awW:=bc2 dh.out
     try go_wp2
     refine bodyPost_ret (results_cell_row rfl _ _ lr 25 #[.string bN,.slice (some ⟨qy,sl,none⟩) dG.length G7] (0,0) _ rfl Yz Try.underlying25 rfl (by kernel_rfl)) rfl ?_;exact⟨_,rE,by(with_reducible repeat (first|apply Kd.nc|apply Kd.ng|apply Kd.jd));exact Kd.ec (Kd.gU (p:=⟨lr,1,none⟩) (Kd.gU (p:=⟨lr,0,none⟩) (Kd.mj aK.out dh.out (by decide)) (fun _ hk=>hk.2) (.string bN)) (fun _ hk=>hk.2) (.slice (some ⟨qy,sl,none⟩) dG.length G7)) (fun _ hk=>trivial),qb_,qf_,qk_⟩
    ·
     replace H:=gQ H;rcases H with⟨anY,anZ,H⟩|⟨anY,anZ,H⟩
     ·
      replace H:=gE H;obtain⟨awX,awY,H⟩:=H;generalize Li:(dG.drop (1:Int).toNat:List Int)=y846 at H;replace Li:=Ay Li;simp only[Option.some.injEq,Prod.mk.injEq]at H;obtain⟨rfl,rfl,rfl⟩:=H;have alz:=nP kV;have alA:=sk.out;have alB:=fa.out;have alC:=bc2 bq.out
      go_wp2_with (first|((with_reducible refine gK 79 rfl ?_);refine gC (some 55) Try.func79 #[.pointer (some ⟨g,0,none⟩),.int .i64 40] ?_;(with_reducible refine(eC.calls k1 g a6 kw 40 Le ui w0 _ ?side1 ?side2 Lf.out).mono ?_);(case side1=>exact qb_);(case side2=>exact qf_);rintro e Gt ⟨rfl,hi,hb,hk⟩;refine⟨_,rfl,?_⟩;replace aK:=Az (Kd.ec (Kd.pA (ac.pJ (show ac w0 _ g a6 kw from qb_) (qU aK.out) (by decide)) hk (fun _ h=>h.2)) (fun _ h=>h.1));replace dh:=Az tA;replace bq:=Az Al;replace HK:=Az uE;replace HB:=Az (hb);replace HI0:=Az (hi);clear hb hk hi;have awZ:=bc2 bq.out;obtain⟨D8,Gs,Kf,_⟩:=Kd.nf aK.out;subst Kf;have Sa:(1:Int)<=((dG.length:Int):Int):=oA;obtain⟨aw0,ac5,_,ac6,_⟩:=info_parts dE;have an0:=Ww (P:=Try.prog) 23 3 .i64 Try.underlying23 ac5 1 ac6 D8 dG.length Gs 1 (by omega) Sa;have G8:=Kd.WF (k:=(1:Int).toNat) aK.out (by omega);obtain⟨G9,Lj⟩:∃A1,A1=(if Gs=(1:Int).toNat then D8 else(D8:Option Addr).map (·.add ((1:Int).toNat*1))):=⟨_,rfl⟩;obtain⟨c105,Sb⟩:∃c1,c1=Gs-(1:Int).toNat:=⟨_,rfl⟩;have Sc:y846.length=dG.length-(1:Int).toNat:=(by rw[Li.out,List.length_drop]);rw[<-Li.out]at G8;rw[<-Sc,<-Lj,<-Sb]at an0;replace G8:Kd.Q (Kd.int .i64) 3 Gt w.heap.size (fun _=>True) (.slice G9 y846.length c105) y846:=(by rw[Lj,Sb,Sc];exact G8);have aw1:ae ((Value.slice G9 y846.length c105).ownBlock=(.slice D8 dG.length Gs:Value).ownBlock):=⟨by rw[Lj];split<;>(cases(D8:Option Addr)<;>rfl)⟩;clear Sc ac5 ac6 aK Lj Sb;have an1:=Az G8;clear G8;replace Sa:=eq_true Sa;have aw2:=G2.out;have aw3:=fq.out;have aw4:=bc2 dh.out))
      refine bodyPost_ret (results_cell_row rfl _ _ lr 25 #[.string bN,.slice G9 y846.length c105] (0,0) _ rfl (by refine sA ?_;refine bL (cs:=#[.string bN,.slice none 0 0]) ?_ 1 _ rfl;refine sA ?_;refine bL (cs:=#[.string (⟨#[]⟩:ByteArray),.slice none 0 0]) ?_ 0 _ rfl;refine sA ?_;refine bU ?_ kV.out _;refine sA ?_;exact dh.out) Try.underlying25 rfl (by kernel_rfl)) rfl ?_;exact⟨_,rE,by(with_reducible repeat (first|apply Kd.nc|apply Kd.ng|apply Kd.jd));exact Kd.ec (Kd.gU (p:=⟨lr,1,none⟩) (Kd.gU (p:=⟨lr,0,none⟩) (Kd.gU (p:=⟨eh,1,none⟩) (Kd.mj (Kd.mj an1.out bq.out (by decide)) dh.out (by decide)) (fun _ hk=>hk.1.2) (.slice G9 y846.length c105)) (fun _ hk=>hk.2) (.string bN)) (fun _ hk=>hk.2) (.slice G9 y846.length c105)) (fun _ hk=>trivial),qb_,qf_,qk_⟩
     ·
      simp only[Option.some.injEq,Prod.mk.injEq]at H;obtain⟨rfl,rfl,rfl⟩:=H;have aw5:=nP kV;have an2:=sk.out;have an3:=fa.out;have an4:=bc2 bq.out
      go_wp2_with (first|((with_reducible refine gK 79 rfl ?_);refine gC (some 55) Try.func79 #[.pointer (some ⟨g,0,none⟩),.int .i64 40] ?_;(with_reducible refine(eC.calls k1 g a6 kw 40 Le ui w0 _ ?side1 ?side2 Lf.out).mono ?_);(case side1=>exact qb_);(case side2=>exact qf_);rintro e aw6 ⟨rfl,hi,hb,hk⟩;refine⟨_,rfl,?_⟩;replace aK:=Az (Kd.ec (Kd.pA (ac.pJ (show ac w0 _ g a6 kw from qb_) (qU aK.out) (by decide)) hk (fun _ h=>h.2)) (fun _ h=>h.1));replace dh:=Az tA;replace bq:=Az Al;replace HK:=Az uE;replace HB:=Az (hb);replace HI0:=Az (hi);clear hb hk hi;have aw7:=bc2 bq.out;have an5:=G2.out;have aw8:=fq.out;have aw9:=bc2 dh.out;obtain⟨ac7,ac8,an6,_⟩:=Kd.nf aK.out;subst an6))
      refine bodyPost_ret (results_cell_row rfl _ _ lr 25 #[.string bN,.slice ac7 dG.length ac8] (0,0) _ rfl Yz Try.underlying25 rfl (by kernel_rfl)) rfl ?_;exact⟨_,rE,by(with_reducible repeat (first|apply Kd.nc|apply Kd.ng|apply Kd.jd));exact Kd.ec (Kd.gU (p:=⟨lr,1,none⟩) (Kd.gU (p:=⟨lr,0,none⟩) (Kd.mj aK.out dh.out (by decide)) (fun _ hk=>hk.2) (.string bN)) (fun _ hk=>hk.2) (.slice ac7 dG.length ac8)) (fun _ hk=>trivial),qb_,qf_,qk_⟩
def mJ.l0:Nat->Int->List Int->Int->List Int->Int->Option (List Int×Int)
 |0,_,_,_,_,_=>none
 |k+1,x1,x5,x6,x1000,fB=>if x6<x1 then((eC.f k x1000 fB (wrap64 (x6+1))).bind fun zC=>(if zC.1=x6 then(if x5.length<17592186044416 then(mJ.l0 k x1 (x5++[x6]) (wrap64 (x6+1)) x1000 zC.2)else(none))else(if 0<=zC.1 then(if zC.1<(x5.length:Int)then(if x5.length<17592186044416 then((some (x5++[rd x5 zC.1]:List Int)).bind fun Et=>(if zC.1<(Et.length:Int)then(mJ.l0 k x1 (Et.set (zC.1:Int).toNat x6) (wrap64 (x6+1)) x1000 zC.2)else(none)))else(none))else(none))else(none))))else(some (x5,fB))
def mJ.f (k:Nat) (a6:List Int) (er:Int) (a1:Int):Option (List Int×Int):=mJ.l0 k a1 (([]:List Int)) 0 a6 er
set_option maxHeartbeats 8000000 in
set_option maxRecDepth 100000 in
theorem mJ.calls (k:Nat) (g:Nat) (a6:List Int) (er:Int) (a1:Int) (r1:List Int) (r2:Int) (w0 w:World) (hI:ac w0 w g a6 er) (hB:Below w0.heap.size w0 w) (h:mJ.f k a6 er a1=some (r1,r2)):
 Calls Try.prog 118 #[.pointer (some ⟨g,0,none⟩),.int .i64 a1] w fun e w'=>∃bC:Value,e= .returned (bC)/\Kd.R (Kd.int .i64) 3 w' w.heap.size (fun _=>True) bC r1/\ac w0 w' g a6 r2/\Below w0.heap.size w0 w'/\aE w w' g none:=by
 have HI0:=Az hI;have HK:=Az (aE.refl w g none);have HL:=Az hB.size;clear hI;have HW0:=Az hB.size;have HB:=Az hB;clear hB;have H:=h;clear h;unfold mJ.f at H;generalize Lk:(([]:List Int):List Int)=y849 at H;replace Lk:=Ay Lk;have H':=Az H;clear H;go_enter Try.func118,Try.ntmps118
 go_wp2_with (first|((with_reducible refine gd 8 rfl ?_);refine Kd.ji (Kd.int .i64) _ 3 rfl (N:=8) rfl (xs:=([]:List Int)) (inner:=[]) (ok:=fun _=>True) (okp:=fun _=>True) hS ?hp (fun _ hk=>hk) trivial (Below.refl _ _) (Nat.le_refl _) (by simp) ?_;(case hp=>exact(Reps.none _ _));intro axa w3 lN hb hg_ hnew_;clear hg_ hnew_;(first|rw[<-Lk.out]at lN|(simp only[Int.reduceToNat]at lN;rw[<-Lk.out]at lN));have an7:=Az (Kd.a7 lN FG);replace HK:=Az (aE.trans yF (aE.of_below hb g none) (.inl rfl));replace HB:=Az (ay IF hb);replace HI0:=Az (ac.below Ft hb);clear hb lN))
 go_loopg [5,6] k (fun kq v5 v6 w'=>∃(bg:List Int) (en:Int) (kw:Int),v6= .int .i64 en/\ae (mJ.l0 kq a1 bg en a6 kw=some (r1,r2))/\ae (kq<=k)/\ae (Kd.R (Kd.int .i64) 3 w' w.heap.size (fun _=>True) v5 bg)/\ae (ac w0 w' g a6 kw)/\ae (aE w w' g none)/\ae (Below w0.heap.size w0 w'))
 case atStart=>exact⟨(y849),(0),(er),rS,H',⟨Nat.le_refl _⟩,⟨rU an7.out⟩,⟨qd_⟩,⟨qh_⟩,⟨qe_⟩⟩
 case round=>
  clear H';obtain⟨bg,en,kw,rfl,HA,eZ,aG,HI0,HK,HB⟩:=hrel
  rcases gk with _|k1
  exact(nN HA.out).elim;have H:=HA.out;clear HA;simp only[mJ.l0]at H
  replace H:=gB H;rcases H with⟨qZ,H⟩|⟨qZ,H⟩
  ·
   replace H:=bd H;obtain⟨⟨tj,Ll⟩,A6,H⟩:=H;dsimp only at H
   replace H:=gQ H;rcases H with⟨jl,GX,H⟩|⟨jl,GX,H⟩
   ·
    replace H:=gP H;obtain⟨c8,H⟩:=H;have an8:=Az c8;clear c8;generalize Sd:(bg++[en]:List Int)=y854 at H;replace Sd:=Ay Sd;have H':=Az H;clear H
    go_wp2_with (first|((with_reducible refine gK 79 rfl ?_);refine gC (some 17) Try.func79 #[.pointer (some ⟨g,0,none⟩),.int .i64 (wrap64 (en+1))] ?_;(with_reducible refine(eC.calls k1 g a6 kw (wrap64 (en+1)) tj Ll w0 _ ?side1 ?side2 A6.out).mono ?_);(case side1=>exact qd_);(case side2=>exact qe_);rintro e w9 ⟨rfl,hi,hb,hk⟩;refine⟨_,rfl,?_⟩;replace aG:=Az Y8;replace HK:=Az (aE.trans yF hk (.inl rfl));replace HB:=Az (hb);replace HI0:=Az (hi);clear hb hk hi)|((with_reducible refine mf (b:=.append) (xs:=#[.tmp 21,.tmp 23]) rfl ?_);at_builtin;refine Kd.na (Kd.int .i64) w.heap.size rfl (.tmp 21) (.tmp 23) 23 3 (.int .i64 0) 8 rfl Try.underlying23 dE rfl (by decide) (by omega) u5 bg en [.int .i64 en] (fun _=>True) (fun _=>False) rfl rfl ?aP (fun _ hk=>hk.elim) ?aF ?aO (Below.refl _ _) ?aS ?aL ?_;(case aP=>exact rfl);(case aF=>exact(fun _ _=>trivial));(case aO=>exact(rU aG.out));(case aS=>exact FG);(case aL=>have:=an8.out;omega);intro axb rc ho hb hg hat;rw[<-Sd.out]at ho;replace HB:=Az (IL IF HL.out hb);replace HI0:=Az (ac.grown Ft hg (ac.uD HI0.out aG.out (by decide)));replace HK:=Az (aE.trans yF (aE.uG hg g) (Kd.Jm aG.out));have an9:=Az (ho);clear aG ho hb hg hat))
    go_roundg k1
    case measure=>exact mO
    case rel=>exact⟨(y854),(wrap64 (en+1)),(Ll),rS,H',⟨mO⟩,⟨rU an9.out⟩,⟨qd_⟩,⟨qh_⟩,⟨qe_⟩⟩
   ·
    replace H:=gD2 H;obtain⟨rT,yW,H⟩:=H;replace H:=gP H;obtain⟨c13,H⟩:=H;have aoa:=Az c13;clear c13;generalize Se:(bg++[rd bg tj]:List Int)=Et at H;simp only[Option.bind_some]at H;replace Se:=Ay Se;replace H:=gD1 H;obtain⟨yZ,H⟩:=H;generalize Sf:(Et.set (tj:Int).toNat en:List Int)=y861 at H;replace Sf:=Ay Sf;have H':=Az H;clear H
    go_wp2_with (first|((with_reducible refine gK 79 rfl ?_);refine gC (some 17) Try.func79 #[.pointer (some ⟨g,0,none⟩),.int .i64 (wrap64 (en+1))] ?_;(with_reducible refine(eC.calls k1 g a6 kw (wrap64 (en+1)) tj Ll w0 _ ?side1 ?side2 A6.out).mono ?_);(case side1=>exact qd_);(case side2=>exact qe_);rintro e w16 ⟨rfl,hi,hb,hk⟩;refine⟨_,rfl,?_⟩;replace aG:=Az Y8;replace HK:=Az (aE.trans yF hk (.inl rfl));replace HB:=Az (hb);replace HI0:=Az (hi);clear hb hk hi;obtain⟨bI,bG,vS⟩:=Kd.aH aG.out;subst vS;obtain⟨aob,aoc,_,_,axc⟩:=aI (Kd.au aG.out).2.2 tj;cases aoc)|((with_reducible refine mf (b:=.append) (xs:=#[.tmp 25,.tmp 30]) rfl ?_);at_builtin;refine Kd.na (Kd.int .i64) w.heap.size rfl (.tmp 25) (.tmp 30) 23 3 (.int .i64 0) 8 rfl Try.underlying23 dE rfl (by decide) (by omega) (.slice (some aob) bg.length bG) bg (rd bg tj) [.int .i64 (rd bg tj)] (fun _=>True) (fun _=>False) rfl rfl ?aP (fun _ hk=>hk.elim) ?aF ?aO (Below.refl _ _) ?aS ?aL ?_;(case aP=>exact rfl);(case aF=>exact(fun _ _=>trivial));(case aO=>exact(rU aG.out));(case aS=>exact FG);(case aL=>have:=aoa.out;omega);intro axd Bl ho hb hg hat;rw[<-Se.out]at ho;replace HB:=Az (IL IF HL.out hb);replace HI0:=Az (ac.grown Ft hg (ac.uD HI0.out aG.out (by decide)));replace HK:=Az (aE.trans yF (aE.uG hg g) (Kd.Jm aG.out));have zD:=Az (ho);clear aG ho hb hg hat;have Sg:0<=(tj:Int):=oA;have Si:(tj:Int)<((Et.length:Int):Int):=oA;obtain⟨Sj,Sk,Ha,ac9,aod,axe,ada⟩:=Kd.jQ zD.out (by omega);(first|cases Ha|(injection Ha with ea_ en_ ec_;(first|subst ea_|(injection ea_ with ea_;subst ea_));subst ec_;clear en_));have aoe:=Az ac9;have axf:=Az ada;clear ac9 aod ada;obtain⟨axg,axh⟩:=Kd.dd 0 zD.out (tj:Int) Sg Si;replace Sg:=eq_true Sg;replace Si:=eq_true Si;obtain⟨adb,adc⟩:=Kd.dd 0 zD.out (tj:Int) (oA) (oA);have u7:=Kd.jy zD.out (tj:Int) en)|((with_reducible refine gs 3 35 rfl ?_);refine sE 3 35 (Bl.setCell ⟨Sj,(tj:Int).toNat,none⟩ (.int .i64 en)) ?_;intro re hw;have hg:Bl.grownBy re (some Sj):=(by rw[hw];exact u7.2);have hp_:Kd.R (Kd.int .i64) 3 re w.heap.size (fun _=>True) (.slice (some ⟨Sj,0,none⟩) Et.length Sk) y861:=(by rw[hw,Sf.out];exact u7.1);clear u7;replace HI0:=Az (ac.grown Ft hg (ac.uD HI0.out zD.out (by decide)));replace HB:=Az ((by rw[hw];exact ap (HB.out) (Nat.le_trans HL.out aoe.out):Below w0.heap.size w0 re));replace HK:=Az (aE.trans yF (aE.uG hg g) (Kd.Jm zD.out));replace zD:=Az (hp_);clear hg hw hp_))
    go_roundg k1
    case measure=>exact mO
    case rel=>exact⟨(y861),(wrap64 (en+1)),(Ll),rS,H',⟨mO⟩,⟨rU zD.out⟩,⟨qd_⟩,⟨qh_⟩,⟨qe_⟩⟩
  ·simp only[Option.some.injEq,Prod.mk.injEq]at H;obtain⟨rfl,rfl⟩:=H;go_wp2;go_ret;exact⟨_,rE,rU aG.out,qd_,qe_,qh_⟩
mutual
def fV.l0:Nat->Int->List Int->List Int->Option (Bool)
 |0,_,_,_=>none
 |k+1,x3,bT,bQ=>if x3<(bQ.length:Int)then(if 0<=x3 then(if(rd bQ x3)=x3 then(some false)else(if 0<=(rd bQ x3)then(if(rd bQ x3)<(bQ.length:Int)then(if(rd bQ (rd bQ x3))=x3 then(fV.l0 k (wrap64 (x3+1)) bT bQ)else(some false))else(none))else(none)))else(none))else((jR.f k bT bQ).bind fun Hb=>(fV.l1 k Hb 0))
def fV.l1:Nat->List Int->Int->Option (Bool)
 |0,_,_=>none
 |k+1,x4,x5=>if x5<(x4.length:Int)then(if 0<=x5 then(if(rd x4 x5)=0 then(fV.l1 k x4 (wrap64 (x5+1)))else(some false))else(none))else(some true)
end
def fV.f (k:Nat) (af:List Int) (ag:List Int):Option (Bool):=(sy.f k af ag).bind fun Sl=>(if Sl=true then(fV.l0 k 0 af ag)else(some false))
set_option maxHeartbeats 8000000 in
set_option maxRecDepth 100000 in
theorem fV.calls (k:Nat) (aA:Option Addr) (az:Nat) (af:List Int) (ak:Option Addr) (aj:Nat) (ag:List Int) (r:Bool) (w:World) (dF:Kd.C (Kd.int .i64) w aA af.length af) (dL:af.length<=az) (de:Kd.C (Kd.int .i64) w ak ag.length ag) (dk:ag.length<=aj) (h:fV.f k af ag=some r):
 Calls Try.prog 90 #[.agg #[.slice aA af.length az,.slice ak ag.length aj]] w fun e w'=>e= .returned (.bool r)/\Below w.heap.size w w':=by
 have jT:=Try.underlying29;have ck:=Az dF;have cv:=Az dL;clear dF dL;have bP:=Az de;have cx:=Az dk;clear de dk;have HB:=bZ w;have H:=h;clear h;unfold fV.f at H;replace H:=bd H;obtain⟨Sl,A2,H⟩:=H
 by_cases c3:Sl=true
 ·
  subst c3;rw[if_pos rfl]at H;have H':=Az H;clear H;go_enter Try.func90,Try.ntmps90
  go_wp2_with (first|((with_reducible refine gd 1 rfl ?_);refine bE 1 #[.slice aA af.length az,.slice ak ag.length aj] 29 ?_;intro Sm hg w4 hbox hb;have rz:=Az (hbox);have uj:=gW hg (bU0 HB.out);replace HB:=Az (ay (bU0 HB.out) hb);clear hb hbox hg;have hz5:=bc2 rz.out)|(go_at_call 111;(with_reducible refine(sy.calls k _ _ af _ _ ag true _ ?_ ?_ ?_ ?_ A2.out).mono ?_);exact cU (Kd.bn ck.out HB.out);exact cv.out;exact cU (Kd.bn bP.out HB.out);exact cx.out;rintro e w' ⟨rfl,⟨nd,rfl⟩⟩))
  repeat (go_quiet (fail);try go_wp2_with (fail))
  go_loopg [3] k (fun kq v3 w'=>∃(bc:Int),v3= .int .i64 bc/\ae (fV.l0 kq bc af ag=some r)/\ae (kq<=k)/\ae (w'.heap[Sm]?=some (.cells #[(.slice aA af.length az),(.slice ak ag.length aj)] 29 (0,0)))/\ae (Below w.heap.size w w'))
  case atStart=>exact⟨(0),rS,H',⟨Nat.le_refl _⟩,⟨kU rz.out⟩,⟨bU1 HB.out uj.out⟩⟩
  case round=>
   clear H';obtain⟨bc,rfl,HA,eZ,rz,HB⟩:=hrel
   rcases gk with _|k1
   exact(nN HA.out).elim;have H:=HA.out;clear HA;simp only[fV.l0]at H
   by_cases c6:bc<(ag.length:Int)
   ·
    rw[if_pos c6]at H;have kk:=decide_eq_true c6;clear c6;replace H:=gD1 H;obtain⟨jl,H⟩:=H
    replace H:=gQ H;rcases H with⟨jS,Rp,H⟩|⟨jS,Rp,H⟩
    ·
     obtain rfl:=Option.some.inj H;have D1:=bc2 rz.out;obtain⟨ade,Hc,adf,adg,zE⟩:=aI bP.out bc
     cases Hc
     replace zE:=hT HB.out zE;go_wp2
     repeat (go_quiet (fail);try go_wp2)
     go_ret;exact⟨rE,bU1 HB.out uj.out⟩
    ·
     replace H:=gD2 H;obtain⟨ni,rT,H⟩:=H
     replace H:=gQ H;rcases H with⟨yW,aog,H⟩|⟨yW,aog,H⟩
     ·
      have H':=Az H;clear H;have F3:=bc2 rz.out;obtain⟨ade,Hc,adf,adg,zE⟩:=aI bP.out bc
      cases Hc
      replace zE:=hT HB.out zE;obtain⟨aoh,aoi,Hd⟩:=aJ bP.out bc;replace Hd:=hT HB.out Hd;obtain⟨aoj,aok,He⟩:=aJ bP.out (rd ag bc);replace He:=hT HB.out He;go_wp2
      repeat (go_quiet (fail);try go_wp2)
      go_roundg k1
      case measure=>exact mO
      case rel=>exact⟨(wrap64 (bc+1)),rS,H',⟨mO⟩,⟨kU rz.out⟩,⟨bU1 HB.out uj.out⟩⟩
     ·
      obtain rfl:=Option.some.inj H;have JY:=bc2 rz.out;obtain⟨ade,Hc,adf,adg,zE⟩:=aI bP.out bc
      cases Hc
      replace zE:=hT HB.out zE;obtain⟨aoh,aoi,Hd⟩:=aJ bP.out bc;replace Hd:=hT HB.out Hd;obtain⟨aoj,aok,He⟩:=aJ bP.out (rd ag bc);replace He:=hT HB.out He;go_wp2
      repeat (go_quiet (fail);try go_wp2)
      go_ret;exact⟨rE,bU1 HB.out uj.out⟩
   ·
    rw[if_neg c6]at H;have kk:=decide_eq_false c6;clear c6;replace H:=bd H;obtain⟨Hb,Eu,H⟩:=H;have H':=Az H;clear H;have J2:=bc2 rz.out
    go_wp2_with (first|(go_at_call 112;(with_reducible refine(jR.calls k1 _ _ af _ _ ag Hb _ ?_ ?_ ?_ ?_ Eu.out).mono ?_);exact cU (Kd.bn ck.out HB.out);exact cv.out;exact cU (Kd.bn bP.out HB.out);exact cx.out;rintro e PM ⟨aol,rfl,ho0,hb⟩;have aom:=Az (Kd.a7 ho0 (aQ (bU1 HB.out uj.out)));replace rz:=kB rz.out hb;replace HB:=Az (ay (bU1 HB.out uj.out) hb);clear hb ho0))
    repeat (go_quiet (fail);try go_wp2_with (fail))
    go_loopg [5] k1 (fun kq v5 w'=>∃(dx:Int),v5= .int .i64 dx/\ae (fV.l1 kq Hb dx=some r)/\ae (kq<=k1)/\ae (Kd.R (Kd.int .i64) 3 w' w.heap.size (fun _=>True) aol Hb)/\ae (w'.heap[Sm]?=some (.cells #[(.slice aA af.length az),(.slice ak ag.length aj)] 29 (0,0)))/\ae (Below w.heap.size w w'))
    case atStart=>exact⟨(0),rS,H',⟨Nat.le_refl _⟩,⟨rU aom.out⟩,⟨kU rz.out⟩,⟨bU1 HB.out uj.out⟩⟩
    case round=>
     clear H';obtain⟨dx,rfl,HA,eE,b9,rz,HB⟩:=hrel
     rcases gk with _|k2
     exact(nN HA.out).elim;have H:=HA.out;clear HA;simp only[fV.l1]at H
     replace H:=gB H;rcases H with⟨Ef,H⟩|⟨Ef,H⟩
     ·
      replace H:=gD1 H;obtain⟨KB,H⟩:=H
      replace H:=gQ H;rcases H with⟨GC,QS,H⟩|⟨GC,QS,H⟩
      ·
       have H':=Az H;clear H;obtain⟨jk,gL,vT⟩:=Kd.aH b9.out;subst vT;obtain⟨aon,Sn,aoo,aop,aoq⟩:=aI (Kd.au b9.out).2.2 dx
       cases Sn;go_wp2
       repeat (go_quiet (fail);try go_wp2)
       go_roundg k2
       case measure=>exact mO
       case rel=>exact⟨(wrap64 (dx+1)),rS,H',⟨mO⟩,⟨rU b9.out⟩,⟨kU rz.out⟩,⟨bU1 HB.out uj.out⟩⟩
      ·
       obtain rfl:=Option.some.inj H;obtain⟨vk,tZ,xi⟩:=Kd.aH b9.out;subst xi;obtain⟨aon,Sn,aoo,aop,aoq⟩:=aI (Kd.au b9.out).2.2 dx
       cases Sn;go_wp2
       repeat (go_quiet (fail);try go_wp2)
       go_ret;exact⟨rE,bU1 HB.out uj.out⟩
     ·
      obtain rfl:=Option.some.inj H;obtain⟨wD,wE,zF⟩:=Kd.aH b9.out;subst zF;go_wp2
      repeat (go_quiet (fail);try go_wp2)
      go_ret;exact⟨rE,bU1 HB.out uj.out⟩
 ·
  replace c3:=Bool.eq_false_iff.mpr c3;subst c3;rw[if_neg nT]at H;obtain rfl:=Option.some.inj H;go_enter Try.func90,Try.ntmps90
  go_wp2_with (first|((with_reducible refine gd 1 rfl ?_);refine bE 1 #[.slice aA af.length az,.slice ak ag.length aj] 29 ?_;intro Sm hg pU hbox hb;have rz:=Az (hbox);have uj:=gW hg (bU0 HB.out);replace HB:=Az (ay (bU0 HB.out) hb);clear hb hbox hg;have aaT:=bc2 rz.out)|(go_at_call 111;(with_reducible refine(sy.calls k _ _ af _ _ ag false _ ?_ ?_ ?_ ?_ A2.out).mono ?_);exact cU (Kd.bn ck.out HB.out);exact cv.out;exact cU (Kd.bn bP.out HB.out);exact cx.out;rintro e w' ⟨rfl,⟨nd,rfl⟩⟩))
  repeat (go_quiet (fail);try go_wp2_with (fail))
  go_ret;exact⟨rE,bU1 HB.out uj.out⟩
def nI.l0:Nat->List Int->List Int->List Int->Int->Option (List Int)
 |0,_,_,_,_=>none
 |k+1,x0,x1,x5,x6=>if x6<(x0.length:Int)then(if 0<=x6 then(if 0<=(rd x0 x6)then(if(rd x0 x6)<(x1.length:Int)then(if x5.length<17592186044416 then(nI.l0 k x0 x1 (x5++[rd x1 (rd x0 x6)]) (wrap64 (x6+1)))else(none))else(none))else(none))else(none))else(some x5)
def nI.f (k:Nat) (l0:List Int) (l1:List Int):Option (List Int):=nI.l0 k l0 l1 (([]:List Int)) 0
set_option maxHeartbeats 8000000 in
set_option maxRecDepth 100000 in
theorem nI.calls (k:Nat) (A0:Option Addr) (c0:Nat) (l0:List Int) (A1:Option Addr) (c1:Nat) (l1:List Int) (r:List Int) (w:World) (hr0:Kd.C (Kd.int .i64) w A0 l0.length l0) (hc0:l0.length<=c0) (hr1:Kd.C (Kd.int .i64) w A1 l1.length l1) (hc1:l1.length<=c1) (h:nI.f k l0 l1=some r):
 Calls Try.prog 119 #[.slice A0 l0.length c0,.slice A1 l1.length c1] w fun e w'=>∃bC:Value,e= .returned (bC)/\Kd.R (Kd.int .i64) 3 w' w.heap.size (fun _=>True) bC r/\Below w.heap.size w w':=by
 have dt:=Az hr0;have iX:=Az hc0;clear hr0 hc0;have HR1:=Az hr1;have ml:=Az hc1;clear hr1 hc1;have HB:=bZ w;have H:=h;clear h;unfold nI.f at H;generalize Lm:(([]:List Int):List Int)=y448 at H;replace Lm:=Ay Lm;have H':=Az H;clear H;go_enter Try.func119,Try.ntmps119
 go_wp2_with (first|((with_reducible refine gd 7 rfl ?_);refine Kd.ji (Kd.int .i64) _ 3 rfl (N:=7) rfl (xs:=([]:List Int)) (inner:=[]) (ok:=fun _=>True) (okp:=fun _=>True) hS ?hp (fun _ hk=>hk) trivial (Below.refl _ _) (Nat.le_refl _) (by simp) ?_;(case hp=>exact(Reps.none _ _));intro axi w3 lN hb hg_ hnew_;clear hg_ hnew_;(first|rw[<-Lm.out]at lN|(simp only[Int.reduceToNat]at lN;rw[<-Lm.out]at lN));have aor:=Az (Kd.a7 lN (aQ (bU0 HB.out)));replace HB:=Az (ay (bU0 HB.out) hb);clear hb lN))
 go_loopg [5,6] k (fun kq v5 v6 w'=>∃(bg:List Int) (en:Int),v6= .int .i64 en/\ae (nI.l0 kq l0 l1 bg en=some r)/\ae (kq<=k)/\ae (Kd.R (Kd.int .i64) 3 w' w.heap.size (fun _=>True) v5 bg)/\ae (Below w.heap.size w w'))
 case atStart=>exact⟨(y448),(0),rS,H',⟨Nat.le_refl _⟩,⟨rU aor.out⟩,⟨bU0 HB.out⟩⟩
 case round=>
  clear H';obtain⟨bg,en,rfl,HA,eZ,aG,HB⟩:=hrel
  rcases gk with _|k1
  exact(nN HA.out).elim;have H:=HA.out;clear HA;simp only[nI.l0]at H
  replace H:=gB H;rcases H with⟨qZ,H⟩|⟨qZ,H⟩
  ·
   replace H:=gD3 H;obtain⟨kk,jl,jS,H⟩:=H;replace H:=gP H;obtain⟨c9,H⟩:=H;have aos:=Az c9;clear c9;generalize Sp:(bg++[rd l1 (rd l0 en)]:List Int)=y453 at H;replace Sp:=Ay Sp;have H':=Az H;clear H;obtain⟨axj,aot,_,_,adh⟩:=aI dt.out en
   cases aot
   replace adh:=hT HB.out adh;obtain⟨axk,aou,_,_,adi⟩:=aI HR1.out (rd l0 en)
   cases aou
   replace adi:=hT HB.out adi
   go_wp2_with (first|((with_reducible refine mf (b:=.append) (xs:=#[.tmp 14,.tmp 22]) rfl ?_);at_builtin;refine Kd.na (Kd.int .i64) (w0:=w) w.heap.size rfl (.tmp 14) (.tmp 22) 23 3 (.int .i64 0) 8 rfl Try.underlying23 dE rfl (by decide) (by omega) u5 bg (rd l1 (rd l0 en)) [.int .i64 (rd l1 (rd l0 en))] (fun _=>True) (fun _=>False) rfl rfl ?aP (fun _ hk=>hk.elim) ?aF ?aO ?aB ?aS ?aL ?_;(case aP=>exact rfl);(case aB=>exact(bU0 HB.out));(case aF=>exact(fun _ _=>trivial));(case aO=>exact(rU aG.out));(case aS=>exact(aQ (bU0 HB.out)));(case aL=>have:=aos.out;omega);intro axl rc ho hb hg hat;rw[<-Sp.out]at ho;replace HB:=Az (hb);have aov:=Az (ho);clear aG ho hb hg hat))
   go_roundg k1
   case measure=>exact mO
   case rel=>exact⟨(y453),(wrap64 (en+1)),rS,H',⟨mO⟩,⟨rU aov.out⟩,⟨bU0 HB.out⟩⟩
  ·obtain rfl:=Option.some.inj H;go_wp2;go_ret;exact⟨_,rE,rU aG.out,bU0 HB.out⟩
def sK.f (k:Nat) (af:List Int) (ag:List Int):Option (List Int):=(nI.f k ag af).bind fun Sq=>(some Sq)
set_option maxHeartbeats 8000000 in
set_option maxRecDepth 100000 in
theorem sK.calls (k:Nat) (aA:Option Addr) (az:Nat) (af:List Int) (ak:Option Addr) (aj:Nat) (ag:List Int) (r:List Int) (w:World) (dF:Kd.C (Kd.int .i64) w aA af.length af) (dL:af.length<=az) (de:Kd.C (Kd.int .i64) w ak ag.length ag) (dk:ag.length<=aj) (h:sK.f k af ag=some r):
 Calls Try.prog 99 #[.agg #[.slice aA af.length az,.slice ak ag.length aj]] w fun e w'=>∃bC:Value,e= .returned (bC)/\Kd.R (Kd.int .i64) 3 w' w.heap.size (fun _=>True) bC r/\Below w.heap.size w w':=by
 have jT:=Try.underlying29;have ck:=Az dF;have cv:=Az dL;clear dF dL;have bP:=Az de;have cx:=Az dk;clear de dk;have HB:=bZ w;have H:=h;clear h;unfold sK.f at H;replace H:=bd H;obtain⟨Sq,A2,H⟩:=H;obtain rfl:=Option.some.inj H;go_enter Try.func99,Try.ntmps99
 go_wp2_with (first|((with_reducible refine gd 1 rfl ?_);refine bE 1 #[.slice aA af.length az,.slice ak ag.length aj] 29 ?_;intro axm hg w3 hbox hb;have Sr:=Az (hbox);have Ss:=gW hg (bU0 HB.out);replace HB:=Az (ay (bU0 HB.out) hb);clear hb hbox hg;have hz4:=bc2 Sr.out)|((with_reducible refine gK 119 rfl ?_);refine gC (some 7) Try.func119 #[.slice ak ag.length aj,.slice aA af.length az] ?_;(with_reducible refine(nI.calls k _ _ ag _ _ af Sq _ ?_ ?_ ?_ ?_ A2.out).mono ?_);exact cU (Kd.bn bP.out HB.out);exact cx.out;exact cU (Kd.bn ck.out HB.out);exact cv.out;rintro e w5 ⟨axo,rfl,ho0,hb⟩;refine⟨_,rfl,?_⟩;have aow:=Az (Kd.a7 ho0 (aQ (bU1 HB.out Ss.out)));replace Sr:=kB Sr.out hb;replace HB:=Az (ay (bU1 HB.out Ss.out) hb);clear hb ho0))
 go_ret;exact⟨_,rE,rU aow.out,bU1 HB.out Ss.out⟩
mutual
def jw.l0:Nat->List Int->List (List Int)->List Bool->Int->Option ((List (List Int)))
 |0,_,_,_,_=>none
 |k+1,x0,x3,x4,x5=>if x5<(x0.length:Int)then(if 0<=x5 then(if x5<(x4.length:Int)then(if gH false x4 x5=true then(jw.l0 k x0 x3 x4 (wrap64 (x5+1)))else(jw.l1 k x0 x3 x4 x5 (([]:List Int)) x5))else(none))else(none))else(some x3)
def jw.l1:Nat->List Int->List (List Int)->List Bool->Int->List Int->Int->Option ((List (List Int)))
 |0,_,_,_,_,_,_=>none
 |k+1,x0,x3,x4,x5,x6,x7=>if 0<=x7 then(if x7<(x4.length:Int)then(if gH false x4 x7=true then(if x3.length<5864062014805 then(jw.l0 k x0 (x3++[x6]) x4 (wrap64 (x5+1)))else(none))else(if x6.length<17592186044416 then(if x7<(x0.length:Int)then(jw.l1 k x0 x3 (x4.set (x7:Int).toNat true) x5 (x6++[x7]) (rd x0 x7))else(none))else(none)))else(none))else(none)
end
def jw.f (k:Nat) (l0:List Int):Option ((List (List Int))):=if 0<=(l0.length:Int)then(if((l0.length:Int):Int).toNat<=281474976710656 then(jw.l0 k l0 (([]:List (List Int))) (List.replicate ((l0.length:Int):Int).toNat false) 0)else(none))else(none)
set_option maxHeartbeats 8000000 in
set_option maxRecDepth 100000 in
theorem jw.calls (k:Nat) (A0:Option Addr) (c0:Nat) (l0:List Int) (r:List (List Int)) (w:World) (hr0:Kd.C (Kd.int .i64) w A0 l0.length l0) (hc0:l0.length<=c0) (h:jw.f k l0=some r):
 Calls Try.prog 121 #[.slice A0 l0.length c0] w fun e w'=>∃bC:Value,e= .returned (bC)/\Kd.S (Kd.slice 3 (Kd.int .i64)) 23 w' w.heap.size (fun _=>True) bC r/\Below w.heap.size w w':=by
 have dt:=Az hr0;have iX:=Az hc0;clear hr0 hc0;have HB:=bZ w;have H:=h;clear h;unfold jw.f at H;generalize Ln:(([]:List (List Int)):List (List Int))=y460 at H;replace Ln:=Ay Ln;replace H:=gE H;obtain⟨sL,uK,H⟩:=H;replace H:=gE H;obtain⟨lJ,tY,H⟩:=H;generalize Lp:(List.replicate ((l0.length:Int):Int).toNat false:List Bool)=y463 at H;replace Lp:=Ay Lp;have H':=Az H;clear H;go_enter Try.func121,Try.ntmps121
 go_wp2_with (first|((with_reducible refine gd 8 rfl ?_);refine Kd.Xt (Kd.slice 3 (Kd.int .i64)) _ 23 rfl (N:=8) rfl (xs:=([]:List (List Int))) (inner:=[]) (ok:=fun _=>True) (okp:=fun _=>True) hS ?hp (fun _ hk=>hk) trivial (Below.refl _ _) (Nat.le_refl _) (by simp) ?_;(case hp=>exact(Reps.none _ _));intro axp w4 jj hb hg_ hnew_;clear hg_ hnew_;(first|rw[<-Ln.out]at jj|(simp only[Int.reduceToNat]at jj;rw[<-Ln.out]at jj));have Su:=Az (Kd.yG jj (aQ (bU0 HB.out)));replace HB:=Az (ay (bU0 HB.out) hb);clear hb jj)|((with_reducible refine gd 11 rfl ?_);refine Kd.sD Kd.bool _ 4 rfl (N:=11) rfl 93 _ _ rfl (l0.length:Int) rfl rfl Try.underlying93 (.bool false) 1 Yh rfl (by decide) (by omega) false (ok:=fun _=>True) (okp:=fun _=>True) rfl (fun _ hk=>hk) trivial (oA) (Nat.le_trans (Nat.mul_le_mul_right _ (oA:(l0.length:Int).toNat<=281474976710656)) (by omega)) (Below.refl _ _) (Nat.le_refl _) ?_;intro aox w6 lc hb hg_ hnew_;clear hg_ hnew_;(first|rw[<-Lp.out]at lc|(simp only[Int.reduceToNat]at lc;rw[<-Lp.out]at lc));replace Su:=sB Su.out hb;have aoy:=Az (Kd.a7 lc (aQ (bU0 HB.out)));replace HB:=Az (ay (bU0 HB.out) hb);clear hb lc))
 go_loopg [3,5] k (fun kq v3 v5 w'=>∃(bc:List (List Int)) (bF:List Bool) (bg:Int),v5= .int .i64 bg/\ae (jw.l0 kq l0 bc bF bg=some r)/\ae (kq<=k)/\ae (Kd.S (Kd.slice 3 (Kd.int .i64)) 23 w' w.heap.size (fun _=>True) v3 bc)/\ae (Kd.R Kd.bool 4 w' w.heap.size (fun _=>True) aox bF)/\ae (Below w.heap.size w w'))
 case atStart=>exact⟨(y460),(y463),(0),rS,H',⟨Nat.le_refl _⟩,⟨sU Su.out⟩,⟨rU aoy.out⟩,⟨bU0 HB.out⟩⟩
 case round=>
  clear H';obtain⟨bc,bF,bg,rfl,HA,eZ,aZ,b9,HB⟩:=hrel
  rcases gk with _|k1
  exact(nN HA.out).elim;have H:=HA.out;clear HA;simp only[jw.l0]at H
  by_cases c8:bg<(l0.length:Int)
  ·
   rw[if_pos c8]at H;have jS:=decide_eq_true c8;clear c8;replace H:=gD2 H;obtain⟨mK,ni,H⟩:=H;obtain⟨adj,Sv⟩:∃b_:Bool,b_=(gH false bF bg):=⟨_,rfl⟩
   replace H:(if adj=true then(jw.l0 k1 l0 bc bF (wrap64 (bg+1)))else(jw.l1 k1 l0 bc bF bg (([]:List Int)) bg))=some r:=by rw[<-Sv]at H;exact H
   have adk:=Az Sv;clear Sv
   by_cases c12:adj=true
   ·
    subst c12;rw[if_pos rfl]at H;have H':=Az H;clear H;obtain⟨jm,iJ,nj⟩:=Kd.aH b9.out;subst nj;obtain⟨Lq,Sw,aoz,aoA,Lr⟩:=aB (Kd.au b9.out).2.2 bg;rw[<-adk.out]at Lr
    cases Sw;go_wp2;go_roundg k1
    case measure=>exact mO
    case rel=>exact⟨(bc),(bF),(wrap64 (bg+1)),rS,H',⟨mO⟩,⟨sU aZ.out⟩,⟨rU b9.out⟩,⟨bU0 HB.out⟩⟩
   ·
    replace c12:=Bool.eq_false_iff.mpr c12;subst c12;rw[if_neg nT]at H;generalize Ls:(([]:List Int):List Int)=y467 at H;replace Ls:=Ay Ls;have H':=Az H;clear H;obtain⟨fA,eR,pO⟩:=Kd.aH b9.out;subst pO;obtain⟨Lq,Sw,aoz,aoA,Lr⟩:=aB (Kd.au b9.out).2.2 bg;rw[<-adk.out]at Lr
    cases Sw
    go_wp2_with (first|((with_reducible refine gd 22 rfl ?_);refine Kd.ji (Kd.int .i64) _ 3 rfl (N:=22) rfl (xs:=([]:List Int)) (inner:=[]) (ok:=fun _=>True) (okp:=fun _=>True) hS ?hp (fun _ hk=>hk) trivial (Below.refl _ _) (Nat.le_refl _) (by simp) ?_;(case hp=>exact(Reps.none _ _));intro axq pK Ew hb hg_ hnew_;clear hg_ hnew_;(first|rw[<-Ls.out]at Ew|(simp only[Int.reduceToNat]at Ew;rw[<-Ls.out]at Ew));replace aZ:=Az (Kd.yC (sU aZ.out) (Kd.ax Ew) hb);replace b9:=rB b9.out hb;have aoB:=Az (Kd.a7 Ew (aQ (bU0 HB.out)));replace HB:=Az (ay (bU0 HB.out) hb);clear hb Ew))
    go_loopg [6,7] k1 (fun kq v6 v7 w'=>∃(fY:List Bool) (cm:List Int) (aN:Int),v7= .int .i64 aN/\ae (jw.l1 kq l0 bc fY bg cm aN=some r)/\ae (kq<=k1)/\ae (Kd.S (Kd.slice 3 (Kd.int .i64)) 23 w' w.heap.size (fun k_=>oV k_ v6) u3 bc)/\ae (Kd.R Kd.bool 4 w' w.heap.size (fun _=>True) (.slice (some Lq) bF.length eR) fY)/\ae (Kd.R (Kd.int .i64) 3 w' w.heap.size (fun _=>True) v6 cm)/\ae (Below w.heap.size w w'))
    case atStart=>exact⟨(bF),(y467),(bg),rS,H',⟨Nat.le_refl _⟩,⟨by(with_reducible repeat (first|apply Kd.pE|apply Kd.pB|apply Kd.pF));exact Kd.oI aZ.out (fun _ hk=>hk.2)⟩,⟨rU b9.out⟩,⟨rU aoB.out⟩,⟨bU0 HB.out⟩⟩
    case round=>
     clear H';obtain⟨fY,cm,aN,rfl,HA,eE,aZ,b9,aM,HB⟩:=hrel;have Ex:=(Kd.au b9.out).1;rw[Ex]at b9;simp only[Ex]
     rcases gk with _|k2
     exact(nN HA.out).elim;have H:=HA.out;clear HA;simp only[jw.l1]at H;replace H:=gD1 H;obtain⟨Bh,H⟩:=H;replace H:=gP H;obtain⟨c18,H⟩:=H;have Ef:=decide_eq_true c18;clear c18;obtain⟨adl,Sx⟩:∃b_:Bool,b_=(gH false fY aN):=⟨_,rfl⟩
     replace H:(if adl=true then(if bc.length<5864062014805 then(jw.l0 k2 l0 (bc++[cm]) fY (wrap64 (bg+1)))else(none))else(if cm.length<17592186044416 then(if aN<(l0.length:Int)then(jw.l1 k2 l0 bc (fY.set (aN:Int).toNat true) bg (cm++[aN]) (rd l0 aN))else(none))else(none)))=some r:=by rw[<-Sx]at H;exact H
     have adm:=Az Sx;clear Sx
     by_cases c20:adl=true
     ·
      subst c20;rw[if_pos rfl]at H;replace H:=gP H;obtain⟨c21,H⟩:=H;have aoC:=Az c21;clear c21;generalize Sy:(bc++[cm]:List (List Int))=y471 at H;replace Sy:=Ay Sy;have H':=Az H;clear H;obtain⟨Sz,SA,aoD,aoE,Lt⟩:=aB (Kd.au b9.out).2.2 aN;rw[<-adm.out]at Lt;obtain rfl:Lq=Sz:=(by injection SA);obtain⟨wD,wE,zF⟩:=Kd.aH aM.out;subst zF
      go_wp2_with (first|((with_reducible refine mf (b:=.append) (xs:=#[.tmp 40,.tmp 42]) rfl ?_);at_builtin;refine Kd.Yx (Kd.slice 3 (Kd.int .i64)) (w0:=w) w.heap.size rfl (.tmp 40) (.tmp 42) 82 23 (.slice none 0 0) 24 rfl Try.underlying82 VQ rfl (by decide) (by omega) u3 bc cm [.slice wD cm.length wE] (fun _=>True) (fun k_=>some k_=(.slice wD cm.length wE:Value).ownBlock) rfl rfl ?aP (fun k_ hk_=>((Kd.ah (ok':=fun k_=>((fun _=>True)) k_/\oV k_ u3) (Kd.Jf (aM.out) (Kd.CY aZ.out) (by decide)) (fun k_ hk=>⟨trivial,hk.2⟩))).1 k_ hk_.symm) ?aF ?aO ?aB ?aS ?aL ?_;(case aP=>exact Kd.YK (Kd.ah (Kd.yJ rfl (Kd.ah (ok':=fun k_=>((fun _=>True)) k_/\oV k_ u3) (Kd.Jf (aM.out) (Kd.CY aZ.out) (by decide)) (fun k_ hk=>⟨trivial,hk.2⟩))) (fun _ h_=>h_)));(case aB=>exact(bU0 HB.out));(case aF=>exact(fun _ _=>trivial));(case aO=>exact(by(with_reducible repeat (first|apply Kd.pE|apply Kd.pB|apply Kd.pF));exact Kd.oI aZ.out (fun k_ hk=>⟨trivial,fun e_=>hk e_⟩)));(case aS=>exact(aQ (bU0 HB.out)));(case aL=>have:=aoC.out;omega);intro axr oc ho hb hg hat;rw[<-Sy.out]at ho;replace b9:=Az (Kd.AH (rU b9.out) (Kd.CY (sU aZ.out)) (by decide) hg);replace HB:=Az (hb);have aoF:=Az (ho);clear aZ aM ho hb hg hat))
      simp only[<-Ex];go_roundg k2
      case measure=>exact mO
      case rel=>exact⟨(y471),(fY),(wrap64 (bg+1)),rS,H',⟨mO⟩,⟨by(with_reducible repeat (first|apply Kd.pE|apply Kd.pB|apply Kd.pF));exact aoF.out⟩,⟨by simp only[Ex];refine rA ?_;exact b9.out⟩,⟨bU0 HB.out⟩⟩
     ·
      replace c20:=Bool.eq_false_iff.mpr c20;subst c20;rw[if_neg nT]at H;generalize SB:(fY.set (aN:Int).toNat true:List Bool)=y474 at H;replace SB:=Ay SB;replace H:=gP H;obtain⟨Ci,H⟩:=H;have aoG:=Az Ci;clear Ci;generalize SC:(cm++[aN]:List Int)=y475 at H;replace SC:=Ay SC;replace H:=gP H;obtain⟨lR,H⟩:=H;have F5:=decide_eq_true lR;clear lR;have H':=Az H;clear H;obtain⟨Sz,SA,aoD,aoE,Lt⟩:=aB (Kd.au b9.out).2.2 aN;rw[<-adm.out]at Lt;obtain rfl:Lq=Sz:=(by injection SA);have Cj:0<=(aN:Int):=oA;have q24:(aN:Int)<((fY.length:Int):Int):=oA;obtain⟨Hf,axs,adn,ado,aoH,axt,adp⟩:=Kd.jQ b9.out (by omega);(first|cases adn|(injection adn with ea_ en_ ec_;(first|subst ea_|(injection ea_ with ea_;subst ea_));subst ec_;clear en_));have aoI:=Az ado;have axu:=Az adp;clear ado aoH adp;simp only[add_plain]at Lr;simp only[add_plain]at Lt;obtain⟨adq,adr⟩:=Kd.dd false b9.out (aN:Int) Cj q24;replace Cj:=eq_true Cj;replace q24:=eq_true q24;obtain⟨axv,axw⟩:=Kd.dd false b9.out (aN:Int) (oA) (oA);have Ck:=Kd.jy b9.out (aN:Int) true
      go_wp2_with (first|((with_reducible refine gs 4 35 rfl ?_);refine sE 4 35 (wr.setCell ⟨Hf,(aN:Int).toNat,none⟩ (.bool true)) ?_;intro rV hw;have hg:wr.grownBy rV (some Hf):=(by rw[hw];exact Ck.2);have hp_:Kd.R Kd.bool 4 rV w.heap.size (fun _=>True) (.slice (some ⟨Hf,0,none⟩) fY.length eR) y474:=(by rw[hw,SB.out];exact Ck.1);clear Ck;replace aZ:=Az (Kd.Wg (v:=(.slice (some ⟨Hf,0,none⟩) fY.length eR)) (sU aZ.out) (Kd.AV b9.out) (by decide) hg);replace aM:=Az (Kd.AH (v:=(.slice (some ⟨Hf,0,none⟩) fY.length eR)) (rU aM.out) (Kd.AV b9.out) (by decide) hg);replace b9:=Az (hp_);replace HB:=Az ((by rw[hw];exact ap (HB.out) aoI.out:Below w.heap.size w rV));clear hg hw hp_)|((with_reducible refine mf (b:=.append) (xs:=#[.tmp 36,.tmp 38]) rfl ?_);at_builtin;refine Kd.na (Kd.int .i64) (w0:=w) w.heap.size rfl (.tmp 36) (.tmp 38) 23 3 (.int .i64 0) 8 rfl Try.underlying23 dE rfl (by decide) (by omega) u6 cm aN [.int .i64 aN] (fun _=>True) (fun _=>False) rfl rfl ?aP (fun _ hk=>hk.elim) ?aF ?aO ?aB ?aS ?aL ?_;(case aP=>exact rfl);(case aB=>exact(bU0 HB.out));(case aF=>exact(fun _ _=>trivial));(case aO=>exact(rU aM.out));(case aS=>exact(aQ (bU0 HB.out)));(case aL=>have:=aoG.out;omega);intro axx jB ho hb hg hat;rw[<-SC.out]at ho;replace aZ:=Az (Kd.Jr (ok:=(fun _=>True)) (by(with_reducible repeat (first|apply Kd.pE|apply Kd.pB|apply Kd.pF));exact Kd.oI aZ.out (fun _ hk=>⟨trivial,hk⟩)) hg hat);replace b9:=Az (Kd.AH (rU b9.out) (Kd.AV (rU aM.out)) (by decide) hg);replace HB:=Az (hb);have aoJ:=Az (ho);clear aM ho hb hg hat;obtain⟨axy,aoK,_,_,ads⟩:=aI dt.out aN;cases aoK;replace ads:=hT HB.out ads))
      simp only[<-Ex];(first|go_roundg k2|(refine Handed.intro k2 ?measure ?_;rotate_left;go_step;simp only[add_plain];(repeat apply Exists.intro);refine⟨?rel,rfl⟩))
      case measure=>exact mO
      case rel=>exact⟨(y474),(y475),(rd l0 aN),rS,H',⟨mO⟩,⟨by(with_reducible repeat (first|apply Kd.pE|apply Kd.pB|apply Kd.pF));exact Kd.oI aZ.out (fun _ hk=>hk.2)⟩,⟨by simp only[Ex];refine rA ?_;exact b9.out⟩,⟨rA aoJ.out⟩,⟨bU0 HB.out⟩⟩
  ·rw[if_neg c8]at H;have jS:=decide_eq_false c8;clear c8;obtain rfl:=Option.some.inj H;go_wp2;go_ret;exact⟨_,rE,sU aZ.out,bU0 HB.out⟩
mutual
def kC.l0:Nat->List Int->List (List Int)->Int->Option (List Int)
 |0,_,_,_=>none
 |k+1,x3,x4,x5=>if x5>0 then(kC.l1 k x3 x4 x5 0)else(some x3)
def kC.l1:Nat->List Int->List (List Int)->Int->Int->Option (List Int)
 |0,_,_,_,_=>none
 |k+1,x3,x4,x5,x6=>if x6<(x4.length:Int)then(if 0<=x6 then(if((d7 x4 x6).length:Int)=x5 then(if x3.length<17592186044416 then(kC.l1 k (x3++[x5]) x4 x5 (wrap64 (x6+1)))else(none))else(kC.l1 k x3 x4 x5 (wrap64 (x6+1))))else(none))else(kC.l0 k x3 x4 (wrap64 (x5-1)))
end
def kC.f (k:Nat) (l0:List Int):Option (List Int):=(jw.f k l0).bind fun uk=>(kC.l0 k (([]:List Int)) uk (l0.length:Int))
set_option maxHeartbeats 8000000 in
set_option maxRecDepth 100000 in
theorem kC.calls (k:Nat) (A0:Option Addr) (c0:Nat) (l0:List Int) (r:List Int) (w:World) (hr0:Kd.C (Kd.int .i64) w A0 l0.length l0) (hc0:l0.length<=c0) (h:kC.f k l0=some r):
 Calls Try.prog 113 #[.slice A0 l0.length c0] w fun e w'=>∃bC:Value,e= .returned (bC)/\Kd.R (Kd.int .i64) 3 w' w.heap.size (fun _=>True) bC r/\Below w.heap.size w w':=by
 have dt:=Az hr0;have iX:=Az hc0;clear hr0 hc0;have HB:=bZ w;have H:=h;clear h;unfold kC.f at H;generalize Lu:(([]:List Int):List Int)=y479 at H;replace Lu:=Ay Lu;replace H:=bd H;obtain⟨uk,A2,H⟩:=H;have H':=Az H;clear H;go_enter Try.func113,Try.ntmps113
 go_wp2_with (first|((with_reducible refine gd 7 rfl ?_);refine Kd.ji (Kd.int .i64) _ 3 rfl (N:=7) rfl (xs:=([]:List Int)) (inner:=[]) (ok:=fun _=>True) (okp:=fun _=>True) hS ?hp (fun _ hk=>hk) trivial (Below.refl _ _) (Nat.le_refl _) (by simp) ?_;(case hp=>exact(Reps.none _ _));intro axz w3 lN hb hg_ hnew_;clear hg_ hnew_;(first|rw[<-Lu.out]at lN|(simp only[Int.reduceToNat]at lN;rw[<-Lu.out]at lN));have Lv:=Az (Kd.a7 lN (aQ (bU0 HB.out)));replace HB:=Az (ay (bU0 HB.out) hb);clear hb lN)|((with_reducible refine gK 121 rfl ?_);refine gC (some 9) Try.func121 #[.slice A0 l0.length c0] ?_;(with_reducible refine(jw.calls k _ _ l0 uk _ ?_ ?_ A2.out).mono ?_);exact cU (Kd.bn dt.out HB.out);exact iX.out;rintro e w5 ⟨adt,rfl,ho0,hb⟩;refine⟨_,rfl,?_⟩;have aoL:=Az (Kd.yG (Kd.Du ho0 (Kd.ar (rU Lv.out))) (aQ (bU0 HB.out)));replace Lv:=rB Lv.out hb;replace HB:=Az (ay (bU0 HB.out) hb);clear hb ho0))
 go_loopg [3,5] k (fun kq v3 v5 w'=>∃(bc:List Int) (bg:Int),v5= .int .i64 bg/\ae (kC.l0 kq bc uk bg=some r)/\ae (kq<=k)/\ae (Kd.R (Kd.int .i64) 3 w' w.heap.size (fun _=>True) v3 bc)/\ae (Kd.S (Kd.slice 3 (Kd.int .i64)) 23 w' w.heap.size (fun k_=>oV k_ v3) adt uk)/\ae (Below w.heap.size w w'))
 case atStart=>exact⟨(y479),((l0.length:Int)),rS,H',⟨Nat.le_refl _⟩,⟨rU Lv.out⟩,⟨by(with_reducible repeat (first|apply Kd.pE|apply Kd.pB|apply Kd.pF));exact Kd.oI aoL.out (fun _ hk=>hk.2)⟩,⟨bU0 HB.out⟩⟩
 case round=>
  clear H';obtain⟨bc,bg,rfl,HA,eZ,aZ,b9,HB⟩:=hrel
  rcases gk with _|k1
  exact(nN HA.out).elim;have H:=HA.out;clear HA;simp only[kC.l0]at H
  by_cases c6:bg>0
  ·
   rw[if_pos c6]at H;have kk:=decide_eq_true c6;clear c6;have H':=Az H;clear H;go_wp2
   go_loopg [3,6] k1 (fun kq v3 v6 w'=>∃(sP:List Int) (cm:Int),v6= .int .i64 cm/\ae (kC.l1 kq sP uk bg cm=some r)/\ae (kq<=k1)/\ae (Kd.R (Kd.int .i64) 3 w' w.heap.size (fun _=>True) v3 sP)/\ae (Kd.S (Kd.slice 3 (Kd.int .i64)) 23 w' w.heap.size (fun k_=>oV k_ v3) adt uk)/\ae (Below w.heap.size w w'))
   case atStart=>exact⟨(bc),(0),rS,H',⟨Nat.le_refl _⟩,⟨rU aZ.out⟩,⟨sU b9.out⟩,⟨bU0 HB.out⟩⟩
   case round=>
    clear H';obtain⟨sP,cm,rfl,HA,eE,aZ,b9,HB⟩:=hrel
    rcases gk with _|k2
    exact(nN HA.out).elim;have H:=HA.out;clear HA;simp only[kC.l1]at H
    replace H:=gB H;rcases H with⟨jl,H⟩|⟨jl,H⟩
    ·
     replace H:=gD1 H;obtain⟨jS,H⟩:=H
     replace H:=gQ H;rcases H with⟨mK,SD,H⟩|⟨mK,SD,H⟩
     ·
      replace H:=gP H;obtain⟨c10,H⟩:=H;have Pl:=Az c10;clear c10;generalize SE:(sP++[bg]:List Int)=y486 at H;replace SE:=Ay SE;have H':=Az H;clear H;obtain⟨gx,fj,qo⟩:=Kd.yN b9.out;subst qo;have xJ:0<=(cm:Int):=oA;have xK:cm<(uk.length:Int):=oA;obtain⟨adu,aoM,aoN,SF,SG,Hg,Hh⟩:=Fu (Kd.Da b9.out).2.2 cm xJ xK
      cases SF
      obtain⟨aoO,SH,SI,Hj⟩:=Kd.NH b9.out [] cm xJ (by first|exact xK|exact oA|(have e_:=(Kd.Da b9.out).1;omega));obtain⟨aoP,rfl,Cm⟩:=SI;have vl:=Hj 0 _ rfl;rw[Nat.add_zero,show((Kd.slice 3 (Kd.int .i64))).sz=1 from rfl,Nat.mul_one]at vl;replace vl:=Option.some.inj (vl.symm.trans SG);rw[vl]at Cm;have SJ:=Az (show Kd.R (Kd.int .i64) 3 _ _ _ _ (d7 uk cm)from Cm);clear vl Cm Hj SH;have aoQ:=Az Hh;have aoR:=Az Hg;clear Hh Hg;replace xJ:=eq_true xJ;replace xK:=eq_true xK
      go_wp2_with (first|((with_reducible refine mf (b:=.append) (xs:=#[.tmp 29,.tmp 31]) rfl ?_);at_builtin;refine Kd.na (Kd.int .i64) (w0:=w) w.heap.size rfl (.tmp 29) (.tmp 31) 23 3 (.int .i64 0) 8 rfl Try.underlying23 dE rfl (by decide) (by omega) u3 sP bg [.int .i64 bg] (fun _=>True) (fun _=>False) rfl rfl ?aP (fun _ hk=>hk.elim) ?aF ?aO ?aB ?aS ?aL ?_;(case aP=>exact rfl);(case aB=>exact(bU0 HB.out));(case aF=>exact(fun _ _=>trivial));(case aO=>exact(rU aZ.out));(case aS=>exact(aQ (bU0 HB.out)));(case aL=>have:=Pl.out;omega);intro axA nJ ho hb hg hat;rw[<-SE.out]at ho;replace b9:=Az (Kd.Jr (ok:=(fun _=>True)) (by(with_reducible repeat (first|apply Kd.pE|apply Kd.pB|apply Kd.pF));exact Kd.oI b9.out (fun _ hk=>⟨trivial,hk⟩)) hg hat);replace SJ:=Az (Kd.cA (ok:=(fun k_=>some k_≠(.slice (some adu) uk.length fj:Value).ownBlock)) (rA (Kd.ah SJ.out (fun _ hk=>⟨hk.2,hk.1⟩))) hg hat);replace HB:=Az (hb);have aoS:=Az (ho);clear aZ ho hb hg hat))
      go_roundg k2
      case measure=>exact mO
      case rel=>exact⟨(y486),(wrap64 (cm+1)),rS,H',⟨mO⟩,⟨rU aoS.out⟩,⟨by(with_reducible repeat (first|apply Kd.pE|apply Kd.pB|apply Kd.pF));exact Kd.oI b9.out (fun _ hk=>hk.2)⟩,⟨bU0 HB.out⟩⟩
     ·
      have H':=Az H;clear H;obtain⟨jm,iJ,nj⟩:=Kd.yN b9.out;subst nj;have xJ:0<=(cm:Int):=oA;have xK:cm<(uk.length:Int):=oA;obtain⟨adu,aoM,aoN,SF,SG,Hg,Hh⟩:=Fu (Kd.Da b9.out).2.2 cm xJ xK
      cases SF
      obtain⟨aoO,SH,SI,Hj⟩:=Kd.NH b9.out [] cm xJ (by first|exact xK|exact oA|(have e_:=(Kd.Da b9.out).1;omega));obtain⟨aoP,rfl,Cm⟩:=SI;have vl:=Hj 0 _ rfl;rw[Nat.add_zero,show((Kd.slice 3 (Kd.int .i64))).sz=1 from rfl,Nat.mul_one]at vl;replace vl:=Option.some.inj (vl.symm.trans SG);rw[vl]at Cm;have SJ:=Az (show Kd.R (Kd.int .i64) 3 _ _ _ _ (d7 uk cm)from Cm);clear vl Cm Hj SH;have aoQ:=Az Hh;have aoR:=Az Hg;clear Hh Hg;replace xJ:=eq_true xJ;replace xK:=eq_true xK;go_wp2;go_roundg k2
      case measure=>exact mO
      case rel=>exact⟨(sP),(wrap64 (cm+1)),rS,H',⟨mO⟩,⟨rU aZ.out⟩,⟨sU b9.out⟩,⟨bU0 HB.out⟩⟩
    ·
     have H':=Az H;clear H;obtain⟨fA,eR,pO⟩:=Kd.yN b9.out;subst pO;go_wp2;go_roundg k2
     case measure=>exact mO
     case rel=>exact⟨(sP),(wrap64 (bg-1)),rS,H',⟨mO⟩,⟨rU aZ.out⟩,⟨sU b9.out⟩,⟨bU0 HB.out⟩⟩
  ·rw[if_neg c6]at H;have kk:=decide_eq_false c6;clear c6;obtain rfl:=Option.some.inj H;go_wp2;go_ret;exact⟨_,rE,rU aZ.out,bU0 HB.out⟩
end Go.Proofs.Ytlpbalebodlipaa.PL
