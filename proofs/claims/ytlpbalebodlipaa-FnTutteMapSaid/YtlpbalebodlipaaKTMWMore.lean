/- A part of the proof of FnTutteMap. There are no conditions. -/
import Derived.Test.YtlpbalebodlipaaKTMWWords
import Derived.Test.YtlpbalebodlipaaKTMWLast
import Derived.Test.YtlpbalebodlipaaKTMWQPut
import Derived.Test.YtlpbalebodlipaaKTMWApart
import Derived.Test.YtlpbalebodlipaaKTMWFoot
import Derived.Test.YtlpbalebodlipaaKTMWKept
import Derived.Test.YtlpbalebodlipaaKTMWNEv
namespace Go.Proofs.YtlpbalebodlipaaW.PrintMore
open Go.RowKit Go.Proofs.YtlpbalebodlipaaW.PrintWords
namespace Kd
open Go.Proofs.YtlpbalebodlipaaW.PrintWords.Kd
end Kd
namespace Kd
open Go.Proofs.YtlpbalebodlipaaW.PrintWords.Kd
section
variable {α:Type} {d:Kd α} {e base g N:Nat} {ok:Nat->Prop} {W w1:World} {u v:Value} {xs:List α}
theorem oM (hu:d.R e W base ok u xs) (hb:Below W.heap.size W w1):d.R e w1 base (fun k=>ok k/\k<W.heap.size) u xs:=
 ah (kJ (rL hu) hb) (fun _ h=>⟨h.1,h.2.2.1⟩)
theorem I0 (hu:d.R e W base (fun k=>ok k/\k≠g) u xs) (hk:aE W w1 g none):d.R e w1 base (fun k=>ok k/\k<W.heap.size) u xs:=
 ah (vG (rL hu) hk (fun _ h=>h.1.2)) (fun _ h=>⟨h.1.1,h.2.2.1⟩)
theorem fW (h:d.R e w1 base (fun k=>ok k/\k<N) u xs) (hbase:∀k,v.ownBlock=some k->N<=k):d.R e w1 base (fun k=>(ok k/\some k≠v.ownBlock)/\k<N) u xs:=
 ah h (fun k hk=>⟨⟨hk.1,fun e=>Nat.lt_irrefl _ (Nat.lt_of_lt_of_le hk.2 (hbase k e.symm))⟩,hk.2⟩)
end
end Kd
theorem tH (k k':IntKind) (x y:Int):Builtin.max2 (.int k x) (.int k' y)=pure (.int k (if x<y then y else x)):=by simp only[Builtin.max2,gt_iff_lt]
theorem tW (k k':IntKind) (x y:Int):Builtin.min2 (.int k x) (.int k' y)=pure (.int k (if y<x then y else x)):=by simp only[Builtin.min2]
theorem tL (ats:Array TypeId) (ty:TypeId) (a b:Value):Builtin.max_ ats ty #[a,b]=(Builtin.max2 a b>>=fun s=>pure s):=by simp only[Builtin.max_,List.foldlM_cons,List.foldlM_nil]
theorem tB (ats:Array TypeId) (ty:TypeId) (a b:Value):Builtin.min_ ats ty #[a,b]=(Builtin.min2 a b>>=fun s=>pure s):=by simp only[Builtin.min_,List.foldlM_cons,List.foldlM_nil]
theorem tJ (ats:Array TypeId) (ty:TypeId) (a b c:Value):Builtin.max_ ats ty #[a,b,c]=(Builtin.max2 a b>>=fun s=>Builtin.max2 s c>>=fun s=>pure s):=by simp only[Builtin.max_,List.foldlM_cons,List.foldlM_nil]
theorem tE (ats:Array TypeId) (ty:TypeId) (a b c:Value):Builtin.min_ ats ty #[a,b,c]=(Builtin.min2 a b>>=fun s=>Builtin.min2 s c>>=fun s=>pure s):=by simp only[Builtin.min_,List.foldlM_cons,List.foldlM_nil]
theorem tM (ats:Array TypeId) (ty:TypeId) (a b c d:Value):Builtin.max_ ats ty #[a,b,c,d]=(Builtin.max2 a b>>=fun s=>Builtin.max2 s c>>=fun s=>Builtin.max2 s d>>=fun s=>pure s):=by simp only[Builtin.max_,List.foldlM_cons,List.foldlM_nil]
theorem tP (ats:Array TypeId) (ty:TypeId) (a b c d:Value):Builtin.min_ ats ty #[a,b,c,d]=(Builtin.min2 a b>>=fun s=>Builtin.min2 s c>>=fun s=>Builtin.min2 s d>>=fun s=>pure s):=by simp only[Builtin.min_,List.foldlM_cons,List.foldlM_nil]
end Go.Proofs.YtlpbalebodlipaaW.PrintMore
namespace Go.Proofs.YtlpbalebodlipaaW.PrintWords
open Go.RowKit
section
variable {P:Program} {ops:Array Oper} {rest:List Oper} {o:Oper} {a:Act} {Q:Exit->Act->World->Prop} {W:World}
theorem mf {b:Builtin} {xs:Array Operand} {ts:Array TypeId} (_ho:o.op= .call {callee:=.builtin b,args:=xs,argTypes:=ts}) (h:wpList P ops Q (o::rest) a W):wpList P ops Q (o::rest) a W:=h
end
def mx (a b:Int):Int:=if a<b then b else a
def mn (a b:Int):Int:=if b<a then b else a
theorem Nw (w:World) (n:Nat):w.drewN n=w.drewN n:=rfl
namespace Kd
section
variable {α:Type} {d:Kd α} {e base:Nat} {ok:Nat->Prop} {W w1:World} {v:Value} {xs:List α}
end
section
variable {α:Type} {d:Kd α} {e base g n cap:Nat} {ok oki okp:Nat->Prop} {W:World} {xs:List α} {i:Int} {c:List Value}
end
section
variable {α:Type} {d:Kd α} {e base b b' g N:Nat} {ok ok1:Nat->Prop} {W W2 w1:World} {u v:Value} {xs ys:List α} {S:Nat->Prop}
theorem IR (hE:d.E=[]) (h:d.R e W base ok1 v xs) (hok:∀k,v.ownBlock=some k->ok k):d.R e W base ok v xs:=ah (yJ hE h) (fun k hk=>hok k hk.symm)
theorem Aw (h:d.R e W base ok v xs) (hk:Kept W W2 S) (hne:∀k,ok k->¬S k):d.R e W2 base (fun k=>ok k/\(¬S k/\k<W.heap.size)) v xs:=
 XO (ah (rL h) (fun k hk=>⟨hk.1,hne k hk.1,hk.2.2.1⟩)) hk (fun _ hk=>hk.2.1)
theorem agD (h:Kd.S d e W base ok v xs) (hk:Kept W W2 S) (hne:∀k,ok k->¬S k):Kd.S d e W2 base (fun k=>ok k/\(¬S k/\k<W.heap.size)) v xs:=
 ah0 (oI (Yg h) (fun k hk=>⟨hk.1,hne k hk.1,hk.2.2.1⟩)) hk (fun _ hk=>hk.2.1)
theorem yV (hu:d.Q e W base ok u xs) (hb:Below W.heap.size W w1):d.Q e w1 base (fun k=>ok k/\k<W.heap.size) u xs:=ec (Ar (Dx hu) hb) (fun _ h=>⟨h.1,h.2.2.1⟩)
theorem ahP (hu:d.Q e W base (fun k=>ok k/\k≠g) u xs) (hk:aE W w1 g none):d.Q e w1 base (fun k=>ok k/\k<W.heap.size) u xs:=ec (pA (Dx hu) hk (fun _ h=>h.1.2)) (fun _ h=>⟨h.1.1,h.2.2.1⟩)
theorem pG (h:d.Q e w1 base (fun k=>ok k/\k<N) u xs) (hbase:∀k,v.ownBlock=some k->N<=k):d.Q e w1 base (fun k=>(ok k/\some k≠v.ownBlock)/\k<N) u xs:=
 ec h (fun k hk=>⟨⟨hk.1,fun e=>Nat.lt_irrefl _ (Nat.lt_of_lt_of_le hk.2 (hbase k e.symm))⟩,hk.2⟩)
end
end Kd
end Go.Proofs.YtlpbalebodlipaaW.PrintWords
namespace Go.Proofs.YtlpbalebodlipaaW.PrintWords
open Go.RowKit
namespace Kd
def V {α:Type} (d:Kd α) (_e:Nat) (W:World) (_base:Nat) (ok:Nat->Prop) (v:Value) (xs:List α):Prop:=∃A c,v= .slice A xs.length c/\xs.length<=c/\F d W ok A xs.length xs
section
variable {α β:Type} {d:Kd α} {e base base' n m c g N' lo hi:Nat} {ok ok' S:Nat->Prop} {w W w1:World} {A:Option Addr} {ad:Addr} {u v v1:Value} {xs:List α}
theorem Ao (h:V d e W base ok v xs) (hF:∀A,F d W ok A xs.length xs->F d w1 ok' A xs.length xs):V d e w1 base' ok' v xs:=by
 obtain⟨A,c,hv,hl,hf⟩:=h
 exact⟨A,c,hv,hl,hF A hf⟩
theorem kj (hl:xs.length<=c) (hf:F d W ok A xs.length xs):V d e W base ok (.slice A xs.length c) xs:=⟨A,c,rfl,hl,hf⟩
theorem II (h:V d e W base ok (.slice A n c) xs):n=xs.length/\n<=c/\F d W ok A xs.length xs:=by
 obtain⟨A',c',hv,hl,hf⟩:=h
 injection hv with ha hn hc
 subst ha;subst hc
 exact⟨hn,by rw[hn];exact hl,hf⟩
theorem pD (h:V d e W base ok (.slice A n c) xs):n=xs.length/\n<=c/\d.C W A xs.length xs:=⟨(II h).1,(II h).2.1,ahD (II h).2.2⟩
theorem V_F (h:V d e W base ok (.slice A n c) xs):F d W ok A n xs:=by
 obtain⟨hn,_,hf⟩:=II h
 rw[hn]
 exact hf
theorem qT (d:Kd α) (e:Nat) (W:World) (base:Nat) (ok:Nat->Prop):V d e W base ok (.slice none 0 0) []:=⟨none,0,rfl,Nat.le_refl _,agB d W ok⟩
theorem Db (h:V d e W base ok v xs) (hok:∀k,ok k->ok' k):V d e W base ok' v xs:=Ao h (fun _ hf=>Nu hf hok)
theorem MU (h:V d e W base ok v xs) (hb:Below W.heap.size W w1):V d e w1 base ok v xs:=Ao h (fun _ hf=>jc hf hb)
theorem ah1 (h:V d e W base ok v xs) (o:Obj):V d e (W.alloc o) base ok v xs:=Ao h (fun _ hf=>afm hf o)
theorem aga (h:V d e W base ok v xs):V d e W.drew base ok v xs:=Ao h (fun _ hf=>ahQ hf)
theorem afe (h:V d e W base ok v xs) (m:Nat):V d e (W.drewN m) base ok v xs:=Ao h (fun _ hf=>agp hf m)
theorem Dc (h:V d e W base ok v xs) (hbase:∀k,u.ownBlock=some k->W.heap.size<=k) (hb:Below W.heap.size W w1):V d e w1 base (fun k=>ok k/\some k≠u.ownBlock) v xs:=Ao h (fun _ hf=>ahJ hf hbase hb)
theorem Vz (h:V d e W base ok v xs) (a:Nat) (ha:W.heap.size<=a):V d e W base (fun k=>ok k/\k≠a) v xs:=Ao h (fun _ hf=>ahv hf a ha)
theorem Zb {l:List α} (hl:l.length<=c) (hf:F d W ok A l.length l):FK (Kd.slice e d) W ok l [.slice A l.length c]:=fun W' hW=>⟨A,c,rfl,hl,hf W' hW⟩
theorem Y3 {k:IntKind} {l:List Int} (h:(Kd.int k).C w (some ad) n l) (i:Int) (h0:0<=i) (h1:i<n):w.cell? (ad.add i.toNat)=some (.int k (rd l i)):=by
 obtain⟨ad',he,hc⟩:=pH h i h0 h1
 injection he with he
 subst he
 exact hc
theorem ahk {M:Nat->Prop} (h:d.R e w1 W.heap.size ok v xs) (hle:w.heap.size<=W.heap.size) (hM:∀k,w.heap.size<=k->M k):d.R e w1 W.heap.size (fun k=>M k/\ok k) v xs:=ah (rL h) (fun k hk=>⟨hM k (Nat.le_trans hle hk.2.1),hk.1⟩)
end
end Kd
end Go.Proofs.YtlpbalebodlipaaW.PrintWords
