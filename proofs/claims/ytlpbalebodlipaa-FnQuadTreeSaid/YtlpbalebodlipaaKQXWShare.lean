/- A part of the proof of FnQuadTree. There are no conditions. -/
import Derived.Test.YtlpbalebodlipaaKQXWKept
namespace Go.Proofs.YtlpbalebodlipaaW.PrintWords
open Go.RowKit
def eF(P:World->Prop)(W:World)(ok:Nat->Prop):Prop:=∀W':World,(∀k,ok k->k<W.heap.size->W'.heap[k]?=W.heap[k]?)->P W'
theorem HG{W W1:World}{k:Nat}(h:W1.heap[k]?=W.heap[k]?)(hlt:k<W.heap.size):k<W1.heap.size:=by
 rw[Array.getElem?_eq_getElem hlt]at h;exact(Array.getElem?_eq_some_iff.1 h).1
namespace eF
variable {P Q:World->Prop} {W W1:World} {ok ok':Nat->Prop}
theorem now(h:eF P W ok):P W:=h W (fun _ _ _=>rfl)
theorem mono(h:eF P W ok)(r:∀k,ok k->ok' k):eF P W ok':=fun W' hW=>h W' (fun k hk hlt=>hW k (r k hk) hlt)
theorem bound(h:eF P W ok):eF P W (fun k=>ok k/\k<W.heap.size):=fun W' hW=>h W' (fun k hk hlt=>hW k ⟨hk,hlt⟩ hlt)
theorem step(h:eF P W ok)(hm:∀k,ok k->k<W.heap.size->W1.heap[k]?=W.heap[k]?):eF P W1 ok:=fun W' hW=>h W' (fun k hk hlt=>(hW k hk (HG (hm k hk hlt) hlt)).trans (hm k hk hlt))
theorem imp(h:eF P W ok)(hi:∀W',P W'->Q W'):eF Q W ok:=fun W' hW=>hi W' (h W' hW)
theorem old(h:eF P W ok)(hb:Below W.heap.size W W1):eF P W1 (fun k=>ok k/\k<W.heap.size):=(h.bound).step (fun k _ hlt=>hb.block k hlt)
end eF
namespace Kd
def F{α:Type}(d:Kd α)(W:World)(ok:Nat->Prop)(A:Option Addr)(n:Nat)(xs:List α):Prop:=eF (fun W=>d.C W A n xs) W ok
def FK{α:Type}(d:Kd α)(W:World)(ok:Nat->Prop)(x:α)(c:List Value):Prop:=eF (fun W=>d.K W x c) W ok
section
variable {α β:Type} {d:Kd α} {e base n n' cc g N:Nat} {ok ok' okp S:Nat->Prop} {w w0 w1 W W1:World} {A A':Option Addr} {u v v1:Value} {xs:List α} {l:List β} {d':Kd β} {x:α} {c:List Value}
theorem FL(h:F d W ok A n xs):d.C W A n xs:=eF.now h
theorem vF(h:F d W ok A n xs)(r:∀k,ok k->ok' k):F d W ok' A n xs:=eF.mono h r
theorem FW(h:F d W ok A n xs):F d W (fun k=>ok k/\k<W.heap.size) A n xs:=eF.bound h
theorem G7(h:F d W ok A n xs)(hm:∀k,ok k->k<W.heap.size->W1.heap[k]?=W.heap[k]?):F d W1 ok A n xs:=eF.step h hm
theorem dZ(h:F d W ok A n xs)(hb:Below W.heap.size W W1):F d W1 ok A n xs:=G7 h (fun k _ hlt=>hb.block k hlt)
theorem Hu(h:F d W ok A n xs)(o:Obj):F d (W.alloc o) ok A n xs:=dZ h (bK (Below.refl _ _) o)
theorem DF(h:F d W ok A n xs):F d W.drew ok A n xs:=dZ h (ni (Below.refl _ _))
theorem FZ(h:F d W ok A n xs)(m:Nat):F d (W.drewN m) ok A n xs:=dZ h (cg (Below.refl _ _) m)
theorem Gc(d:Kd α)(W:World)(ok:Nat->Prop):F d W ok none ([]:List α).length []:=fun W' _=>Ie d W'
theorem ED(h:F d W ok A n xs)(C:∀k,v.ownBlock=some k->W.heap.size<=k)(hb:Below W.heap.size W W1):F d W1 (fun k=>ok k/\some k≠v.ownBlock) A n xs:=
 vF (eF.old h hb) (fun k hk=>⟨hk.1,fun he=>by have:=C k he.symm;have:=hk.2;omega⟩)
theorem GI(h:F d W ok A n xs)(a:Nat)(ha:W.heap.size<=a):F d W (fun k=>ok k/\k≠a) A n xs:=vF (FW h) (fun k hk=>⟨hk.1,by have:=hk.2;omega⟩)
theorem C_F(hd:Heap d)(h:d.C w A n xs):F d w (fun k=>k<w.heap.size) A n xs:=fun _ hW=>hd.C (fun k hlt=>hW k hlt hlt) h
theorem uY(h:FK d W ok x c):d.K W x c:=eF.now h
theorem wU(h:FK d W ok x c)(r:∀k,ok k->ok' k):FK d W ok' x c:=eF.mono h r
theorem xq(h:FK d W ok x c):FK d W (fun k=>ok k/\k<W.heap.size) x c:=eF.bound h
theorem yb(h:FK d W ok x c)(hm:∀k,ok k->k<W.heap.size->W1.heap[k]?=W.heap[k]?):FK d W1 ok x c:=eF.step h hm
theorem FY(h:d.M W base ok x c):FK d W ok x c:=fun _ hW=>d.K_of_M (wu h hW)
end
end Kd
end Go.Proofs.YtlpbalebodlipaaW.PrintWords
