/- A part of the proof of FnQuadTree. There are no conditions. -/
import Derived.Test.YtlpbalebodlipaaKQXWTab
namespace Go.Proofs.YtlpbalebodlipaaW.PrintLast
section
variable {P:Program} {D:Array Oper} {Q:Exit->Act->World->Prop} {md:Region.Mode} {S:World->Prop} {ds:List Nat} {T:Bool×List (List Nat×List Nat)}
theorem rP{i j k m n q:Nat}{l li lj lk lm ln lq:Array Bool}(hT:bT md D=T)(h:(mz T.2 l.toList==[i,j,k,m,n,q]&&l.toList.set i true==li.toList&&l.toList.set j true==lj.toList&&l.toList.set k true==lk.toList&&l.toList.set m true==lm.toList&&l.toList.set n true==ln.toList&&l.toList.set q true==lq.toList)=true):(Region.ready md D l==[i,j,k,m,n,q]&&l.setIfInBounds i true==li&&l.setIfInBounds j true==lj&&l.setIfInBounds k true==lk&&l.setIfInBounds m true==lm&&l.setIfInBounds n true==ln&&l.setIfInBounds q true==lq)=true:=by
 simp only[Bool.and_eq_true]at h ⊢;obtain⟨⟨⟨⟨⟨⟨hr,f⟩,d⟩,c⟩,b⟩,a⟩,e⟩:=h;subst hT;exact⟨⟨⟨⟨⟨⟨by rw[ready_eq];exact hr,iT f⟩,iT d⟩,iT c⟩,iT b⟩,iT a⟩,iT e⟩
end
end Go.Proofs.YtlpbalebodlipaaW.PrintLast
