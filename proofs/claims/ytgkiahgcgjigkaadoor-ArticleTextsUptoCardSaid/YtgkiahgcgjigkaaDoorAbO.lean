/- A part of the proof: AbO. -/
import Derived.Test.YtgkiahgcgjigkaaDoorAbN
import Derived.Deep.LoopGhost
set_option linter.all false
set_option linter.unusedVariables false
namespace Go.Ab
open Go.RowKit
section
variable {P:Program} {Γ : Ctx} {N:Nat}
theorem Good.drew{st:AS}{a:Act}{w:World}(G:Good Γ N st a w):Good Γ N st a { w with drawn:=w.drawn+1 }:=by
 obtain⟨I,θ,S,hR⟩:=G.ex
 have hm:Mono I w I { w with drawn:=w.drawn+1 }:=⟨fun _ h=>h,fun _ _=>Same.refl _ _⟩
 refine⟨⟨I,θ,⟨S.below.drew,S.i0,S.inew,S.ilt,?_,?_,S.sep,S.iso,S.dom,S.own,S.pin,fun r q es h=>(S.map r q es h).mono (fun _ h=>h) (fun _ _=>Same.refl _ _) (fun _ h=>h) (fun _ _ _ h=>h)⟩,hR.mono hm⟩,G.size,G.defers.step fun _ _ h _=>h⟩
 ·intro r t cs h
  obtain⟨B,c,h1,h2,h3,h4,h5⟩:=S.box r t cs h
  exact⟨B,c,h1,h2,h3,h4,hm.rvs h5⟩
 ·intro r e sz els h
  obtain⟨v,xs,h1,h2,h3,h4,h5⟩:=S.row r e sz els h
  refine⟨v,xs,h1,h2.kept (row:=none) ⟨rfl,rfl,rfl,Nat.le_refl _,fun _ _ _=>rfl⟩ ?_,h3,hm.rvs h4,h5⟩
  cases v.ownBlock<;>simp
end
end Go.Ab
