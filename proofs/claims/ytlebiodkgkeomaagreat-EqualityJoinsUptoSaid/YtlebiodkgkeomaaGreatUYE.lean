/- A part of the proof: UYE. -/
import Derived.Test.YtlebiodkgkeomaaGreatUT
import Derived.Shelf.Small.Strs
import Derived.Test.YtlebiodkgkeomaaGreatChecked
set_option linter.all false
set_option linter.all false
set_option maxRecDepth 100000
namespace Go.Proofs
open Go.RowKit
theorem c164(a b:ByteArray)(w:World) :
  Calls Tryz.prog 164 #[.string a,.string b] w fun e w'=>e=.returned (.int .i64 (Lib.compareBytes a.data.toList b.data.toList))/\w'=w:=by
 go_enter Tryz.func164,(rfl:Tryz.f164.ntmps=8)
 go_wp2
 rw[run_callFunc_extern Tryz.func180 (by kernel_rfl) (by kernel_rfl) (by kernel_rfl) (e:=Extern.BytealgCompare.compare) (by kernel_rfl),Lib.run_compareString]
 simp only[Result.andThen]
 rw[Oper.upon_value]
 go_wp2
 go_ret
 exact⟨rfl,rfl⟩
end Go.Proofs
namespace Go.Ab.X
open Go.RowKit Go.Ab
theorem cmp_pg(H:List (HB G))(args:List (N G))(Ho:List (HB G))(y:N G)(h:pCmp H args=some (Ho,y))(v:Nat)(B β:Nat->Value) :
  PG Go.Proofs.Tryz.prog 164 (absH β 0 H++pinsOf B (boxIx v 0 H)) (absL args) (absH β 0 Ho++pinsOf B (boxIx v 0 H)) y.abs:=by
 unfold pCmp at h
 split at h
 ·rename_i a b
  obtain⟨rfl,rfl⟩:Ho=[]/\y=.v .int (cmpB a b):=by cases h;exact⟨rfl,rfl⟩
  refine⟨fun _ _=>by kernel_rfl,fun I θ w vals S hv=>?_⟩
  have hv:RVs I θ w [.s a,.s b] vals:=hv
  simp only[RVs,RV]at hv
  obtain⟨v,r,rfl,⟨rfl,-⟩,v',r',rfl,⟨rfl,-⟩,rfl⟩:=hv
  refine(Go.Proofs.c164 a b w).mono ?_
  rintro e w' ⟨rfl,rfl⟩
  refine⟨_,I,θ,rfl,S,?_⟩
  show RV I θ w' (.i .i64 (cmpB a b)) _
  simp only[RV,cmpB,true_and]
  rcases cmpL_rng a.data.toList b.data.toList with h|h|h<;>rw[h]<;>decide
 ·cases h
theorem X_prims:primOk Go.Proofs.Tryz.prog X:=⟨fun H args Ho y h _ B β=>cmp_pg H args Ho y h _ B β,trivial⟩
theorem itsN{P:Program}{x:XFn G}(h:x.body.noRange=true):(bif x.body.noRange then True else x.body.its P):=by rw[h];trivial
theorem X_its:itsOk Go.Proofs.Tryz.prog X:=by
 unfold X
 repeat' (first|exact trivial|exact itsN (by kernel_rfl)|refine⟨?_,?_⟩|(show itsOk _ _))
theorem X_ok:TabOk Go.Proofs.Tryz.prog X:=tab_ok X_tab X_prims X_its
end Go.Ab.X
