/- A part of the proof: AbU. -/
import Derived.Test.YtgkiahgcgjigkaaDoorAbS
import Derived.Test.YtgkiahgcgjigkaaDoorAbT
set_option linter.all false
set_option linter.unusedVariables false
namespace Go.Ab
open Go.RowKit
def cI(k:IntKind)(n:Int):List AV:=[.i k n]
def cB(x:Bool):List AV:=[.b x]
theorem pureE_map{α:Type}{C:α->List AV}(h:∀ x,pureL (C x)=true):∀ l:List α,pureE (List.map C l)=true
 | []=>rfl
 | x::l=>by simp[pureE,h,pureE_map h l]
def ixL{α:Type}(l:List α)(n:Int):Option α:=if 0<=n then l[n.toNat]? else none
def ixS(l:ByteArray)(n:Int):Option Int:=if 0<=n then(l.data[n.toNat]?).map fun c=>(c.toNat:Int)else none
def lt{α β:Type}(x:α)(f:α->β):β:=f x
theorem dc{α:Type}{l:List α}{i:Nat}{x:α}{r:List α}(h:List.drop i l=x::r):decide ((i:Int)<(List.length l:Int))=true/\l[i]? = some x/\List.drop (i+1) l=r:=by
 have hlt:i<l.length:=by
  have:=congrArg List.length h
  simp only[List.length_drop,List.length_cons]at this
  omega
 rw[List.drop_eq_getElem_cons hlt]at h
 injection h with h1 h2
 exact⟨by simp only[decide_eq_true_eq];omega,by rw[List.getElem?_eq_getElem hlt,h1],h2⟩
theorem LEE.rfl':∀(xs:List (List AV)),LEE xs xs
 | []=>.nil
 | x::xs=>.cons _ _ _ _ (LEL.rfl' _) (LEE.rfl' xs)
theorem LEE.app:∀ {a b c d:List (List AV)},LEE a b->LEE c d->LEE (a++c) (b++d)
 | _,_,_,_,.nil,h=>h
 | _,_,_,_,.cons _ _ _ _ h hs,k=>.cons _ _ _ _ h (LEE.app hs k)
theorem LEE.set:∀ {a b:List (List AV)} (i:Nat) {x y:List AV},LEE a b->LEL x y->LEE (a.set i x) (b.set i y)
 | _,_,_,_,_,.nil,_=>.nil
 | _,_,0,_,_,.cons _ _ _ _ h hs,k=>.cons _ _ _ _ k hs
 | _,_,i+1,_,_,.cons _ _ _ _ h hs,k=>.cons _ _ _ _ h (LEE.set i hs k)
section
open Classical
noncomputable def only{α β:Type}(p:α->Prop)(f:α->β):α->Option β:=fun x=>if p x then some (f x)else none
end
end Go.Ab
