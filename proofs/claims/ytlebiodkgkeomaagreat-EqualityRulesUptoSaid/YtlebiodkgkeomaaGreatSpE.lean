/- A part of the proof: SpE. -/
import Derived.Test.YtlebiodkgkeomaaGreatAbU
set_option linter.all false
set_option linter.all false
namespace Go.Ab
mutual
def pre:Ty->List Ty
 | .mk v n a=>.mk v n a::pres a
def pres:List Ty->List Ty
 | []=>[]
 | t::l=>pre t++pres l
end
theorem pre_at{t x:Ty}{k:Nat}(h:t.a[k]? = some x)(j:Nat)(y:Ty)(hj:(pre x)[j]? = some y):(pre t)[1+(pres (t.a.take k)).length+j]? = some y:=by
 have go:∀(l:List Ty) (k:Nat),l[k]? = some x->(pres l)[(pres (l.take k)).length+j]? = some y:=by
  intro l
  induction l with
  | nil=>intro k h;simp at h
  | cons z l ih =>
   intro k h
   cases k with
   | zero =>
    simp at h
    subst h
    simp only[List.take_zero,pres,List.length_nil,Nat.zero_add]
    rw[List.getElem?_append_left (List.getElem?_eq_some_iff.1 hj).1];exact hj
   | succ k =>
    simp only[List.take_succ_cons,pres,List.length_append]
    rw[Nat.add_assoc,List.getElem?_append_right (by omega),Nat.add_sub_cancel_left]
    exact ih k (by simpa using h)
 cases t with
 | mk v n a =>
  rw[pre,Nat.add_assoc,Nat.add_comm 1,List.getElem?_cons_succ]
  exact go a k h
theorem pres_take{l:List Ty}{x:Ty}{k:Nat}(h:l[k]? = some x):(pres (l.take (k+1))).length=(pres (l.take k)).length+(pre x).length:=by
 induction l generalizing k with
 | nil=>simp at h
 | cons z l ih =>
  cases k with
  | zero=>simp at h;subst h;simp[pres]
  | succ k=>have:=ih (k:=k) (by simpa using h);simp[pres,this];omega
end Go.Ab
