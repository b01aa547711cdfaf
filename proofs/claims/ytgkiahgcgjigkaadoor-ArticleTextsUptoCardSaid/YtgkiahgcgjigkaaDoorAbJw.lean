/- A part of the proof: AbJw. -/
import Derived.Test.YtgkiahgcgjigkaaDoorAbB
import Derived.Lib.ItoaNum
import Derived.Lib.LaidTab
set_option linter.all false
namespace Go.Ab
def JL:List Nat:=[0,1,2,3]
def JW(w:World):Prop:=(∃ m t f,w.heap[0]? = some (.cells #[.int .i64 m] t f))/\(∃ tp p t f,w.heap[1]? = some (.cells #[.iface tp p] t f))/\(∃ tp p t f,w.heap[2]? = some (.cells #[.iface tp p] t f)) /\
 ∃ t f,w.heap[3]? = some (.cells (Lib.pow10Tab.map fun z=>Value.int .u64 z).toArray t f)
theorem JW_lt{w:World}(h:JW w):∀ g∈JL,g<w.heap.size:=by
 obtain⟨⟨m,t,f,h0⟩,⟨_,_,_,_,h1⟩,⟨_,_,_,_,h2⟩,_,_,h3⟩:=h
 intro g hg
 simp only[JL,List.mem_cons,List.not_mem_nil,or_false]at hg
 rcases hg with rfl|rfl|rfl|rfl
 ·exact(Array.getElem?_eq_some_iff.1 h0).1
 ·exact(Array.getElem?_eq_some_iff.1 h1).1
 ·exact(Array.getElem?_eq_some_iff.1 h2).1
 ·exact(Array.getElem?_eq_some_iff.1 h3).1
theorem JW_of{w w':World}(h:JW w)(e:∀ g∈JL,w'.heap[g]? = w.heap[g]?):JW w':=by
 unfold JW
 rw[e 0 (by decide),e 1 (by decide),e 2 (by decide),e 3 (by decide)]
 exact h
end Go.Ab
