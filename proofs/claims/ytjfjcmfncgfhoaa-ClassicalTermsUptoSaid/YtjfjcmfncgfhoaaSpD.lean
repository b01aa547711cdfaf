/- A part of the proof: SpD. -/
import Derived.Test.YtjfjcmfncgfhoaaSpC
set_option linter.all false
set_option linter.unusedVariables false
namespace Go.Ab
open Go.RowKit
theorem cmpB_refl (a : ByteArray) : cmpB a a = 0 := by rw [cmpB_eq]; simp
theorem lexL_refl {α : Type} {f : α → α → Int} : ∀ (l : List α), (∀ x ∈ l, f x x = 0) → lexL f l l = 0
  | [], _ => rfl
  | x :: l, h => by
    simp only [lexL, h x (List.mem_cons_self ..), ne_eq, not_true, if_false]
    exact lexL_refl l fun y hy => h y (List.mem_cons_of_mem _ hy)
theorem cmpTy_refl : ∀ t : Ty, cmpTy t t = 0 := Ty.ind fun t ih => by
  rw [cmpTy_eq, lexL_refl t.a ih]; simp
theorem cmpI_refl (a : Int) : cmpI a a = 0 := by simp [cmpI]
theorem cmpTm_refl : ∀ t : Tm, cmpTm t t = 0 := Tm.ind fun t ih => by
  rw [cmpTm_eq, lexL_refl t.s ih, cmpI_refl, cmpI_refl, cmpI_refl, cmpTy_refl, cmpB_refl]; simp [orI]
def zeroY : Ty := .mk false ⟨#[]⟩ []
def zeroT : Tm := .mk 0 ⟨#[]⟩ zeroY 0 []
def bvT (i : Int) : Tm := .mk 3 ⟨#[]⟩ zeroY i []
/-! A variable made a bound variable -/
mutual
def bindT : Tm → Tm → Int → Tm
  | .mk k n y i s, v, d => if k = 1 ∧ cmpTm (.mk k n y i s) v = 0 then bvT d else .mk k n y i (bindTs s v (if k = 5 then d + 1 else d))
def bindTs : List Tm → Tm → Int → List Tm
  | [], _, _ => []
  | t :: l, v, d => bindT t v d :: bindTs l v d
end
theorem bindTs_map (v : Tm) (d : Int) : ∀ l : List Tm, bindTs l v d = l.map fun t => bindT t v d
  | [] => rfl
  | t :: l => by simp [bindTs, bindTs_map v d l]
theorem bindT_eq (t v : Tm) (d : Int) : bindT t v d = if t.k = 1 ∧ cmpTm t v = 0 then bvT d else .mk t.k t.n t.y t.i (t.s.map fun x => bindT x v (if t.k = 5 then d + 1 else d)) := by
  cases t; rw [bindT, bindTs_map]; rfl
theorem bkTs_map {f : Tm → Tm} : ∀ (l : List Tm), (∀ x ∈ l, bkT (f x) ≤ bkT x) → bkTs (l.map f) ≤ bkTs l
  | [], _ => Nat.le_refl _
  | x :: l, h => by
    have h1 := h x (List.mem_cons_self ..)
    have h2 := bkTs_map l fun y hy => h y (List.mem_cons_of_mem _ hy)
    simp only [List.map_cons, bkTs]; omega
theorem bkY_pos (t : Ty) : 1 ≤ bkY t := by have := bkY_eq t; omega
theorem bindT_bk : ∀ (t v : Tm) (d : Int), bkT (bindT t v d) ≤ bkT t := fun t v => Tm.ind (p := fun t => ∀ d, bkT (bindT t v d) ≤ bkT t) (fun t ih d => by
  rw [bindT_eq]
  have h := bkT_eq t
  split
  · have : bkT (bvT d) = 2 := by have e3 : (ByteArray.size ⟨#[]⟩) = 0 := rfl
                                 simp [bvT, zeroY, bkT, bkY, bkYs, bkTs, e3]
    have := bkY_pos t.y
    omega
  · have := bkTs_map (f := fun x => bindT x v (if t.k = 5 then d + 1 else d)) t.s fun x hx => ih x hx _
    simp only [bkT]
    omega) t
end Go.Ab
