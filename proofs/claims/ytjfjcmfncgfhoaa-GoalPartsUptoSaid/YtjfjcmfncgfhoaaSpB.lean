/- A part of the proof: SpB. -/
import Derived.Test.YtjfjcmfncgfhoaaSpA
import Derived.Test.YtjfjcmfncgfhoaaAbU
import Derived.Shelf.Small.Strs
set_option linter.all false
set_option linter.unusedVariables false
namespace Go.Ab
open Go.RowKit
/-! ### Plain functions on types and terms, with no program in sight -/
section
open Classical
/-- x, if p holds. -/
noncomputable def og {α : Type} (p : Prop) (x : α) : Option α := if p then some x else none
theorem og_pos {α : Type} {p : Prop} {x : α} (h : p) : og p x = some x := if_pos h
theorem og_of {α : Type} {p : Prop} {x r : α} (h : og p x = some r) : p ∧ x = r := by
  unfold og at h
  split at h
  · exact ⟨by assumption, Option.some.inj h⟩
  · cases h
end
theorem ixL_nat {α : Type} (l : List α) (i : Nat) : ixL l (i : Int) = l[i]? := by simp [ixL]
theorem ixS_nat (s : ByteArray) (i : Nat) : ixS s (i : Int) = (s.data[i]?).map fun c => (c.toNat : Int) := by simp [ixS]
theorem lt_eq {α β : Type} (x : α) (f : α → β) : lt x f = f x := rfl
theorem drop_get {α : Type} {l : List α} {i : Nat} (h : i < l.length) : ∃ x, l[i]? = some x ∧ l.drop i = x :: l.drop (i + 1) :=
  ⟨l[i], List.getElem?_eq_getElem h, List.drop_eq_getElem_cons h⟩
/-- The first place that tells two lists apart. -/
def lexL {α : Type} (f : α → α → Int) : List α → List α → Int
  | x :: l, y :: r => if f x y ≠ 0 then f x y else lexL f l r
  | _, _ => 0
/-! Bytes -/
def cmpB (a b : ByteArray) : Int := Lib.compareBytes a.data.toList b.data.toList
theorem cmpL_rng : ∀ (a b : List UInt8), Lib.compareBytes a b = -1 ∨ Lib.compareBytes a b = 0 ∨ Lib.compareBytes a b = 1
  | [], [] => by simp [Lib.compareBytes]
  | [], _ :: _ => by simp [Lib.compareBytes]
  | _ :: _, [] => by simp [Lib.compareBytes]
  | a :: l, b :: bs => by
    unfold Lib.compareBytes
    split
    · simp
    · split
      · simp
      · exact cmpL_rng l bs
theorem cmpL_eq : ∀ (a b : List UInt8), Lib.compareBytes a b = if a = b then 0 else if Op.bytesLess a b = true then -1 else 1
  | [], [] => by simp [Lib.compareBytes]
  | [], _ :: _ => by simp [Lib.compareBytes, Op.bytesLess]
  | _ :: _, [] => by simp [Lib.compareBytes, Op.bytesLess]
  | a :: l, b :: r => by
    unfold Lib.compareBytes Op.bytesLess
    by_cases h1 : a < b
    · have : a ≠ b := by intro e; subst e; exact absurd h1 (UInt8.lt_irrefl a)
      simp [h1, this]
    · by_cases h2 : b < a
      · have : a ≠ b := by intro e; subst e; exact absurd h2 (UInt8.lt_irrefl a)
        simp [h1, h2, this]
      · have : a = b := UInt8.le_antisymm (UInt8.not_lt.1 h2) (UInt8.not_lt.1 h1)
        subst this
        simp [h1, cmpL_eq l r]
theorem toL_eq (a : ByteArray) : a.toList = a.data.toList := ByteArray.toList_eq a
theorem ba_ext {a b : ByteArray} (h : a.data.toList = b.data.toList) : a = b := ByteArray.ext (Array.toList_inj.1 h)
theorem cmpB_eq (a b : ByteArray) : cmpB a b = if a = b then 0 else if blt a b = true then -1 else 1 := by
  unfold cmpB blt
  rw [cmpL_eq, toL_eq, toL_eq]
  by_cases h : a = b
  · subst h; simp
  · have : ¬ a.data.toList = b.data.toList := fun e => h (ba_ext e)
    simp [h, this]
/-! The order of types -/
mutual
def cmpTy : Ty → Ty → Int
  | .mk v n a, u => if v ≠ u.v then (if v = true then -1 else 1) else if n ≠ u.n then (if blt n u.n = true then -1 else 1) else
    if a.length ≠ u.a.length then (if a.length < u.a.length then -1 else 1) else cmpTys a u.a
def cmpTys : List Ty → List Ty → Int
  | t :: l, us => match us with
    | u :: r => if cmpTy t u ≠ 0 then cmpTy t u else cmpTys l r
    | [] => 0
  | [], _ => 0
end
theorem cmpTys_lex : ∀ l r : List Ty, cmpTys l r = lexL cmpTy l r
  | [], r => by simp only [cmpTys, lexL]
  | t :: l, [] => by simp only [cmpTys, lexL]
  | t :: l, u :: r => by simp only [cmpTys, lexL, cmpTys_lex l r]
theorem cmpTy_eq (t u : Ty) : cmpTy t u = if t.v ≠ u.v then (if t.v = true then -1 else 1) else if t.n ≠ u.n then (if blt t.n u.n = true then -1 else 1) else
    if t.a.length ≠ u.a.length then (if t.a.length < u.a.length then -1 else 1) else lexL cmpTy t.a u.a := by
  cases t; cases u; simp only [cmpTy, Ty.v, Ty.n, Ty.a, cmpTys_lex]; rfl
/-! How much there is -/
mutual
def bkY : Ty → Nat
  | .mk _ n s => 1 + n.size + bkYs s
def bkYs : List Ty → Nat
  | [] => 0
  | t :: l => bkY t + bkYs l
end
mutual
def bkT : Tm → Nat
  | .mk _ n y _ s => 1 + n.size + bkY y + bkTs s
def bkTs : List Tm → Nat
  | [] => 0
  | t :: l => bkT t + bkTs l
end
theorem bkY_eq (t : Ty) : bkY t = 1 + t.n.size + bkYs t.a := by cases t; simp [bkY, Ty.n, Ty.a]
theorem bkT_eq (t : Tm) : bkT t = 1 + t.n.size + bkY t.y + bkTs t.s := by cases t; simp [bkT, Tm.n, Tm.y, Tm.s]
theorem bkYs_mem : ∀ {l : List Ty} {x : Ty}, x ∈ l → bkY x ≤ bkYs l
  | t :: l, x, h => by
    rcases List.mem_cons.1 h with rfl | h
    · simp [bkYs]
    · have := bkYs_mem h; simp only [bkYs]; omega
theorem bkTs_mem : ∀ {l : List Tm} {x : Tm}, x ∈ l → bkT x ≤ bkTs l
  | t :: l, x, h => by
    rcases List.mem_cons.1 h with rfl | h
    · simp [bkTs]
    · have := bkTs_mem h; simp only [bkTs]; omega
mutual
theorem szY_bk : ∀ t : Ty, szY t ≤ bkY t
  | .mk _ n s => by have := szYs_bk s; simp only [szY, bkY]; omega
theorem szYs_bk : ∀ l : List Ty, szYs l ≤ bkYs l
  | [] => by simp [szYs]
  | t :: l => by have := szY_bk t; have := szYs_bk l; simp only [szYs, bkYs]; omega
end
mutual
theorem szT_bk : ∀ t : Tm, szT t ≤ bkT t
  | .mk _ n y _ s => by have := szTs_bk s; simp only [szT, bkT]; omega
theorem szTs_bk : ∀ l : List Tm, szTs l ≤ bkTs l
  | [] => by simp [szTs]
  | t :: l => by have := szT_bk t; have := szTs_bk l; simp only [szTs, bkTs]; omega
end
/-! Names -/
def badC (c : Int) : Bool := decide (c < 33) || (decide (126 < c) || (decide (c = 40) || (decide (c = 41) || (decide (c = 44) || (decide (c = 58) || (decide (c = 92) || (decide (c = 46) || decide (c = 34))))))))
def goodL : List UInt8 → Bool
  | [] => true
  | c :: l => !badC (c.toNat : Int) && goodL l
/-- A name. -/
def nameB (s : ByteArray) : Bool := decide (1 ≤ s.size) && (decide (s.size ≤ 30) && goodL s.data.toList)
def fstC (s : ByteArray) : Int := match s.data[0]? with
  | some c => c.toNat
  | none => 0
/-! Is a type formed? -/
mutual
def shapeY : Ty → Bool
  | .mk v n a => nameB n && (v == decide (fstC n = 39)) && (if v = true then decide (a.length = 0) else decide (a.length ≤ 8)) && shapeYs a
def shapeYs : List Ty → Bool
  | [] => true
  | t :: l => shapeY t && shapeYs l
end
theorem shapeY_eq (t : Ty) : shapeY t = (nameB t.n && (t.v == decide (fstC t.n = 39)) && (if t.v = true then decide (t.a.length = 0) else decide (t.a.length ≤ 8)) && shapeYs t.a) := by
  cases t; rw [shapeY]; rfl
/-- A valid type. -/
def validY (t : Ty) : Bool := decide (szY t ≤ 500) && decide (dpY t ≤ 200) && shapeY t
theorem take_set_succ {α : Type} : ∀ {ls : List α} {i : Nat} {x : α}, i < ls.length → (ls.set i x).take (i + 1) = ls.take i ++ [x]
  | [], i, x, h => by simp at h
  | y :: ls, 0, x, h => by simp
  | y :: ls, i + 1, x, h => by simp at h; simp [take_set_succ h]
end Go.Ab
