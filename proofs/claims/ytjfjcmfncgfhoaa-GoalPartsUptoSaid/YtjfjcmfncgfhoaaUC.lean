/- A part of the proof: UC. -/
import Derived.Test.YtjfjcmfncgfhoaaX5
import Derived.KernelRfl
set_option linter.all false
set_option linter.all false
set_option maxRecDepth 100000
set_option maxHeartbeats 4000000
namespace Go.Ab.X
open Go.RowKit Go.Ab
theorem pureL_app : ∀ (a b : List AV), pureL (a ++ b) = (pureL a && pureL b)
  | [], b => by simp [pureL]
  | x :: a, b => by simp [pureL, pureL_app a b, Bool.and_assoc]
theorem pureE_mapC {α : Type} {C : α → List AV} (h : ∀ x, pureL (C x) = true) (l : List α) : pureE (List.map C l) = true := by
  induction l with
  | nil => rfl
  | cons x l ih => simp [pureE, h, ih]
inductive GT where
  | bool | int | u8 | str | ty | lty | tm | ltm | lint | fnc | sequent | lstr | walker
  deriving DecidableEq
structure Ssequent where
  hyps : (List Tm)
  concl : Tm
structure Swalker where
  vars : (List Tm)
  tyvs : (List ByteArray)
def gI : GT → Type
  | .bool => Bool
  | .int => Int
  | .u8 => Int
  | .str => ByteArray
  | .ty => Ty
  | .lty => (List Ty)
  | .tm => Tm
  | .ltm => (List Tm)
  | .lint => (List Int)
  | .fnc => Empty
  | .sequent => Ssequent
  | .lstr => (List ByteArray)
  | .walker => Swalker
def gsz : GT → Nat
  | .bool => 1
  | .int => 1
  | .u8 => 1
  | .str => 1
  | .ty => 3
  | .lty => 1
  | .tm => 7
  | .ltm => 1
  | .lint => 1
  | .fnc => 1
  | .sequent => 8
  | .lstr => 1
  | .walker => 2
def gst : GT → Bool
  | .bool => false
  | .int => false
  | .u8 => false
  | .str => false
  | .ty => true
  | .lty => false
  | .tm => true
  | .ltm => false
  | .lint => false
  | .fnc => false
  | .sequent => true
  | .lstr => false
  | .walker => true
def gel : GT → GT
  | .bool => .bool
  | .int => .int
  | .u8 => .u8
  | .str => .str
  | .ty => .ty
  | .lty => .ty
  | .tm => .tm
  | .ltm => .tm
  | .lint => .int
  | .fnc => .fnc
  | .sequent => .sequent
  | .lstr => .str
  | .walker => .walker
def gfts : GT → List GT
  | .bool => []
  | .int => []
  | .u8 => []
  | .str => []
  | .ty => [.bool, .str, .lty]
  | .lty => []
  | .tm => [.u8, .str, .ty, .int, .ltm]
  | .ltm => []
  | .lint => []
  | .fnc => []
  | .sequent => [.ltm, .tm]
  | .lstr => []
  | .walker => [.ltm, .lstr]
def C_bool (x : Bool) : List AV := [.b x]
def C_int (x : Int) : List AV := [.i .i64 x]
def C_u8 (x : Int) : List AV := [.i .u8 x]
def C_str (x : ByteArray) : List AV := [.s x]
def C_ty (x : Ty) : List AV := tyC x
def C_lty (x : (List Ty)) : List AV := [.sl false 3 (List.map C_ty x)]
def C_tm (x : Tm) : List AV := tmC x
def C_ltm (x : (List Tm)) : List AV := [.sl false 7 (List.map C_tm x)]
def C_lint (x : (List Int)) : List AV := [.sl false 1 (List.map C_int x)]
def C_fnc (x : Empty) : List AV := nomatch x
def C_sequent (x : Ssequent) : List AV := C_ltm x.hyps ++ (C_tm x.concl ++ [])
def C_lstr (x : (List ByteArray)) : List AV := [.sl false 1 (List.map C_str x)]
def C_walker (x : Swalker) : List AV := C_ltm x.vars ++ (C_lstr x.tyvs ++ [])
def gvw : (t : GT) → gI t → View GT gI
  | .bool, x => .bool x
  | .int, x => .int .i64 x
  | .u8, x => .int .u8 x
  | .str, x => .str x
  | .ty, x => .fds [⟨.bool, x.v⟩, ⟨.str, x.n⟩, ⟨.lty, x.a⟩]
  | .lty, x => .lst .ty x
  | .tm, x => .fds [⟨.u8, x.k⟩, ⟨.str, x.n⟩, ⟨.ty, x.y⟩, ⟨.int, x.i⟩, ⟨.ltm, x.s⟩]
  | .ltm, x => .lst .tm x
  | .lint, x => .lst .int x
  | .fnc, x => nomatch x
  | .sequent, x => .fds [⟨.ltm, x.hyps⟩, ⟨.tm, x.concl⟩]
  | .lstr, x => .lst .str x
  | .walker, x => .fds [⟨.ltm, x.vars⟩, ⟨.lstr, x.tyvs⟩]
def inj_bool (v : View GT gI) : Option Bool := match v with
  | .bool x => some x
  | _ => none
theorem inj_bool_ok (v : View GT gI) (x : Bool) (h : inj_bool v = some x) : gvw .bool x = v := by
  unfold inj_bool at h; split at h
  · cases h; rfl
  · cases h
def inj_int (v : View GT gI) : Option Int := match v with
  | .int .i64 x => some x
  | _ => none
theorem inj_int_ok (v : View GT gI) (x : Int) (h : inj_int v = some x) : gvw .int x = v := by
  unfold inj_int at h; split at h
  · cases h; rfl
  · cases h
def inj_u8 (v : View GT gI) : Option Int := match v with
  | .int .u8 x => some x
  | _ => none
theorem inj_u8_ok (v : View GT gI) (x : Int) (h : inj_u8 v = some x) : gvw .u8 x = v := by
  unfold inj_u8 at h; split at h
  · cases h; rfl
  · cases h
def inj_str (v : View GT gI) : Option ByteArray := match v with
  | .str x => some x
  | _ => none
theorem inj_str_ok (v : View GT gI) (x : ByteArray) (h : inj_str v = some x) : gvw .str x = v := by
  unfold inj_str at h; split at h
  · cases h; rfl
  · cases h
def inj_ty (v : View GT gI) : Option Ty := match v with
  | .fds [⟨.bool, y0⟩, ⟨.str, y1⟩, ⟨.lty, y2⟩] => some (Ty.mk y0 y1 y2)
  | _ => none
theorem inj_ty_ok (v : View GT gI) (x : Ty) (h : inj_ty v = some x) : gvw .ty x = v := by
  unfold inj_ty at h; split at h
  · cases h; rfl
  · cases h
def inj_lty (v : View GT gI) : Option (List Ty) := match v with
  | .lst .ty x => some x
  | _ => none
theorem inj_lty_ok (v : View GT gI) (x : (List Ty)) (h : inj_lty v = some x) : gvw .lty x = v := by
  unfold inj_lty at h; split at h
  · cases h; rfl
  · cases h
def inj_tm (v : View GT gI) : Option Tm := match v with
  | .fds [⟨.u8, y0⟩, ⟨.str, y1⟩, ⟨.ty, y2⟩, ⟨.int, y3⟩, ⟨.ltm, y4⟩] => some (Tm.mk y0 y1 y2 y3 y4)
  | _ => none
theorem inj_tm_ok (v : View GT gI) (x : Tm) (h : inj_tm v = some x) : gvw .tm x = v := by
  unfold inj_tm at h; split at h
  · cases h; rfl
  · cases h
def inj_ltm (v : View GT gI) : Option (List Tm) := match v with
  | .lst .tm x => some x
  | _ => none
theorem inj_ltm_ok (v : View GT gI) (x : (List Tm)) (h : inj_ltm v = some x) : gvw .ltm x = v := by
  unfold inj_ltm at h; split at h
  · cases h; rfl
  · cases h
def inj_lint (v : View GT gI) : Option (List Int) := match v with
  | .lst .int x => some x
  | _ => none
theorem inj_lint_ok (v : View GT gI) (x : (List Int)) (h : inj_lint v = some x) : gvw .lint x = v := by
  unfold inj_lint at h; split at h
  · cases h; rfl
  · cases h
def inj_sequent (v : View GT gI) : Option Ssequent := match v with
  | .fds [⟨.ltm, y0⟩, ⟨.tm, y1⟩] => some (Ssequent.mk y0 y1)
  | _ => none
theorem inj_sequent_ok (v : View GT gI) (x : Ssequent) (h : inj_sequent v = some x) : gvw .sequent x = v := by
  unfold inj_sequent at h; split at h
  · cases h; rfl
  · cases h
def inj_lstr (v : View GT gI) : Option (List ByteArray) := match v with
  | .lst .str x => some x
  | _ => none
theorem inj_lstr_ok (v : View GT gI) (x : (List ByteArray)) (h : inj_lstr v = some x) : gvw .lstr x = v := by
  unfold inj_lstr at h; split at h
  · cases h; rfl
  · cases h
def inj_walker (v : View GT gI) : Option Swalker := match v with
  | .fds [⟨.ltm, y0⟩, ⟨.lstr, y1⟩] => some (Swalker.mk y0 y1)
  | _ => none
theorem inj_walker_ok (v : View GT gI) (x : Swalker) (h : inj_walker v = some x) : gvw .walker x = v := by
  unfold inj_walker at h; split at h
  · cases h; rfl
  · cases h
def ginj : (t : GT) → View GT gI → Option (gI t)
  | .bool, v => inj_bool v
  | .int, v => inj_int v
  | .u8, v => inj_u8 v
  | .str, v => inj_str v
  | .ty, v => inj_ty v
  | .lty, v => inj_lty v
  | .tm, v => inj_tm v
  | .ltm, v => inj_ltm v
  | .lint, v => inj_lint v
  | .fnc, v => none
  | .sequent, v => inj_sequent v
  | .lstr, v => inj_lstr v
  | .walker, v => inj_walker v
def gC : (t : GT) → gI t → List AV
  | .bool, x => C_bool x
  | .int, x => C_int x
  | .u8, x => C_u8 x
  | .str, x => C_str x
  | .ty, x => C_ty x
  | .lty, x => C_lty x
  | .tm, x => C_tm x
  | .ltm, x => C_ltm x
  | .lint, x => C_lint x
  | .fnc, x => C_fnc x
  | .sequent, x => C_sequent x
  | .lstr, x => C_lstr x
  | .walker, x => C_walker x
def G : Uni := ⟨GT, gI, inferInstance, gsz, gst, gel, gfts, .bool, .int, .u8, .str, fun b => b, fun n => n, fun n => n, fun s => s, gvw, ginj, gC⟩
theorem len_bool (x : Bool) : (C_bool x).length = 1 := rfl
theorem pure_bool' (x : Bool) : pureL (C_bool x) = true := rfl
theorem cvw_bool (x : Bool) : C_bool x = cellsV gC gsz (gvw .bool x) := rfl
theorem len_int (x : Int) : (C_int x).length = 1 := rfl
theorem pure_int' (x : Int) : pureL (C_int x) = true := rfl
theorem cvw_int (x : Int) : C_int x = cellsV gC gsz (gvw .int x) := rfl
theorem len_u8 (x : Int) : (C_u8 x).length = 1 := rfl
theorem pure_u8' (x : Int) : pureL (C_u8 x) = true := rfl
theorem cvw_u8 (x : Int) : C_u8 x = cellsV gC gsz (gvw .u8 x) := rfl
theorem len_str (x : ByteArray) : (C_str x).length = 1 := rfl
theorem pure_str' (x : ByteArray) : pureL (C_str x) = true := rfl
theorem cvw_str (x : ByteArray) : C_str x = cellsV gC gsz (gvw .str x) := rfl
theorem len_ty (x : Ty) : (C_ty x).length = 3 := by exact tyC_length x
theorem pure_ty' (x : Ty) : pureL (C_ty x) = true := pure_ty x
theorem cvw_ty (x : Ty) : C_ty x = cellsV gC gsz (gvw .ty x) := by show tyC x = _; rw [tyC_eq, tysC_map]; rfl
theorem len_lty (x : (List Ty)) : (C_lty x).length = 1 := rfl
theorem pure_lty' (x : (List Ty)) : pureL (C_lty x) = true := by simp only [C_lty, pureL, pureB, pureE_mapC pure_ty', Bool.and_self]
theorem cvw_lty (x : (List Ty)) : C_lty x = cellsV gC gsz (gvw .lty x) := rfl
theorem len_tm (x : Tm) : (C_tm x).length = 7 := by exact tmC_length x
theorem pure_tm' (x : Tm) : pureL (C_tm x) = true := pure_tm x
theorem cvw_tm (x : Tm) : C_tm x = cellsV gC gsz (gvw .tm x) := by show tmC x = _; rw [tmC_eq, tmsC_map, tyC_eq, tysC_map]; show _ = [AV.i .u8 x.k] ++ ([AV.s x.n] ++ (tyC x.y ++ ([AV.i .i64 x.i] ++ ([AV.sl false 7 (List.map C_tm x.s)] ++ [])))); rw [tyC_eq, tysC_map]; rfl
theorem len_ltm (x : (List Tm)) : (C_ltm x).length = 1 := rfl
theorem pure_ltm' (x : (List Tm)) : pureL (C_ltm x) = true := by simp only [C_ltm, pureL, pureB, pureE_mapC pure_tm', Bool.and_self]
theorem cvw_ltm (x : (List Tm)) : C_ltm x = cellsV gC gsz (gvw .ltm x) := rfl
theorem len_lint (x : (List Int)) : (C_lint x).length = 1 := rfl
theorem pure_lint' (x : (List Int)) : pureL (C_lint x) = true := by simp only [C_lint, pureL, pureB, pureE_mapC pure_int', Bool.and_self]
theorem cvw_lint (x : (List Int)) : C_lint x = cellsV gC gsz (gvw .lint x) := rfl
theorem len_sequent (x : Ssequent) : (C_sequent x).length = 8 := by simp only [C_sequent, List.length_append, List.length_nil, len_ltm, len_tm]
theorem pure_sequent' (x : Ssequent) : pureL (C_sequent x) = true := by simp only [C_sequent, pureL_app, pureL, Bool.and_self, pure_ltm', pure_tm']
theorem cvw_sequent (x : Ssequent) : C_sequent x = cellsV gC gsz (gvw .sequent x) := rfl
theorem len_lstr (x : (List ByteArray)) : (C_lstr x).length = 1 := rfl
theorem pure_lstr' (x : (List ByteArray)) : pureL (C_lstr x) = true := by simp only [C_lstr, pureL, pureB, pureE_mapC pure_str', Bool.and_self]
theorem cvw_lstr (x : (List ByteArray)) : C_lstr x = cellsV gC gsz (gvw .lstr x) := rfl
theorem len_walker (x : Swalker) : (C_walker x).length = 2 := by simp only [C_walker, List.length_append, List.length_nil, len_lstr, len_ltm]
theorem pure_walker' (x : Swalker) : pureL (C_walker x) = true := by simp only [C_walker, pureL_app, pureL, Bool.and_self, pure_lstr', pure_ltm']
theorem cvw_walker (x : Swalker) : C_walker x = cellsV gC gsz (gvw .walker x) := rfl
theorem G_cvw : ∀ (t : GT) (x : gI t), gC t x = cellsV gC gsz (gvw t x)
  | .bool, x => cvw_bool x
  | .int, x => cvw_int x
  | .u8, x => cvw_u8 x
  | .str, x => cvw_str x
  | .ty, x => cvw_ty x
  | .lty, x => cvw_lty x
  | .tm, x => cvw_tm x
  | .ltm, x => cvw_ltm x
  | .lint, x => cvw_lint x
  | .fnc, x => nomatch x
  | .sequent, x => cvw_sequent x
  | .lstr, x => cvw_lstr x
  | .walker, x => cvw_walker x
theorem G_len : ∀ (t : GT) (x : gI t), (gC t x).length = gsz t
  | .bool, x => len_bool x
  | .int, x => len_int x
  | .u8, x => len_u8 x
  | .str, x => len_str x
  | .ty, x => len_ty x
  | .lty, x => len_lty x
  | .tm, x => len_tm x
  | .ltm, x => len_ltm x
  | .lint, x => len_lint x
  | .fnc, x => nomatch x
  | .sequent, x => len_sequent x
  | .lstr, x => len_lstr x
  | .walker, x => len_walker x
theorem G_stv : ∀ (t : GT) (x : gI t), gst t = (gvw t x).isRec
  | .bool, x => rfl
  | .int, x => rfl
  | .u8, x => rfl
  | .str, x => rfl
  | .ty, x => rfl
  | .lty, x => rfl
  | .tm, x => rfl
  | .ltm, x => rfl
  | .lint, x => rfl
  | .fnc, x => nomatch x
  | .sequent, x => rfl
  | .lstr, x => rfl
  | .walker, x => rfl
theorem G_pure : ∀ (t : GT) (x : gI t), pureL (gC t x) = true
  | .bool, x => pure_bool' x
  | .int, x => pure_int' x
  | .u8, x => pure_u8' x
  | .str, x => pure_str' x
  | .ty, x => pure_ty' x
  | .lty, x => pure_lty' x
  | .tm, x => pure_tm' x
  | .ltm, x => pure_ltm' x
  | .lint, x => pure_lint' x
  | .fnc, x => nomatch x
  | .sequent, x => pure_sequent' x
  | .lstr, x => pure_lstr' x
  | .walker, x => pure_walker' x
theorem G_inj : ∀ (t : GT) (v : View GT gI) (x : gI t), ginj t v = some x → gvw t x = v
  | .bool, v, x, h => inj_bool_ok v x h
  | .int, v, x, h => inj_int_ok v x h
  | .u8, v, x, h => inj_u8_ok v x h
  | .str, v, x, h => inj_str_ok v x h
  | .ty, v, x, h => inj_ty_ok v x h
  | .lty, v, x, h => inj_lty_ok v x h
  | .tm, v, x, h => inj_tm_ok v x h
  | .ltm, v, x, h => inj_ltm_ok v x h
  | .lint, v, x, h => inj_lint_ok v x h
  | .fnc, v, x, h => nomatch x
  | .sequent, v, x, h => inj_sequent_ok v x h
  | .lstr, v, x, h => inj_lstr_ok v x h
  | .walker, v, x, h => inj_walker_ok v x h
theorem G_injv : ∀ (t : GT) (x : gI t), ginj t (gvw t x) = some x
  | .bool, x => rfl
  | .int, x => rfl
  | .u8, x => rfl
  | .str, x => rfl
  | .ty, x => by cases x; rfl
  | .lty, x => rfl
  | .tm, x => by cases x; rfl
  | .ltm, x => rfl
  | .lint, x => rfl
  | .fnc, x => nomatch x
  | .sequent, x => rfl
  | .lstr, x => rfl
  | .walker, x => rfl
theorem G_ok : G.Ok := ⟨G_cvw, G_len, G_stv, G_inj, G_injv, G_pure, fun _ => rfl, fun _ => rfl, fun _ => rfl, fun _ => rfl⟩
def T (n : Nat) : Od G := .t n
def o (d : Nat) (q : Q G) : P1 G := .a (some d) (.q q)
def tyo (α : Type) (o : Option α) : Option α := o
abbrev tidTm : Nat := 27
end Go.Ab.X
