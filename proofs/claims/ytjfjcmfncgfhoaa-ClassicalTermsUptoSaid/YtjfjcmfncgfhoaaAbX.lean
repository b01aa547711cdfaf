/- A part of the proof: AbX. -/
import Derived.Test.YtjfjcmfncgfhoaaAbW
set_option linter.all false
set_option linter.unusedVariables false
namespace Go.Ab
open Go.RowKit

/-! ### Rows and variables under other numbers -/
def posL : List Nat → Nat → Option Nat
  | [], _ => none
  | k :: l, r => bif k == r then some 0 else (posL l r).map (· + 1)
theorem posL_get : ∀ {l : List Nat} {r q : Nat}, posL l r = some q → l[q]? = some r
  | [], _, _, h => by simp [posL] at h
  | k :: l, r, q, h => by
    simp only [posL] at h
    by_cases e : k = r
    · subst e; simp at h; subst h; rfl
    · rw [beq_eq_false_iff_ne.2 e, cond_false] at h
      obtain ⟨p, hp, rfl⟩ := Option.map_eq_some_iff.1 h
      simpa using posL_get hp
def nuAt (f : Option Nat) (k : Nat → AV) : AV := match f with
  | some q => k q
  | none => .u
mutual
/-- A row or variable r is told as the one numbered f r; or as nothing. -/
def rn (f : Nat → Option Nat) : AV → AV
  | .agg cs => .agg (rnL f cs)
  | .tup cs => .tup (rnL f cs)
  | .fn g a b => .fn g (rnL f a) (rnL f b)
  | .row r => nuAt (f r) .row
  | .ptr r j => nuAt (f r) (.ptr · j)
  | .rptr r sz i j => nuAt (f r) (.rptr · sz i j)
  | .sl t sz els => .sl t sz els
  | .ip cs => .ip cs
  | .u => .u
  | .i k m => .i k m
  | .b x => .b x
  | .s x => .s x
  | .nils => .nils
  | .nilp => .nilp
  | .nilf => .nilf
  | .nili => .nili
def rnL (f : Nat → Option Nat) : List AV → List AV
  | [] => []
  | c :: cs => rn f c :: rnL f cs
end
def rnE (f : Nat → Option Nat) : List (List AV) → List (List AV)
  | [] => []
  | c :: cs => rnL f c :: rnE f cs
def rnB (f : Nat → Option Nat) : AB → AB
  | .gone => .gone
  | .box t cs => .box t (rnL f cs)
  | .row e sz els => .row e sz (rnE f els)
section
variable {I : Addr → Prop} {θ θ' : Nat → Option Value} {w : World} {f : Nat → Option Nat}
mutual
theorem RV_rn (hθ : ∀ q q' v, f q = some q' → θ q = some v → θ' q' = some v) : ∀ (x : AV) (v : Value), RV I θ w x v → RV I θ' w (rn f x) v
  | .u, _, _ => by simp [RV, rn]
  | .i _ _, _, h => by simpa [RV, rn] using h
  | .b _, _, h => by simpa [RV, rn] using h
  | .s _, _, h => by simpa [RV, rn] using h
  | .agg cs, v, h => by
    simp only [RV, rn] at h ⊢
    obtain ⟨vs, e, h0, h⟩ := h
    exact ⟨vs, e, h0, RVs_rn hθ cs vs h⟩
  | .tup cs, v, h => by
    simp only [RV, rn] at h ⊢
    obtain ⟨vs, e, h⟩ := h
    exact ⟨vs, e, RVs_rn hθ cs vs h⟩
  | .sl t sz els, v, h => by
    have hp : pureB (.sl t sz els) = true := by simp only [RV] at h; simpa [pureB] using h.1
    exact RV_pure (fun _ h => h) (fun _ _ => rfl) _ v hp h
  | .nils, _, h => by simpa [RV, rn] using h
  | .row r, v, h => by
    simp only [RV] at h
    simp only [rn]
    cases e : f r with
    | none => simp [nuAt, RV]
    | some q => simp only [nuAt, RV]; exact ⟨hθ _ _ _ e h.1, h.2⟩
  | .ptr r j, v, h => by
    simp only [RV] at h
    simp only [rn]
    cases e : f r with
    | none => simp [nuAt, RV]
    | some q =>
      obtain ⟨B, h1, h2⟩ := h
      simp only [nuAt, RV]; exact ⟨B, hθ _ _ _ e h1, h2⟩
  | .rptr r sz i j, v, h => by
    simp only [RV] at h
    simp only [rn]
    cases e : f r with
    | none => simp [nuAt, RV]
    | some q =>
      obtain ⟨B, l, c, h1, h2⟩ := h
      simp only [nuAt, RV]; exact ⟨B, l, c, hθ _ _ _ e h1, h2⟩
  | .ip cs, v, h => by
    have hp : pureB (.ip cs) = true := by simp only [RV] at h; simpa [pureB] using h.1
    exact RV_pure (fun _ h => h) (fun _ _ => rfl) _ v hp h
  | .nilp, _, h => by simpa [RV, rn] using h
  | .fn g a b, v, h => by
    simp only [RV, rn] at h ⊢
    obtain ⟨x, y, e, h1, h2⟩ := h
    exact ⟨x, y, e, RVs_rn hθ a x h1, RVs_rn hθ b y h2⟩
  | .nilf, _, h => by simpa [RV, rn] using h
  | .nili, _, h => by simpa [RV, rn] using h
theorem RVs_rn (hθ : ∀ q q' v, f q = some q' → θ q = some v → θ' q' = some v) : ∀ (xs : List AV) (vs : List Value), RVs I θ w xs vs → RVs I θ' w (rnL f xs) vs
  | [], _, h => by simpa [RVs, rnL] using h
  | c :: cs, vs, h => by
    simp only [RVs, rnL] at h ⊢
    obtain ⟨v, r, e, h1, h2⟩ := h
    exact ⟨v, r, e, RV_rn hθ c v h1, RVs_rn hθ cs r h2⟩
end
theorem rnL_app : ∀ (a b : List AV), rnL f (a ++ b) = rnL f a ++ rnL f b
  | [], b => rfl
  | x :: a, b => by simp [rnL, rnL_app a b]
theorem rnL_len : ∀ (a : List AV), (rnL f a).length = a.length
  | [] => rfl
  | x :: a => by simp [rnL, rnL_len a]
theorem rnE_flat : ∀ (els : List (List AV)), (rnE f els).flatten = rnL f els.flatten
  | [] => rfl
  | c :: cs => by simp [rnE, rnL_app, rnE_flat cs]
theorem rnE_len : ∀ (els : List (List AV)), (rnE f els).length = els.length
  | [] => rfl
  | c :: cs => by simp [rnE, rnE_len cs]
theorem rnE_mem {sz : Nat} : ∀ {els : List (List AV)}, (∀ el ∈ els, el.length = sz) → ∀ el ∈ rnE f els, el.length = sz
  | [], _, el, h => by simp [rnE] at h
  | c :: cs, hl, el, h => by
    simp only [rnE, List.mem_cons] at h
    rcases h with rfl | h
    · rw [rnL_len]; exact hl c (List.mem_cons_self ..)
    · exact rnE_mem (fun e he => hl e (List.mem_cons_of_mem _ he)) el h
theorem live_rnB (x : AB) : live (rnB f x) = live x := by cases x <;> rfl
end
/-- Those of the rows and variables that are in the list, in its order. -/
def selH (sel : List Nat) (H : List AB) : List AB := sel.map fun r => rnB (posL sel) (H[r]?.getD .gone)
theorem Sim.sel {Γ : Ctx} {I : Addr → Prop} {θ : Nat → Option Value} {H : List AB} {w : World} (S : Sim Γ I θ H w) (sel : List Nat) (hn : sel.Nodup) :
    ∃ θ', Sim Γ I θ' (selH sel H) w ∧ ∀ x v, RV I θ w x v → RV I θ' w (rn (posL sel) x) v := by
  let θ' : Nat → Option Value := fun q => (sel[q]?).bind θ
  have hθ : ∀ q q' v, posL sel q = some q' → θ q = some v → θ' q' = some v := by
    intro q q' v h k
    simp only [θ', posL_get h, Option.bind_some, k]
  have hget : ∀ (q : Nat) (x : AB), (selH sel H)[q]? = some x → live x = true → ∃ (r : Nat) (y : AB), sel[q]? = some r ∧ H[r]? = some y ∧ x = rnB (posL sel) y ∧ live y = true := by
    intro q x h hl
    simp only [selH, List.getElem?_map] at h
    obtain ⟨r, h1, rfl⟩ := Option.map_eq_some_iff.1 h
    cases hr : H[r]? with
    | none => rw [hr] at hl; cases hl
    | some y => exact ⟨r, y, h1, hr, by simp, by rw [hr] at hl; rwa [live_rnB] at hl⟩
  have howns : ∀ q B, owns (selH sel H) θ' q B → ∃ r, sel[q]? = some r ∧ owns H θ r B := by
    rintro q B ⟨⟨x, hx, hl⟩, v, hv, hb⟩
    obtain ⟨r, y, h1, h2, rfl, h4⟩ := hget q x hx hl
    simp only [θ', h1, Option.bind_some] at hv
    exact ⟨r, h1, ⟨y, h2, h4⟩, v, hv, hb⟩
  refine ⟨θ', ⟨S.below, S.i0, S.inew, S.ilt, ?_, ?_, ?_, ?_, ?_, ?_⟩, fun x v h => RV_rn hθ x v h⟩
  · intro q t cs h
    obtain ⟨r, y, h1, h2, h3, _⟩ := hget q _ h rfl
    cases y <;> simp only [rnB, reduceCtorEq, AB.box.injEq] at h3
    obtain ⟨rfl, rfl⟩ := h3
    obtain ⟨B, c, k1, k2, k3, k4, k5⟩ := S.box r _ _ h2
    exact ⟨B, c, by simp only [θ', h1, Option.bind_some, k1], k2, k3, k4, RVs_rn hθ _ _ k5⟩
  · intro q e sz els h
    obtain ⟨r, y, h1, h2, h3, _⟩ := hget q _ h rfl
    cases y <;> simp only [rnB, reduceCtorEq, AB.row.injEq] at h3
    obtain ⟨rfl, rfl, rfl⟩ := h3
    obtain ⟨v, xs, k1, k2, k3, k4, k5, k6, k7⟩ := S.row r _ _ _ h2
    exact ⟨v, xs, by simp only [θ', h1, Option.bind_some, k1], by rw [rnE_len]; exact k2, k3, by rw [rnE_flat]; exact RVs_rn hθ _ _ k4, rnE_mem k5, k6, by rw [rnE_len]; exact k7⟩
  · intro q p B hne h1 h2
    obtain ⟨r, a1, a2⟩ := howns q B h1
    obtain ⟨s, b1, b2⟩ := howns p B h2
    refine S.sep r s B ?_ a2 b2
    rintro rfl
    exact hne ((List.getElem?_inj (List.getElem?_eq_some_iff.1 a1).1 hn).1 (a1.trans b1.symm))
  · intro b q h1 h2
    obtain ⟨r, a1, a2⟩ := howns q _ h2
    exact S.iso b r h1 a2
  · intro q hq
    simp only [selH, List.length_map] at hq
    simp [θ', List.getElem?_eq_none hq]
  · intro q B h
    obtain ⟨r, a1, a2⟩ := howns q B h
    exact S.own r B a2

/-! ### What a function hands back, which its caller may write -/
/-- The value x beside the boxes H is as good as r beside H'. -/
def Wv (H : List AB) (x : AV) (H' : List AB) (r : AV) : Prop := ∀ (Γ : Ctx) (I : Addr → Prop) (θ : Nat → Option Value) (w : World) (v : Value), Sim Γ I θ H w → RV I θ w x v → ∃ I' θ', Sim Γ I' θ' H' w ∧ RV I' θ' w r v
theorem Wv.trans {H H1 H' : List AB} {x y r : AV} (h : Wv H x H1 y) (k : Wv H1 y H' r) : Wv H x H' r := fun Γ I θ w v S hv => by
  obtain ⟨I1, θ1, S1, h1⟩ := h Γ I θ w v S hv
  exact k Γ I1 θ1 w v S1 h1
theorem Wv.sel {H : List AB} {x : AV} (sel : List Nat) (hn : sel.Nodup) : Wv H x (selH sel H) (rn (posL sel) x) := fun Γ I θ w v S hv => by
  obtain ⟨θ', S', h⟩ := S.sel sel hn
  exact ⟨I, θ', S', h x v hv⟩
end Go.Ab
