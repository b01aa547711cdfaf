/- A part of the proof: AbW. -/
import Derived.Test.YtjfjcmfncgfhoaaAbV
set_option linter.all false
set_option linter.unusedVariables false
namespace Go.Ab
open Go.RowKit
attribute [go_sem] Nat.reduceBEq Nat.reduceAdd Nat.reduceSub Nat.reduceMul Nat.reduceLeDiff Nat.reduceEqDiff Nat.reduceLT reduceIte reduceCtorEq Int.reduceToNat Int.reduceLE Int.reduceEq Int.reduceLT Int.reduceNeg

/-! ### The side conditions as equations: one run of simp closes them -/
theorem q_refl (x : AV) : LE x x = True := eq_true (.refl x)
theorem q_u (x : AV) : LE x .u = True := eq_true (.u x)
theorem q_nils (sz : Nat) : LE .nils (.sl false sz []) = True := eq_true (.nils sz)
theorem q_tight (t : Bool) (sz : Nat) (els : List (List AV)) : LE (.sl t sz els) (.sl false sz els) = True := eq_true (.tight t sz els)
theorem q_emp (t : Bool) (sz sz' : Nat) : LE (.sl t sz []) (.sl false sz' []) = True := eq_true (.emp t sz sz')
theorem q_els {t : Bool} {sz : Nat} {els els' : List (List AV)} (h : LEE els els') (hp : pureE els' = true) : LE (.sl t sz els) (.sl false sz els') = True := eq_true (.els t sz els els' h hp)
theorem q_agg (a b : List AV) : LE (.agg a) (.agg b) = LEL a b := propext ⟨fun h => by cases h with
  | refl => exact LEL.rfl' _
  | agg _ _ h => exact h, .agg a b⟩
theorem q_tup (a b : List AV) : LE (.tup a) (.tup b) = LEL a b := propext ⟨fun h => by cases h with
  | refl => exact LEL.rfl' _
  | tup _ _ h => exact h, .tup a b⟩
theorem q_ip {a b : List AV} (h : LEL a b) (hp : pureL b = true) : LE (.ip a) (.ip b) = True := eq_true (.ip a b h hp)
theorem q_ln : LEL [] [] = True := eq_true .nil
theorem q_lr (x : List AV) : LEL x x = True := eq_true (.rfl' x)
theorem q_lc (x y : AV) (a b : List AV) : LEL (x :: a) (y :: b) = (LE x y ∧ LEL a b) := propext ⟨fun h => by cases h; exact ⟨by assumption, by assumption⟩, fun h => .cons _ _ _ _ h.1 h.2⟩
theorem q_er (x : List (List AV)) : LEE x x = True := eq_true (.rfl' x)
theorem q_ec (x y : List AV) (a b : List (List AV)) : LEE (x :: a) (y :: b) = (LEL x y ∧ LEE a b) := propext ⟨fun h => by cases h; exact ⟨by assumption, by assumption⟩, fun h => .cons _ _ _ _ h.1 h.2⟩
theorem q_ea {a : List (List AV)} {c d : List (List AV)} (h : LEE c d) : LEE (a ++ c) (a ++ d) = True := eq_true (.app (.rfl' a) h)
theorem q_es {a : List (List AV)} {i : Nat} {x y : List AV} (h : LEL x y) : LEE (a.set i x) (a.set i y) = True := eq_true (.set i (.rfl' a) h)
theorem q_ep {n : Nat} {x y : List AV} (h : LEL x y) : LEE (List.replicate n x) (List.replicate n y) = True := eq_true (.rep n h)
theorem q_tn (T : List (Nat × AV)) : TL T [] = True := eq_true .nil
theorem q_tc (T : List (Nat × AV)) (k : Nat) (v : AV) (l : List (Nat × AV)) : TL T ((k, v) :: l) = (LE (lk T k) v ∧ TL T l) := propext ⟨fun h => by cases h; exact ⟨by assumption, by assumption⟩, fun h => .cons _ _ _ h.1 h.2⟩
theorem q_hn (H : List AB) : HL H [] = True := eq_true (.nil H)
theorem q_hc (x y : AB) (a b : List AB) : HL (x :: a) (y :: b) = (BL x y ∧ HL a b) := propext ⟨fun h => by cases h; exact ⟨by assumption, by assumption⟩, fun h => .cons _ _ _ _ h.1 h.2⟩
theorem q_br (x : AB) : BL x x = True := eq_true (.refl x)
theorem q_bg (x : AB) : BL x .gone = True := eq_true (.gone x)
theorem q_bb {t : TypeId} {a b : List AV} (h : LEL a b) : BL (.box t a) (.box t b) = True := eq_true (.box t a b h)
theorem q_bw {e : TypeId} {sz : Nat} {a b : List (List AV)} (h : LEE a b) : BL (.row e sz a) (.row e sz b) = True := eq_true (.row e sz a b h)
theorem FZL_of_le {H : List AB} : ∀ {a b : List AV}, LEL a b → pureL a = true → FZL H a b
  | [], _, .nil, _ => .nil
  | x :: a, _, .cons _ _ _ _ h hs, hp => by
    simp only [pureL, Bool.and_eq_true] at hp
    exact .cons _ _ _ _ (.le _ _ h hp.1) (FZL_of_le hs hp.2)
theorem q_fa (H : List AB) (a b : List AV) : FZ H (.agg a) (.agg b) = FZL H a b := propext ⟨fun h => by cases h with
  | le _ _ h hp => rw [q_agg] at h; exact FZL_of_le h (by simpa [pureB] using hp)
  | agg _ _ h => exact h, .agg a b⟩
theorem q_ft (H : List AB) (a b : List AV) : FZ H (.tup a) (.tup b) = FZL H a b := propext ⟨fun h => by cases h with
  | le _ _ h hp => rw [q_tup] at h; exact FZL_of_le h (by simpa [pureB] using hp)
  | tup _ _ h => exact h, .tup a b⟩
theorem q_fn (H : List AB) : FZL H [] [] = True := eq_true .nil
theorem q_fc (H : List AB) (x y : AV) (a b : List AV) : FZL H (x :: a) (y :: b) = (FZ H x y ∧ FZL H a b) := propext ⟨fun h => by cases h; exact ⟨by assumption, by assumption⟩, fun h => .cons _ _ _ _ h.1 h.2⟩
theorem q_fi (H : List AB) (k : IntKind) (n : Int) : FZ H (.i k n) (.i k n) = True := eq_true (.le _ _ (.refl _) rfl)
theorem q_fs (H : List AB) (x : ByteArray) : FZ H (.s x) (.s x) = True := eq_true (.le _ _ (.refl _) rfl)
theorem q_fb (H : List AB) (x : Bool) : FZ H (.b x) (.b x) = True := eq_true (.le _ _ (.refl _) rfl)
theorem q_fl (H : List AB) (sz : Nat) : FZ H .nils (.sl false sz []) = True := eq_true (.le _ _ (.nils sz) rfl)
theorem q_fe {H : List AB} {t : Bool} {sz : Nat} {a b : List (List AV)} (h : LE (.sl t sz a) (.sl false sz b)) (hp : pureE a = true) : FZ H (.sl t sz a) (.sl false sz b) = True := eq_true (.le _ _ h (by simpa [pureB] using hp))
theorem q_fp {H : List AB} {a b : List AV} (h : LE (.ip a) (.ip b)) (hp : pureL a = true) : FZ H (.ip a) (.ip b) = True := eq_true (.le _ _ h (by simpa [pureB] using hp))
theorem q_f0 (H : List AB) : FZ H .nilp .nilp = True := eq_true (.le _ _ (.refl _) rfl)
/-- All elements have so many cells. -/
def lenE (sz : Nat) (els : List (List AV)) : Prop := ∀ el ∈ els, el.length = sz
theorem lenE_ty (l : List Ty) : lenE 3 (List.map tyC l) = True := eq_true (ty_len l)
theorem lenE_tm (l : List Tm) : lenE 7 (List.map tmC l) = True := eq_true (tm_len l)
theorem lenE_cI (k : IntKind) (l : List Int) : lenE 1 (List.map (cI k) l) = True := eq_true (cI_len k l)
theorem lenE_cS (l : List ByteArray) : lenE 1 (List.map cS l) = True := eq_true (cS_len l)
theorem lenE_cB (l : List Bool) : lenE 1 (List.map cB l) = True := eq_true (cB_len l)
theorem lenE_app (sz : Nat) (a b : List (List AV)) : lenE sz (a ++ b) = (lenE sz a ∧ lenE sz b) := by
  simp only [lenE, List.mem_append, eq_iff_iff]
  exact ⟨fun h => ⟨fun e he => h e (.inl he), fun e he => h e (.inr he)⟩, fun h e he => he.elim (h.1 e) (h.2 e)⟩
theorem lenE_nil (sz : Nat) : lenE sz [] = True := by simp [lenE]
theorem lenE_cons (sz : Nat) (x : List AV) (a : List (List AV)) : lenE sz (x :: a) = (x.length = sz ∧ lenE sz a) := by simp [lenE]
theorem lenE_rep {sz n : Nat} {x : List AV} (h : x.length = sz) : lenE sz (List.replicate n x) = True := by
  refine eq_true fun el he => ?_
  rw [List.eq_of_mem_replicate he, h]
theorem lenE_set {sz i : Nat} {x : List AV} {a : List (List AV)} (ha : lenE sz a) (h : x.length = sz) : lenE sz (a.set i x) = True := by
  refine eq_true fun el he => ?_
  rcases List.mem_or_eq_of_mem_set he with h1 | rfl
  · exact ha _ h1
  · exact h
def rowp : Option AB → Nat → List (List AV) → Prop
  | some (.row _ sz' els), sz, els' => sz' = sz ∧ LEE els els' ∧ lenE sz els' ∧ pureE els = true ∧ pureE els' = true
  | _, _, _ => False
theorem rowp_eq (e : TypeId) (sz' sz : Nat) (els els' : List (List AV)) : rowp (some (.row e sz' els)) sz els' = (sz' = sz ∧ LEE els els' ∧ lenE sz els' ∧ pureE els = true ∧ pureE els' = true) := rfl
def rowq (H : List AB) (r sz : Nat) (els' : List (List AV)) : Prop := rowp (H[r]?) sz els'
theorem rowq_eq (H : List AB) (r sz : Nat) (els' : List (List AV)) : rowq H r sz els' = rowp (H[r]?) sz els' := rfl
theorem q_fr {H : List AB} {r sz : Nat} {els' : List (List AV)} (h : rowq H r sz els') : FZ H (.row r) (.sl false sz els') = True := by
  refine eq_true ?_
  unfold rowq rowp at h
  split at h
  · rename_i e sz' els hr
    obtain ⟨rfl, h1, h2, h3, h4⟩ := h
    exact FZ.rowm _ hr h1 h2 h3 h4
  · exact h.elim
theorem pureE_app (a b : List (List AV)) : pureE (a ++ b) = (pureE a && pureE b) := by
  induction a with
  | nil => simp [pureE]
  | cons x a ih => simp [pureE, ih, Bool.and_assoc]
theorem pureE_rep {n : Nat} {x : List AV} (h : pureL x = true) : pureE (List.replicate n x) = true := by
  induction n with
  | zero => rfl
  | succ n ih => simp [List.replicate_succ, pureE, h, ih]
theorem pureE_set : ∀ {a : List (List AV)} {i : Nat} {x : List AV}, pureE a = true → pureL x = true → pureE (a.set i x) = true
  | [], _, _, _, _ => rfl
  | y :: a, 0, x, h, hx => by simp only [pureE, Bool.and_eq_true] at h; simp [pureE, hx, h.2]
  | y :: a, i + 1, x, h, hx => by simp only [pureE, Bool.and_eq_true] at h; simp [pureE, h.1, pureE_set h.2 hx]
theorem refF_app (n : Nat) (a b : List (List AV)) : refL n (a ++ b).flatten = (refL n a.flatten && refL n b.flatten) := by rw [List.flatten_append, refL_append]
theorem Wks.ok {T T' : List (Nat × AV)} {H H' : List AB} (h : TL T T' ∧ HL H H' ∧ refT H'.length T' = true ∧ refH H'.length H' = true) : Wks ⟨T, H⟩ ⟨T', H'⟩ := Wks.mk h.1 h.2.1 h.2.2.1 h.2.2.2
theorem call_ok {P : Program} {g : Nat} {first caps args as : List AV} {y : AV} {k : AV → Prop} {z : Z k} (hp : PC P g as y) (h : LEL (first ++ args ++ caps) as ∧ pureL as = true) (hk : k y) : zcall P (.fn (.func g) first caps) args k z ⟨⟩ := zcall_of hp h.1 hk h.2
theorem q_fr3 (H : List AB) (r sz : Nat) (els' : List (List AV)) (h : rowq H r sz els' = True) : FZ H (.row r) (.sl false sz els') = True := q_fr (of_eq_true h)
attribute [go_sem] q_refl q_u q_nils q_tight q_emp q_els q_agg q_tup q_ip q_ln q_lr q_lc q_er q_ec q_ea q_es q_ep q_tn q_tc q_hn q_hc q_br q_bg q_bb q_bw q_fa q_ft q_fn q_fc q_fi q_fs q_fb q_fl q_fe q_fp q_f0 lenE_ty lenE_tm lenE_cI lenE_cS lenE_cB lenE_app lenE_nil lenE_cons lenE_rep lenE_set rowp_eq rowq_eq q_fr3 pureE_app pureE_rep pureE_set refF_app refT refH refA refB refL set_map rep_map List.map_append
/-- The zero values' cells. -/
def zTy : List AV := [.b false, .s { data := #[] }, .nils]
def zTm : List AV := [.i .u8 0, .s { data := #[] }, .b false, .s { data := #[] }, .nils, .i .i64 0, .nils]
theorem zTy_eq : zTy = [.b false, .s { data := #[] }, .nils] := rfl
theorem zTm_eq : zTm = [.i .u8 0, .s { data := #[] }, .b false, .s { data := #[] }, .nils, .i .i64 0, .nils] := rfl
attribute [go_sem] zTy_eq zTm_eq
theorem nc0 : ((0 : Nat) : Int) = 0 := rfl
mutual
theorem refB_pure (n : Nat) : ∀ x : AV, pureB x = true → refB n x = true
  | .agg cs, h => by simp only [pureB] at h; simp only [refB]; exact refL_pure n cs h
  | .tup cs, h => by simp only [pureB] at h; simp only [refB]; exact refL_pure n cs h
  | .fn _ a b, h => by simp only [pureB, Bool.and_eq_true] at h; simp only [refB, Bool.and_eq_true]; exact ⟨refL_pure n a h.1, refL_pure n b h.2⟩
  | .row _, h => by simp [pureB] at h
  | .ptr _ _, h => by simp [pureB] at h
  | .rptr _ _ _ _, h => by simp [pureB] at h
  | .sl _ _ _, _ => rfl
  | .ip _, _ => rfl
  | .u, _ => rfl
  | .i _ _, _ => rfl
  | .b _, _ => rfl
  | .s _, _ => rfl
  | .nils, _ => rfl
  | .nilp, _ => rfl
  | .nilf, _ => rfl
  | .nili, _ => rfl
theorem refL_pure (n : Nat) : ∀ x : List AV, pureL x = true → refL n x = true
  | [], _ => rfl
  | c :: cs, h => by simp only [pureL, Bool.and_eq_true] at h; simp only [refL, Bool.and_eq_true]; exact ⟨refB_pure n c h.1, refL_pure n cs h.2⟩
end
theorem refL_ok {n : Nat} {x : List AV} (h : pureL x = true) : refL n x = true := refL_pure n x h
theorem pureL_app : ∀ a b : List AV, pureL (a ++ b) = (pureL a && pureL b)
  | [], b => by simp [pureL]
  | x :: a, b => by simp [pureL, pureL_app a b, Bool.and_assoc]
theorem q_la {a c d : List AV} (h : LEL c d) : LEL (a ++ c) (a ++ d) = True := by
  refine eq_true ?_
  induction a with
  | nil => exact h
  | cons x a ih => exact .cons _ _ _ _ (.refl x) ih
attribute [go_sem] nc0 refL_ok pureL_app q_la
theorem refF_pure {n : Nat} {a : List (List AV)} (h : pureE a = true) : refL n a.flatten = true := refL_pure n _ (pureE_flatten h)
attribute [go_sem] refF_pure
theorem q_fx (H : List AB) (t : Bool) (sz sz' : Nat) : FZ H (.sl t sz []) (.sl false sz' []) = True := eq_true (.le _ _ (.emp t sz sz') rfl)
attribute [go_sem] q_fx
theorem nc1 : ((1 : Nat) : Int) = 1 := rfl
theorem nc2 : ((2 : Nat) : Int) = 2 := rfl
theorem nc3 : ((3 : Nat) : Int) = 3 := rfl
theorem nc4 : ((4 : Nat) : Int) = 4 := rfl
theorem nc5 : ((5 : Nat) : Int) = 5 := rfl
theorem nc6 : ((6 : Nat) : Int) = 6 := rfl
theorem nc7 : ((7 : Nat) : Int) = 7 := rfl
theorem nc8 : ((8 : Nat) : Int) = 8 := rfl
theorem nc9 : ((9 : Nat) : Int) = 9 := rfl
theorem nc10 : ((10 : Nat) : Int) = 10 := rfl
theorem nc11 : ((11 : Nat) : Int) = 11 := rfl
theorem nc12 : ((12 : Nat) : Int) = 12 := rfl
theorem nc13 : ((13 : Nat) : Int) = 13 := rfl
theorem nc14 : ((14 : Nat) : Int) = 14 := rfl
theorem nc15 : ((15 : Nat) : Int) = 15 := rfl
theorem nc16 : ((16 : Nat) : Int) = 16 := rfl
theorem nc17 : ((17 : Nat) : Int) = 17 := rfl
theorem nc18 : ((18 : Nat) : Int) = 18 := rfl
theorem nc19 : ((19 : Nat) : Int) = 19 := rfl
theorem nc20 : ((20 : Nat) : Int) = 20 := rfl
attribute [go_sem] nc1 nc2 nc3 nc4 nc5 nc6 nc7 nc8 nc9 nc10 nc11 nc12 nc13 nc14 nc15 nc16 nc17 nc18 nc19 nc20 Int.reduceAdd wr64
end Go.Ab
