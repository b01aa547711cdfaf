/- A part of the proof: AbY. -/
import Derived.Test.YtjfjcmfncgfhoaaAbX
set_option linter.all false
set_option linter.unusedVariables false
namespace Go.Ab
open Go.RowKit

/-! ### A row that is handed back and may be written -/
mutual
/-- x, whose row k is told as row 0; all else of it is never written again. -/
inductive OW (k : Option Nat) : AV → AV → Prop
  | le (x y : AV) (h : LE x y) (hp : pureB x = true) : OW k x y
  | agg (cs ds : List AV) (h : OWL k cs ds) : OW k (.agg cs) (.agg ds)
  | tup (cs ds : List AV) (h : OWL k cs ds) : OW k (.tup cs) (.tup ds)
  | row (r : Nat) (h : k = some r) : OW k (.row r) (.row 0)
  | nils (h : k = none) : OW k .nils (.row 0)
inductive OWL (k : Option Nat) : List AV → List AV → Prop
  | nil : OWL k [] []
  | cons (x y : AV) (xs ys : List AV) (h : OW k x y) (hs : OWL k xs ys) : OWL k (x :: xs) (y :: ys)
end
section
variable {I : Addr → Prop} {θ θ' : Nat → Option Value} {w : World} {k : Option Nat}
mutual
theorem OW.rv (h1 : ∀ r v, k = some r → θ r = some v → θ' 0 = some v) (h2 : k = none → θ' 0 = some (.slice none 0 0)) : ∀ {x y : AV}, OW k x y → ∀ {v : Value}, RV I θ w x v → RV I θ' w y v
  | _, _, .le x y h hp, v, hv => h.rv (RV_pure (fun _ h => h) (fun _ _ => rfl) _ v hp hv)
  | _, _, .agg cs ds h, v, hv => by
    simp only [RV] at hv ⊢
    obtain ⟨vs, e, h0, hv⟩ := hv
    exact ⟨vs, e, h0, OWL.rvs h1 h2 h hv⟩
  | _, _, .tup cs ds h, v, hv => by
    simp only [RV] at hv ⊢
    obtain ⟨vs, e, hv⟩ := hv
    exact ⟨vs, e, OWL.rvs h1 h2 h hv⟩
  | _, _, .row r h, v, hv => by
    simp only [RV] at hv ⊢
    exact ⟨h1 r v h hv.1, hv.2⟩
  | _, _, .nils h, v, hv => by
    simp only [RV] at hv ⊢
    subst hv
    exact ⟨h2 h, _, _, _, rfl⟩
theorem OWL.rvs (h1 : ∀ r v, k = some r → θ r = some v → θ' 0 = some v) (h2 : k = none → θ' 0 = some (.slice none 0 0)) : ∀ {xs ys : List AV}, OWL k xs ys → ∀ {vs : List Value}, RVs I θ w xs vs → RVs I θ' w ys vs
  | _, _, .nil, vs, hv => by simpa [RVs] using hv
  | _, _, .cons x y xs ys h hs, vs, hv => by
    simp only [RVs] at hv ⊢
    obtain ⟨v, r, e, k1, k2⟩ := hv
    exact ⟨v, r, e, OW.rv h1 h2 h k1, OWL.rvs h1 h2 hs k2⟩
end
end
theorem Wv.own {H : List AB} {k : Nat} {e : TypeId} {sz : Nat} {els0 els : List (List AV)} {x r : AV} (hr : H[k]? = some (.row e sz els0)) (h : LEE els0 els) (hl : ∀ el ∈ els, el.length = sz) (hp : pureE els0 = true) (ho : OW (some k) x r) : Wv H x [.row e sz els] r := fun Γ I θ w v S hv => by
  obtain ⟨v0, xs, k1, k2, k3, k4, k5, k6, k7⟩ := S.row k e sz els0 hr
  let θ' : Nat → Option Value := fun q => if q = 0 then θ k else none
  have hθ : ∀ q v, θ' q = some v → q = 0 ∧ θ k = some v := by
    intro q v h
    by_cases e : q = 0
    · subst e; exact ⟨rfl, h⟩
    · simp only [θ', if_neg e] at h; cases h
  have howns : ∀ q B, owns [.row e sz els] θ' q B → q = 0 ∧ owns H θ k B := by
    rintro q B ⟨⟨x, hx, hl⟩, v, hv, hb⟩
    obtain ⟨rfl, h⟩ := hθ q v hv
    exact ⟨rfl, ⟨_, hr, rfl⟩, v, h, hb⟩
  refine ⟨I, θ', ⟨S.below, S.i0, S.inew, S.ilt, ?_, ?_, ?_, ?_, ?_, ?_⟩, ho.rv ?_ ?_ hv⟩
  · intro q t cs h
    cases q <;> simp at h
  · intro q e' sz' els' h
    cases q with
    | succ q => simp at h
    | zero =>
      simp at h
      obtain ⟨rfl, rfl, rfl⟩ := h
      exact ⟨v0, xs, k1, by rw [← LEE_length ‹LEE els0 els›]; exact k2, k3, (LEE_flat ‹LEE els0 els›).rvs (RVs_pure (fun _ h => h) (fun _ _ => rfl) _ _ (pureE_flatten hp) k4), hl, k6, by rw [← LEE_length ‹LEE els0 els›]; exact k7⟩
  · intro q p B hne h1 h2
    exact hne ((howns q B h1).1.trans (howns p B h2).1.symm)
  · intro b q h1 h2
    exact S.iso b k h1 (howns q _ h2).2
  · intro q hq
    simp at hq
    simp only [θ', if_neg (show q ≠ 0 by omega)]
  · intro q B h
    exact S.own k B (howns q B h).2
  · intro r v e h
    obtain rfl := Option.some.inj e
    simpa [θ'] using h
  · intro e; cases e
theorem Wv.nil {H : List AB} {e : TypeId} {sz : Nat} {x r : AV} (hs : 0 < sz) (ho : OW none x r) : Wv H x [.row e sz []] r := fun Γ I θ w v S hv => by
  obtain ⟨θ1, S1, _⟩ := S.sel [] List.nodup_nil
  obtain ⟨S2, _, _⟩ := S1.adopt e sz hs
  exact ⟨I, _, S2, ho.rv (fun r v e => by cases e) (fun _ => by simp [selH]) hv⟩

/-- What is known of a function's end. -/
def retV (H : List AB) (Hr : List AB) (r : AV) : Option AV → Prop
  | some x => Wv H x Hr r
  | none => False
def retR (res : List RVar) (Hr : List AB) (r : AV) : Ex → AS → Prop
  | .normal, st => retV st.H Hr r (resOf st res)
  | .ret, st => retV st.H Hr r (resOf st res)
  | .exit _, _ => False
section
variable {P : Program}
theorem PR_of {g : FuncId} {f : Func} {s : SFn} {args : List AV} {Hr : List AB} {r : AV} (hf : P.funcs[g]? = some f) (hk : fnOk P f s = true) (hn : args.length ≤ s.N) (h : swp P s.body (start args) (retR s.res Hr r)) : PR P g args Hr r := by
  simp only [fnOk, Bool.and_eq_true, beq_iff_eq, bne_iff_ne] at hk
  obtain ⟨⟨⟨k1, k2⟩, k3⟩, k4⟩ := hk
  split at k4
  · rename_i c hc
    constructor
    · intro as w
      simp [callFunc, hf, hc, k2]
    · intro I w vals hI hv
      refine calls_of_wp hf hc ?_
      have hlen := RVs_length hv
      have G : Good (freshΓ I w) s.N (start args) { tmps := vals.toArray ++ Array.replicate (f.ntmps - vals.toArray.size) undef, defers := [] } w := by
        refine ⟨⟨I, noθ, ⟨⟨rfl, rfl, rfl, Nat.le_refl _, fun _ _ _ => rfl⟩, fun _ h => h, fun _ h => .inl h, hI, ?_, ?_, ?_, ?_, fun _ _ => rfl, ?_⟩, fun n => ?_⟩, ?_, rfl⟩
        · intro r t cs h; simp [start] at h
        · intro r e sz els h; simp [start] at h
        · rintro r q B _ ⟨⟨x, hx, _⟩, _⟩ _; simp [start] at hx
        · rintro a r _ ⟨⟨x, hx, _⟩, _⟩; simp [start] at hx
        · rintro r B ⟨⟨x, hx, _⟩, _⟩; simp [start] at hx
        · simp only [start, initT_lk, Nat.zero_le, if_true, Nat.sub_zero]
          cases hx : args[n]? with
          | none => simp [RV]
          | some x =>
            obtain ⟨v, e1, e2⟩ := RVs_get hv n x hx
            have hlt : n < vals.length := (List.getElem?_eq_some_iff.1 e1).1
            simp only [Option.getD_some]
            have : (vals.toArray ++ Array.replicate (f.ntmps - vals.toArray.size) undef).getD n undef = v := by
              rw [Array.getD_eq_getD_getElem?, Array.getElem?_append_left (by simpa using hlt)]
              simp [e1]
            rw [this]
            exact e2
        · simp
          omega
      refine wp_mono (swp_sound s.body c k4 h G) ?_
      rintro e a' w' ⟨ex, st', rfl, hq, G'⟩
      have fin : retV st'.H Hr r (resOf st' s.res) → a'.defers = [] ∧ ∃ v, (results f a'.tmps).run P w' = .ok v w' ∧ ∃ u I' θ', Ending.returned v = .returned u ∧ Sim (freshΓ I w) I' θ' Hr w' ∧ RV I' θ' w' r u := by
        intro hr
        obtain ⟨I', θ, S, hR⟩ := G'.ex
        cases hx : resOf st' s.res with
        | none => rw [hx] at hr; exact hr.elim
        | some x =>
          rw [hx] at hr
          obtain ⟨v, r1, r2⟩ := res_of S hR k3 hx
          obtain ⟨I2, θ2, S2, h2⟩ := hr _ I' θ w' v S r2
          exact ⟨G'.defers, v, r1, v, I2, θ2, rfl, S2, h2⟩
      cases ex with
      | normal => exact fin hq
      | ret => exact fin hq
      | exit id => exact hq.elim
  · cases k4
theorem PR_fit {g : FuncId} {f : Func} {s : SFn} {args : List AV} {Hr : List AB} {r : AV} (hf : P.funcs[g]? = some f) (hk : fnOk P f s = true) (hn : args.length ≤ s.N) (h : FitL args → swp P s.body (start args) (retR s.res Hr r)) : PR P g args Hr r :=
  ⟨Ent_of hf hk, fun I w vals hI hv => (PR_of hf hk hn (h (RVs_fit args vals hv))).2 I w vals hI hv⟩
theorem PR_z {g : FuncId} {f : Func} {n : Nat} {res : List RVar} {b : SCode} {args : List AV} {Hr : List AB} {r : AV} (hf : P.funcs[g]? = some f) (hk : fnOk P f ⟨n, res, b⟩ = true) (hn : args.length ≤ n) (h : FitL args → zswp P b (start args) (retR res Hr r) ⟨⟩ ⟨⟩) : PR P g args Hr r := PR_fit hf hk hn h
theorem PR.of_fit {g : FuncId} {args : List AV} {Hr : List AB} {r : AV} (he : Ent P g) (h : FitL args → PR P g args Hr r) : PR P g args Hr r :=
  ⟨he, fun I w vals hI hv => (h (RVs_fit args vals hv)).2 I w vals hI hv⟩
/-- It may be read alone. -/
theorem PR.pc {g : FuncId} {args : List AV} {Hr : List AB} {r r' : AV} (h : PR P g args Hr r) (hz : FZ Hr r r') : PC P g args r' :=
  ⟨h.1, fun I w vals hI hv => (h.2 I w vals hI hv).mono (by
    rintro e w' ⟨v, I', θ', rfl, S, hr⟩
    refine ⟨v, rfl, ⟨S.below.os, S.below.tape, S.below.output, S.below.size, fun k hk => S.below.block k hk (Nat.not_le.2 hk)⟩, ?_⟩
    refine RV_mono (fun b hb => ?_) (fun _ _ => rfl) (fun _ _ h => h) _ _ (FZ.rv S hz hr)
    rcases hb with hb | hb
    · rcases S.inew b hb with h | h
      · exact .inl h
      · exact .inr ⟨h, S.ilt b hb⟩
    · exact .inr hb)⟩
theorem PC.pr {g : FuncId} {args : List AV} {r : AV} (h : PC P g args r) : PR P g args [] r :=
  ⟨h.1, fun I w vals hI hv => (h.2 I w vals hI hv).mono (by
    rintro e w' ⟨v, rfl, hb, hr⟩
    refine ⟨v, more I w w', noθ, rfl, ⟨⟨hb.os, hb.tape, hb.output, hb.size, fun k hk _ => hb.block k hk⟩, fun _ h => .inl h, fun b h => ?_, fun b h => ?_, ?_, ?_, ?_, ?_, fun _ _ => rfl, ?_⟩, hr⟩
    · exact h.imp id (·.1)
    · rcases h with h | h
      · exact Nat.lt_of_lt_of_le (hI b h) hb.size
      · exact h.2
    · intro r t cs h; simp at h
    · intro r e sz els h; simp at h
    · rintro r q B _ ⟨⟨x, hx, _⟩, _⟩ _; simp at hx
    · rintro a r _ ⟨⟨x, hx, _⟩, _⟩; simp at hx
    · rintro r B ⟨⟨x, hx, _⟩, _⟩; simp at hx)⟩

/-! ### Steps, as equations -/
variable {st : AS} {Q : AS → Prop} {R : Ex → AS → Prop} {d : Option Nat} {T : List (Nat × AV)} {H : List AB}
def zcallr (P : Program) (T : List (Nat × AV)) (H : List AB) (d : Option Nat) (c : AV) (as : List AV) (Q : AS → Prop) (_ : Z Q) (_ : True) : Prop := callR P H c as (fun Hr y => Q (put ⟨T, H ++ Hr.map (shB H.length)⟩ d (sh H.length y)))
@[congr] theorem callr_cg {T T' : List (Nat × AV)} {H H' : List AB} {c c' : AV} {as as' : List AV} {z : Z Q} (h1 : T = T') (h2 : H = H') (h3 : c = c') (h4 : as = as') : zcallr P T H d c as Q z ⟨⟩ = zcallr P T' H' d c' as' Q z ⟨⟩ := by rw [h1, h2, h3, h4]
theorem e_callr {c : Opd} {args : List Opd} {z : Z Q} : zwp1 P (.callr d c args) ⟨T, H⟩ Q z ⟨⟩ = zcallr P T H d (AS.ev ⟨T, H⟩ c) (args.map (AS.ev ⟨T, H⟩)) Q ⟨⟩ ⟨⟩ := nr rfl
/-- A call that hands back what may be written. -/
theorem callr_ok {g : Nat} {first caps args as : List AV} {Hr : List AB} {y : AV} {z : Z Q} (hp : PR P g as Hr y) (h : LEL (first ++ args ++ caps) as ∧ pureL as = true) (hk : Q (put ⟨T, H ++ Hr.map (shB H.length)⟩ d (sh H.length y))) : zcallr P T H d (.fn (.func g) first caps) args Q z ⟨⟩ :=
  ⟨g, first, caps, as, Hr, y, rfl, .inl ⟨h.1.wk, h.2⟩, hp, hk⟩
mutual
theorem sh_flat {n : Nat} : ∀ (x : AV), flatB x = true → sh n x = x
  | .agg cs, h => by simp only [sh, shL_flat cs (by simpa [flatB] using h)]
  | .tup cs, h => by simp only [sh, shL_flat cs (by simpa [flatB] using h)]
  | .u, h => rfl
  | .i _ _, h => rfl
  | .b _, h => rfl
  | .s _, h => rfl
  | .sl _ _ _, h => rfl
  | .nils, h => rfl
  | .row _, h => by simp [flatB] at h
  | .ptr _ _, h => by simp [flatB] at h
  | .rptr _ _ _ _, h => by simp [flatB] at h
  | .ip _, h => rfl
  | .nilp, h => rfl
  | .fn _ _ _, h => by simp [flatB] at h
  | .nilf, h => rfl
  | .nili, h => rfl
theorem shL_flat {n : Nat} : ∀ (x : List AV), flatL x = true → shL n x = x
  | [], _ => rfl
  | c :: cs, h => by
    simp only [flatL, Bool.and_eq_true] at h
    simp only [shL, sh_flat c h.1, shL_flat cs h.2]
end
/-- A call that reads what the caller may write, and hands back no memory. -/
theorem callf_ok {g : Nat} {first caps args as : List AV} {y : AV} {z : Z Q} (hp : PC P g as y) (h : FZL H (first ++ args ++ caps) as) (hf : flatB y = true) (hk : Q (put ⟨T, H⟩ d y)) : zcallr P T H d (.fn (.func g) first caps) args Q z ⟨⟩ :=
  ⟨g, first, caps, as, [], y, rfl, .inr ⟨h, hf, rfl⟩, hp.pr, by simpa [sh_flat _ hf] using hk⟩
theorem e_rvr {res : List RVar} {Hr : List AB} {r : AV} : retR res Hr r .ret st = retV st.H Hr r (resOf st res) := nr rfl
theorem e_rvn {res : List RVar} {Hr : List AB} {r : AV} : retR res Hr r .normal st = retV st.H Hr r (resOf st res) := nr rfl
theorem e_rvk {Hr : List AB} {r x : AV} : retV H Hr r (some x) = Wv H x Hr r := nr rfl
end
def owq (H : List AB) (k : Nat) (e : TypeId) (sz : Nat) (els : List (List AV)) : Prop := match H[k]? with
  | some (.row e' sz' els0) => e' = e ∧ sz' = sz ∧ LEE els0 els ∧ lenE sz els ∧ pureE els0 = true
  | _ => False
def owp (e : TypeId) (sz : Nat) (els : List (List AV)) : Option AB → Prop
  | some (.row e' sz' els0) => e' = e ∧ sz' = sz ∧ LEE els0 els ∧ lenE sz els ∧ pureE els0 = true
  | _ => False
theorem owp_eq (e e' : TypeId) (sz sz' : Nat) (els els0 : List (List AV)) : owp e sz els (some (.row e' sz' els0)) = (e' = e ∧ sz' = sz ∧ LEE els0 els ∧ lenE sz els ∧ pureE els0 = true) := rfl
theorem wv_row {H : List AB} (k : Nat) {e : TypeId} {sz : Nat} {els : List (List AV)} {x r : AV} (h : owp e sz els (H[k]?) ∧ OW (some k) x r) : Wv H x [.row e sz els] r := by
  obtain ⟨h, ho⟩ := h
  unfold owp at h
  split at h
  · rename_i e' sz' els0 hr
    obtain ⟨rfl, rfl, h1, h2, h3⟩ := h
    exact Wv.own hr h1 h2 h3 ho
  · exact h.elim
theorem wv_nil {H : List AB} {e : TypeId} {sz : Nat} {x r : AV} (h : 0 < sz ∧ OW none x r) : Wv H x [.row e sz []] r := Wv.nil h.1 h.2
theorem OWL_of_le {k : Option Nat} : ∀ {a b : List AV}, LEL a b → pureL a = true → OWL k a b
  | _, _, .nil, _ => .nil
  | _, _, .cons x y xs ys h hs, hp => by
    simp only [pureL, Bool.and_eq_true] at hp
    exact .cons _ _ _ _ (.le _ _ h hp.1) (OWL_of_le hs hp.2)
theorem q_oa (k : Option Nat) (a b : List AV) : OW k (.agg a) (.agg b) = OWL k a b := propext ⟨fun h => by cases h with
  | le _ _ h hp => rw [q_agg] at h; exact OWL_of_le h (by simpa [pureB] using hp)
  | agg _ _ h => exact h, fun h => .agg _ _ h⟩
theorem q_ot (k : Option Nat) (a b : List AV) : OW k (.tup a) (.tup b) = OWL k a b := propext ⟨fun h => by cases h with
  | le _ _ h hp => rw [q_tup] at h; exact OWL_of_le h (by simpa [pureB] using hp)
  | tup _ _ h => exact h, fun h => .tup _ _ h⟩
theorem q_on (k : Option Nat) : OWL k [] [] = True := eq_true .nil
theorem q_oc (k : Option Nat) (x y : AV) (a b : List AV) : OWL k (x :: a) (y :: b) = (OW k x y ∧ OWL k a b) := propext ⟨fun h => by cases h; exact ⟨by assumption, by assumption⟩, fun h => .cons _ _ _ _ h.1 h.2⟩
theorem q_oi (o : Option Nat) (k : IntKind) (n : Int) : OW o (.i k n) (.i k n) = True := eq_true (.le _ _ (.refl _) rfl)
theorem q_os (o : Option Nat) (x : ByteArray) : OW o (.s x) (.s x) = True := eq_true (.le _ _ (.refl _) rfl)
theorem q_ob (o : Option Nat) (x : Bool) : OW o (.b x) (.b x) = True := eq_true (.le _ _ (.refl _) rfl)
theorem q_ol (o : Option Nat) (sz : Nat) : OW o .nils (.sl false sz []) = True := eq_true (.le _ _ (.nils sz) rfl)
theorem q_oe {o : Option Nat} {t : Bool} {sz : Nat} {a b : List (List AV)} (h : LE (.sl t sz a) (.sl false sz b)) (hp : pureE a = true) : OW o (.sl t sz a) (.sl false sz b) = True := eq_true (.le _ _ h (by simpa [pureB] using hp))
theorem q_op {o : Option Nat} {a b : List AV} (h : LE (.ip a) (.ip b)) (hp : pureL a = true) : OW o (.ip a) (.ip b) = True := eq_true (.le _ _ h (by simpa [pureB] using hp))
theorem q_o0 (o : Option Nat) : OW o .nilp .nilp = True := eq_true (.le _ _ (.refl _) rfl)
theorem q_ox (o : Option Nat) (t : Bool) (sz sz' : Nat) : OW o (.sl t sz []) (.sl false sz' []) = True := eq_true (.le _ _ (.emp t sz sz') rfl)
theorem q_or (k : Nat) : OW (some k) (.row k) (.row 0) = True := eq_true (.row k rfl)
theorem q_oz : OW none .nils (.row 0) = True := eq_true (.nils rfl)
theorem shE_pure {n : Nat} : ∀ {els : List (List AV)}, (∀ el ∈ els, shL n el = el) → shE n els = els
  | [], _ => rfl
  | x :: l, h => by simp [shE, h x (List.mem_cons_self ..), shE_pure fun e he => h e (List.mem_cons_of_mem _ he)]
theorem shL_ty (n : Nat) (t : Ty) : shL n (tyC t) = tyC t := by simp [ty_eq, shL, sh]
theorem shL_tm (n : Nat) (t : Tm) : shL n (tmC t) = tmC t := by simp [tm_eq, shL, sh]
theorem shE_map {α : Type} {n : Nat} {C : α → List AV} (h : ∀ x, shL n (C x) = C x) (l : List α) : shE n (List.map C l) = List.map C l := shE_pure fun el he => by
  obtain ⟨x, _, rfl⟩ := List.mem_map.1 he
  exact h x
theorem shE_ty (n : Nat) (l : List Ty) : shE n (List.map tyC l) = List.map tyC l := shE_map (shL_ty n) l
theorem shE_tm (n : Nat) (l : List Tm) : shE n (List.map tmC l) = List.map tmC l := shE_map (shL_tm n) l
theorem shE_cS (n : Nat) (l : List ByteArray) : shE n (List.map cS l) = List.map cS l := shE_map (fun _ => by simp [cS, shL, sh]) l
theorem shE_cI (n : Nat) (k : IntKind) (l : List Int) : shE n (List.map (cI k) l) = List.map (cI k) l := shE_map (fun _ => by simp [cI, shL, sh]) l
theorem shE_cB (n : Nat) (l : List Bool) : shE n (List.map cB l) = List.map cB l := shE_map (fun _ => by simp [cB, shL, sh]) l
attribute [go_sem] sh shL shB shE shE_ty shE_tm shE_cS shE_cI shE_cB flatB flatL e_callr e_rvr e_rvn e_rvk owp_eq q_oa q_ot q_on q_oc q_oi q_os q_ob q_ol q_oe q_op q_o0 q_ox q_or q_oz
end Go.Ab
