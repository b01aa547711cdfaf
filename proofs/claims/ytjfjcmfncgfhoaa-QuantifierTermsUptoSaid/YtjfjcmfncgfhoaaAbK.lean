/- A part of the proof: AbK. -/
import Derived.Test.YtjfjcmfncgfhoaaAbJ
set_option linter.all false
set_option linter.unusedVariables false
namespace Go.Ab
open Go.RowKit

/-! ### Contracts: pure arguments, a pure result -/
/-- Function g can be entered. -/
def Ent (P : Program) (g : FuncId) : Prop := ∀ (args : Array Value) (w : World), (callFunc g args).run P w = .ok (.enter g args) w
def noθ : Nat → Option Value := fun _ => none
def PC (P : Program) (g : FuncId) (args : List AV) (r : AV) : Prop :=
  Ent P g ∧ ∀ (I : Addr → Prop) (w : World) (vals : List Value), (∀ a, I a → a.block < w.heap.size) → RVs I noθ w args vals →
    Calls P g vals.toArray w fun e w' => ∃ v, e = .returned v ∧ Below w.heap.size w w' ∧ RV (more I w w') noθ w' r v

/-! ### What any value that is told tells of itself -/
mutual
def Fit : AV → Prop
  | .i k n => k.min ≤ n ∧ n ≤ k.max
  | .s x => x.size ≤ LIM
  | .agg cs => FitL cs
  | .tup cs => FitL cs
  | .sl _ _ els => els.length ≤ LIM ∧ FitE els
  | .ip cs => FitL cs
  | .fn _ a b => FitL a ∧ FitL b
  | .u => True
  | .b _ => True
  | .nils => True
  | .row _ => True
  | .ptr _ _ => True
  | .rptr _ _ _ _ => True
  | .nilp => True
  | .nilf => True
  | .nili => True
def FitL : List AV → Prop
  | [] => True
  | c :: cs => Fit c ∧ FitL cs
def FitE : List (List AV) → Prop
  | [] => True
  | c :: cs => FitL c ∧ FitE cs
end
section
variable {I : Addr → Prop} {θ : Nat → Option Value} {w : World}
mutual
theorem RV_fit : ∀ (x : AV) (v : Value), RV I θ w x v → Fit x
  | .u, _, _ => by simp [Fit]
  | .i k n, v, h => by simp only [RV] at h; simp only [Fit]; exact h.2
  | .b _, _, _ => by simp [Fit]
  | .s x, v, h => by simp only [RV] at h; simp only [Fit]; exact h.2
  | .agg cs, v, h => by
    simp only [RV] at h
    obtain ⟨vs, e, h0, h⟩ := h
    simp only [Fit]; exact RVs_fit cs vs h
  | .tup cs, v, h => by
    simp only [RV] at h
    obtain ⟨vs, e, h⟩ := h
    simp only [Fit]; exact RVs_fit cs vs h
  | .sl t sz els, v, h => by
    simp only [RV] at h
    obtain ⟨h0, a, cap, e, h1, h2, h3, h4, h5⟩ := h
    simp only [Fit]
    refine ⟨h3, ?_⟩
    by_cases hne : els = []
    · subst hne; simp [FitE]
    · obtain ⟨h6, h7, B, o, ea, h8⟩ := h5 hne
      exact RVe_fit els B o h8
  | .nils, _, _ => by simp [Fit]
  | .row _, _, _ => by simp [Fit]
  | .ptr _ _, _, _ => by simp [Fit]
  | .rptr _ _ _ _, _, _ => by simp [Fit]
  | .ip cs, v, h => by
    simp only [RV] at h
    obtain ⟨h0, B, o, e, h⟩ := h
    simp only [Fit]; exact RVc_fit cs B o h
  | .nilp, _, _ => by simp [Fit]
  | .fn f a b, v, h => by
    simp only [RV] at h
    obtain ⟨x, y, e, h1, h2⟩ := h
    simp only [Fit]; exact ⟨RVs_fit a x h1, RVs_fit b y h2⟩
  | .nilf, _, _ => by simp [Fit]
  | .nili, _, _ => by simp [Fit]
theorem RVs_fit : ∀ (x : List AV) (v : List Value), RVs I θ w x v → FitL x
  | [], _, _ => by simp [FitL]
  | c :: cs, vs, h => by
    simp only [RVs] at h
    obtain ⟨v, r, e, h1, h2⟩ := h
    simp only [FitL]; exact ⟨RV_fit c v h1, RVs_fit cs r h2⟩
theorem RVc_fit : ∀ (x : List AV) (B o : Nat), RVc I θ w x B o → FitL x
  | [], _, _, _ => by simp [FitL]
  | c :: cs, B, o, h => by
    simp only [RVc] at h
    obtain ⟨⟨_, v, _, _, h1⟩, h2⟩ := h
    simp only [FitL]; exact ⟨RV_fit c v h1, RVc_fit cs B (o + 1) h2⟩
theorem RVe_fit : ∀ (x : List (List AV)) (B o : Nat), RVe I θ w x B o → FitE x
  | [], _, _, _ => by simp [FitE]
  | c :: cs, B, o, h => by
    simp only [RVe] at h
    simp only [FitE]; exact ⟨RVc_fit c B o h.1, RVe_fit cs B _ h.2⟩
end
end
/-- The state is good for the frame and the world. -/
structure Good (Γ : Ctx) (N : Nat) (st : AS) (a : Act) (w : World) : Prop where
  ex : ∃ I θ, Sim Γ I θ st.H w ∧ Rel I θ w st.T a
  size : a.tmps.size = N
  defers : a.defers = []


/-- What a good state tells of its values. -/
structure FitS (st : AS) : Prop where
  t : ∀ n, Fit (lk st.T n)
  b : ∀ (r : Nat) (t : TypeId) (cs : List AV), st.H[r]? = some (AB.box t cs) → FitL cs
  r : ∀ (r : Nat) (e : TypeId) (sz : Nat) (els : List (List AV)), st.H[r]? = some (AB.row e sz els) → els.length ≤ LIM ∧ FitL els.flatten
theorem Good.fit {Γ : Ctx} {N : Nat} {st : AS} {a : Act} {w : World} (G : Good Γ N st a w) : FitS st := by
  obtain ⟨I, θ, S, hR⟩ := G.ex
  refine ⟨fun n => RV_fit _ _ (hR n), fun r t cs h => ?_, fun r e sz els h => ?_⟩
  · obtain ⟨B, c, h1, h2, h3, h4, h5⟩ := S.box r t cs h
    exact RVs_fit _ _ h5
  · obtain ⟨v, xs, h1, h2, h3, h4, h5, h6, h7⟩ := S.row r e sz els h
    exact ⟨h7, RVs_fit _ _ h4⟩
/-- Wherever the one state is good, the other is. -/
def Wks (s s' : AS) : Prop := ∀ Γ N a w, Good Γ N s a w → Good Γ N s' a w
theorem Wks.refl (s : AS) : Wks s s := fun _ _ _ _ h => h
theorem Wks.trans {a b c : AS} (h : Wks a b) (k : Wks b c) : Wks a c := fun _ _ _ _ g => k _ _ _ _ (h _ _ _ _ g)

/-! ### What a piece of code makes of the state -/
inductive Ex where
  | normal
  | exit (id : Nat)
  | ret
def Ex.to : Ex → Exit
  | .normal => .normal
  | .exit id => .exit id
  | .ret => .ret

/-- Every value that x tells, y tells too. -/
def Wk (x y : AV) : Prop := ∀ (I : Addr → Prop) (θ : Nat → Option Value) (w : World) (v : Value), RV I θ w x v → RV I θ w y v
def WkL (x y : List AV) : Prop := ∀ (I : Addr → Prop) (θ : Nat → Option Value) (w : World) (v : List Value), RVs I θ w x v → RVs I θ w y v

def optK {α : Type} : Option α → (α → Prop) → Prop
  | some x, k => k x
  | none, _ => False
def callK (P : Program) (c : AV) (args : List AV) (k : AV → Prop) : Prop :=
  ∃ g first caps as y, c = .fn (.func g) first caps ∧ WkL (first ++ args ++ caps) as ∧ pureL as = true ∧ PC P g as y ∧ k y
/-- Is a guarded operation wanted? Of a guard that was itself left out: no. -/
def gdW (w : Bool) : AV → Option Bool
  | .b x => some (x == w)
  | .tup [] => some false
  | _ => none
def gdK (x : AV) (w : Bool) (A B : Prop) : Prop := (gdW w x = some true ∧ A) ∨ (gdW w x = some false ∧ B)
def condK (x : AV) (A B : Prop) : Prop :=
  match x with
  | .b x => if x = true then A else B
  | _ => False
def wp1 (P : Program) : SOp → AS → (AS → Prop) → Prop
  | .op d k, st, Q => optK (sv st d k) Q
  | .call d c args, st, Q => callK P (st.ev c) (args.map st.ev) (fun y => Q (put st d y))
  | .gd g w d o, st, Q => gdK (lk st.T g) w (wp1 P o st Q) (Q (put st d (.tup [])))
def wpo (P : Program) : List SOp → AS → (AS → Prop) → Prop
  | [], st, Q => Q st
  | o :: r, st, Q => wp1 P o st (fun st' => wpo P r st' Q)
def seqQ (K : AS → Prop) (Q : Ex → AS → Prop) : Ex → AS → Prop
  | .normal, st => K st
  | e, st => Q e st
def blkQ (id : Nat) (Q : Ex → AS → Prop) : Ex → AS → Prop
  | .exit i, st => if i = id then Q .normal st else Q (.exit i) st
  | e, st => Q e st
def swp (P : Program) : SCode → AS → (Ex → AS → Prop) → Prop
  | .skip, st, Q => Q .normal st
  | .ops l, st, Q => wpo P l st (Q .normal)
  | .draw l, st, Q => wpo P l st (Q .normal)
  | .seq x y, st, Q => swp P x st (seqQ (fun st' => swp P y st' Q) Q)
  | .cond c x y, st, Q => condK (st.ev c) (swp P x st Q) (swp P y st Q)
  | .block id c, st, Q => swp P c st (blkQ id Q)
  | .loop c, st, Q => ∃ (J : Nat → AS → Prop) (n : Nat), (∃ s, Wks st s ∧ J n s) ∧ ∀ m s, J m s → FitS s → swp P c s (seqQ (fun s' => ∃ k s'', k < m ∧ Wks s' s'' ∧ J k s'') Q)
  | .exit id, st, Q => Q (.exit id) st
  | .ret, st, Q => Q .ret st
  | .wk c, st, Q => ∃ s, Wks st s ∧ (FitS s → swp P c s Q)

/-! ### The checker -/
def dstOk (N : Nat) : Option Nat → Bool
  | some d => decide (d < N)
  | none => true
def sopOk (P : Program) (N : Nat) (o : Oper) : SOp → Bool
  | .op d k => o.dst == d && dstOk N d && opOk P o k
  | .call d c args => o.dst == d && dstOk N d && (match o.op with
    | .call cc => match cc.callee with
      | .value f => opdOk f c && opdsOk cc.args.toList args
      | _ => false
    | _ => false)
  | .gd _ _ _ _ => false
def gdOk (P : Program) (N : Nat) (all : Array Oper) (o : Oper) (so : SOp) : Bool :=
  match o.guard with
  | none => sopOk P N o so
  | some (j, want) => match so with
    | .gd g w d o' => (all[j]?).bind (·.dst) == some g && want == w && o.dst == d && dstOk N d && sopOk P N o o'
    | _ => false
def opsOk (P : Program) (N : Nat) (all : Array Oper) : List Oper → List SOp → Bool
  | [], [] => true
  | o :: os, so :: sos => gdOk P N all o so && opsOk P N all os sos
  | _, _ => false

theorem put_size (a : Act) (d : Option Nat) (v : Value) : (a.put d v).tmps.size = a.tmps.size ∧ (a.put d v).defers = a.defers := by
  cases d <;> simp [Act.put]

section
variable {P : Program} {Γ : Ctx} {N : Nat} {w : World} {st : AS} {a : Act} {o : Oper}

/-- The result of a call, in the caller's state. -/
theorem call_sound {c : Opd} {args : List Opd} {d : Option Nat} (G : Good Γ N st a w) (hk : sopOk P N o (.call d c args) = true) {Q : AS → Prop} (h : callK P (st.ev c) (args.map st.ev) (fun y => Q (put st d y)))
    {K : Act → World → Prop} {E : Exit → Act → World → Prop} (hK : ∀ a' w' st', Q st' → Good Γ N st' a' w' → K a' w') : o.wp P a w K E := by
  simp only [sopOk, Bool.and_eq_true, beq_iff_eq] at hk
  obtain ⟨⟨hd, hdN⟩, hk⟩ := hk
  split at hk
  · rename_i cc hcc
    split at hk
    · rename_i f hf
      simp only [Bool.and_eq_true] at hk
      obtain ⟨I, θ, S, hR⟩ := G.ex
      obtain ⟨g, first, caps, as, y, hc, hwk, hp, ⟨hent, hpc⟩, hQ⟩ := h
      have h1 := opd_rv hR hk.1
      rw [hc] at h1
      simp only [RV] at h1
      obtain ⟨x1, x2, e1, h2, h3⟩ := h1
      have h4 := opds_rv (fun x x' h => opd_rv hR h) hk.2
      have h5 := hwk I θ w _ (RVs_append (RVs_append h2 h4) h3)
      have h6 : RVs I noθ w as (x1 ++ cc.args.toList.map a.eval ++ x2) := RVs_pure (fun _ h => h) (fun _ _ => rfl) _ _ hp h5
      have hrun : (execOp a.eval o).run P w = .ok (.enter g (x1 ++ cc.args.toList.map a.eval ++ x2).toArray) w := by
        have := hent (x1 ++ cc.args.toList.map a.eval ++ x2).toArray w
        have e : x1.toArray ++ cc.args.map a.eval ++ x2.toArray = (x1 ++ cc.args.toList.map a.eval ++ x2).toArray := by
          apply Array.ext'
          simp
        simp only [execOp, hcc, resolve, hf, e1, Deferred.ofValue, Sem.run_bind, Sem.run_pure, Result.andThen_ok, invoke, e, this]
      unfold Oper.wp
      rw [hrun, Oper.upon_enter]
      refine (hpc I w _ S.ilt h6).mono ?_
      rintro e w' ⟨v, rfl, hb, hv⟩
      obtain ⟨S', hm⟩ := S.called hb
      have hv' : RV (more I w w') θ w' y v := RV_mono (fun _ h => h) (fun _ _ => rfl) (fun _ _ h => by simp [noθ] at h) y v hv
      refine hK _ _ _ hQ ⟨⟨more I w w', θ, ?_, ?_⟩, by rw [(put_size ..).1]; exact G.size, by rw [(put_size ..).2]; exact G.defers⟩
      · cases d <;> exact S'
      · rw [hd]
        refine Rel.put (hR.mono hm) d ?_ hv'
        intro k hk
        subst hk
        simpa [dstOk, G.size] using hdN
    · cases hk
  · cases hk

theorem wp1_sound {so : SOp} (G : Good Γ N st a w) (hk : sopOk P N o so = true) {Q : AS → Prop} (h : wp1 P so st Q) {K : Act → World → Prop} {E : Exit → Act → World → Prop}
    (hK : ∀ a' w' st', Q st' → Good Γ N st' a' w' → K a' w') : o.wp P a w K E := by
  cases so with
  | op d k =>
    simp only [wp1] at h
    simp only [sopOk, Bool.and_eq_true, beq_iff_eq] at hk
    obtain ⟨⟨hd, hdN⟩, hk⟩ := hk
    cases hs : sv st d k with
    | none => rw [hs] at h; exact h.elim
    | some st' =>
      rw [hs] at h
      obtain ⟨I, θ, S, hR⟩ := G.ex
      obtain ⟨v, w', I', θ', hrun, S', hR'⟩ := sv_sound hk S hR (fun k hk => by rw [hd] at hk; subst hk; simpa [dstOk, G.size] using hdN) (by rw [hd]; exact hs)
      unfold Oper.wp
      rcases hrun with hrun | ⟨hrun, rfl⟩
      · rw [hrun, Oper.upon_value]
        exact hK _ _ _ h ⟨⟨I', θ', S', hR'⟩, by rw [(put_size ..).1]; exact G.size, by rw [(put_size ..).2]; exact G.defers⟩
      · rw [hrun, Oper.upon_skip]
        exact hK _ _ _ h ⟨⟨I', θ', S', hR'⟩, by rw [(put_size ..).1]; exact G.size, by rw [(put_size ..).2]; exact G.defers⟩
  | call d c args => exact call_sound G hk h hK
  | gd _ _ _ _ => simp [sopOk] at hk

theorem good_undef {d : Option Nat} (G : Good Γ N st a w) (hd : dstOk N d = true) : Good Γ N (put st d (.tup [])) (a.put d undef) w := by
  obtain ⟨I, θ, S, hR⟩ := G.ex
  refine ⟨⟨I, θ, ?_, ?_⟩, by rw [(put_size ..).1]; exact G.size, by rw [(put_size ..).2]; exact G.defers⟩
  · cases d <;> exact S
  · refine Rel.put hR d ?_ (by simp [RV, RVs, undef])
    intro k hk
    subst hk
    simpa [dstOk, G.size] using hd

theorem guard_val {all : Array Oper} {j g : Nat} {w' q : Bool} (G : Good Γ N st a w) (hj : (all[j]?).bind (·.dst) = some g) (hx : gdW w' (lk st.T g) = some q) : (yielded all a.tmps j == some w') = q := by
  obtain ⟨I, θ, S, hR⟩ := G.ex
  have := hR g
  rw [Array.getD_eq_getD_getElem?] at this
  unfold yielded
  rw [hj]
  simp only [Option.bind_some]
  unfold gdW at hx
  split at hx
  · rename_i x e
    rw [e] at this
    simp only [RV] at this
    cases ht : a.tmps[g]? with
    | none => rw [ht] at this; simp [undef] at this
    | some v => rw [ht] at this; simp only [Option.getD_some] at this; rw [this]; simpa using hx
  · rename_i e
    rw [e] at this
    simp only [RV, RVs] at this
    obtain ⟨vs, h1, rfl⟩ := this
    obtain rfl := Option.some.inj hx
    cases ht : a.tmps[g]? with
    | none => simp
    | some v => rw [ht] at h1; simp only [Option.getD_some] at h1; rw [h1]; simp
  · cases hx

/-- One operation of a region, its guard too. -/
theorem gd_sound {all : Array Oper} {so : SOp} (G : Good Γ N st a w) (hk : gdOk P N all o so = true) {Q : AS → Prop} (h : wp1 P so st Q) {K : Act → World → Prop} {E : Exit → Act → World → Prop}
    (hK : ∀ a' w' st', Q st' → Good Γ N st' a' w' → K a' w') :
    if Region.wanted o (yielded all a.tmps) then o.wp P a w K E ∨ (o.asks P a w ∧ LetsOut E) else K (a.put o.dst undef) w := by
  unfold gdOk at hk
  split at hk
  · rename_i hg
    rw [if_pos (by simp [Region.wanted, hg])]
    exact .inl (wp1_sound G hk h hK)
  · rename_i j want hg
    split at hk
    · rename_i g w' d o'
      simp only [Bool.and_eq_true, beq_iff_eq] at hk
      obtain ⟨⟨⟨⟨h1, rfl⟩, h2⟩, h3⟩, h4⟩ := hk
      simp only [wp1] at h
      rcases h with ⟨hx, h⟩ | ⟨hx, h⟩
      · rw [if_pos (by simp only [Region.wanted, hg]; exact guard_val G h1 hx)]
        exact .inl (wp1_sound G h4 h hK)
      · rw [if_neg (by simp only [Region.wanted, hg]; rw [guard_val G h1 hx]; simp)]
        rw [h2]
        exact hK _ _ _ h (good_undef G h3)
    · cases hk

theorem wpo_sound {all : Array Oper} : ∀ (os : List Oper) (sos : List SOp), opsOk P N all os sos = true → ∀ {st : AS} {a : Act} {w : World}, Good Γ N st a w → ∀ {Q : AS → Prop}, wpo P sos st Q →
    ∀ {E : Exit → Act → World → Prop}, (∀ a' w' st', Q st' → Good Γ N st' a' w' → E .normal a' w') → wpList P all E os a w
  | [], [], _, st, a, w, G, Q, h, E, hE => hE _ _ _ h G
  | o :: os, so :: sos, hk, st, a, w, G, Q, h, E, hE => by
    simp only [opsOk, Bool.and_eq_true] at hk
    simp only [wpo] at h
    unfold wpList
    exact gd_sound G hk.1 h (fun a' w' st' h' G' => wpo_sound os sos hk.2 G' h' hE)
  | [], _ :: _, hk, _, _, _, _, _, _, _, _ => by simp [opsOk] at hk
  | _ :: _, [], hk, _, _, _, _, _, _, _, _ => by simp [opsOk] at hk
end
end Go.Ab
