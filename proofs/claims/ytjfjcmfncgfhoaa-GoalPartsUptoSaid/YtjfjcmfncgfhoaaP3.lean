/- What the functions answer: the checks; the variables of a term. -/
import Derived.Test.YtjfjcmfncgfhoaaP2
import Derived.Test.YtjfjcmfncgfhoaaA3
set_option linter.all false
set_option linter.all false
set_option maxRecDepth 100000
set_option maxHeartbeats 1000000
namespace Go.Ab.X
open Go.RowKit Go.Ab
theorem terms_extent_ok : ∀ t : Tm, bkT t ≤ LIM → terms_extent t = some ((szT t : Int), (dpT t : Int)) := by
  refine Tm.ind fun t ih hb => ?_
  have hs := Nat.le_trans (szTs_bk t.s) (bkTs_s hb)
  have hd := Nat.le_trans (dpTs_le t.s) hs
  rw [terms_extent_eq]
  refine LT.inv t.s (fun i (s : Int × Int) => (s.1, s.2, (i : Int))) (fun i s => s.1 = 1 + szTs (t.s.take i) ∧ s.2 = dpTs (t.s.take i)) (t0 := (1, 0)) ?_ ?_ ⟨by simp [szTs], by simp [dpTs]⟩
  · rintro i x ⟨n, d⟩ hx ⟨p1, p2⟩
    simp only at p1 p2
    have hm := List.mem_of_getElem? hx
    have h1 := szTs_take t.s i x hx
    have h2 := szTs_le t.s (i + 1)
    have h3 := szTs_le t.s i
    have h4 := dpTs_take t.s i x hx
    refine .inl ⟨(n + szT x, max d (dpT x)), fun next => ?_, by simp only; omega, by simp only; omega⟩
    simp only [terms_extent.s1, dlt hx, ixg, hx, Option.bind_some, cond_true, ih x hm (bkT_in hb hm)]
    simp only [LIM] at hs
    rw [wr (by omega) (by omega), inc_nat]
  · rintro ⟨n, d⟩ ⟨p1, p2⟩ next
    simp only at p1 p2
    simp only [terms_extent.s1, dle, cond_false]
    rw [List.take_length] at p1 p2
    simp only [LIM] at hs hd
    rw [wr (by omega) (by omega)]
    have e1 := szT_eq t
    have e2 := dpT_eq t
    congr 2
    · omega
    · omega
theorem terms_great_ok (t : Tm) (h : bkT t ≤ LIM) : terms_great t = some (!smallT t) := by
  rw [terms_great_eq, terms_extent_ok t h]
  simp only [Option.bind_some, smallT]
  have e1 : decide ((32000 : Int) < (szT t : Int)) = !decide (szT t ≤ 32000) := by
    by_cases hh : szT t ≤ 32000
    · rw [decide_eq_true hh]; exact decide_eq_false (by omega)
    · rw [decide_eq_false hh]; exact decide_eq_true (by omega)
  have e2 : decide ((300 : Int) < (dpT t : Int)) = !decide (dpT t ≤ 300) := by
    by_cases hh : dpT t ≤ 300
    · rw [decide_eq_true hh]; exact decide_eq_false (by omega)
    · rw [decide_eq_false hh]; exact decide_eq_true (by omega)
  rw [e1, e2]
  cases decide (szT t ≤ 32000) <;> rfl
def BIG : Nat := 2 ^ 26
theorem big_lim {n : Nat} (h : n ≤ BIG) : n ≤ LIM := by simp only [BIG] at h; simp only [LIM]; omega
theorem dpT_small {t : Tm} (h : smallT t = true) : dpT t ≤ 300 := by simp only [smallT, Bool.and_eq_true, decide_eq_true_eq] at h; exact h.2
theorem terms_typed_ok (t : Tm) (hb : bkT t ≤ BIG) : terms_typed t = some ((tyOf t).getD zeroY, chkT t) := by
  have hb' := hb
  simp only [BIG] at hb'
  rw [terms_typed_eq, terms_great_ok t (big_lim hb)]
  unfold tyOf chkT
  cases hs : smallT t
  · simp [zeroY]
  · have hd := dpT_small hs
    have k := fmRel_at (fm_ok t [] (by simp only [bkL]; omega) (by simp; omega))
    simp only [List.reverse_nil] at k
    simp only [Option.bind_some, Bool.not_true, cond_false, if_true]
    rcases k with ⟨h1, u, h2⟩ | ⟨u, h1, h2⟩
    · rw [h1, h2]; simp [zeroY]
    · rw [h1, h2]; simp
theorem terms_Check_ok (t : Tm) (hb : bkT t ≤ BIG) : terms_Check t = some (chkT t) := by rw [terms_Check_eq, terms_typed_ok t hb]; rfl
theorem ref02_Check_ok (t : Tm) (hb : bkT t ≤ BIG) : ref02_Check t = some (chkT t) := by
  have hb' := hb
  simp only [BIG] at hb'
  rw [ref02_Check_eq, ref02_Small_ok t (big_lim hb)]
  unfold chkT
  cases hs : smallT t
  · simp
  · have hd := dpT_small hs
    have k := fmRelB_at (fmr_ok t [] (by simp only [bkL]; omega) (by simp; omega))
    simp only [Option.bind_some, Bool.not_true, cond_false, if_true]
    rcases k with ⟨h1, u, h2, _⟩ | ⟨u, h1, h2⟩
    · rw [h1, h2]; simp
    · rw [h1, h2]; simp
/-- Is it, up to sameness, among them? -/
def hasT (l : List Tm) (t : Tm) : Bool := l.any fun x => decide (cmpTm x t = 0)
theorem ref02_Has_ok (l : List Tm) (t : Tm) (hb : ∀ x ∈ l, bkT x ≤ LIM) : ref02_Has l t = some (hasT l t) := by
  rw [ref02_Has_eq]
  refine LT.inv (T := Unit) l (fun i _ => (i : Int)) (fun i _ => hasT (l.drop i) t = hasT l t) ?_ ?_ (t0 := ()) rfl
  · intro i x _ hx hp
    have hm := List.mem_of_getElem? hx
    obtain ⟨h1, e1⟩ := List.getElem?_eq_some_iff.1 hx
    rw [List.drop_eq_getElem_cons h1, e1] at hp
    have hp : (decide (cmpTm x t = 0) || hasT (l.drop (i + 1)) t) = hasT l t := hp
    simp only [ref02_Has.s1, dlt hx, ixg, hx, Option.bind_some, cond_true, ref02_Same_ok x t (hb x hm)]
    cases hc : decide (cmpTm x t = 0)
    · rw [hc] at hp
      exact .inl ⟨(), fun next => by rw [cond_false, inc_nat], by simpa using hp⟩
    · rw [hc] at hp
      exact .inr fun next => by rw [cond_true, ← hp, Bool.true_or]
  · intro _ hp next
    simp only [ref02_Has.s1, dle, cond_false]
    rw [List.drop_length] at hp
    rw [← hp]; rfl
theorem note1_ok (h x : Tm) : tyo Bool (ans X 132 (.p .bool) [.v .tm h, .ip (.v .tm x) 0 []]) = some (decide (cmpTm h x = 0)) := by
  show note1 h x = _
  rw [note1_eq, terms_Same_ok]; rfl
theorem ContainsFunc_ok (l : List Tm) (t : Tm) : ContainsFunc_tm l 132 t = some (hasT l t) := by
  have key : ∃ n : Int, IndexFunc_tm l 132 t = some n ∧ decide (0 ≤ n) = hasT l t := by
    have : ∀ (k i : Nat), i + k = l.length → ∃ n : Int, LT (IndexFunc_tm.s1 l 132 t) (i : Int) (some n) ∧ decide (0 ≤ n) = hasT (l.drop i) t := by
      intro k
      induction k with
      | zero =>
        intro i hi
        have hh : i = l.length := by omega
        subst hh
        exact ⟨-1, .last fun next => by simp only [IndexFunc_tm.s1, dle, cond_false], by rw [List.drop_length]; rfl⟩
      | succ k ih =>
        intro i hi
        obtain ⟨x, hx⟩ : ∃ x, l[i]? = some x := ⟨_, List.getElem?_eq_getElem (show i < l.length by omega)⟩
        obtain ⟨h1, e1⟩ := List.getElem?_eq_some_iff.1 hx
        rw [List.drop_eq_getElem_cons h1, e1]
        simp only [hasT, List.any_cons]
        cases hc : decide (cmpTm x t = 0)
        · obtain ⟨n, hn, hd⟩ := ih (i + 1) (by omega)
          exact ⟨n, .next (fun next => by simp only [IndexFunc_tm.s1, dlt hx, ixg, hx, Option.bind_some, cond_true, note1_ok, hc, cond_false, inc_nat]) hn, by simpa [hasT] using hd⟩
        · exact ⟨i, .last fun next => by simp only [IndexFunc_tm.s1, dlt hx, ixg, hx, Option.bind_some, cond_true, note1_ok, hc], by simp⟩
    obtain ⟨n, h1, h2⟩ := this l.length 0 (by omega)
    exact ⟨n, by rw [IndexFunc_tm_eq]; exact h1.eq, by simpa using h2⟩
  obtain ⟨n, h1, h2⟩ := key
  rw [ContainsFunc_tm_eq, h1, Option.bind_some, h2]
end Go.Ab.X

set_option linter.all false
set_option maxRecDepth 100000
set_option maxHeartbeats 1000000
namespace Go.Ab.X
open Go.RowKit Go.Ab
def stepV (l : List Tm) (t : Tm) : List Tm := if t.k = 1 ∧ hasT l t = false then l ++ [t] else l
mutual
/-- The variables of a term, each once, behind those that stand there. -/
def varsT : Tm → List Tm → List Tm
  | .mk k n y i s, l => varsTs s (stepV l (.mk k n y i s))
def varsTs : List Tm → List Tm → List Tm
  | [], l => l
  | x :: s, l => varsTs s (varsT x l)
end
theorem varsT_eq (t : Tm) (l : List Tm) : varsT t l = varsTs t.s (stepV l t) := by cases t; rw [varsT]; rfl
theorem varsTs_snoc : ∀ (s : List Tm) (x : Tm) (l : List Tm), varsTs (s ++ [x]) l = varsT x (varsTs s l)
  | [], x, l => by simp [varsTs]
  | y :: s, x, l => by simp only [List.cons_append, varsTs]; exact varsTs_snoc s x _
theorem varsTs_take {s : List Tm} {i : Nat} {x : Tm} (h : s[i]? = some x) (l : List Tm) : varsTs (s.take (i + 1)) l = varsT x (varsTs (s.take i) l) := by rw [← take_snoc h, varsTs_snoc]
theorem stepV_len (l : List Tm) (t : Tm) : (stepV l t).length ≤ l.length + 1 := by unfold stepV; split <;> simp
theorem stepV_mem {l : List Tm} {t x : Tm} (h : x ∈ stepV l t) : x ∈ l ∨ x = t := by
  unfold stepV at h
  split at h
  · simpa using h
  · exact .inl h
mutual
theorem varsT_len : ∀ (t : Tm) (l : List Tm), (varsT t l).length ≤ l.length + szT t
  | .mk k n y i s, l => by
    simp only [varsT, szT]
    have := varsTs_len s (stepV l (.mk k n y i s))
    have := stepV_len l (.mk k n y i s)
    omega
theorem varsTs_len : ∀ (s : List Tm) (l : List Tm), (varsTs s l).length ≤ l.length + szTs s
  | [], l => by simp [varsTs]
  | x :: s, l => by
    simp only [varsTs, szTs]
    have := varsTs_len s (varsT x l)
    have := varsT_len x l
    omega
end
mutual
theorem varsT_mem : ∀ (t : Tm) (l : List Tm) (x : Tm), x ∈ varsT t l → x ∈ l ∨ bkT x ≤ bkT t
  | .mk k n y i s, l, x, h => by
    simp only [varsT] at h
    rcases varsTs_mem s _ x h with h | h
    · rcases stepV_mem h with h | h
      · exact .inl h
      · rw [h]; exact .inr (Nat.le_refl _)
    · right
      simp only [bkT]; omega
theorem varsTs_mem : ∀ (s : List Tm) (l : List Tm) (x : Tm), x ∈ varsTs s l → x ∈ l ∨ bkT x ≤ bkTs s
  | [], l, x, h => .inl h
  | y :: s, l, x, h => by
    simp only [varsTs] at h
    simp only [bkTs]
    rcases varsTs_mem s _ x h with h | h
    · rcases varsT_mem y l x h with h | h
      · exact .inl h
      · right; omega
    · right; omega
end
theorem bkTs_take {s : List Tm} {i : Nat} {x : Tm} (h : s[i]? = some x) : bkTs (s.take (i + 1)) = bkTs (s.take i) + bkT x := by
  rw [← take_snoc h]
  have app : ∀ a b : List Tm, bkTs (a ++ b) = bkTs a + bkTs b := by
    intro a b
    induction a with
    | nil => simp [bkTs]
    | cons x a ih => simp [bkTs, ih]; omega
  rw [app]; simp [bkTs]
theorem bkTs_le (s : List Tm) (i : Nat) : bkTs (s.take i) ≤ bkTs s := by
  have app : ∀ a b : List Tm, bkTs (a ++ b) = bkTs a + bkTs b := by
    intro a b
    induction a with
    | nil => simp [bkTs]
    | cons x a ih => simp [bkTs, ih]; omega
  have := app (s.take i) (s.drop i)
  rw [List.take_append_drop] at this
  omega
theorem ref02_VarsR_ok : ∀ (t : Tm) (l : List Tm), (∀ x ∈ l, bkT x ≤ LIM) → l.length + szT t ≤ LIM → bkT t ≤ LIM → ref02_VarsR l t = some (varsT t l) := by
  refine Tm.ind fun t ih l hm hl hb => ?_
  have h1 := stepV_len l t
  have hsz := szT_eq t
  have key : ref02_VarsR.j1 t (stepV l t) = some (varsTs t.s (stepV l t)) := by
    refine LT.inv t.s (fun i (l : List Tm) => ((i : Int), l)) (fun i r => r = varsTs (t.s.take i) (stepV l t)) ?_ ?_ rfl
    · rintro i x r hx rfl
      have hxm := List.mem_of_getElem? hx
      have k1 := varsTs_len (t.s.take i) (stepV l t)
      have k2 := szTs_take t.s i x hx
      have k3 := szTs_le t.s (i + 1)
      refine .inl ⟨_, fun next => ?_, rfl⟩
      simp only [ref02_VarsR.s2, dlt hx, ixg, hx, Option.bind_some, cond_true]
      rw [ih x hxm _ (fun z hz => ?_) (by omega) (bkT_in hb hxm), varsTs_take hx, inc_nat]; rfl
      rcases varsTs_mem _ _ z hz with h | h
      · rcases stepV_mem h with h | h
        · exact hm z h
        · rw [h]; exact hb
      · have := bkTs_le t.s i
        have := bkTs_s hb
        omega
    · rintro r rfl next
      simp only [ref02_VarsR.s2, dle, cond_false, List.take_length]
  rw [ref02_VarsR_eq, varsT_eq]
  simp only [jn, ref02_VarsR.j3, ref02_Has_ok l t hm, Option.bind_some]
  rw [← key]
  unfold stepV
  by_cases hk : t.k = 1
  · simp only [hk, decide_true, cond_true, true_and]
    cases hh : hasT l t
    · simp only [Bool.not_false, cond_true, if_true, ref02_Twin_ok t hb, Option.bind_some]
      rw [if_pos (by simp; omega)]
    · simp
  · simp [hk]
theorem ref02_Vars_ok (t : Tm) (hb : bkT t ≤ LIM) : ref02_Vars t = some (varsT t []) := by
  have h0 : ref02_Vars t = ref02_VarsR [] t := by
    have e1 : ref02_Vars.s2 t = ref02_VarsR.s2 t := rfl
    rw [ref02_Vars_eq, ref02_VarsR_eq]
    rfl
  rw [h0]
  exact ref02_VarsR_ok t [] (by simp) (by have := szT_bk t; simp; omega) hb
def memB (x : ByteArray) : List ByteArray → Bool
  | [] => false
  | y :: l => decide (x = y) || memB x l
theorem Index_str_ok (l : List ByteArray) (x : ByteArray) : ∃ n : Int, Index_str l x = some n ∧ decide (0 ≤ n) = memB x l := by
  have : ∀ (k i : Nat), i + k = l.length → ∃ n : Int, LT (Index_str.s1 l x) (i : Int) (some n) ∧ decide (0 ≤ n) = memB x (l.drop i) := by
    intro k
    induction k with
    | zero =>
      intro i hi
      have hh : i = l.length := by omega
      subst hh
      exact ⟨-1, .last fun next => by simp only [Index_str.s1, dle, cond_false], by rw [List.drop_length]; rfl⟩
    | succ k ih =>
      intro i hi
      obtain ⟨y, hy⟩ : ∃ y, l[i]? = some y := ⟨_, List.getElem?_eq_getElem (show i < l.length by omega)⟩
      obtain ⟨h1, e1⟩ := List.getElem?_eq_some_iff.1 hy
      rw [List.drop_eq_getElem_cons h1, e1]
      by_cases hc : x = y
      · exact ⟨i, .last fun next => by simp only [Index_str.s1, dlt hy, ixg, hy, Option.bind_some, cond_true, hc, decide_true], by simp [memB, hc]⟩
      · obtain ⟨n, hn, hd⟩ := ih (i + 1) (by omega)
        exact ⟨n, .next (fun next => by simp only [Index_str.s1, dlt hy, ixg, hy, Option.bind_some, cond_true, hc, decide_false, cond_false, inc_nat]) hn, by simpa [memB, hc] using hd⟩
  obtain ⟨n, h1, h2⟩ := this l.length 0 (by omega)
  exact ⟨n, by rw [Index_str_eq]; exact h1.eq, by simpa using h2⟩
theorem Contains_str_ok (l : List ByteArray) (x : ByteArray) : Contains_str l x = some (memB x l) := by
  obtain ⟨n, h1, h2⟩ := Index_str_ok l x
  rw [Contains_str_eq, h1, Option.bind_some, h2]
theorem ref01_In_ok (l : List ByteArray) (x : ByteArray) : ref01_In l x = some (memB x l) := by
  rw [ref01_In_eq]
  refine LT.inv (T := Unit) l (fun i _ => (i : Int)) (fun i _ => memB x (l.drop i) = memB x l) ?_ ?_ (t0 := ()) rfl
  · intro i y _ hy hp
    obtain ⟨h1, e1⟩ := List.getElem?_eq_some_iff.1 hy
    rw [List.drop_eq_getElem_cons h1, e1] at hp
    simp only [ref01_In.s1, dlt hy, ixg, hy, Option.bind_some, cond_true]
    by_cases hc : y = x
    · exact .inr fun next => by rw [← hp]; simp [memB, hc]
    · exact .inl ⟨(), fun next => by simp only [hc, decide_false, cond_false, inc_nat], by rw [← hp]; simp [memB, Ne.symm hc]⟩
  · intro _ hp next
    simp only [ref01_In.s1, dle, cond_false]
    rw [List.drop_length] at hp
    rw [← hp]; rfl
mutual
theorem pre_len : ∀ t : Ty, (pre t).length = szY t
  | .mk v n a => by simp only [pre, szY, List.length_cons, pres_len a]; omega
theorem pres_len : ∀ l : List Ty, (pres l).length = szYs l
  | [] => rfl
  | t :: l => by simp only [pres, szYs, List.length_append, pre_len t, pres_len l]
end
theorem types_Vars_ok (t : Ty) (hb : bkY t ≤ LIM) : ∃ r, types_Vars t = some r ∧ r.1.length ≤ szY t := by
  have key : ∀ (L : List Ty) (s : List ByteArray), s.length + L.length ≤ LIM → ∃ r, forR types_Vars.f1 types_Vars.d1 L s = some r ∧ r.1.length ≤ s.length + L.length := by
    intro L
    induction L with
    | nil => intro s _; exact ⟨_, rfl, by simp⟩
    | cons x L ih =>
      intro s hs
      simp only [List.length_cons] at hs
      obtain ⟨r1, h1, h2⟩ := ih s (by omega)
      obtain ⟨r2, h3, h4⟩ := ih (s ++ [x.n]) (by simp; omega)
      simp only [List.length_append, List.length_cons, List.length_nil] at h4
      simp only [forR, types_Vars.f1, jn, types_Vars.j2, Contains_str_ok, Option.bind_some]
      have hlen : List.length s + List.length [x.n] ≤ LIM := by simp; omega
      rw [if_pos hlen, h1, h3]
      simp only [List.length_cons]
      cases x.v
      · exact ⟨r1, by simp, by omega⟩
      · cases memB x.n s
        · exact ⟨r2, by simp, by omega⟩
        · exact ⟨r1, by simp, by omega⟩
  rw [types_Vars_eq, types_Check_ok t hb]
  simp only [Option.bind_some, types_nodes_eq]
  have hsz := szY_bk t
  obtain ⟨r, h1, h2⟩ := key (pre t) [] (by rw [pre_len]; simp; omega)
  rw [pre_len] at h2
  cases validY t
  · exact ⟨([], 10), by simp, by simp⟩
  · exact ⟨r, by simpa using h1, by simpa using h2⟩
end Go.Ab.X

set_option linter.all false
set_option maxRecDepth 100000
set_option maxHeartbeats 1000000
namespace Go.Ab.X
open Go.RowKit Go.Ab
/-- A loop that comes to an answer of a kind. -/
theorem LT.ex {S R α : Type} {step : S → (S → Option R) → Option R} (l : List α) {T : Type} (mk : Nat → T → S) (P : Nat → T → Prop) (Q : Option R → Prop)
    (h1 : ∀ i a t, l[i]? = some a → P i t → ∃ t', (∀ next, step (mk i t) next = next (mk (i + 1) t')) ∧ P (i + 1) t')
    (h2 : ∀ t, P l.length t → ∃ r, (∀ next, step (mk l.length t) next = r) ∧ Q r) {t0 : T} (h0 : P 0 t0) : ∃ r, loopN step (mk 0 t0) = r ∧ Q r := by
  have key : ∀ (k i : Nat) (t : T), i + k = l.length → P i t → ∃ r, LT step (mk i t) r ∧ Q r := by
    intro k
    induction k with
    | zero =>
      intro i t hi hp
      have hh : i = l.length := by omega
      subst hh
      obtain ⟨r, e, hq⟩ := h2 t hp
      exact ⟨r, .last e, hq⟩
    | succ k ih =>
      intro i t hi hp
      obtain ⟨a, ha⟩ : ∃ a, l[i]? = some a := ⟨_, List.getElem?_eq_getElem (show i < l.length by omega)⟩
      obtain ⟨t', e, hp'⟩ := h1 i a t ha hp
      obtain ⟨r, hr, hq⟩ := ih (i + 1) t' (by omega) hp'
      exact ⟨r, .next e hr, hq⟩
  obtain ⟨r, hr, hq⟩ := key l.length 0 t0 (by omega) h0
  exact ⟨r, hr.eq, hq⟩
theorem set_last {α : Type} (l : List α) (z x : α) : (l ++ [z]).set l.length x = l ++ [x] := by
  induction l with
  | nil => rfl
  | cons y l ih => simp [ih]
theorem terms_note_ok (t : Tm) (l : List Tm) (ns : List ByteArray) (hl : l.length + 1 ≤ LIM) (hn : ns.length + szY t.y ≤ LIM) (hb : bkT t ≤ LIM) : ∃ g, terms_note l ns t = some (stepV l t, g) ∧ g.length ≤ ns.length + szY t.y := by
  have key : ∃ r, terms_note.j1 t (stepV l t, ns) = r ∧ ∃ g, r = some (stepV l t, g) ∧ g.length ≤ ns.length + szY t.y := by
    obtain ⟨v, hv, hvl⟩ := types_Vars_ok t.y (bkT_y hb)
    have loop : ∃ r, loopN (terms_note.s3 v) (0, stepV l t, ns) = r ∧ ∃ g, r = some (stepV l t, g) ∧ g.length ≤ ns.length + szY t.y := by
      refine LT.ex v.1 (fun i (g : List ByteArray) => ((i : Int), stepV l t, g)) (fun i g => g.length ≤ ns.length + i) _ ?_ ?_ (Nat.le_refl _)
      · intro i e g he hg
        have hlt := (List.getElem?_eq_some_iff.1 he).1
        have hlen : List.length g + List.length [e] ≤ LIM := by simp; omega
        refine ⟨if memB e g then g else g ++ [e], fun next => ?_, by split <;> (try simp) <;> omega⟩
        simp only [terms_note.s3, dlt he, ixg, he, Option.bind_some, cond_true, jn, terms_note.j4, Contains_str_ok, if_pos hlen]
        cases memB e g <;> simp
      · intro g hg
        exact ⟨_, fun next => by simp only [terms_note.s3, dle, cond_false], g, rfl, by omega⟩
    simp only [terms_note.j1, jn, bor]
    have hj : ∀ b, ∃ r, terms_note.j2 t (b, stepV l t, ns) = r ∧ ∃ g, r = some (stepV l t, g) ∧ g.length ≤ ns.length + szY t.y := by
      intro b
      cases b
      · simp only [terms_note.j2, cond_false, hv, Option.bind_some]
        exact loop
      · exact ⟨_, rfl, ns, rfl, by omega⟩
    cases decide (t.k = 4)
    · exact hj (decide (t.k = 3))
    · exact hj true
  obtain ⟨_, rfl, g, hg, hgl⟩ := key
  refine ⟨g, ?_, hgl⟩
  rw [terms_note_eq]
  simp only [jn, ContainsFunc_ok, Option.bind_some]
  rw [← hg]
  unfold stepV
  by_cases hk : t.k = 1
  · simp only [hk, decide_true, cond_true, true_and]
    cases hh : hasT l t
    · simp only [Bool.not_false, if_true, terms_note.j5, cond_true, terms_Twin_ok t hb, Option.bind_some]
      rw [if_pos (by simp; omega), if_pos ⟨by omega, by simp; omega⟩, if_pos (by simp), Int.toNat_natCast, set_last]
    · simp [terms_note.j5]
  · simp [hk, terms_note.j5]
theorem szTy_bk : ∀ t : Tm, szY t.y ≤ bkT t := fun t => by have := szY_bk t.y; have := bkT_eq t; omega
theorem terms_each_ok : ∀ (t : Tm) (l : List Tm) (ns : List ByteArray), l.length + szT t ≤ LIM → ns.length + bkT t ≤ LIM → ∃ g, terms_each l ns t = some (varsT t l, g) ∧ g.length ≤ ns.length + bkT t := by
  refine Tm.ind fun t ih l ns hl hn => ?_
  have hsz := szT_eq t
  have hbk := bkT_eq t
  have hy := szY_bk t.y
  obtain ⟨g, h1, h2⟩ := terms_note_ok t l ns (by omega) (by omega) (by omega)
  have hsl := stepV_len l t
  have key : ∃ r, loopN (terms_each.s1 t) (0, stepV l t, g) = r ∧ ∃ g', r = some (varsTs t.s (stepV l t), g') ∧ g'.length ≤ ns.length + bkT t := by
    refine LT.ex t.s (fun i (s : List Tm × List ByteArray) => ((i : Int), s.1, s.2)) (fun i s => s.1 = varsTs (t.s.take i) (stepV l t) ∧ s.2.length ≤ g.length + bkTs (t.s.take i)) _ ?_ ?_ (t0 := (stepV l t, g)) ⟨by simp [varsTs], by simp [bkTs]⟩
    · rintro i x ⟨a, b⟩ hx ⟨p1, p2⟩
      simp only at p1 p2
      have hxm := List.mem_of_getElem? hx
      have k1 := varsTs_len (t.s.take i) (stepV l t)
      have k2 := szTs_take t.s i x hx
      have k3 := szTs_le t.s (i + 1)
      have k4 := bkTs_take hx
      have k5 := bkTs_le t.s (i + 1)
      subst p1
      obtain ⟨b', e1, e2⟩ := ih x hxm (varsTs (t.s.take i) (stepV l t)) b (by omega) (by omega)
      refine ⟨(varsT x (varsTs (t.s.take i) (stepV l t)), b'), fun next => ?_, by rw [varsTs_take hx], by simp only; omega⟩
      simp only [terms_each.s1, dlt hx, ixg, hx, Option.bind_some, cond_true, e1, inc_nat]
    · rintro ⟨a, b⟩ ⟨p1, p2⟩
      simp only at p1 p2
      rw [List.take_length] at p1 p2
      exact ⟨some (a, b), fun next => by simp only [terms_each.s1, dle, cond_false], b, by rw [p1], by omega⟩
  obtain ⟨_, rfl, g', h3, h4⟩ := key
  refine ⟨g', ?_, h4⟩
  rw [terms_each_eq, h1, varsT_eq]
  exact h3
theorem terms_Free_ok (t : Tm) (hb : bkT t ≤ BIG) : terms_Free t = some (if chkT t = 0 then (varsT t [], 0) else ([], chkT t)) := by
  have hb' := hb
  simp only [BIG] at hb'
  have := szT_bk t
  rw [terms_Free_eq, terms_Check_ok t hb]
  obtain ⟨g, h1, _⟩ := terms_each_ok t [] [] (by simp [LIM]; omega) (by simp [LIM]; omega)
  simp only [Option.bind_some, h1]
  by_cases h : chkT t = 0 <;> simp [h]
end Go.Ab.X

set_option linter.all false
set_option maxRecDepth 100000
set_option maxHeartbeats 1000000
namespace Go.Ab.X
open Go.RowKit Go.Ab
def namesL : List Tm → List ByteArray
  | [] => []
  | e :: l => (varsT e []).map Tm.n ++ namesL l
theorem namesL_snoc : ∀ (l : List Tm) (e : Tm), namesL (l ++ [e]) = namesL l ++ (varsT e []).map Tm.n
  | [], e => by simp [namesL]
  | x :: l, e => by simp [namesL, namesL_snoc l e]
theorem namesL_take {l : List Tm} {i : Nat} {x : Tm} (h : l[i]? = some x) : namesL (l.take (i + 1)) = namesL (l.take i) ++ (varsT x []).map Tm.n := by rw [← take_snoc h, namesL_snoc]
theorem namesL_len : ∀ l : List Tm, (namesL l).length ≤ bkTs l
  | [] => Nat.le_refl _
  | x :: l => by
    have h1 := varsT_len x []
    have h2 := szT_bk x
    have h3 := namesL_len l
    simp [namesL, bkTs] at h1 ⊢; omega
theorem namesL_mem : ∀ (l : List Tm) (n : ByteArray), n ∈ namesL l → n.size ≤ bkTs l
  | [], n, h => by simp [namesL] at h
  | x :: l, n, h => by
    simp only [namesL, List.mem_append, List.mem_map] at h
    simp only [bkTs]
    rcases h with ⟨y, hy, rfl⟩ | h
    · have hy := varsT_mem x [] y hy
      have := bkT_eq y
      simp at hy; omega
    · have := namesL_mem l n h; omega
theorem ref03_Names_ok (l : List Tm) (hb : bkTs l ≤ LIM) : ref03_Names l = some (namesL l) := by
  rw [ref03_Names_eq]
  refine LT.inv l (fun i (ns : List ByteArray) => ((i : Int), ns)) (fun i ns => ns = namesL (l.take i)) ?_ ?_ rfl
  · rintro i x ns hx rfl
    have hm := bkTs_mem (List.mem_of_getElem? hx)
    have hlen := namesL_len (l.take (i + 1))
    have hle := bkTs_le l (i + 1)
    rw [namesL_take hx] at hlen
    simp at hlen
    refine .inl ⟨_, fun next => ?_, rfl⟩
    simp only [ref03_Names.s1, dlt hx, ixg, hx, Option.bind_some, cond_true, ref02_Vars_ok x (by omega)]
    refine LT.inv (varsT x []) (fun k (ns : List ByteArray) => ((k : Int), ns, varsT x [])) (fun k ns => ns = namesL (l.take i) ++ ((varsT x []).take k).map Tm.n) ?_ ?_ (by simp)
    · rintro k v ns hv rfl
      have hlt := (List.getElem?_eq_some_iff.1 hv).1
      refine .inl ⟨_, fun next2 => ?_, rfl⟩
      simp only [ref03_Names.s2, dlt hv, cond_true]
      rw [if_pos ⟨by omega, by omega⟩, Int.toNat_natCast, hv]
      simp only [Option.bind_some]
      rw [if_pos (by simp; omega), ← take_snoc hv, inc_nat]
      simp
    · rintro ns rfl next2
      simp only [ref03_Names.s2, dle, cond_false, List.take_length]
      rw [namesL_take hx, inc_nat]
  · rintro ns rfl next
    simp only [ref03_Names.s1, dle, cond_false, List.take_length]
theorem memB_size {x : ByteArray} : ∀ {l : List ByteArray}, memB x l = true → ∃ u ∈ l, u.size = x.size
  | y :: l, h => by
    simp only [memB, Bool.or_eq_true, decide_eq_true_eq] at h
    rcases h with rfl | h
    · exact ⟨_, List.mem_cons_self .., rfl⟩
    · obtain ⟨u, h1, h2⟩ := memB_size h
      exact ⟨u, List.mem_cons_of_mem _ h1, h2⟩
/-- What the kernel makes of the new name. -/
def finV (v : Tm) (r : ByteArray) : Tm × Int := if 30 < r.size then (zeroT, 60) else (.mk v.k r v.y v.i v.s, 0)
theorem fresh_ok (used : List ByteArray) (v : Tm) (hv : bkT v ≤ LIM) : ∀ (m : Nat) (s : ByteArray), (∀ u ∈ used, u.size < s.size + m) → s.size + m ≤ LIM →
    ∃ r, LT (ref03_Fresh.s1 used) s (some r) ∧ LT (subst_Variant.s3 v) (s, used) (some (finV v r)) := by
  have last : ∀ s : ByteArray, memB s used = false → ∃ r, LT (ref03_Fresh.s1 used) s (some r) ∧ LT (subst_Variant.s3 v) (s, used) (some (finV v r)) := fun s h => by
    refine ⟨s, .last fun next => ?_, .last fun next => ?_⟩
    · simp only [ref03_Fresh.s1, ref01_In_ok, Option.bind_some, h, cond_false]
    · simp only [subst_Variant.s3, Contains_str_ok, Option.bind_some, h, cond_false, terms_Twin_ok v hv, finV]
      by_cases hs : 30 < s.size
      · rw [if_pos hs, decide_eq_true (by omega), cond_true]; rfl
      · rw [if_neg hs, decide_eq_false (by omega), cond_false]
  intro m
  induction m with
  | zero =>
    intro s h _
    refine last s ?_
    cases hm : memB s used
    · rfl
    · obtain ⟨u, h1, h2⟩ := memB_size hm
      have := h u h1
      omega
  | succ m ih =>
    intro s h hl
    cases hm : memB s used
    · exact last s hm
    · have hsz : ByteArray.size (s ++ ⟨#[39]⟩) = s.size + 1 := by rw [ByteArray.size_append]; rfl
      obtain ⟨r, h1, h2⟩ := ih (s ++ ⟨#[39]⟩) (fun u hu => by have := h u hu; omega) (by omega)
      have hlim : ByteArray.size s + ByteArray.size (⟨#[39]⟩ : ByteArray) ≤ LIM := by
        have : ByteArray.size (⟨#[39]⟩ : ByteArray) = 1 := rfl
        omega
      refine ⟨r, .next (fun next => ?_) h1, .next (fun next => ?_) h2⟩
      · simp only [ref03_Fresh.s1, ref01_In_ok, Option.bind_some, hm, cond_true, if_pos hlim]
      · simp only [subst_Variant.s3, Contains_str_ok, Option.bind_some, hm, cond_true, if_pos hlim]
def chkTs : List Tm → Int
  | [] => 0
  | x :: l => if chkT x ≠ 0 then chkT x else chkTs l
theorem chkTs_at {l : List Tm} {i : Nat} {x : Tm} (h : l[i]? = some x) : chkTs (l.drop i) = if chkT x ≠ 0 then chkT x else chkTs (l.drop (i + 1)) := by
  obtain ⟨h1, e1⟩ := List.getElem?_eq_some_iff.1 h
  rw [List.drop_eq_getElem_cons h1, e1]; rfl
theorem ref02_Checks_ok (l : List Tm) (hb : bkTs l ≤ BIG) : ref02_Checks l = some (chkTs l) := by
  rw [ref02_Checks_eq]
  refine LT.inv (T := Unit) l (fun i _ => (i : Int)) (fun i _ => chkTs (l.drop i) = chkTs l) ?_ ?_ (t0 := ()) rfl
  · intro i x _ hx hp
    have hm := bkTs_mem (List.mem_of_getElem? hx)
    rw [chkTs_at hx] at hp
    simp only [ref02_Checks.s1, dlt hx, ixg, hx, Option.bind_some, cond_true, ref02_Check_ok x (Nat.le_trans hm hb)]
    by_cases hc : chkT x = 0
    · exact .inl ⟨(), fun next => by simp only [hc, decide_true, Bool.not_true, cond_false, inc_nat], by simpa [hc] using hp⟩
    · exact .inr fun next => by rw [← hp]; simp [hc]
  · intro _ hp next
    simp only [ref02_Checks.s1, dle, cond_false]
    rw [List.drop_length] at hp
    rw [← hp]; rfl
theorem subst_variable_ok (v : Tm) (hb : bkT v ≤ BIG) : subst_variable v = some (if chkT v ≠ 0 then chkT v else if v.k ≠ 1 then 20 else 0) := by
  rw [subst_variable_eq, terms_Check_ok v hb]
  simp only [Option.bind_some]
  by_cases h : chkT v = 0 <;> by_cases h2 : v.k = 1 <;> simp [h, h2]
/-- A variable that is well formed is a name and a type. -/
theorem var_shape {v : Tm} (h : chkT v = 0) (hk : v.k = 1) : v.i = 0 ∧ v.s = [] := by
  unfold chkT at h
  split at h
  · split at h
    · rename_i h2
      rw [fm_eq, if_pos (.inl hk)] at h2
      split at h2
      · rename_i h3; exact ⟨h3.2.2.1, List.length_eq_zero_iff.1 h3.2.2.2⟩
      · simp at h2
    · cases h
  · cases h
theorem Variant_ok (l : List Tm) (v : Tm) (hl : bkTs l ≤ BIG) (hv : bkT v ≤ BIG) : ∃ z : Tm × Int, subst_Variant l v = some z ∧ ref03_Variant l v = some z ∧ bkT z.1 ≤ LIM := by
  have hl' := big_lim hl
  have hv' := big_lim hv
  have hz : bkT zeroT ≤ LIM := by decide
  obtain ⟨r, hr1, hr2⟩ := fresh_ok (namesL l) v hv' (BIG + 1) v.n (fun u hu => by have := namesL_mem l u hu; omega) (by have := bkT_eq v; simp only [BIG] at hv; simp only [BIG, LIM]; omega)
  have hr1 := hr1.eq
  rw [← ref03_Fresh_eq] at hr1
  -- the kernel
  have hk : subst_Variant l v = some (if chkTs l ≠ 0 then (zeroT, chkTs l) else if chkT v ≠ 0 then (zeroT, chkT v) else if v.k ≠ 1 then (zeroT, 20) else finV v r) := by
    rw [subst_Variant_eq]
    refine LT.inv l (fun i (ns : List ByteArray) => ((i : Int), (Tm.mk 0 ⟨#[]⟩ (Ty.mk false ⟨#[]⟩ []) 0 []), ns)) (fun i ns => ns = namesL (l.take i) ∧ chkTs (l.drop i) = chkTs l) ?_ ?_ ⟨rfl, rfl⟩
    · rintro i x ns hx ⟨rfl, hp⟩
      have hm := bkTs_mem (List.mem_of_getElem? hx)
      have hlen := namesL_len (l.take (i + 1))
      have hle := bkTs_le l (i + 1)
      rw [namesL_take hx] at hlen
      simp at hlen
      rw [chkTs_at hx] at hp
      simp only [subst_Variant.s1, dlt hx, ixg, hx, Option.bind_some, cond_true, terms_Free_ok x (by omega)]
      by_cases hc : chkT x = 0
      · refine .inl ⟨_, fun next => ?_, rfl, by simpa [hc] using hp⟩
        simp only [hc, if_true, decide_true, Bool.not_true, cond_false]
        refine LT.inv (varsT x []) (fun k (ns : List ByteArray) => ((k : Int), ns)) (fun k ns => ns = namesL (l.take i) ++ ((varsT x []).take k).map Tm.n) ?_ ?_ (by simp)
        · rintro k w ns hw rfl
          have hlt := (List.getElem?_eq_some_iff.1 hw).1
          refine .inl ⟨_, fun next2 => ?_, rfl⟩
          simp only [subst_Variant.s2, dlt hw, ixg, hw, cond_true, Option.bind_some]
          rw [if_pos (by simp; omega), ← take_snoc hw, inc_nat]
          simp
        · rintro ns rfl next2
          simp only [subst_Variant.s2, dle, cond_false, List.take_length]
          rw [namesL_take hx, inc_nat]
      · refine .inr fun next => ?_
        rw [if_pos hc] at hp
        rw [← hp, if_pos hc]
        simp only [hc, if_false, decide_false, Bool.not_false, cond_true]
        rfl
    · rintro ns ⟨rfl, hp⟩ next
      rw [List.drop_length] at hp
      have hp : chkTs l = 0 := hp.symm
      simp only [subst_Variant.s1, dle, cond_false, List.take_length, subst_variable_ok v hv, Option.bind_some, hp, ne_eq, not_true, if_false]
      by_cases h1 : chkT v = 0
      · by_cases h2 : v.k = 1
        · simp only [h1, h2, not_true, if_false, decide_true, Bool.not_true, cond_false]
          exact hr2.eq
        · simp [h1, h2]; rfl
      · simp [h1]; rfl
  have hf : ref03_Variant l v = some (if chkTs l ≠ 0 then (zeroT, chkTs l) else if chkT v ≠ 0 then (zeroT, chkT v) else if v.k ≠ 1 then (zeroT, 20) else finV v r) := by
    rw [ref03_Variant_eq, ref02_Checks_ok l hl, ref02_Check_ok v hv]
    simp only [Option.bind_some, jn, ref03_Variant.j1, ref03_Names_ok l hl', hr1, ref01_Twin_ok v.y (bkT_y hv')]
    by_cases h0 : chkTs l = 0
    · simp only [h0, decide_true, cond_true, ne_eq, not_true, if_false]
      by_cases h1 : chkT v = 0
      · by_cases h2 : v.k = 1
        · obtain ⟨e1, e2⟩ := var_shape h1 h2
          simp only [h1, h2, decide_true, Bool.not_true, cond_false, not_true, if_false, finV, e1, e2]
          by_cases hs : 30 < r.size
          · rw [if_pos hs, decide_eq_true (by omega), cond_true]; rfl
          · rw [if_neg hs, decide_eq_false (by omega), cond_false]
        · simp [h1, h2]; rfl
      · simp [h1]; rfl
    · simp [h0]; rfl
  refine ⟨_, hk, hf, ?_⟩
  split
  · exact hz
  · split
    · exact hz
    · split
      · exact hz
      · unfold finV
        split
        · exact hz
        · have := bkT_eq v
          simp only [BIG] at hv
          simp only [bkT, LIM]; omega
theorem Clone_tmo_ok (l : List Tm) (h : l.length ≤ LIM) : Clone_tmo l = some l := by
  rw [Clone_tmo_eq]
  have hc : List.length ([] : List Tm) + List.length l ≤ LIM := by simpa using h
  rw [if_pos hc]
  cases l with
  | nil => exact agree_of rfl rfl
  | cons x l => rfl
theorem Fresh_ok (g : Ssequent) (v : Tm) (hg : bkS g ≤ BIG) (hv : bkT v ≤ BIG) : ∃ z : Tm × Int, goal_Fresh g v = some z ∧ ref28_Fresh g v = some z ∧ bkT z.1 ≤ LIM := by
  have hg' := hg
  simp only [BIG] at hg'
  have hl := bkS_l hg
  simp only [BIG] at hl
  have hb : bkTs (g.hyps ++ [g.concl]) ≤ BIG := by
    have app : ∀ a b : List Tm, bkTs (a ++ b) = bkTs a + bkTs b := by
      intro a b
      induction a with
      | nil => simp [bkTs]
      | cons x a ih => simp [bkTs, ih]; omega
    rw [app]
    unfold bkS at hg
    simp [bkTs]; omega
  obtain ⟨z, h1, h2, h3⟩ := Variant_ok (g.hyps ++ [g.concl]) v hb hv
  refine ⟨z, ?_, ?_, h3⟩
  · rw [goal_Fresh_eq, Clone_tmo_ok _ (by simp only [LIM]; omega)]
    simp only [Option.bind_some]
    rw [if_pos (by simp [LIM]; omega), h1]
    rfl
  · rw [ref28_Fresh_eq, if_pos (by simp only [LIM]; omega), if_pos (by simp [LIM]; omega), h2]
    rfl
end Go.Ab.X

set_option linter.all false
set_option maxRecDepth 100000
set_option maxHeartbeats 1000000
namespace Go.Ab.X
open Go.RowKit Go.Ab
theorem take_drop_bk (l : List Tm) (i j : Nat) : bkTs (l.take i ++ l.drop (i + 1)) ≤ bkTs l := by
  have app : ∀ a b : List Tm, bkTs (a ++ b) = bkTs a + bkTs b := by
    intro a b
    induction a with
    | nil => simp [bkTs]
    | cons x a ih => simp [bkTs, ih]; omega
  have h1 := app (l.take i) (l.drop i)
  rw [List.take_append_drop] at h1
  have h2 : bkTs (l.drop (i + 1)) ≤ bkTs (l.drop i) := by
    have h3 := app ((l.drop i).take 1) ((l.drop i).drop 1)
    rw [List.take_append_drop, List.drop_drop] at h3
    omega
  rw [app]; omega
theorem outL_bk (g : Ssequent) (i : Int) : bkS (outL g i).1 ≤ bkS g + 8 := by
  unfold outL
  split
  · have h0 : bkS (Ssequent.mk [] zeroT) = 3 := rfl
    have : bkS (Ssequent.mk [] zeroT, false).1 = 3 := h0
    omega
  · simp only [bkS]
    have := take_drop_bk g.hyps i.toNat 0
    omega
theorem law28_ok (x1 x2 : Ssequent) (x3 x4 : Tm) (x5 : Int) (h1 : bkS x1 + bkT x3 ≤ BIG) (h2 : bkS x2 ≤ BIG) (h4 : bkT x4 ≤ BIG)
    (f1 : ∀ x ∈ x1.hyps, fitT x) (f1c : fitT x1.concl) (f2 : ∀ x ∈ x2.hyps, fitT x) (f2c : fitT x2.concl) (f3 : fitT x3) (f4 : fitT x4) : law28_GoalParts x1 x2 x3 x4 x5 = some true := by
  have b1 : bkS x1 ≤ LIM := big_lim (by omega)
  have b2 : bkS x2 ≤ LIM := big_lim h2
  have b3 : bkT x3 ≤ LIM := big_lim (by omega)
  have b4 : bkT x4 ≤ LIM := big_lim h4
  have b13 : bkS x1 + bkT x3 ≤ LIM := big_lim h1
  obtain ⟨z, z1, z2, z3⟩ := Fresh_ok x1 x4 (by omega) h4
  -- both loops that scribble
  have s5 : ∀ (b : Bool) (l m : List Tm) (k : Nat), loopN (law28_GoalParts.s5 (b, l, m) x1 x1) (0, m) = if b then some true else some false := by
    intro b l m k
    refine LT.inv m (fun i (r : List Tm) => ((i : Int), r)) (fun i r => r.length = m.length) ?_ ?_ rfl
    · intro i x r hx hr
      have hlt := (List.getElem?_eq_some_iff.1 hx).1
      obtain ⟨y, hy⟩ : ∃ y, r[i]? = some y := ⟨_, List.getElem?_eq_getElem (by omega)⟩
      refine .inl ⟨r.set i (Tm.mk 77 y.n y.y y.i y.s), fun next => ?_, by simpa using hr⟩
      simp only [law28_GoalParts.s5, dlt hy, cond_true]
      rw [if_pos ⟨by omega, by omega⟩, Int.toNat_natCast, hy, inc_nat]
      rfl
    · intro r hr next
      have hd : decide (((m.length : Nat) : Int) < (r.length : Int)) = false := by rw [hr]; exact dle
      simp only [law28_GoalParts.s5, hd, cond_false, ref28_Same_ok x1 x1 b1, Option.bind_some, sameS_refl]
      cases b <;> rfl
  have s4 : ∀ (b : Bool) (l m : List Tm), loopN (law28_GoalParts.s4 (b, l, m) x1 x1) (0, l, m) = if b then some true else some false := by
    intro b l m
    refine LT.inv l (fun i (r : List Tm) => ((i : Int), r, m)) (fun i r => r.length = l.length) ?_ ?_ rfl
    · intro i x r hx hr
      have hlt := (List.getElem?_eq_some_iff.1 hx).1
      obtain ⟨y, hy⟩ : ∃ y, r[i]? = some y := ⟨_, List.getElem?_eq_getElem (by omega)⟩
      refine .inl ⟨r.set i (Tm.mk 77 y.n y.y y.i y.s), fun next => ?_, by simpa using hr⟩
      simp only [law28_GoalParts.s4, dlt hy, cond_true]
      rw [if_pos ⟨by omega, by omega⟩, Int.toNat_natCast, hy, inc_nat]
      rfl
    · intro r hr next
      have hd : decide (((l.length : Nat) : Int) < (r.length : Int)) = false := by rw [hr]; exact dle
      simp only [law28_GoalParts.s4, hd, cond_false]
      exact s5 b l m 0
  have j3 : ∀ (l m : List Tm), law28_GoalParts.j3 x1 x1 (true, l, m) = some true := fun l m => s4 true l m
  have hw := withL_bk x1.hyps x3
  have bw : bkS (Ssequent.mk (withL x1.hyps x3) x1.concl) ≤ LIM := by simp only [bkS] at b13 ⊢; omega
  have bo : bkS (outL x1 x5).1 ≤ LIM := by have := outL_bk x1 x5; simp only [BIG] at h1; simp only [LIM]; omega
  have e1 : Ssequent.mk x1.hyps x1.concl = x1 := rfl
  have main : law28_GoalParts.j1 x1 x3 x5 x4 x2 false = some true := by
    simp only [law28_GoalParts.j1, cond_false, ref28_Twin_ok x1 b1, Option.bind_some, goal_With_ok x1 x3 b13, goal_Without_ok x1 x5 b1, ref28_Without_ok x1 x5 b1, goal_Find_ok, ref28_Find_ok x1 x3 b1, z1, z2, goal_TwinO_ok x1 b1, ref28_With_ok x1 x3 b13,
      ref28_Same_ok _ _ bw, ref28_Same_ok _ _ bo, sameS_refl, cond_true, BEq.rfl, decide_true, ref02_Same_ok _ _ z3, cmpTm_refl, jn, law28_GoalParts.j2, e1, ref28_Same_ok _ _ b1, goal_Same_ok, j3]
  have j1 : ∀ b, law28_GoalParts.j1 x1 x3 x5 x4 x2 b = some true := fun b => by
    cases b
    · exact main
    · rfl
  obtain ⟨c1, hc1⟩ := ref28_Great_ok x1 f1 f1c b1
  obtain ⟨c2, hc2⟩ := ref28_Great_ok x2 f2 f2c b2
  rw [law28_GoalParts_eq]
  simp only [jn, hc1, hc2, ref02_Great_ok x3 f3 b3, ref02_Great_ok x4 f4 b4, Option.bind_some, j1]
  cases c1 <;> cases c2 <;> cases greatT x3 <;> rfl
end Go.Ab.X
