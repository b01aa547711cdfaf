/- A part of the proof: V1. -/
import Derived.Test.YtjfjcmfncgfhoaaAbW
import Derived.Test.YtjfjcmfncgfhoaaAbU
import Derived.Test.YtjfjcmfncgfhoaaSpE
import Derived.RangeFuncNested
import Derived.RangeFuncBound
import Derived.RangeFuncCalls
import Derived.RangeFuncLeaves
import Derived.Shelf.Abstract
import Derived.WalkKit
import Derived.OwnWalkIn
import Derived.TacticsInMore
import Derived.LoopNIn
import Derived.LoopIn
import Derived.Laws.EntriesVeiled
import Derived.Test.YtjfjcmfncgfhoaaProg
set_option linter.all false
set_option linter.all false
namespace Go.Proofs.It
open Go.RowKit Go.Shelf Go.Ab
theorem YieldAt.anyDepth' {m m' : Nat} {P : Program} {l : Nat} {f : FuncId} {tmps : Array Value} {assign body : Code} {w : World} {R : Ending → World → Prop} (h : RoundIn Fence.wide m P l f tmps assign body w R) : RoundIn Fence.wide m' P l f tmps assign body w R := ⟨h.1, fun c cs _ => h.2 c cs (room_wide _)⟩
theorem _root_.Go.Ab.Rounded.of_grew {M M' : Nat → Prop} {W W1 W' : World} (h : Rounded M M' W1 W') (hs : W.heap.size ≤ W1.heap.size) (hk : ∀ k, k < W.heap.size → W1.heap[k]? = W.heap[k]?) : Rounded M M' W W' :=
  ⟨fun k hm => (h.own k hm).imp id (Nat.le_trans hs), Nat.le_trans hs h.size, fun k hlt hm => (h.same k (Nat.lt_of_lt_of_le hlt hs) hm).trans (hk k hlt)⟩
theorem _root_.Go.Ab.Rounded.trans {M M1 M' : Nat → Prop} {W W1 W' : World} (h : Rounded M M1 W W1) (h' : Rounded M1 M' W1 W') : Rounded M M' W W' :=
  ⟨fun k hm => (h'.own k hm).elim (h.own k) (fun h2 => .inr (Nat.le_trans h.size h2)), Nat.le_trans h.size h'.size, fun k hlt hm => (h'.same k (Nat.lt_of_lt_of_le hlt h.size) (fun h2 => (h.own k h2).elim hm (fun h3 => absurd hlt (Nat.not_lt.2 h3)))).trans (h.same k hlt hm)⟩
theorem meas {n k : Nat} (h : k < n) : n - (intOf (.int .i64 ((k + 1 : Nat) : Int))).toNat < n - (intOf (.int .i64 (k : Int))).toNat := by
  simp only [intOf]; omega
theorem wrap_len {k : Nat} (h : k < LIM) : wrap64 ((k : Int) + 1) = ((k + 1 : Nat) : Int) := by
  simp only [LIM] at h
  unfold wrap64; omega
theorem cell_new_l (W : World) (v : Value) (t : TypeId) : (W.alloc (.cells #[v] t)).cell? ⟨W.heap.size, 0, none⟩ = some v ∧ (W.alloc (.cells #[v] t)).frozen? ⟨W.heap.size, 0, none⟩ = false :=
  ⟨(World.cell?_alloc_new _ _ _ 0).trans rfl, World.frozen?_alloc_new _ _ _ _⟩
set_option maxRecDepth 100000 in
set_option maxHeartbeats 2000000 in
theorem visit_ok (l : Nat) (I0 : Addr → Prop) (W0 : World) (J : Nat → (Nat → Prop) → World → Prop) (Jx : World → Prop) (hab : Abide J) (hI0 : ∀ i M W', J i M W' → ∀ b, I0 b → W'.cell? b = W0.cell? b)
    (L : List Ty)
    (hY : ∀ i M W' x vals, L[i]? = some x → J i M W' → RVs I0 noθ W' [.agg (tyC x)] vals → YieldAt Fence.wide 1 Try.prog l vals.toArray W' fun e W'' =>
      (e = .returned (.bool true) ∧ ∃ M', J (i + 1) M' W'' ∧ Rounded M M' W' W'') ∨ (e = .returned (.bool false) ∧ Jx W'')) :
    ∀ (t : Ty) (i : Nat) (M : Nat → Prop) (W : World) (vs : List Value) (yb vb : Nat), (∀ j x, (pre t)[j]? = some x → L[i + j]? = some x) → RVs I0 noθ W (tyC t) vs → (∀ u ∈ vs, u.oneCell' = true) → J i M W →
      W.cell? ⟨yb, 0, none⟩ = some (.func (.yield l) #[] #[]) → W.cell? ⟨vb, 0, none⟩ = some (.func (.func 142) #[] #[.pointer (some ⟨yb, 0, none⟩), .pointer (some ⟨vb, 0, none⟩)]) → ¬ M yb → ¬ M vb →
      Calls Try.prog 142 #[.agg vs.toArray, .pointer (some ⟨yb, 0, none⟩), .pointer (some ⟨vb, 0, none⟩)] W fun e W' =>
        (e = .returned (.bool true) ∧ ∃ M', J (i + (pre t).length) M' W' ∧ Rounded M M' W W') ∨ (e = .returned (.bool false) ∧ Jx W') := by
  refine Ty.ind fun t ih => ?_
  intro i M W vs yb vb hL hv h1 hJ hyb hvb hMy hMv
  have hv0 := hv
  rw [ty_eq] at hv
  simp only [RVs, RV] at hv
  obtain ⟨v1, _, rfl, rfl, v2, _, rfl, ⟨rfl, hn⟩, v3, _, rfl, ⟨hpe, a3, cap, rfl, q1, q2, q3, q4, q5⟩, rfl⟩ := hv
  have hlen : (List.map tyC t.a).length = t.a.length := by simp
  simp only [hlen] at h1 hv0 q1 q2 q3 q4 q5
  have hby : yb < W.heap.size := block_lt_of_cell hyb
  have hbv : vb < W.heap.size := block_lt_of_cell hvb
  obtain ⟨W1, hW1⟩ : ∃ W1, W.alloc (Obj.cells #[.bool t.v, .string t.n, .slice a3 t.a.length cap] 24) = W1 := ⟨_, rfl⟩
  have hs1 : W1.heap.size = W.heap.size + 1 := by rw [← hW1]; simp
  have hg1 : Grew M W W1 := ⟨by rw [← hW1]; rfl, by rw [← hW1]; rfl, by rw [← hW1]; rfl, by omega, fun k hk => by rw [← hW1]; exact Below.heap_alloc _ _ _ (hab.lt _ _ _ hJ k hk)⟩
  have hJ1 := hab.grow _ _ _ _ hJ hg1
  have hc1 : ∀ b, I0 b → W1.cell? b = W.cell? b := fun b hb => (hI0 _ _ _ hJ1 b hb).trans (hI0 _ _ _ hJ b hb).symm
  have hLt : L[i]? = some t := by simpa using hL 0 t (by cases t; rfl)
  obtain ⟨fn, tmps, assign, body, hy, hR⟩ := hY i M W1 t [.agg #[.bool t.v, .string t.n, .slice a3 t.a.length cap]] hLt hJ1 (by
    simp only [RVs, RV]
    exact ⟨_, [], rfl, ⟨[.bool t.v, .string t.n, .slice a3 t.a.length cap], rfl, h1, RVs_mono (fun _ h => h) hc1 (fun _ _ h => h) _ _ hv0⟩, rfl⟩)
  have e1 : W1.cell? ⟨yb, 0, none⟩ = some (.func (.yield l) #[] #[]) := by rw [← hW1]; exact (World.cell?_alloc_lt _ _ _ hby).trans hyb
  have c0 : W1.cell? ⟨W.heap.size, 0, none⟩ = some (.bool t.v) := by rw [← hW1]; exact (World.cell?_alloc_new _ _ _ 0).trans rfl
  have c1 : W1.cell? ⟨W.heap.size, 1, none⟩ = some (.string t.n) := by rw [← hW1]; exact (World.cell?_alloc_new _ _ _ 1).trans rfl
  have c2 : W1.cell? ⟨W.heap.size, 2, none⟩ = some (.slice a3 t.a.length cap) := by rw [← hW1]; exact (World.cell?_alloc_new _ _ _ 2).trans rfl
  simp only [hlen]
  refine (callsIn_wide (n := 2)).1 ?_
  refine callsIn_of_wp Try.func142 rfl trivial ?_ rfl
  simp only [Try.ntmps142, List.size_toArray, List.length_cons, List.length_nil, Nat.reduceAdd, Nat.reduceSub, Array.replicate_succ, Array.replicate_zero, List.push_toArray, List.append_toArray, List.nil_append, List.cons_append]
  have hne : ∀ k, M k → k ≠ W.heap.size := fun k hk h => absurd (hab.lt _ _ _ hJ k hk) (by omega)
  have hcells : ∀ (W' : World) (M' : Nat → Prop), Rounded M M' W1 W' → ∀ (b : Addr), b.block < W1.heap.size → ¬ M b.block → W'.cell? b = W1.cell? b := fun W' M' hr b hb hm => World.cell?_of_block (hr.same _ hb hm)
  have f2 : ∀ (W' : World) (M' : Nat → Prop), Rounded M M' W1 W' → W'.cell? ⟨W.heap.size, 2, none⟩ = some (.slice a3 t.a.length cap) := fun W' M' hr => (hcells W' M' hr ⟨W.heap.size, 2, none⟩ (by simp; omega) (fun h => hne _ h rfl)).trans c2
  have fy : ∀ (W' : World) (M' : Nat → Prop), Rounded M M' W1 W' → W'.cell? ⟨yb, 0, none⟩ = some (.func (.yield l) #[] #[]) := fun W' M' hr => (hcells W' M' hr ⟨yb, 0, none⟩ (by simp; omega) hMy).trans e1
  have e2 : W1.cell? ⟨vb, 0, none⟩ = some (.func (.func 142) #[] #[.pointer (some ⟨yb, 0, none⟩), .pointer (some ⟨vb, 0, none⟩)]) := by rw [← hW1]; exact (World.cell?_alloc_lt _ _ _ hbv).trans hvb
  have fv : ∀ (W' : World) (M' : Nat → Prop), Rounded M M' W1 W' → W'.cell? ⟨vb, 0, none⟩ = some (.func (.func 142) #[] #[.pointer (some ⟨yb, 0, none⟩), .pointer (some ⟨vb, 0, none⟩)]) := fun W' M' hr => (hcells W' M' hr ⟨vb, 0, none⟩ (by simp; omega) hMv).trans e2
  gi_wp2_with ((try refine ⟨fun h => (by cases h), ?_⟩); refine (YieldAt.anyDepth' hR).mono ?_; clear hR; rintro e W2 (⟨rfl, M2, hJ2, hr2⟩ | ⟨rfl, hx⟩); first | have d2 := f2 _ _ hr2 | skip)
  · gi_loopw [14] (fun v wr => ∃ (k : Nat) (M' : Nat → Prop), v = .int .i64 k ∧ k ≤ t.a.length ∧ J (i + 1 + (pres (t.a.take k)).length) M' wr ∧ Rounded M M' W1 wr)
      (fun v _ => t.a.length - (intOf v).toNat)
    case atStart => exact ⟨0, M2, rfl, Nat.zero_le _, by simpa [pres] using hJ2, hr2⟩
    case round =>
      obtain ⟨k, M', rfl, hk, hJk, hrk⟩ := hrel
      have dy := fy _ _ hrk
      have dv := fv _ _ hrk
      by_cases hlt : k < t.a.length
      · have hkd : decide ((k : Int) < (t.a.length : Int)) = true := by simp; omega
        obtain ⟨x, hx⟩ : ∃ x, t.a[k]? = some x := ⟨_, List.getElem?_eq_getElem hlt⟩
        obtain ⟨_, g1, B, o, rfl, g2⟩ := q5 (by intro h; simp at h; rw [h] at hlt; cases hlt)
        have hcw : ∀ b, I0 b → wr.cell? b = W.cell? b := fun b hb => (hI0 _ _ _ hJk b hb).trans (hI0 _ _ _ hJ b hb).symm
        obtain ⟨ws, gr, gs, gc⟩ := RVc_vals (RVe_get (RVe_mono (fun _ h => h) hcw (fun _ _ h => h) _ _ _ g2) g1 k (tyC x) (by simp [hx]))
        have gr0 := gr
        rw [ty_eq] at gr
        simp only [RVs, RV] at gr
        obtain ⟨v1, _, rfl, rfl, v2, _, rfl, ⟨rfl, hn'⟩, v3, _, rfl, ⟨hpe', a4, cap4, rfl, r1, r2, r3, r4, r5⟩, rfl⟩ := gr
        simp only [List.length_map] at gr0 gs gc r1 r3
        have z0 : wr.cell? ⟨B, o + k * 3, none⟩ = _ := gc 0 _ rfl
        have z1 := gc 1 _ rfl
        have z2 := gc 2 _ rfl
        obtain ⟨W3, hW3⟩ : ∃ W3, wr.alloc (Obj.cells #[.bool x.v, .string x.n, .slice a4 x.a.length cap4] 24) = W3 := ⟨_, rfl⟩
        have hs3 : W3.heap.size = wr.heap.size + 1 := by rw [← hW3]; simp
        have hg3 : Grew M' wr W3 := ⟨by rw [← hW3]; rfl, by rw [← hW3]; rfl, by rw [← hW3]; rfl, by omega, fun k hk => by rw [← hW3]; exact Below.heap_alloc _ _ _ (hab.lt _ _ _ hJk k hk)⟩
        have hJ3 := hab.grow _ _ _ _ hJk hg3
        have hc3 : ∀ b, I0 b → W3.cell? b = wr.cell? b := fun b hb => (hI0 _ _ _ hJ3 b hb).trans (hI0 _ _ _ hJk b hb).symm
        have k0 : W3.cell? ⟨wr.heap.size, 0, none⟩ = some (.bool x.v) := by rw [← hW3]; exact (World.cell?_alloc_new _ _ _ 0).trans rfl
        have k1 : W3.cell? ⟨wr.heap.size, 1, none⟩ = some (.string x.n) := by rw [← hW3]; exact (World.cell?_alloc_new _ _ _ 1).trans rfl
        have k2 : W3.cell? ⟨wr.heap.size, 2, none⟩ = some (.slice a4 x.a.length cap4) := by rw [← hW3]; exact (World.cell?_alloc_new _ _ _ 2).trans rfl
        have ky : W3.cell? ⟨yb, 0, none⟩ = some (.func (.yield l) #[] #[]) := by rw [← hW3]; exact (World.cell?_alloc_lt _ _ _ (block_lt_of_cell dy)).trans dy
        have kv : W3.cell? ⟨vb, 0, none⟩ = some (.func (.func 142) #[] #[.pointer (some ⟨yb, 0, none⟩), .pointer (some ⟨vb, 0, none⟩)]) := by rw [← hW3]; exact (World.cell?_alloc_lt _ _ _ (block_lt_of_cell dv)).trans dv
        have hmy : ¬ M' yb := fun h => (hrk.own _ h).elim hMy (fun h => by omega)
        have hmv : ¬ M' vb := fun h => (hrk.own _ h).elim hMv (fun h => by omega)
        have hxL : ∀ j y, (pre x)[j]? = some y → L[i + 1 + (pres (t.a.take k)).length + j]? = some y := fun j y hj => by
          have := hL (1 + (pres (t.a.take k)).length + j) y (pre_at hx j y hj)
          rwa [show i + (1 + (pres (t.a.take k)).length + j) = i + 1 + (pres (t.a.take k)).length + j by omega] at this
        have hih := ih x (List.mem_of_getElem? hx) (i + 1 + (pres (t.a.take k)).length) M' W3 _ yb vb hxL (RVs_mono (fun _ h => h) hc3 (fun _ _ h => h) _ _ gr0) gs hJ3 ky kv hmy hmv
        have hl1 : (pres (t.a.take (k + 1))).length = (pres (t.a.take k)).length + (pre x).length := pres_take hx
        gi_wp2_with (refine ⟨trivial, ?_⟩; gi_at_call 142; refine (callsIn_wide.2 hih).mono ?_; clear hih; rintro e W4 (⟨rfl, M4, hJ4, hr4⟩ | ⟨rfl, hx4⟩))
        case roundEnd =>
          have hw : wrap64 ((k : Int) + 1) = ((k + 1 : Nat) : Int) := wrap_len (Nat.lt_of_lt_of_le hlt q3)
          rw [hw]
          refine ⟨⟨k + 1, M4, rfl, hlt, ?_, (hrk.trans (Rounded.of_grew hr4 hg3.size (fun k hk => by rw [← hW3]; exact Below.heap_alloc _ _ _ hk)))⟩, ?_⟩
          · rw [hl1, ← Nat.add_assoc]; exact hJ4
          · exact meas hlt
        go_ret
        exact .inr ⟨rfl, hx4⟩
      · obtain rfl : k = t.a.length := by omega
        gi_wp2
        have hl : (pre t).length = 1 + (pres t.a).length := by cases t; simp only [pre, List.length_cons, Ty.a]; omega
        rw [List.take_length, Nat.add_assoc, ← hl] at hJk
        go_ret
        exact (.inl ⟨rfl, M', hJk, hrk.of_grew hg1.size (fun k hk => by rw [← hW1]; exact Below.heap_alloc _ _ _ hk)⟩)
  · gi_wp2
    go_ret
    exact (.inr ⟨rfl, hx⟩)
set_option maxRecDepth 100000 in
set_option maxHeartbeats 2000000 in
/-- types.nodes gives the nodes. -/
theorem nodes_it (t : Ty) : ItC Try.prog 141 [.ip (tyC t)] ((pre t).map fun x => [.agg (tyC x)]) := by
  refine ⟨fun _ _ => by kernel_rfl, ?_⟩
  intro l I0 W lb hlb J Jx hab hI0 hY M hJ
  simp only [RVs, RV] at hlb
  obtain ⟨v, _, rfl, ⟨_, B, o, rfl, hc⟩, rfl⟩ := hlb
  rw [List.length_map]
  simp only [List.getElem?_map] at hY
  obtain ⟨ws, gr, gs, gc⟩ := RVc_vals hc
  have gr0 := gr
  rw [ty_eq] at gr
  simp only [RVs, RV] at gr
  obtain ⟨v1, _, rfl, rfl, v2, _, rfl, ⟨rfl, hn'⟩, v3, _, rfl, ⟨hpe', a4, cap4, rfl, r1, r2, r3, r4, r5⟩, rfl⟩ := gr
  simp only [List.length_map] at gr0 gs gc
  have z0 : W.cell? ⟨B, o, none⟩ = _ := gc 0 _ rfl
  have z1 : W.cell? ⟨B, o + 1, none⟩ = _ := gc 1 _ rfl
  have z2 : W.cell? ⟨B, o + 2, none⟩ = _ := gc 2 _ rfl
  obtain ⟨W1, hW1⟩ : ∃ W1, (W.alloc (.cells #[.func (.yield l) #[] #[]] 93)).alloc (.cells #[.nilFunc] 93) = W1 := ⟨_, rfl⟩
  have hs1 : W1.heap.size = W.heap.size + 2 := by rw [← hW1]; simp
  have hold : ∀ k, k < W.heap.size → W1.heap[k]? = W.heap[k]? := fun k hk => by
    rw [← hW1]; exact (Below.heap_alloc _ _ _ (by simp; omega)).trans (Below.heap_alloc _ _ _ hk)
  have hv1 : W1.cell? ⟨W.heap.size + 1, 0, none⟩ = some .nilFunc := by
    rw [← hW1]; have := (cell_new_l (W.alloc (.cells #[.func (.yield l) #[] #[]] 93)) .nilFunc 93).1; rwa [World.size_alloc] at this
  have hf1 : W1.frozen? ⟨W.heap.size + 1, 0, none⟩ = false := by
    rw [← hW1]; have := (cell_new_l (W.alloc (.cells #[.func (.yield l) #[] #[]] 93)) .nilFunc 93).2; rwa [World.size_alloc] at this
  have hy1 : W1.cell? ⟨W.heap.size, 0, none⟩ = some (.func (.yield l) #[] #[]) := by
    rw [← hW1]; exact (World.cell?_alloc_lt _ _ _ (by simp)).trans (cell_new_l _ _ _).1
  obtain ⟨W2, hW2⟩ : ∃ W2, W1.setCell ⟨W.heap.size + 1, 0, none⟩ (.func (.func 142) #[] #[.pointer (some ⟨W.heap.size, 0, none⟩), .pointer (some ⟨W.heap.size + 1, 0, none⟩)]) = W2 := ⟨_, rfl⟩
  have hold2 : ∀ k, k < W.heap.size → W2.heap[k]? = W.heap[k]? := fun k hk => by
    rw [← hW2]; exact (Below.heap_setCell _ _ _ _ (by simp; omega)).trans (hold k hk)
  have hs2 : W2.heap.size = W.heap.size + 2 := by rw [← hW2]; simp [hs1]
  have hg2 : Grew M W W2 := ⟨by rw [← hW2, ← hW1]; rfl, by rw [← hW2, ← hW1]; rfl, by rw [← hW2, ← hW1]; rfl, by omega, fun k hk => hold2 k (hab.lt _ _ _ hJ k hk)⟩
  have hJ2 := hab.grow _ _ _ _ hJ hg2
  have hc2 : ∀ b, I0 b → W2.cell? b = W.cell? b := fun b hb => hI0 _ _ _ hJ2 b hb
  have x0 : W2.cell? ⟨B, o, none⟩ = _ := (World.cell?_of_block (hold2 _ (block_lt_of_cell z0))).trans z0
  have x1 : W2.cell? ⟨B, o + 1, none⟩ = _ := (World.cell?_of_block (a := ⟨B, o + 1, none⟩) (hold2 _ (block_lt_of_cell z1))).trans z1
  have x2 : W2.cell? ⟨B, o + 2, none⟩ = some (.slice a4 t.a.length cap4) := (World.cell?_of_block (a := ⟨B, o + 2, none⟩) (hold2 _ (block_lt_of_cell z2))).trans (by rw [z2])
  have hMn : ∀ k, M k → k < W.heap.size := hab.lt _ _ _ hJ
  refine (callsIn_wide (n := 2)).1 ?_
  refine callsIn_of_wp Try.func141 rfl trivial ?_ rfl
  simp only [Try.ntmps141, List.size_toArray, List.length_cons, List.length_nil, Nat.reduceAdd, Nat.reduceSub, Array.replicate_succ, Array.replicate_zero, List.push_toArray, List.append_toArray, List.nil_append, List.cons_append]
  have v2 : W2.cell? ⟨W.heap.size + 1, 0, none⟩ = some (.func (.func 142) #[] #[.pointer (some ⟨W.heap.size, 0, none⟩), .pointer (some ⟨W.heap.size + 1, 0, none⟩)]) := by
    rw [← hW2]; exact World.cell?_setCell_same' _ _ _ (by rw [hv1]; rfl)
  have y2 : W2.cell? ⟨W.heap.size, 0, none⟩ = some (.func (.yield l) #[] #[]) := by
    rw [← hW2, World.cell?_setCell_other _ _ _ _ (by simp)]; exact hy1
  have hvis := fun v2 y2 => visit_ok l I0 W J Jx hab hI0 (pre t) (fun i M' W' x vals hx hJ' hv => hY i M' W' _ vals (by rw [hx]; rfl) hJ' hv) t 0 M W2 _ W.heap.size (W.heap.size + 1) (fun j x h => by rwa [Nat.zero_add]) (RVs_mono (fun _ h => h) hc2 (fun _ _ h => h) _ _ gr0) gs hJ2 y2 v2 (fun h => absurd (hMn _ h) (Nat.lt_irrefl _)) (fun h => absurd (hMn _ h) (by omega))
  have hvis := hvis v2 y2
  rw [Nat.zero_add] at hvis
  gi_wp2_with (refine ⟨trivial, ?_⟩; gi_at_call 142; refine (callsIn_wide.2 hvis).mono ?_; clear hvis; rintro e W4 (⟨rfl, M4, hJ4, hr4⟩ | ⟨rfl, hx4⟩))
  all_goals go_end0
  · exact ⟨⟨_, rfl⟩, .inl ⟨M4, hJ4⟩⟩
  · exact ⟨⟨_, rfl⟩, .inr hx4⟩
end Go.Proofs.It
