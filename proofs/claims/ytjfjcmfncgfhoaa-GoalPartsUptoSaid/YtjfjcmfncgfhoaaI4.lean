/- slices.Insert at terms: there is no room. -/
import Derived.Test.YtjfjcmfncgfhoaaI2
import Derived.Shelf.Spec.SlicesInsertGrow
set_option linter.all false
set_option linter.all false
namespace Go.Proofs.Ins
open Go.RowKit Go.Shelf Go.Ab
theorem u3 : Try.prog.underlying 3 = some (.int .i64) := by kernel_rfl
set_option maxHeartbeats 4000000 in
set_option maxRecDepth 100000 in
theorem ins_grow (B n i vb vo vc : Nat) (cur : Array Value) (vs : List Value) (w : World) (hi : i < n) (hn : n + 1 ≤ LIM) (hvb : vb ≠ B) (hg : w.heap[B]? = some (.cells cur 27 (0, 0))) (hcur : cur.size = n * 7)
    (h1c : ∀ v ∈ cur.toList, v.oneCell' = true) (hvs : ∀ j v, vs[j]? = some v → w.cell? ⟨vb, vo + j, none⟩ = some v) (hvl : vs.length = 7) (h1v : ∀ v ∈ vs, v.oneCell' = true) :
    Calls Try.prog 63 #[.slice (some ⟨B, 0, none⟩) n n, .int .i64 i, .slice (some ⟨vb, vo, none⟩) 1 vc] w fun e w' => ∃ G, e = .returned (.slice (some ⟨w.heap.size, 0, none⟩) (n + 1) G) ∧ n + 1 ≤ G ∧ G ≤ maxLen ∧ ∃ cur', w'.heap[w.heap.size]? = some (.cells cur' 27 (0, 0)) ∧ w.grownBy w' (some B) ∧ cur'.size = G * 7 ∧ cur'.toList.take ((n + 1) * 7) = cur.toList.take (i * 7) ++ vs ++ cur.toList.drop (i * 7) := by
  obtain ⟨ie, zv, hie, hz, hsz, hzs, hby⟩ := info27
  have hB : B < w.heap.size := (Array.getElem?_eq_some_iff.1 hg).1
  have hV : vb < w.heap.size := by
    obtain ⟨x, hx⟩ : ∃ x, vs[0]? = some x := ⟨_, List.getElem?_eq_getElem (by omega)⟩
    exact block_lt_of_cell (hvs 0 x hx)
  have hbytes : (n + 1) * ie.bytes ≤ 140737488355328 := by rw [Nat.mul_comm]; exact Nat.le_trans (Nat.mul_le_mul_left _ hn) hby
  have hbytes1 : (n + 1 - i) * ie.bytes ≤ 140737488355328 := Nat.le_trans (Nat.mul_le_mul_right _ (by omega)) hbytes
  have hold : (Builtin.firstCells ie.size i (.slice (some ⟨B, 0, none⟩) i n)).run Try.prog w.drew = .ok (cur.toList.take (i * 7)).toArray w.drew := by
    rw [hsz]
    refine run_firstCells_some w.drew 7 i ⟨B, 0, none⟩ i n (cur.toList.take (i * 7)) (by simp; omega) (fun j v hj => ?_)
    rw [Addr.add_lit, Nat.zero_add]
    rw [List.getElem?_take] at hj
    split at hj
    · show w.cell? ⟨B, j, none⟩ = some v
      simp only [World.cell?, hg]
      simpa using hj
    · cases hj
  have hkk : (n : Int) + 1 - (i : Int) = ((n + 1 - i : Nat) : Int) := by omega
  have hik : i + (n + 1 - i) = n + 1 := by omega
  obtain ⟨G, hG⟩ : ∃ G, G = grownCap w (n + 1) n 27 := ⟨_, rfl⟩
  obtain ⟨ROW, hROW⟩ : ∃ ROW : Array Value, ROW = (cur.toList.take (i * 7)).toArray ++ Builtin.zeroCells zv.cells (n + 1 - i) ++ Builtin.zeroCells zv.cells (G - (n + 1)) := ⟨_, rfl⟩
  have hGn : n + 1 ≤ G := by rw [hG]; exact grownCap_ge w _ _ _
  have hGm : G ≤ maxLen := by rw [hG]; exact grownCap_le_maxLen w (n + 1) n 27 (Nat.le_trans hn LIM_le)
  have hRs : ROW.size = G * 7 := by
    rw [hROW]
    simp only [Array.size_append, List.size_toArray, size_zeroCells, hzs, List.length_take, Array.length_toList]
    omega
  have hRt : ROW.toList.take (i * 7) = cur.toList.take (i * 7) := by
    rw [hROW]
    simp only [Array.toList_append, List.append_assoc]
    rw [List.take_append_of_le_length (by simp; omega), List.take_take, Nat.min_self]
  have hbz : (n + 1 - i) * ie.bytes ≤ 281474976710656 := by omega
  have hrz : ∀ ty, (Builtin.append_ #[25, 3] ty #[.slice (some ⟨B, 0, none⟩) i n, .int .i64 ((n : Int) + 1 - (i : Int))]).run Try.prog w = .ok (.slice (some ⟨w.heap.size, 0, none⟩) (n + 1) G) (w.drew.alloc (.cells ROW 27)) := fun ty => by
    have h := Lib.run_append_grow_zeros w 25 3 ty 27 ie zv .i64 .i64 Ins.u25 u3 hie hz (some ⟨B, 0, none⟩) i n (cur.toList.take (i * 7)) hold (n + 1 - i) (by omega) (by rw [hsz]; decide) (by omega) (by simp only [LIM] at hn; omega) hbz (by rw [hik]; exact growslice_fits (by omega) hbytes)
    rw [hik, ← hG, ← hROW] at h
    rw [hkk]
    exact h
  obtain ⟨N, hN⟩ : ∃ N, N = w.heap.size := ⟨_, rfl⟩
  obtain ⟨W1, hW1⟩ : ∃ W1, W1 = w.drew.alloc (.cells ROW 27) := ⟨_, rfl⟩
  have hg1 : W1.heap[N]? = some (.cells ROW 27 (0, 0)) := by rw [hW1, hN]; exact World.alloc_heap_new w.drew _
  have ho1 : ∀ k, k < w.heap.size → W1.heap[k]? = w.heap[k]? := fun k hk => by rw [hW1]; exact Below.heap_alloc w.drew _ _ hk
  obtain ⟨R1, hR1⟩ : ∃ R1 : Array Value, R1 = (ROW.toList.take (i * 7) ++ vs ++ ROW.toList.drop (i * 7 + vs.length)).toArray := ⟨_, rfl⟩
  have hR1s : R1.size = G * 7 := by rw [hR1]; simp [hvl, hRs]; omega
  obtain ⟨W2, hW2⟩ : ∃ W2, W2 = W1.setRow N R1 := ⟨_, rfl⟩
  have hcpA : ∀ ty dc, (Builtin.copy_ #[25, 25] ty #[.slice (some ⟨N, i * 7, none⟩) (n + 1 - i) dc, .slice (some ⟨vb, vo, none⟩) 1 vc]).run Try.prog W1 = .ok (goInt (Nat.min 1 (n + 1 - i))) W2 := fun ty dc => by
    rw [hW2, hR1]
    refine run_copy_sz W1 _ _ ty 27 N (i * 7) (n + 1 - i) dc ⟨vb, vo, none⟩ 1 vc ROW 27 vs 7 Ins.u25 i27 hg1 (by rw [hvl]; simp only [Nat.min_def]; split <;> omega) (fun j v hj => ?_) (by omega) h1v
    rw [Addr.add_lit]
    exact (World.cell?_of_block (ho1 vb hV)).trans (hvs j v hj)
  have hg2 : W2.heap[N]? = some (.cells R1 27 (0, 0)) := by rw [hW2]; exact setRow_heap W1 N ROW R1 27 (0, 0) hg1
  have ho2 : ∀ k, k < w.heap.size → W2.heap[k]? = w.heap[k]? := fun k hk => by rw [hW2]; exact (setRow_other W1 N k R1 (by omega)).trans (ho1 k hk)
  obtain ⟨cs, hcs⟩ : ∃ cs, cs = cur.toList.drop (i * 7) := ⟨_, rfl⟩
  have hcl : cs.length = (n - i) * 7 := by rw [hcs]; simp; omega
  obtain ⟨R2, hR2⟩ : ∃ R2 : Array Value, R2 = (R1.toList.take ((i + 1) * 7) ++ cs ++ R1.toList.drop ((i + 1) * 7 + cs.length)).toArray := ⟨_, rfl⟩
  obtain ⟨W3, hW3⟩ : ∃ W3, W3 = W2.drew.setRow N R2 := ⟨_, rfl⟩
  have hcpB : ∀ ty dc sc, (Builtin.copy_ #[25, 25] ty #[.slice (some ⟨N, (i + 1) * 7, none⟩) (n - i) dc, .slice (some ⟨B, i * 7, none⟩) (n - i) sc]).run Try.prog W2.drew = .ok (goInt (Nat.min (n - i) (n - i))) W3 := fun ty dc sc => by
    rw [hW3, hR2]
    refine run_copy_sz W2.drew _ _ ty 27 N ((i + 1) * 7) (n - i) dc ⟨B, i * 7, none⟩ (n - i) sc R1 27 cs 7 Ins.u25 i27 hg2 (by rw [hcl]; simp) (fun j v hj => ?_) (by omega) (fun v hv => h1c v (List.mem_of_mem_drop (hcs ▸ hv)))
    rw [Addr.add_lit]
    show W2.cell? ⟨B, i * 7 + j, none⟩ = some v
    rw [hcs, List.getElem?_drop] at hj
    simp only [World.cell?, ho2 B hB, hg]
    simpa using hj
  have hs3 : w.heap.size ≤ W3.heap.size := by
    have e1 : W1.heap.size = w.heap.size + 1 := by rw [hW1]; exact World.size_alloc w.drew _
    have e2 : W2.heap.size = W1.heap.size := by rw [hW2]; simp only [World.setRow, Array.size_modify]
    have e3 : W3.heap.size = W2.heap.size := by rw [hW3]; show (W2.drew.heap.modify _ _).size = _; rw [Array.size_modify]; rfl
    omega
  have hfin : ∃ cur', W3.heap[N]? = some (.cells cur' 27 (0, 0)) ∧ w.grownBy W3 (some B) ∧ cur'.size = G * 7 ∧ cur'.toList.take ((n + 1) * 7) = cur.toList.take (i * 7) ++ vs ++ cur.toList.drop (i * 7) := by
    refine ⟨R2, by rw [hW3]; exact setRow_heap W2.drew N R1 R2 27 (0, 0) hg2, ?_, ?_, ?_⟩
    · refine ⟨by rw [hW3, hW2, hW1]; rfl, by rw [hW3, hW2, hW1]; rfl, by rw [hW3, hW2, hW1]; rfl, hs3, fun k hk _ => ?_⟩
      rw [hW3]
      exact (setRow_other W2.drew N k R2 (by omega)).trans (ho2 k hk)
    · rw [hR2]; simp [hcl, hR1s]; omega
    · have e1 : R1.toList.take ((i + 1) * 7) = cur.toList.take (i * 7) ++ vs := by
        rw [hR1, ← hRt]
        have hl : (ROW.toList.take (i * 7) ++ vs).length = (i + 1) * 7 := by simp [hvl, hRs]; omega
        show List.take _ (ROW.toList.take (i * 7) ++ vs ++ _) = _
        rw [← hl, List.take_left]
      rw [hR2, e1, ← hcs]
      have hl : (cur.toList.take (i * 7) ++ vs ++ cs).length = (n + 1) * 7 := by simp [hvl, hcl]; omega
      show List.take _ (cur.toList.take (i * 7) ++ vs ++ cs ++ _) = _
      rw [← hl, List.take_left]
  rw [← hW1, ← hN] at hrz
  rw [← hN]
  have hbN : B ≠ N := by omega
  clear hcs hR1 hR2 hW1 hW2 hW3 hROW hG hold hkk hik hs3 ho1 ho2 hN
  have u25 := run_underlying (P := Try.prog) Ins.u25
  have mixed : Try.prog.follows Departure.mixedOrders = true := by kernel_rfl
  have hz2 : ¬ ((i : Int) = (n : Int)) := by omega
  have hz3 : (n : Int) < (n : Int) + 1 := by omega
  have hw1 : IntKind.i64.wrap ((i : Int) + 1) = (i : Int) + 1 := by rw [IntKind.wrap_i64]; simp only [LIM] at hn; omega
  have hw2 : IntKind.i64.wrap ((n : Int) + 1) = (n : Int) + 1 := by rw [IntKind.wrap_i64]; simp only [LIM] at hn; omega
  have hw3 : IntKind.i64.wrap ((n : Int) + 1 - (i : Int)) = (n : Int) + 1 - (i : Int) := by rw [IntKind.wrap_i64]; simp only [LIM] at hn; omega
  have hb1 : (0 : Int) ≤ (i : Int) + 1 := by omega
  have htn : ((i : Int) + 1).toNat = i + 1 := by omega
  have hin : i ≤ n := by omega
  have hb3 : (i : Int) ≤ (n : Int) + 1 := by omega
  have hb5 : (i : Int) ≤ (n : Int) := by omega
  have hci : ¬ (n = i) := by omega
  have hGi : ¬ (G = i) := by omega
  have hGim : ¬ (G = i + 1) := by omega
  go_enter Try.func63, Try.ntmps63
  go_wp2_with (first
    | (at_builtin; refine Lib.wpList_append_run _ rfl _ _ _ _ rfl _ _ rfl rfl _ _ (hrz _) ?_)
    | (at_builtin; refine wpList_copy_runI _ rfl _ _ 25 25 rfl _ _ rfl rfl (hcpA _ _) ?_))
  go_region_law_o (refine step_copy_runI rfl _ _ 25 25 rfl (.slice (some ⟨N, (i + 1) * 7, none⟩) (n - i) (G - (i + 1))) (.slice (some ⟨B, i * 7, none⟩) (n - i) (n - i)) (by simp [Act.eval, Act.put]) (by simp [Act.eval, Act.put]) (hcpB 3 (G - (i + 1)) (n - i)) ?_)
  go_wp2
  go_ret
  exact ⟨G, rfl, hGn, hGm, hfin⟩
end Go.Proofs.Ins

set_option linter.all false
namespace Go.Proofs.Ins
open Go.RowKit Go.Shelf Go.Ab
theorem ins_pg (l : List Tm) (i : Nat) (x : Tm) (hi : i ≤ l.length) (hl : l.length + 1 ≤ LIM) :
    PG Try.prog 63 [.row 27 7 (l.map tmC)] [.row 0, .i .i64 i, .sl false 7 [tmC x]] [.row 27 7 ((l.take i ++ [x] ++ l.drop i).map tmC)] (.row 0) := by
  refine ⟨fun _ _ => by kernel_rfl, fun I θ w vals S hv => ?_⟩
  simp only [RVs, RV] at hv
  obtain ⟨v0, _, rfl, ⟨hθ, _⟩, v1, _, rfl, ⟨rfl, _⟩, v2, _, rfl, ⟨hp, a, vc, rfl, q1, q2, q3, q4, q5⟩, rfl⟩ := hv
  obtain ⟨_, hel, vb, vo, rfl, hcells⟩ := q5 (by simp)
  obtain ⟨vs, gv, g1, gc⟩ := RVe_vals hcells
  simp only [List.flatten_cons, List.flatten_nil, List.append_nil] at gv
  have hvl : vs.length = 7 := by rw [RVs_length gv]; exact hel _ (List.mem_cons_self ..)
  obtain ⟨v0', xs, k1, k2, k3, k4, k5, k6, k7⟩ := S.row 0 27 7 (l.map tmC) rfl
  obtain rfl : v0' = v0 := by rw [hθ] at k1; exact (Option.some.inj k1).symm
  rw [List.length_map] at k2 k7
  have hIb : I ⟨vb, vo, none⟩ := by
    simp only [RVe] at hcells
    have h := hcells.1
    rw [tm_eq] at h
    simp only [RVc] at h
    exact h.1.1
  have hpe : pureE (l.map tmC) = true := pureE_tm l
  have hpx : pureL (tmC x) = true := pure_tm x
  have ht := flat_take k4 k5 i
  have hd := flat_drop k4 k5 i
  have hpt : ∀ m : List Tm, pureL ((m.map tmC).flatten) = true := fun m => pureE_flatten (pureE_tm m)
  -- what all ways end in
  have fin : ∀ (v' : Value) (w' : World) (xs' : List Value), xs' = xs.take (i * 7) ++ vs ++ xs.drop (i * 7) → w'.ownsRow 0 27 7 v' (l.length + 1) xs' → w.grownBy w' v0'.ownBlock → (v'.ownBlock = v0'.ownBlock ∨ v'.ownBlock = some w.heap.size) →
      ∃ v I' θ', Ending.returned v' = .returned v ∧ Sim (lentΓ I w [.row 27 7 (l.map tmC)] θ) I' θ' [.row 27 7 ((l.take i ++ [x] ++ l.drop i).map tmC)] w' ∧ RV I' θ' w' (.row 0) v := by
    rintro v' w' xs' rfl hown hg hat
    have hlen : ((l.take i ++ [x] ++ l.drop i).map tmC).length = l.length + 1 := by simp; omega
    obtain ⟨j1, _, j3⟩ := S.regrow (els' := (l.take i ++ [x] ++ l.drop i).map tmC) rfl hθ hg (by rw [hlen]; exact hown) hat (fun u hu => by
        simp only [List.mem_append] at hu
        rcases hu with (h | h) | h
        · exact k3 u (List.mem_of_mem_take h)
        · exact g1 u h
        · exact k3 u (List.mem_of_mem_drop h)) (fun el hel' => by
        obtain ⟨y, _, rfl⟩ := List.mem_map.1 hel'
        rw [tm_eq]; rfl) (by rw [hlen]; exact hl) (fun θ' _ _ hpu => by
        simp only [List.map_append, List.flatten_append, List.map_cons, List.map_nil, List.flatten_cons, List.flatten_nil, List.append_nil]
        rw [List.map_take, List.map_drop]
        refine RVs_append (RVs_append (hpu _ _ ?_ ht) (hpu _ _ hpx gv)) (hpu _ _ ?_ hd)
        · rw [← List.map_take]; exact hpt _
        · rw [← List.map_drop]; exact hpt _)
    exact ⟨v', I, _, rfl, j1, j3⟩
  by_cases he : i = l.length
  · subst he
    refine (ins_end l.length vb vo vc v0' xs vs w k2 hl gc hvl g1).mono ?_
    rintro e w' ⟨v', rfl, h1, h2, h3⟩
    have hxl := k2.1
    exact fin v' w' _ (by rw [List.take_of_length_le (by omega), List.drop_of_length_le (by omega), List.append_nil]) h1 h2 h3
  · have hlt : i < l.length := by omega
    rcases k2.2 with ⟨_, h0⟩ | ⟨g, cap, cur, rfl, hb, hg, hnc, hcm, hcs, htk⟩
    · omega
    have hvb : vb ≠ g := by
      rintro rfl
      exact S.iso _ 0 hIb ⟨⟨_, rfl, rfl⟩, _, hθ, rfl⟩
    by_cases hroom : l.length + 1 ≤ cap
    · refine (ins_shift g l.length cap i vb vo vc cur vs w hlt hroom (by simp only [maxLen] at hcm; omega) hvb hg hcs (by rw [htk]; exact k3) gc hvl g1).mono ?_
      rintro e w' ⟨rfl, cur', h1, h2, h3, h4⟩
      rw [htk] at h4
      have hti : cur.toList.take (i * 7) = xs.take (i * 7) := by rw [← htk, List.take_take, Nat.min_eq_left (by omega)]
      rw [hti] at h4
      refine fin _ w' _ rfl ⟨?_, .inr ⟨g, cap, cur', rfl, Nat.zero_le _, h1, hroom, hcm, by omega, h4⟩⟩ h2 (.inl rfl)
      have := k2.1
      simp [hvl]; omega
    · obtain rfl : cap = l.length := by omega
      have hcur : cur.toList = xs := by rw [← htk, List.take_of_length_le (by simp; omega)]
      refine (ins_grow g l.length i vb vo vc cur vs w hlt hl hvb hg hcs (by rw [hcur]; exact k3) gc hvl g1).mono ?_
      rintro e w' ⟨G, rfl, h0, hGm, cur', h1, h2, h3, h4⟩
      rw [hcur] at h4
      refine fin _ w' _ rfl ⟨?_, .inr ⟨w.heap.size, G, cur', rfl, Nat.zero_le _, h1, h0, hGm, h3, h4⟩⟩ h2 (.inr rfl)
      have := k2.1
      simp [hvl]; omega
end Go.Proofs.Ins
