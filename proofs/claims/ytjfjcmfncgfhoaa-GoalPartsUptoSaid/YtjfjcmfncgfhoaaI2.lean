/- slices.Insert at terms: there is room. -/
import Derived.Test.YtjfjcmfncgfhoaaI1
import Derived.Shelf.Spec.SlicesInsert
import Derived.Test.YtjfjcmfncgfhoaaProg
set_option linter.all false
set_option linter.all false
namespace Go.Proofs.Ins
open Go.RowKit Go.Shelf Go.Ab
theorem u25 : Try.prog.underlying 25 = some (.slice 27) := by kernel_rfl
theorem i27 : (Try.prog.info? 27).map (·.size) = some 7 := by kernel_rfl
theorem sz27 (w : World) : (Go.sizeOf 27).run Try.prog w = .ok 7 w := by
  cases hq : Try.prog.info? 27 with
  | none => have := i27; simp [hq] at this
  | some i =>
    have : i.size = 7 := by have := i27; simpa [hq] using this
    simp [Go.sizeOf, Go.typeInfo, hq, this]
set_option maxHeartbeats 4000000 in
set_option maxRecDepth 100000 in
theorem ins_shift (B n c i vb vo vc : Nat) (cur : Array Value) (vs : List Value) (w : World) (hi : i < n) (hroom : n + 1 ≤ c) (hc63 : c ≤ 9223372036854775807) (hvb : vb ≠ B) (hg : w.heap[B]? = some (.cells cur 27 (0, 0))) (hcur : cur.size = c * 7)
    (h1c : ∀ v ∈ cur.toList.take (n * 7), v.oneCell' = true) (hvs : ∀ j v, vs[j]? = some v → w.cell? ⟨vb, vo + j, none⟩ = some v) (hvl : vs.length = 7) (h1v : ∀ v ∈ vs, v.oneCell' = true) :
    Calls Try.prog 63 #[.slice (some ⟨B, 0, none⟩) n c, .int .i64 i, .slice (some ⟨vb, vo, none⟩) 1 vc] w fun e w' => e = .returned (.slice (some ⟨B, 0, none⟩) (n + 1) c) ∧ ∃ cur', w'.heap[B]? = some (.cells cur' 27 (0, 0)) ∧ w.grownBy w' (some B) ∧ cur'.size = cur.size ∧ cur'.toList.take ((n + 1) * 7) = cur.toList.take (i * 7) ++ vs ++ (cur.toList.take (n * 7)).drop (i * 7) := by
  have u25 := run_underlying (P := Try.prog) u25
  have hz2 : ¬ ((i : Int) = (n : Int)) := by omega
  have hw1 : IntKind.i64.wrap ((i : Int) + 1) = (i : Int) + 1 := by rw [IntKind.wrap_i64]; omega
  have hw2 : IntKind.i64.wrap ((n : Int) + 1) = (n : Int) + 1 := by rw [IntKind.wrap_i64]; omega
  have hin : i ≤ n := by omega
  have hB : B < w.heap.size := (Array.getElem?_eq_some_iff.1 hg).1
  obtain ⟨cA, tA, zA, hA, hAn⟩ : ∃ cA tA zA, w.heap[vb]? = some (.cells cA tA zA) ∧ cA.size ≠ 0 := by
    obtain ⟨x, hx⟩ : ∃ x, vs[0]? = some x := ⟨_, List.getElem?_eq_getElem (by omega)⟩
    have := hvs 0 x hx
    simp only [World.cell?] at this
    cases hq : w.heap[vb]? with
    | none => rw [hq] at this; cases this
    | some o =>
      rw [hq] at this
      cases o with
      | cells c t z =>
        simp only at this
        exact ⟨c, t, z, rfl, by have := (Array.getElem?_eq_some_iff.1 this).1; omega⟩
      | _ => cases this
  have hov : ∀ lb cb, (callFunc 98 #[.slice (some ⟨vb, vo, none⟩) 1 vc, .slice (some ⟨B, (i + 1) * 7, none⟩) lb cb]).run Try.prog w = .ok (.value (.bool false)) w := fun lb cb => by
    rw [run_callFunc_extern Try.func98 (by kernel_rfl) (by kernel_rfl) (by kernel_rfl) (e := Extern.SlicesOverlaps.overlaps #[25, 25] #[4]) (by kernel_rfl),
      overlaps_apart w 25 4 27 Ins.u25 7 sz27 ⟨vb, vo, none⟩ ⟨B, (i + 1) * 7, none⟩ 1 vc lb cb hvb cA cur tA 27 zA hA hg hAn (by rw [hcur]; omega)]
    rfl
  obtain ⟨cs, hcs⟩ : ∃ cs, cs = (cur.toList.take (n * 7)).drop (i * 7) := ⟨_, rfl⟩
  have hcl : cs.length = (n - i) * 7 := by rw [hcs]; simp; omega
  have hcc : ∀ j v, cs[j]? = some v → w.drew.cell? ((⟨B, i * 7, none⟩ : Addr).add j) = some v := fun j v hj => by
    rw [Addr.add_lit]
    rw [hcs, List.getElem?_drop, List.getElem?_take] at hj
    split at hj
    · show w.cell? ⟨B, i * 7 + j, none⟩ = some v
      simp only [World.cell?, hg]
      simpa using hj
    · cases hj
  obtain ⟨cur1, hcur1⟩ : ∃ c1 : Array Value, c1 = (cur.toList.take ((i + 1) * 7) ++ cs ++ cur.toList.drop ((i + 1) * 7 + cs.length)).toArray := ⟨_, rfl⟩
  have hsz1 : cur1.size = cur.size := by rw [hcur1]; simp [hcl]; omega
  have h1cs : ∀ v ∈ cs, v.oneCell' = true := fun v hv => h1c v (List.mem_of_mem_drop (hcs ▸ hv))
  have hcp1 : ∀ ty, (Builtin.copy_ #[25, 25] ty #[.slice (some ⟨B, (i + 1) * 7, none⟩) (n - i) (c - (i + 1)), .slice (some ⟨B, i * 7, none⟩) (n + 1 - i) (c - i)]).run Try.prog w.drew = .ok (goInt (Nat.min (n + 1 - i) (n - i))) (w.drew.setRow B cur1) := fun ty => by
    rw [hcur1]
    exact run_copy_sz w.drew _ _ ty 27 B ((i + 1) * 7) (n - i) (c - (i + 1)) ⟨B, i * 7, none⟩ (n + 1 - i) (c - i) cur 27 cs 7 Ins.u25 i27 hg (by rw [hcl]; congr 1; simp only [Nat.min_def]; split <;> omega) hcc (by omega) h1cs
  obtain ⟨W1, hW1⟩ : ∃ W1, W1 = w.drew.setRow B cur1 := ⟨_, rfl⟩
  have hg1 : W1.heap[B]? = some (.cells cur1 27 (0, 0)) := by rw [hW1]; exact setRow_heap w.drew B cur cur1 27 (0, 0) hg
  rw [← hW1] at hcp1
  obtain ⟨cur2, hcur2⟩ : ∃ c2 : Array Value, c2 = (cur1.toList.take (i * 7) ++ vs ++ cur1.toList.drop (i * 7 + vs.length)).toArray := ⟨_, rfl⟩
  have hcp2 : ∀ ty dc, (Builtin.copy_ #[25, 25] ty #[.slice (some ⟨B, i * 7, none⟩) (n + 1 - i) dc, .slice (some ⟨vb, vo, none⟩) 1 vc]).run Try.prog W1 = .ok (goInt (Nat.min 1 (n + 1 - i))) (W1.setRow B cur2) := fun ty dc => by
    rw [hcur2]
    refine run_copy_sz W1 _ _ ty 27 B (i * 7) (n + 1 - i) dc ⟨vb, vo, none⟩ 1 vc cur1 27 vs 7 Ins.u25 i27 hg1 (by rw [hvl]; simp only [Nat.min_def]; split <;> omega) (fun j v hj => ?_) (by omega) h1v
    rw [Addr.add_lit, hW1]
    exact (World.cell?_of_block (setRow_other w.drew B vb cur1 hvb)).trans (hvs j v hj)
  have hfin : ∃ cur', (W1.setRow B cur2).heap[B]? = some (.cells cur' 27 (0, 0)) ∧ w.grownBy (W1.setRow B cur2) (some B) ∧ cur'.size = cur.size ∧ cur'.toList.take ((n + 1) * 7) = cur.toList.take (i * 7) ++ vs ++ (cur.toList.take (n * 7)).drop (i * 7) := by
    refine ⟨cur2, setRow_heap W1 B cur1 cur2 27 (0, 0) hg1, ?_, ?_, ?_⟩
    · rw [hW1]
      exact ⟨rfl, rfl, rfl, by simp [World.setRow], fun k _ hk => (setRow_other _ B k _ (fun e => hk (by rw [e]))).trans (setRow_other _ B k _ (fun e => hk (by rw [e])))⟩
    · rw [hcur2]; simp [hvl]; omega
    · have e1 : cur1.toList.take (i * 7) = cur.toList.take (i * 7) := by
        rw [hcur1, List.append_assoc, List.take_append_of_le_length (by simp; omega), List.take_take, Nat.min_eq_left (by omega)]
      have e2 : cur1.toList.drop (i * 7 + vs.length) = cs ++ cur.toList.drop ((i + 1) * 7 + cs.length) := by
        have hl : (cur.toList.take ((i + 1) * 7)).length = i * 7 + vs.length := by simp [hvl]; omega
        rw [hcur1, List.append_assoc, ← hl, List.drop_left]
      rw [hcur2, e1, e2, ← hcs]
      have hl : (cur.toList.take (i * 7) ++ vs ++ cs).length = (n + 1) * 7 := by simp [hvl, hcl]; omega
      show List.take _ (cur.toList.take (i * 7) ++ vs ++ (cs ++ _)) = _
      rw [← List.append_assoc, ← hl, List.take_left]
  clear hcs hcur1 hcur2 hW1
  have mixed : Try.prog.follows Departure.mixedOrders = true := by kernel_rfl
  have hb1 : (0 : Int) ≤ (i : Int) + 1 := by omega
  have htn : ((i : Int) + 1).toNat = i + 1 := by omega
  have hb2 : ¬ (c = i + 1) := by omega
  have hb3 : (i : Int) ≤ (n : Int) + 1 := by omega
  have hb4 : ¬ (c = i) := by omega
  go_enter Try.func63, Try.ntmps63
  go_wp2_with (simp only [hov])
  go_region_law_o (refine step_copy_runI rfl _ _ 25 25 rfl _ _ (by simp [Act.eval, Act.put]) (by simp [Act.eval, Act.put]) (hcp1 _) ?_)
  go_wp2_with (at_builtin; refine wpList_copy_runI _ rfl _ _ 25 25 rfl _ _ rfl rfl (hcp2 _ _) ?_)
  go_ret
  exact ⟨rfl, hfin⟩
end Go.Proofs.Ins

set_option linter.all false
namespace Go.Proofs.Ins
open Go.RowKit Go.Shelf Go.Ab
theorem info27 : ∃ ie zv, Try.prog.info? 27 = some ie ∧ ie.zero = some zv ∧ ie.size = 7 ∧ zv.cells.size = 7 ∧ ie.bytes * LIM ≤ 140737488355328 := by
  have h : (Try.prog.info? 27).map (fun i => (i.zero.map fun z => z.cells.size, i.size, decide (i.bytes * LIM ≤ 140737488355328))) = some (some 7, 7, true) := by kernel_rfl
  cases hq : Try.prog.info? 27 with
  | none => rw [hq] at h; cases h
  | some ie =>
    rw [hq] at h
    simp only [Option.map_some, Option.some.injEq, Prod.mk.injEq] at h
    obtain ⟨h1, h2, h3⟩ := h
    obtain ⟨zv, hz, hz2⟩ := Option.map_eq_some_iff.1 h1
    exact ⟨ie, zv, rfl, hz, h2, hz2, of_decide_eq_true h3⟩
set_option maxHeartbeats 4000000 in
set_option maxRecDepth 100000 in
theorem ins_end (n vb vo vc : Nat) (v0 : Value) (xs vs : List Value) (w : World) (own : w.ownsRow 0 27 7 v0 n xs) (hn : n + 1 ≤ LIM)
    (hvs : ∀ j v, vs[j]? = some v → w.cell? ⟨vb, vo + j, none⟩ = some v) (hvl : vs.length = 7) (h1v : ∀ v ∈ vs, v.oneCell' = true) :
    Calls Try.prog 63 #[v0, .int .i64 n, .slice (some ⟨vb, vo, none⟩) 1 vc] w fun e w' => ∃ v', e = .returned v' ∧ w'.ownsRow 0 27 7 v' (n + 1) (xs ++ vs) ∧ w.grownBy w' v0.ownBlock ∧ (v'.ownBlock = v0.ownBlock ∨ v'.ownBlock = some w.heap.size) := by
  obtain ⟨ie, zv, hie, hz, hsz, hzs, hby⟩ := info27
  obtain ⟨v', w', r1, r2, r3, r4, r5⟩ := run_append_own_at (P := Try.prog) w 0 25 25 27 ie zv 7 ie.bytes Ins.u25 hie hz hsz rfl hzs (by decide) v0 n xs own ⟨vb, vo, none⟩ 1 vc vs (by rw [hvl]) (fun j u hj => by rw [Addr.add_lit]; exact hvs j u hj) h1v
    (Nat.le_trans hn LIM_le) (by rw [Nat.mul_comm]; exact Nat.le_trans (Nat.mul_le_mul_left _ hn) hby) (Nat.zero_le _)
  have u25 := run_underlying (P := Try.prog) Ins.u25
  have mixed : Try.prog.follows Departure.mixedOrders = true := by kernel_rfl
  rcases own.2 with ⟨rfl, rfl⟩ | ⟨g, cap, cur, rfl, hb, hg, hnc, hcm, hcs, htk⟩
  · go_enter Try.func63, Try.ntmps63
    go_wp2_with (at_builtin; refine Lib.wpList_append_run _ rfl _ _ _ _ rfl _ _ rfl rfl _ _ r1 ?_)
    all_goals (go_ret; exact ⟨v', rfl, r2, r3, r5⟩)
  · go_enter Try.func63, Try.ntmps63
    go_wp2_with (at_builtin; refine Lib.wpList_append_run _ rfl _ _ _ _ rfl _ _ rfl rfl _ _ r1 ?_)
    all_goals (go_ret; exact ⟨v', rfl, r2, r3, r5⟩)
end Go.Proofs.Ins
