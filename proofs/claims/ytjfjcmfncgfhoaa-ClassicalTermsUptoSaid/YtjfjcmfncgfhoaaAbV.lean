/- A part of the proof: AbV. -/
import Derived.Test.YtjfjcmfncgfhoaaAbU
set_option linter.all false
set_option linter.unusedVariables false
namespace Go.Ab
open Go.RowKit
theorem e_wk {P : Program} {c : SCode} {st : AS} {R : Ex → AS → Prop} {z : Z R} : zswp P (.wk c) st R z ⟨⟩ = ∃ s, Wks st s ∧ (FitS s → zswp P c s R ⟨⟩ ⟨⟩) := nr rfl
def bndM (d : Nat) : Option AV → Option Nat
  | none => some d
  | some (.i _ n) => if 0 ≤ n then some n.toNat else none
  | _ => none
def slcM (sz' : Nat) (lo hi mx : Option AV) : AV → Option AV
  | .sl t sz els =>
    match bndM 0 lo, bndM els.length hi, bndM els.length mx with
    | some l, some h, some m =>
      if l ≤ h ∧ h ≤ m ∧ m ≤ els.length ∧ (l = 0 ∨ sz = sz') then some (.sl (mx.isSome && h == m) sz ((els.take h).drop l)) else none
    | _, _, _ => none
  | _ => none
theorem bnd_eq (ρ : Opd → AV) (d : Nat) (x : Option Opd) : bnd ρ d x = bndM d (x.map ρ) := by
  cases x with
  | none => rfl
  | some x => simp only [bnd, bndM, Option.map_some]; cases ρ x <;> rfl
theorem o_slc {P : Program} {st : AS} {Q : AS → Prop} {d : Option Nat} {sz : Nat} {x : Opd} {lo hi mx : Option Opd} {z : Z Q} : zwp1 P (.op d (.slc sz x lo hi mx)) st Q z ⟨⟩ = zoK (slcM sz (lo.map st.ev) (hi.map st.ev) (mx.map st.ev) (st.ev x)) (fun v => Q (put st d v)) ⟨⟩ ⟨⟩ := by
  have : ov st.ev st.H (.slc sz x lo hi mx) = slcM sz (lo.map st.ev) (hi.map st.ev) (mx.map st.ev) (st.ev x) := by
    simp only [ov, slcM, bnd_eq, Option.isSome_map]
    cases st.ev x <;> rfl
  simp only [zwp1, zoK, zif, wp1, sv, this, optK_map]
theorem sbE_map {α : Type} {r : Nat} {C : α → List AV} (h : ∀ x, sbL r .u (C x) = C x) : ∀ l : List α, sbE r .u (List.map C l) = List.map C l
  | [] => rfl
  | x :: l => by simp [sbE, h, sbE_map h l]
theorem sbL_ty (r : Nat) (t : Ty) : sbL r .u (tyC t) = tyC t := by simp [ty_eq, sbL, sb]
theorem sbL_tm (r : Nat) (t : Tm) : sbL r .u (tmC t) = tmC t := by simp [tm_eq, sbL, sb]
theorem sbE_ty (r : Nat) (l : List Ty) : sbE r .u (List.map tyC l) = List.map tyC l := sbE_map (sbL_ty r) l
theorem sbE_tm (r : Nat) (l : List Tm) : sbE r .u (List.map tmC l) = List.map tmC l := sbE_map (sbL_tm r) l
theorem sbE_cS (r : Nat) (l : List ByteArray) : sbE r .u (List.map cS l) = List.map cS l := sbE_map (fun _ => by simp [cS, sbL, sb]) l
theorem sbE_cI (r : Nat) (k : IntKind) (l : List Int) : sbE r .u (List.map (cI k) l) = List.map (cI k) l := sbE_map (fun _ => by simp [cI, sbL, sb]) l
theorem ty_v (v : Bool) (n : ByteArray) (a : List Ty) : (Ty.mk v n a).v = v := rfl
theorem ty_n (v : Bool) (n : ByteArray) (a : List Ty) : (Ty.mk v n a).n = n := rfl
theorem ty_a (v : Bool) (n : ByteArray) (a : List Ty) : (Ty.mk v n a).a = a := rfl
theorem tm_k (k : Int) (n : ByteArray) (y : Ty) (i : Int) (s : List Tm) : (Tm.mk k n y i s).k = k := rfl
theorem tm_n (k : Int) (n : ByteArray) (y : Ty) (i : Int) (s : List Tm) : (Tm.mk k n y i s).n = n := rfl
theorem tm_y (k : Int) (n : ByteArray) (y : Ty) (i : Int) (s : List Tm) : (Tm.mk k n y i s).y = y := rfl
theorem tm_i (k : Int) (n : ByteArray) (y : Ty) (i : Int) (s : List Tm) : (Tm.mk k n y i s).i = i := rfl
theorem tm_s (k : Int) (n : ByteArray) (y : Ty) (i : Int) (s : List Tm) : (Tm.mk k n y i s).s = s := rfl
theorem map_nil_iff {α β : Type} (f : α → β) (l : List α) : (List.map f l = []) = (l = []) := by simp
attribute [go_sem] e_skip e_ops e_draw e_seq e_cond e_block e_exit e_ret e_nil e_cons e_seqn e_seqr e_seqx e_blkn e_blkr e_blkx e_retr e_retn e_retk e_res1 e_res2 e_res0 e_resvs e_resvn e_rest e_some e_gdT e_gdF e_gdU e_condK e_ifT e_ifF e_loop e_ev e_evc e_put e_putn e_lk e_gd e_call o_mv o_bx o_ld o_ldi o_fa o_ia o_bi o_bib o_not o_len o_lens o_ext o_pk o_ix o_bld o_bsl o_mkf o_apt o_alm o_bxm o_st o_app o_mks o_mx o_mn mxM mnM List.append_assoc Int.toNat_natCast initT cond_true cond_false faM rdM rdI iaM biM bibM notM lenM lensM extM pkM ixM stM appM aptM mksM biI biS biB List.drop_zero List.drop_succ_cons List.map_cons List.map_nil List.length_cons List.length_nil List.nil_append List.cons_append List.getElem?_cons_zero List.getElem?_cons_succ List.getElem?_nil tyC_length tmC_length cellsOf boxB and_self true_and and_true Option.map_some Option.bind_some List.set_cons_zero List.set_cons_succ wrCells fills List.take_zero List.take_succ_cons Bool.not_true Bool.not_false List.length_append List.length_take List.length_drop List.append_nil e_resc resM rd_hd rd_ag bslM pureE pureL pureB pure_ty pure_tm List.all_cons List.all_nil Bool.and_self Bool.and_true Bool.true_and Bool.and_false Bool.false_and decide_true decide_false Bool.false_eq_true Option.some.injEq Nat.zero_le List.take_length List.drop_length Int.natCast_nonneg ty_eq tm_eq cI_eq cS_eq cB_eq cL_eq get_map List.length_map pureE_ty pureE_tm pureE_cI pureE_cS pureE_cB ty_v ty_n ty_a tm_k tm_n tm_y tm_i tm_s slcM o_slc Option.isSome_some Option.isSome_none BEq.rfl or_true true_or or_self List.length_replicate List.length_set sb sbL sbE sbT sbH sbB List.take_length o_ext Bool.not_not Option.map_none Option.bind_none sbE_ty sbE_tm sbE_cS sbE_cI bndM
theorem take_map_len {α β : Type} (f : α → β) (l : List α) : List.take l.length (List.map f l) = List.map f l := by rw [← List.length_map (f := f), List.take_length]
attribute [go_sem] take_map_len Nat.le_refl beq_self_eq_true
attribute [go_sem] TL.nil Bool.or_true Bool.true_or Bool.or_false Bool.false_or
theorem LE.bcongr {a b : Bool} (h : a = b) : LE (.b a) (.b b) := by subst h; exact .refl _
theorem LE.icongr {k : IntKind} {a b : Int} (h : a = b) : LE (.i k a) (.i k b) := by subst h; exact .refl _
theorem refF_tm (n : Nat) (l : List Tm) : refL n (List.map tmC l).flatten = true := refL_flat (fun x => by simp [tm_eq, refL, refB]) l
theorem refF_ty (n : Nat) (l : List Ty) : refL n (List.map tyC l).flatten = true := refL_flat (fun x => by simp [ty_eq, refL, refB]) l
theorem refF_cS (n : Nat) (l : List ByteArray) : refL n (List.map cS l).flatten = true := refL_flat (fun x => by simp [cS, refL, refB]) l
theorem refF_cI (n : Nat) (k : IntKind) (l : List Int) : refL n (List.map (cI k) l).flatten = true := refL_flat (fun x => by simp [cI, refL, refB]) l
theorem refF_cB (n : Nat) (l : List Bool) : refL n (List.map cB l).flatten = true := refL_flat (fun x => by simp [cB, refL, refB]) l
attribute [go_sem] refF_tm refF_ty refF_cS refF_cI refF_cB
attribute [go_sem] bxM List.flatten_nil List.flatten_cons
theorem PC_z {P : Program} {g : FuncId} {f : Func} {n : Nat} {res : List RVar} {b : SCode} {args : List AV} {r : AV} (hf : P.funcs[g]? = some f) (hk : fnOk P f ⟨n, res, b⟩ = true) (hn : args.length ≤ n) (h : FitL args → zswp P b (start args) (retQ res r) ⟨⟩ ⟨⟩) : PC P g args r := PC_fit hf hk hn h
end Go.Ab
