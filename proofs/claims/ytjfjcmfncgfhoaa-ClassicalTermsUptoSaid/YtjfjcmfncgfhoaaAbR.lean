/- A part of the proof: AbR. -/
import Derived.Test.YtjfjcmfncgfhoaaAbQ
set_option linter.all false
set_option linter.unusedVariables false
set_option linter.unusedSimpArgs false
namespace Go.Ab
open Go.RowKit

theorem Ent_of {P : Program} {g : FuncId} {f : Func} {s : SFn} (hf : P.funcs[g]? = some f) (hk : fnOk P f s = true) : Ent P g := by
  simp only [fnOk, Bool.and_eq_true, beq_iff_eq, bne_iff_ne] at hk
  obtain ⟨⟨⟨k1, k2⟩, k3⟩, k4⟩ := hk
  split at k4
  · rename_i c hc
    intro as w
    simp [callFunc, hf, hc, k2]
  · cases k4
theorem PC_fit {P : Program} {g : FuncId} {f : Func} {s : SFn} {args : List AV} {r : AV} (hf : P.funcs[g]? = some f) (hk : fnOk P f s = true) (hn : args.length ≤ s.N) (h : FitL args → swp P s.body (start args) (retQ s.res r)) : PC P g args r :=
  ⟨Ent_of hf hk, fun I w vals hI hv => (PC_of hf hk hn (h (RVs_fit args vals hv))).2 I w vals hI hv⟩
theorem PC.of_fit {P : Program} {g : FuncId} {args : List AV} {r : AV} (he : Ent P g) (h : FitL args → PC P g args r) : PC P g args r :=
  ⟨he, fun I w vals hI hv => (h (RVs_fit args vals hv)).2 I w vals hI hv⟩

theorem wpo_mono {P : Program} : ∀ (l : List SOp) {st : AS} {Q Q' : AS → Prop}, wpo P l st Q → (∀ s, Q s → Q' s) → wpo P l st Q'
  | [], st, Q, Q', h, hq => hq _ h
  | o :: l, st, Q, Q', h, hq => by
    simp only [wpo] at h ⊢
    exact wp1_mono h fun s h' => wpo_mono l h' hq
theorem seqQ_mono {K K' : AS → Prop} {R R' : Ex → AS → Prop} (hK : ∀ s, K s → K' s) (hR : ∀ e s, R e s → R' e s) : ∀ e s, seqQ K R e s → seqQ K' R' e s
  | .normal, s, h => hK s h
  | .ret, s, h => hR _ s h
  | .exit _, s, h => hR _ s h
theorem swp_mono {P : Program} : ∀ (c : SCode) {st : AS} {R R' : Ex → AS → Prop}, swp P c st R → (∀ e s, R e s → R' e s) → swp P c st R'
  | .skip, st, R, R', h, hq => hq _ _ h
  | .ops l, st, R, R', h, hq => by simp only [swp] at h ⊢; exact wpo_mono l h fun s => hq _ s
  | .draw l, st, R, R', h, hq => by simp only [swp] at h ⊢; exact wpo_mono l h fun s => hq _ s
  | .seq x y, st, R, R', h, hq => by
    simp only [swp] at h ⊢
    exact swp_mono x h (seqQ_mono (fun s h' => swp_mono y h' hq) hq)
  | .cond c x y, st, R, R', h, hq => by
    simp only [swp] at h ⊢
    unfold condK at h ⊢
    split at h
    · split at h
      · rename_i hx; rw [if_pos hx]; exact swp_mono x h hq
      · rename_i hx; rw [if_neg hx]; exact swp_mono y h hq
    · exact h.elim
  | .block i c, st, R, R', h, hq => by
    simp only [swp] at h ⊢
    refine swp_mono c h ?_
    intro e s h'
    cases e with
    | normal => exact hq _ _ h'
    | ret => exact hq _ _ h'
    | exit j =>
      simp only [blkQ] at h' ⊢
      split at h'
      · rename_i e; rw [if_pos e]; exact hq _ _ h'
      · rename_i e; rw [if_neg e]; exact hq _ _ h'
  | .loop c, st, R, R', h, hq => by
    simp only [swp] at h ⊢
    obtain ⟨J, n, h0, hs⟩ := h
    exact ⟨J, n, h0, fun m st hj hf => swp_mono c (hs m st hj hf) (seqQ_mono (fun _ h => h) hq)⟩
  | .wk c, st, R, R', h, hq => by
    simp only [swp] at h ⊢
    obtain ⟨s, h1, h2⟩ := h
    exact ⟨s, h1, fun hf => swp_mono c (h2 hf) hq⟩
  | .exit i, st, R, R', h, hq => hq _ _ h
  | .ret, st, R, R', h, hq => hq _ _ h

/-! ### Steps, as equations -/
/-- A mark that keeps simp out of what it marks. -/
structure Z.{v} {α : Sort v} (x : α) : Type where
section
variable {P : Program} {st st' : AS} {T : List (Nat × AV)} {H : List AB} {Q : AS → Prop} {R : Ex → AS → Prop} {d : Option Nat}
def zswp (P : Program) (s : SCode) (st : AS) (R : Ex → AS → Prop) (_ : Z R) (_ : True) : Prop := swp P s st R
def zwpo (P : Program) (l : List SOp) (st : AS) (Q : AS → Prop) (_ : Z Q) (_ : True) : Prop := wpo P l st Q
def zwp1 (P : Program) (o : SOp) (st : AS) (Q : AS → Prop) (_ : Z Q) (_ : True) : Prop := wp1 P o st Q
def zseq (K : AS → Prop) (R : Ex → AS → Prop) (_ : Z K) (_ : Z R) (_ : True) : Ex → AS → Prop := seqQ K R
def zblk (i : Nat) (R : Ex → AS → Prop) (_ : Z R) (_ : True) : Ex → AS → Prop := blkQ i R
def zoK {α : Type} (o : Option α) (k : α → Prop) (_ : Z k) (_ : True) : Prop := optK o k
def zcall (P : Program) (c : AV) (as : List AV) (k : AV → Prop) (_ : Z k) (_ : True) : Prop := callK P c as k
def zgd (x : AV) (w : Bool) (A B : Prop) (_ : Z A) (_ : Z B) (_ : True) : Prop := gdK x w A B
def zif (x : Bool) (A B : Prop) (_ : Z A) (_ : Z B) (_ : True) : Prop := if x = true then A else B
def zcnd (x : AV) (A B : Prop) (_ : Z A) (_ : Z B) (_ : True) : Prop := condK x A B
def zloop (P : Program) (c : SCode) (st : AS) (R : Ex → AS → Prop) (_ : Z R) (_ : True) : Prop := swp P (.loop c) st R
@[congr] theorem swp_cg {s : SCode} {z : Z R} (h : st = st') : zswp P s st R z ⟨⟩ = zswp P s st' R z ⟨⟩ := by rw [h]
@[congr] theorem wpo_cg {l : List SOp} {z : Z Q} (h : st = st') : zwpo P l st Q z ⟨⟩ = zwpo P l st' Q z ⟨⟩ := by rw [h]
@[congr] theorem wp1_cg {o : SOp} {z : Z Q} (h : st = st') : zwp1 P o st Q z ⟨⟩ = zwp1 P o st' Q z ⟨⟩ := by rw [h]
theorem nr.{v} {α : Sort v} {a b : α} (h : a = b) : a = b := h
theorem z_start {s : SCode} (h : zswp P s st R ⟨⟩ ⟨⟩) : swp P s st R := h
theorem e_skip {z : Z R} : zswp P .skip st R z ⟨⟩ = R .normal st := nr rfl
theorem e_ops {l : List SOp} {z : Z R} : zswp P (.ops l) st R z ⟨⟩ = zwpo P l st (R .normal) ⟨⟩ ⟨⟩ := nr rfl
theorem e_draw {l : List SOp} {z : Z R} : zswp P (.draw l) st R z ⟨⟩ = zwpo P l st (R .normal) ⟨⟩ ⟨⟩ := nr rfl
theorem e_seq {x y : SCode} {z : Z R} : zswp P (.seq x y) st R z ⟨⟩ = zswp P x st (zseq (fun st' => zswp P y st' R ⟨⟩ ⟨⟩) R ⟨⟩ ⟨⟩ ⟨⟩) ⟨⟩ ⟨⟩ := nr rfl
theorem e_cond {c : Opd} {x y : SCode} {z : Z R} : zswp P (.cond c x y) st R z ⟨⟩ = zcnd (st.ev c) (zswp P x st R ⟨⟩ ⟨⟩) (zswp P y st R ⟨⟩ ⟨⟩) ⟨⟩ ⟨⟩ ⟨⟩ := nr rfl
theorem e_block {i : Nat} {c : SCode} {z : Z R} : zswp P (.block i c) st R z ⟨⟩ = zswp P c st (zblk i R ⟨⟩ ⟨⟩) ⟨⟩ ⟨⟩ := nr rfl
theorem e_loop {c : SCode} {z : Z R} : zswp P (.loop c) st R z ⟨⟩ = zloop P c st R ⟨⟩ ⟨⟩ := nr rfl
theorem e_exit {i : Nat} {z : Z R} : zswp P (.exit i) st R z ⟨⟩ = R (.exit i) st := nr rfl
theorem e_ret {z : Z R} : zswp P .ret st R z ⟨⟩ = R .ret st := nr rfl
theorem e_nil {z : Z Q} : zwpo P [] st Q z ⟨⟩ = Q st := nr rfl
theorem e_cons {o : SOp} {l : List SOp} {z : Z Q} : zwpo P (o :: l) st Q z ⟨⟩ = zwp1 P o st (fun st' => zwpo P l st' Q ⟨⟩ ⟨⟩) ⟨⟩ ⟨⟩ := nr rfl
theorem e_seqn {K : AS → Prop} {z : Z K} {z' : Z R} : zseq K R z z' ⟨⟩ .normal st = K st := nr rfl
theorem e_seqr {K : AS → Prop} {z : Z K} {z' : Z R} : zseq K R z z' ⟨⟩ .ret st = R .ret st := nr rfl
theorem e_seqx {K : AS → Prop} {i : Nat} {z : Z K} {z' : Z R} : zseq K R z z' ⟨⟩ (.exit i) st = R (.exit i) st := nr rfl
theorem e_blkn {i : Nat} {z : Z R} : zblk i R z ⟨⟩ .normal st = R .normal st := nr rfl
theorem e_blkr {i : Nat} {z : Z R} : zblk i R z ⟨⟩ .ret st = R .ret st := nr rfl
theorem e_blkx {i j : Nat} {z : Z R} : zblk i R z ⟨⟩ (.exit j) st = zif (j == i) (R .normal st) (R (.exit j) st) ⟨⟩ ⟨⟩ ⟨⟩ := by
  simp only [zblk, blkQ, zif, beq_iff_eq]
theorem e_retr {res : List RVar} {r : AV} : retQ res r .ret st = retK st.H r (resOf st res) := nr rfl
theorem e_retn {res : List RVar} {r : AV} : retQ res r .normal st = retK st.H r (resOf st res) := nr rfl
theorem e_retk {r x : AV} : retK H r (some x) = FZ H x r := nr rfl
theorem e_res1 {x : RVar} : resOf st [x] = resv st x := nr rfl
theorem e_res2 {x y : RVar} {l : List RVar} : resOf st (x :: y :: l) = (resvs st (x :: y :: l)).map .tup := nr rfl
theorem e_res0 : resOf st [] = some (.tup []) := nr rfl
theorem e_resvs {x : RVar} {l : List RVar} : resvs st (x :: l) = (resv st x).bind fun v => (resvs st l).map fun vs => v :: vs := nr rfl
theorem e_resvn : resvs st [] = some [] := nr rfl
theorem e_rest {n : Nat} : resv st (.t n) = some (lk st.T n) := nr rfl

def resM (H : List AB) (n : Nat) (g : Bool) : AV → Option AV
  | .ip cs => rdCells cs n g
  | .ptr r j => match H[r]? with
    | some (.box _ cs) => rdCells (cs.drop j) n g
    | _ => none
  | _ => none
theorem e_resc {a n : Nat} {g : Bool} : resv st (.c a n g) = resM st.H n g (lk st.T a) := nr rfl
theorem rd_hd {c : AV} {cs : List AV} {n : Nat} : rdCells (c :: cs) n false = some c := rfl
theorem rd_ag {c : AV} {cs : List AV} {n : Nat} : rdCells (c :: cs) n true = if n ≤ cs.length + 1 then some (.agg ((c :: cs).take n)) else none := rfl

theorem e_some {α : Type} {x : α} {k : α → Prop} {z : Z k} : zoK (some x) k z ⟨⟩ = k x := nr rfl
theorem e_gdT {x : Bool} {A B : Prop} {z : Z A} {z' : Z B} : zgd (.b x) true A B z z' ⟨⟩ = zif x A B ⟨⟩ ⟨⟩ ⟨⟩ := by cases x <;> simp [zgd, gdK, gdW, zif]
theorem e_gdF {x : Bool} {A B : Prop} {z : Z A} {z' : Z B} : zgd (.b x) false A B z z' ⟨⟩ = zif x B A ⟨⟩ ⟨⟩ ⟨⟩ := by cases x <;> simp [zgd, gdK, gdW, zif]
theorem e_gdU {w : Bool} {A B : Prop} {z : Z A} {z' : Z B} : zgd (.tup []) w A B z z' ⟨⟩ = B := by simp [zgd, gdK, gdW]
theorem e_condK {x : Bool} {A B : Prop} {z : Z A} {z' : Z B} : zcnd (.b x) A B z z' ⟨⟩ = zif x A B ⟨⟩ ⟨⟩ ⟨⟩ := nr rfl
theorem e_ifT {A B : Prop} {z : Z A} {z' : Z B} : zif true A B z z' ⟨⟩ = A := nr rfl
theorem e_ifF {A B : Prop} {z : Z A} {z' : Z B} : zif false A B z z' ⟨⟩ = B := nr rfl
theorem zif_of {x : Bool} {A B : Prop} {z : Z A} {z' : Z B} (h : x = true → A) (h' : x = false → B) : zif x A B z z' ⟨⟩ := by
  cases x
  · exact h' rfl
  · exact h rfl
theorem e_ev {n : Nat} : AS.ev ⟨T, H⟩ (.t n) = lk T n := nr rfl
theorem e_evc {v : AV} : AS.ev st (.c v) = v := nr rfl
theorem e_put {k : Nat} {v : AV} : put ⟨T, H⟩ (some k) v = ⟨(k, v) :: T, H⟩ := nr rfl
theorem e_putn {v : AV} : put st none v = st := nr rfl
theorem e_lk {k n : Nat} {v : AV} {l : List (Nat × AV)} : lk ((k, v) :: l) n = bif n == k then v else lk l n := nr rfl
theorem e_gd {g : Nat} {w : Bool} {o : SOp} {z : Z Q} : zwp1 P (.gd g w d o) st Q z ⟨⟩ = zgd (lk st.T g) w (zwp1 P o st Q ⟨⟩ ⟨⟩) (Q (put st d (.tup []))) ⟨⟩ ⟨⟩ ⟨⟩ := nr rfl
theorem e_call {c : Opd} {args : List Opd} {z : Z Q} : zwp1 P (.call d c args) st Q z ⟨⟩ = zcall P (st.ev c) (args.map st.ev) (fun y => Q (put st d y)) ⟨⟩ ⟨⟩ := nr rfl
/-- A call whose contract is known. -/
theorem zcall_of {g : Nat} {first caps args as : List AV} {y : AV} {k : AV → Prop} {z : Z k} (hp : PC P g as y) (hw : LEL (first ++ args ++ caps) as) (hk : k y) (ha : pureL as = true := by rfl) : zcall P (.fn (.func g) first caps) args k z ⟨⟩ :=
  ⟨g, first, caps, as, y, rfl, hw.wk, ha, hp, hk⟩
/-- A piece of code and what follows, with what is known between the two. -/
theorem zseq_cut {x y : SCode} {z : Z R} (M : AS → Prop) (h : zswp P x st (zseq M R ⟨⟩ ⟨⟩ ⟨⟩) ⟨⟩ ⟨⟩) (h' : ∀ st', M st' → zswp P y st' R ⟨⟩ ⟨⟩) : zswp P (.seq x y) st R z ⟨⟩ := by
  refine swp_mono x h ?_
  intro e st' hq
  cases e with
  | normal => exact h' st' hq
  | ret => exact hq
  | exit i => exact hq
/-- A loop with a measure. -/
theorem zloop_of {c : SCode} {z : Z R} (J : Nat → AS → Prop) (n : Nat) (h0 : ∃ s, Wks st s ∧ J n s) (hs : ∀ m s, J m s → FitS s → zswp P c s (zseq (fun s' => ∃ k s'', k < m ∧ Wks s' s'' ∧ J k s'') R ⟨⟩ ⟨⟩ ⟨⟩) ⟨⟩ ⟨⟩) : zloop P c st R z ⟨⟩ := ⟨J, n, h0, hs⟩
/-- A piece of code and what follows, with a weakening between the two. -/
def cutS (x y : SCode) : SCode := .seq x (.wk y)
/-- A piece of code and what follows, with what is known between the two, up to a weakening. -/
theorem zcut_of {x y : SCode} {z : Z R} (M : AS → Prop) (h : zswp P x st (zseq (fun s => ∃ s', Wks s s' ∧ M s') R ⟨⟩ ⟨⟩ ⟨⟩) ⟨⟩ ⟨⟩) (h' : ∀ s, M s → FitS s → zswp P y s R ⟨⟩ ⟨⟩) : zswp P (cutS x y) st R z ⟨⟩ := by
  refine swp_mono x h ?_
  intro e st' hq
  cases e with
  | normal =>
    obtain ⟨s, h1, h2⟩ := hq
    exact ⟨s, h1, fun hf => h' s h2 hf⟩
  | ret => exact hq
  | exit i => exact hq

/-! #### One operation -/
def rdM (H : List AB) (n : Nat) (g : Bool) : AV → Option AV
  | .ip cs => rdCells cs n g
  | .ptr r j => match H[r]? with
    | some (.box _ cs) => rdCells (cs.drop j) n g
    | _ => none
  | .rptr r sz i j => match H[r]? with
    | some (.row _ sz' els) => bif sz == sz' then (match els[i]? with
      | some el => rdCells (el.drop j) n g
      | none => none) else none
    | _ => none
  | _ => none
def rdI (n : Nat) (g : Bool) : AV → Option AV
  | .ip cs => rdCells cs n g
  | _ => none
def faM (off : Nat) : AV → Option AV
  | .ip cs => some (.ip (cs.drop off))
  | .ptr r j => some (.ptr r (j + off))
  | .rptr r sz i j => some (.rptr r sz i (j + off))
  | _ => none
def iaM (H : List AB) (sz : Nat) : AV → AV → Option AV
  | .sl _ sz' els, .i _ n => if 0 ≤ n ∧ sz = sz' then (els[n.toNat]?).map .ip else none
  | .row r, .i _ n => match H[r]? with
    | some (.row _ sz' els) => if 0 ≤ n ∧ n < els.length ∧ sz = sz' then some (.rptr r sz n.toNat 0) else none
    | _ => none
  | _, _ => none
def biM (op : BinOp) : AV → AV → Option AV
  | .i k a, .i k' b => if k = k' then biI op k a b else none
  | .s a, .s b => biS op a b
  | _, _ => none
def bibM (op : BinOp) : AV → AV → Option AV
  | .b a, .b b => biB op a b
  | _, _ => none
def notM : AV → Option AV
  | .b a => some (.b (!a))
  | _ => none
def lenM (H : List AB) : AV → Option AV
  | .sl _ _ els => some (.i .i64 els.length)
  | .nils => some (.i .i64 0)
  | .row r => match H[r]? with
    | some (.row _ _ els) => some (.i .i64 els.length)
    | _ => none
  | _ => none
def lensM : AV → Option AV
  | .s b => some (.i .i64 b.size)
  | _ => none
def extM (n : Nat) : AV → Option AV
  | .tup vs => vs[n]?
  | _ => none
def pkM (x y : AV) : AV → Option AV
  | .b c => some (bif c then x else y)
  | _ => none
def mxM : AV → AV → Option AV
  | .i k a, .i k' b => if k = k' then some (.i k (max a b)) else none
  | _, _ => none
def mnM : AV → AV → Option AV
  | .i k a, .i k' b => if k = k' then some (.i k (min a b)) else none
  | _, _ => none
def ixM : AV → AV → Option AV
  | .s b, .i _ n => if 0 ≤ n then (b.data[n.toNat]?).map fun c => .i .u8 c.toNat else none
  | _, _ => none
def bxM (x : AV) : Option AV := bif pureB x && boxB x then some (.ip (cellsOf x)) else none
def bslM (sz : Nat) (xs : List AV) : Option AV := bif pureE (xs.map cellsOf) && xs.all boxB && (xs.map cellsOf).all (fun el => el.length == sz) then some (.sl true sz (xs.map cellsOf)) else none
def stM (T : List (Nat × AV)) (H : List AB) (n : Nat) (x : AV) (Q : AS → Prop) (_ : Z Q) (_ : True) : AV → Prop
  | .ptr r j => if (cellsOf x).length = n ∧ boxB x = true then (match H[r]? with
    | some (.box t cs) => if j + n ≤ cs.length then Q ⟨T, H.set r (.box t (wrCells cs j (cellsOf x)))⟩ else False
    | _ => False) else False
  | .rptr r sz i j => if (cellsOf x).length = n ∧ boxB x = true then (match H[r]? with
    | some (.row e sz' els) => if sz = sz' then (match els[i]? with
      | some el => if j + n ≤ el.length then Q ⟨T, H.set r (.row e sz' (els.set i (wrCells el j (cellsOf x))))⟩ else False
      | none => False) else False
    | _ => False) else False
  | _ => False
def appM (T : List (Nat × AV)) (H : List AB) (d : Option Nat) (e : TypeId) (sz : Nat) (Q : AS → Prop) (_ : Z Q) (_ : True) : AV → AV → Prop
  | .nils, .sl _ sz' els2 => if els2.length ≤ LIM ∧ (els2 = [] ∨ sz' = sz) then Q (put ⟨T, H ++ [.row e sz els2]⟩ d (.row H.length)) else False
  | .sl true sz'' els, .sl _ sz' els2 => if els.length + els2.length ≤ LIM ∧ els2 ≠ [] ∧ sz' = sz ∧ (els = [] ∨ sz'' = sz) then Q (put ⟨T, H ++ [.row e sz (els ++ els2)]⟩ d (.row H.length)) else False
  | .row r, .sl _ sz' els2 => match H[r]? with
    | some (.row e' szr els) => if els.length + els2.length ≤ LIM ∧ e = e' ∧ szr = sz ∧ (els2 = [] ∨ sz' = sz) then
        Q (put ⟨sbT r .u T, (sbH r .u H).set r (.row e sz (sbE r .u els ++ els2))⟩ d (.row r)) else False
    | _ => False
  | _, _ => False
def aptM (sz : Nat) : AV → AV → Option AV
  | .nils, .sl _ sz' els2 => if els2.length ≤ LIM ∧ (els2 = [] ∨ sz' = sz) then some (.sl false sz els2) else none
  | .sl true sz'' els, .sl _ sz' els2 => if els.length + els2.length ≤ LIM ∧ (els2 = [] ∨ sz' = sz) ∧ (els = [] ∨ sz'' = sz) then some (.sl false sz (els ++ els2)) else none
  | .nils, .nils => some (.sl false sz [])
  | .sl true sz'' els, .nils => if els = [] ∨ sz'' = sz then some (.sl false sz els) else none
  | _, _ => none
def mksM (T : List (Nat × AV)) (H : List AB) (d : Option Nat) (e : TypeId) (sz : Nat) (zero : List AV) (Q : AS → Prop) (_ : Z Q) (_ : True) : AV → Prop
  | .i _ n => if 0 ≤ n ∧ n.toNat ≤ LIM then Q (put ⟨T, H ++ [.row e sz (List.replicate n.toNat zero)]⟩ d (.row H.length)) else False
  | _ => False

variable {x y a c : Opd}
theorem o_mv {z : Z Q} : zwp1 P (.op d (.mv x)) st Q z ⟨⟩ = Q (put st d (st.ev x)) := nr rfl
theorem o_bx {z : Z Q} : zwp1 P (.op d (.bx x)) st Q z ⟨⟩ = zoK (bxM (st.ev x)) (fun v => Q (put st d v)) ⟨⟩ ⟨⟩ := by
  simp only [zwp1, zoK, zif, wp1, sv, ov, bxM]; cases (pureB (st.ev x) && boxB (st.ev x)) <;> rfl
theorem o_ld {n : Nat} {g : Bool} {z : Z Q} : zwp1 P (.op d (.ld a n g)) st Q z ⟨⟩ = zoK (rdM st.H n g (st.ev a)) (fun v => Q (put st d v)) ⟨⟩ ⟨⟩ := by
  have : ov st.ev st.H (.ld a n g) = rdM st.H n g (st.ev a) := rfl
  simp only [zwp1, zoK, zif, wp1, sv, this]; cases rdM st.H n g (st.ev a) <;> rfl
theorem optK_map {α β : Type} {o : Option α} {f : α → β} {k : β → Prop} : optK (o.map f) k = optK o (fun x => k (f x)) := by cases o <;> rfl
theorem o_ldi {n : Nat} {g : Bool} {z : Z Q} : zwp1 P (.op d (.ldi a n g)) st Q z ⟨⟩ = zoK (rdI n g (st.ev a)) (fun v => Q (put st d v)) ⟨⟩ ⟨⟩ := by
  have : ov st.ev st.H (.ldi a n g) = rdI n g (st.ev a) := rfl
  simp only [zwp1, zoK, zif, wp1, sv, this, optK_map]
theorem o_fa {off : Nat} {z : Z Q} : zwp1 P (.op d (.fa a off)) st Q z ⟨⟩ = zoK (faM off (st.ev a)) (fun v => Q (put st d v)) ⟨⟩ ⟨⟩ := by
  have : ov st.ev st.H (.fa a off) = faM off (st.ev a) := rfl
  simp only [zwp1, zoK, zif, wp1, sv, this, optK_map]
theorem o_ia {sz : Nat} {z : Z Q} : zwp1 P (.op d (.ia sz x y)) st Q z ⟨⟩ = zoK (iaM st.H sz (st.ev x) (st.ev y)) (fun v => Q (put st d v)) ⟨⟩ ⟨⟩ := by
  have : ov st.ev st.H (.ia sz x y) = iaM st.H sz (st.ev x) (st.ev y) := rfl
  simp only [zwp1, zoK, zif, wp1, sv, this, optK_map]
theorem o_bi {op : BinOp} {z : Z Q} : zwp1 P (.op d (.bi op x y)) st Q z ⟨⟩ = zoK (biM op (st.ev x) (st.ev y)) (fun v => Q (put st d v)) ⟨⟩ ⟨⟩ := by
  have : ov st.ev st.H (.bi op x y) = biM op (st.ev x) (st.ev y) := rfl
  simp only [zwp1, zoK, zif, wp1, sv, this, optK_map]
theorem o_bib {op : BinOp} {z : Z Q} : zwp1 P (.op d (.bib op x y)) st Q z ⟨⟩ = zoK (bibM op (st.ev x) (st.ev y)) (fun v => Q (put st d v)) ⟨⟩ ⟨⟩ := by
  have : ov st.ev st.H (.bib op x y) = bibM op (st.ev x) (st.ev y) := rfl
  simp only [zwp1, zoK, zif, wp1, sv, this, optK_map]
theorem o_not {z : Z Q} : zwp1 P (.op d (.un .not x)) st Q z ⟨⟩ = zoK (notM (st.ev x)) (fun v => Q (put st d v)) ⟨⟩ ⟨⟩ := by
  have : ov st.ev st.H (.un .not x) = notM (st.ev x) := by
    simp only [ov, notM]; cases st.ev x <;> rfl
  simp only [zwp1, zoK, zif, wp1, sv, this, optK_map]
theorem o_len {z : Z Q} : zwp1 P (.op d (.len x)) st Q z ⟨⟩ = zoK (lenM st.H (st.ev x)) (fun v => Q (put st d v)) ⟨⟩ ⟨⟩ := by
  have : ov st.ev st.H (.len x) = lenM st.H (st.ev x) := rfl
  simp only [zwp1, zoK, zif, wp1, sv, this, optK_map]
theorem o_lens {z : Z Q} : zwp1 P (.op d (.lens x)) st Q z ⟨⟩ = zoK (lensM (st.ev x)) (fun v => Q (put st d v)) ⟨⟩ ⟨⟩ := by
  have : ov st.ev st.H (.lens x) = lensM (st.ev x) := rfl
  simp only [zwp1, zoK, zif, wp1, sv, this, optK_map]
theorem o_ext {n : Nat} {z : Z Q} : zwp1 P (.op d (.ext x n)) st Q z ⟨⟩ = zoK (extM n (st.ev x)) (fun v => Q (put st d v)) ⟨⟩ ⟨⟩ := by
  have : ov st.ev st.H (.ext x n) = extM n (st.ev x) := rfl
  simp only [zwp1, zoK, zif, wp1, sv, this, optK_map]
theorem o_pk {z : Z Q} : zwp1 P (.op d (.pk c x y)) st Q z ⟨⟩ = zoK (pkM (st.ev x) (st.ev y) (st.ev c)) (fun v => Q (put st d v)) ⟨⟩ ⟨⟩ := by
  have : ov st.ev st.H (.pk c x y) = pkM (st.ev x) (st.ev y) (st.ev c) := rfl
  simp only [zwp1, zoK, zif, wp1, sv, this, optK_map]
theorem o_mx {z : Z Q} : zwp1 P (.op d (.mx x y)) st Q z ⟨⟩ = zoK (mxM (st.ev x) (st.ev y)) (fun v => Q (put st d v)) ⟨⟩ ⟨⟩ := by
  have : ov st.ev st.H (.mx x y) = mxM (st.ev x) (st.ev y) := rfl
  simp only [zwp1, zoK, zif, wp1, sv, this, optK_map]
theorem o_mn {z : Z Q} : zwp1 P (.op d (.mn x y)) st Q z ⟨⟩ = zoK (mnM (st.ev x) (st.ev y)) (fun v => Q (put st d v)) ⟨⟩ ⟨⟩ := by
  have : ov st.ev st.H (.mn x y) = mnM (st.ev x) (st.ev y) := rfl
  simp only [zwp1, zoK, zif, wp1, sv, this, optK_map]
theorem o_ix {z : Z Q} : zwp1 P (.op d (.ix x y)) st Q z ⟨⟩ = zoK (ixM (st.ev x) (st.ev y)) (fun v => Q (put st d v)) ⟨⟩ ⟨⟩ := by
  have : ov st.ev st.H (.ix x y) = ixM (st.ev x) (st.ev y) := rfl
  simp only [zwp1, zoK, zif, wp1, sv, this, optK_map]
theorem o_bld {zero : List AV} {ps : List (Nat × Nat × Opd)} {z : Z Q} : zwp1 P (.op d (.bld zero ps)) st Q z ⟨⟩ = zoK (fills st.ev ps zero) (fun v => Q (put st d (.agg v))) ⟨⟩ ⟨⟩ := by
  simp only [zwp1, zoK, zif, wp1, sv, ov, optK_map]
theorem o_bsl {sz : Nat} {xs : List Opd} {z : Z Q} : zwp1 P (.op d (.bsl sz xs)) st Q z ⟨⟩ = zoK (bslM sz (xs.map st.ev)) (fun v => Q (put st d v)) ⟨⟩ ⟨⟩ := by
  have : ov st.ev st.H (.bsl sz xs) = bslM sz (xs.map st.ev) := by
    simp only [ov, bslM, List.map_map, List.all_map, Function.comp_def]
  simp only [zwp1, zoK, zif, wp1, sv, this, optK_map]
theorem o_mkf {f : Fn} {as bs : List Opd} {z : Z Q} : zwp1 P (.op d (.mkf f as bs)) st Q z ⟨⟩ = Q (put st d (.fn f (as.map st.ev) (bs.map st.ev))) := nr rfl
theorem o_apt {e : TypeId} {sz : Nat} {z : Z Q} : zwp1 P (.op d (.apt e sz x y)) st Q z ⟨⟩ = zoK (aptM sz (st.ev x) (st.ev y)) (fun v => Q (put st d v)) ⟨⟩ ⟨⟩ := by
  have : ov st.ev st.H (.apt e sz x y) = aptM sz (st.ev x) (st.ev y) := by
    simp only [ov, aptM]
    generalize st.ev x = v
    generalize st.ev y = u
    cases v with
    | sl t _ _ => cases t <;> cases u <;> rfl
    | _ => cases u <;> rfl
  simp only [zwp1, zoK, zif, wp1, sv, this, optK_map]
theorem o_alm {t : TypeId} {cs : List AV} {z : Z Q} : zwp1 P (.op d (.alm t cs)) ⟨T, H⟩ Q z ⟨⟩ = Q (put ⟨T, H ++ [.box t cs]⟩ d (.ptr H.length 0)) := nr rfl
theorem o_bxm {t : TypeId} {z : Z Q} : zwp1 P (.op d (.bxm t x)) ⟨T, H⟩ Q z ⟨⟩ = zif (boxB (AS.ev ⟨T, H⟩ x)) (Q (put ⟨T, H ++ [.box t (cellsOf (AS.ev ⟨T, H⟩ x))]⟩ d (.ptr H.length 0))) False ⟨⟩ ⟨⟩ ⟨⟩ := by
  simp only [zwp1, zoK, zif, wp1, sv]; cases boxB (AS.ev ⟨T, H⟩ x) <;> simp [optK]
theorem o_st {n : Nat} {z : Z Q} : zwp1 P (.op none (.st a n x)) ⟨T, H⟩ Q z ⟨⟩ = stM T H n (AS.ev ⟨T, H⟩ x) Q ⟨⟩ ⟨⟩ (AS.ev ⟨T, H⟩ a) := by
  simp only [zwp1, zoK, zif, wp1, sv, stM]
  by_cases h : (cellsOf (AS.ev ⟨T, H⟩ x)).length = n ∧ boxB (AS.ev ⟨T, H⟩ x) = true
  · have hb : ((cellsOf (AS.ev ⟨T, H⟩ x)).length == n && boxB (AS.ev ⟨T, H⟩ x)) = true := by simp [h]
    rw [hb, cond_true]
    simp only [if_pos h]
    cases AS.ev ⟨T, H⟩ a <;> try rfl
    · rename_i r j
      simp only
      cases H[r]? with
      | none => rfl
      | some ab => cases ab <;> try rfl
                   simp only
                   split <;> rfl
    · rename_i r sz i j
      simp only
      cases H[r]? with
      | none => rfl
      | some ab => cases ab <;> try rfl
                   rename_i e sz' els
                   simp only
                   by_cases e' : sz = sz'
                   · subst e'
                     simp only [BEq.rfl, cond_true, if_true]
                     cases els[i]? with
                     | none => rfl
                     | some el => simp only; split <;> rfl
                   · rw [beq_eq_false_iff_ne.2 e', if_neg e']; rfl
  · have hb : ((cellsOf (AS.ev ⟨T, H⟩ x)).length == n && boxB (AS.ev ⟨T, H⟩ x)) = false := by
      cases hq : ((cellsOf (AS.ev ⟨T, H⟩ x)).length == n && boxB (AS.ev ⟨T, H⟩ x))
      · rfl
      · exact absurd (by simpa using hq) h
    rw [hb, cond_false]
    simp only [if_neg h]
    cases AS.ev ⟨T, H⟩ a <;> rfl
theorem o_app {e : TypeId} {sz : Nat} {z : Z Q} : zwp1 P (.op d (.app e sz x y)) ⟨T, H⟩ Q z ⟨⟩ = appM T H d e sz Q ⟨⟩ ⟨⟩ (AS.ev ⟨T, H⟩ x) (AS.ev ⟨T, H⟩ y) := by
  simp only [zwp1, zoK, zif, wp1, sv, appM]
  generalize AS.ev ⟨T, H⟩ x = v
  generalize AS.ev ⟨T, H⟩ y = z
  cases v with
  | sl t sz'' els =>
    cases t
    · cases z <;> rfl
    · cases z <;> try rfl
      simp only; split <;> rfl
  | nils =>
    cases z <;> try rfl
    simp only; split <;> rfl
  | row r =>
    cases z <;> try rfl
    simp only
    cases H[r]? with
    | none => rfl
    | some ab => cases ab <;> try rfl
                 simp only; split <;> rfl
  | _ => cases z <;> rfl
theorem o_mks {e : TypeId} {sz : Nat} {zero : List AV} {z : Z Q} : zwp1 P (.op d (.mks e sz zero x)) ⟨T, H⟩ Q z ⟨⟩ = mksM T H d e sz zero Q ⟨⟩ ⟨⟩ (AS.ev ⟨T, H⟩ x) := by
  simp only [zwp1, zoK, zif, wp1, sv, mksM]
  cases AS.ev ⟨T, H⟩ x <;> try rfl
  simp only; split <;> rfl
@[congr] theorem stM_cg {T T' : List (Nat × AV)} {H H' : List AB} {n : Nat} {x x' v v' : AV} {z : Z Q} (h1 : T = T') (h2 : H = H') (h3 : x = x') (h4 : v = v') : stM T H n x Q z ⟨⟩ v = stM T' H' n x' Q z ⟨⟩ v' := by rw [h1, h2, h3, h4]
@[congr] theorem appM_cg {T T' : List (Nat × AV)} {H H' : List AB} {e : TypeId} {sz : Nat} {x x' v v' : AV} {z : Z Q} (h1 : T = T') (h2 : H = H') (h3 : x = x') (h4 : v = v') : appM T H d e sz Q z ⟨⟩ x v = appM T' H' d e sz Q z ⟨⟩ x' v' := by rw [h1, h2, h3, h4]
@[congr] theorem mksM_cg {T T' : List (Nat × AV)} {H H' : List AB} {e : TypeId} {sz : Nat} {zr : List AV} {v v' : AV} {z : Z Q} (h1 : T = T') (h2 : H = H') (h4 : v = v') : mksM T H d e sz zr Q z ⟨⟩ v = mksM T' H' d e sz zr Q z ⟨⟩ v' := by rw [h1, h2, h4]
end
end Go.Ab
