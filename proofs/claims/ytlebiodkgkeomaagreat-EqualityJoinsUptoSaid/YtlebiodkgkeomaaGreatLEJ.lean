/- For any term x1 and sequents x2, x3 and x4, the joining rules of equality (Binop, Chain, ProveHyp) answer as the reference does at the theorems that are made from the sequents. Condition: the arguments are of bulk at most 1048576 together. -/
import Derived.Test.YtlebiodkgkeomaaGreatRdC
import Derived.Test.YtlebiodkgkeomaaGreatP11
import Derived.Carry
set_option linter.all false
set_option linter.all false
set_option maxRecDepth 100000
namespace Go.Proofs.YtlebiodkgkeomaaGreat
open Go.ChangeShapes Go.WideShapes Go.ChangeAt Go.RowKit Go.Ab Go.Ab.Rd Go.Ab.X
namespace ej
theorem own:ownKnob Tryz.prog.godebug=none:=by kernel_rfl
theorem laid:laidOutB Tryz.prog=true:=by kernel_rfl
theorem bkQ_S(g:Ssequent):bkQ g=bkS g:=rfl
theorem law(x1:Tm)(x2 x3 x4:Ssequent)(hb:bkT x1+bkS x2+bkS x3+bkS x4<=2 ^ 21)(f1:fitT x1)(f2:(∀ x∈x2.hyps,fitT x)/\fitT x2.concl)(f3:(∀ x∈x3.hyps,fitT x)/\fitT x3.concl)(f4:(∀ x∈x4.hyps,fitT x)/\fitT x4.concl):PC Tryz.prog 4 [.agg (tmC x1),.agg (C_sequent x2),.agg (C_sequent x3),.agg (C_sequent x4)] (.b true):=
 ans_ok G_ok X_ok (law08J_ok x1 x2 x3 x4 hb f1 f2.1 f2.2 f3.1 f3.2 f4.1 f4.2) rfl
theorem fitE_mem:∀(l:List Tm),FitE (l.map tmC)->∀ x∈l,fitT x
 | y::l,h,x,hx=>by
  simp only[List.map_cons,FitE]at h
  rcases List.mem_cons.1 hx with rfl|hx
  ·exact fitT_of _ h.1
  ·exact fitE_mem l h.2 x hx
theorem fit_seq{w:World}{v:Value}(g:Ssequent)(h:RV (Iw w) noθ w (.agg (C_sequent g)) v):(∀ x∈g.hyps,fitT x)/\fitT g.concl:=by
 have hf:=RV_fit _ _ h
 rw[sequent_eq]at hf
 simp only[Fit,FitL]at hf
 exact⟨fitE_mem _ hf.1.2,fitT_of _ hf.2⟩
theorem contract(H:Type)(enc:TypeId×Value->H)(W:World)(base:Nat)(args:Array Value)(ds gs:List (DataW H))(before:List MemPlace)
  (hval:∀(j:Nat) t v,Tryz.f4.params[j]? = some t->args[j]? = some v->Value.okWide Tryz.prog W .any base t v)
  (hW:DataW.Whole enc Tryz.prog Tryz.f4.params.toList Rows.equalityJoinsSpec.vars false W args.toList ds gs before) (hk:Rows.uptoSmall H (ds++gs)=true) :
  Calls Tryz.prog 4 args W fun e W'=>∃ v,e=.returned v/\Rows.equalityJoinsSpec.post enc Tryz.prog Tryz.f4 false true false false W args v W':=by
 have hW':=hW
 obtain⟨p,q,hA0,hV,rfl,hfz,hnd⟩:=hW
 have hA:DataW.TrodAll enc Tryz.prog W 0 (fun _=>true) true Tryz.f4.params.toList args.toList ds p:=hA0
 rw[show Tryz.f4.params=#[27,29,29,29]from rfl]at hA hval
 obtain⟨v0,v1,v2,v3,d0,d1,d2,d3,p0,p1,p2,p3,rfl,rfl,rfl,h0,h1,h2,h3⟩:=trodAll_four hA
 obtain⟨rfl,rfl⟩:=trodVars_none hV
 clear hA0
 have hb:Rows.uptoBulkAll ([d0,d1,d2,d3]++[])<=1048576:=of_decide_eq_true hk
 simp only[List.append_nil,Rows.uptoBulkAll]at hb
 obtain⟨t0,r0,b0⟩:=arg_tm (hval 0 27 v0 rfl rfl) h0 (by omega)
 obtain⟨t1,r1,b1⟩:=arg_seq (hval 1 29 v1 rfl rfl) h1 (by omega)
 obtain⟨t2,r2,b2⟩:=arg_seq (hval 2 29 v2 rfl rfl) h2 (by omega)
 obtain⟨t3,r3,b3⟩:=arg_seq (hval 3 29 v3 rfl rfl) h3 (by omega)
 have f0:fitT t0:=fitT_of t0 (by have:=RV_fit _ _ r0;simpa only[Fit] using this)
 rw[bkQ_S]at b1 b2 b3
 have hc:=(law t0 t1 t2 t3 (by omega) f0 (fit_seq t1 r1) (fit_seq t2 r2) (fit_seq t3 r3)).2 (Iw W) W [v0,v1,v2,v3] (fun _ h=>h)
  (by simp only[RVs];exact⟨v0,_,rfl,r0,v1,_,rfl,r1,v2,_,rfl,r2,v3,_,rfl,r3,rfl⟩)
 refine hc.mono fun e W' h=>?_
 obtain⟨v,rfl,hbel,hv⟩:=h
 simp only[RV]at hv
 subst hv
 rw[show p0++p1++p2++p3=p0++(p1++(p2++p3)) by simp]at hW'
 have hlt:∀ x∈(p0++(p1++(p2++p3)))++[],x.block<W.heap.size:=fun x hx=>hW'.lt x hx
 refine⟨_,rfl,post_of_below (pa:=p0++(p1++(p2++p3))) (pv:=[]) hW' hbel (fun _ _ _=>trodAll_mk1 (shut_bool Tryz.underlying4 _)) (fun sp hsp=>trodAll_mk4
   (WideElems.Trod_stays laid (by kernel_rfl) (of_decide_eq_true (by kernel_rfl)) h0 (fun x hx=>hbel.same (hlt x (by simp[hx]))) (fun x hx=>hsp x (by simp[hx])))
   (WideElems.Trod_stays laid (by kernel_rfl) (of_decide_eq_true (by kernel_rfl)) h1 (fun x hx=>hbel.same (hlt x (by simp[hx]))) (fun x hx=>hsp x (by simp[hx])))
   (WideElems.Trod_stays laid (by kernel_rfl) (of_decide_eq_true (by kernel_rfl)) h2 (fun x hx=>hbel.same (hlt x (by simp[hx]))) (fun x hx=>hsp x (by simp[hx])))
   (WideElems.Trod_stays laid (by kernel_rfl) (of_decide_eq_true (by kernel_rfl)) h3 (fun x hx=>hbel.same (hlt x (by simp[hx]))) (fun x hx=>hsp x (by simp[hx]))))
  (fun _ _=>rfl) (by simp) (ok_one (by kernel_rfl) rfl (okWide_bool_mk Tryz.underlying4 _))⟩
theorem lifted(os:Os)(started:os.Started)(H:Type)(enc:TypeId×Value->H)(F:Stop.Interp) :
  ReturnsInHanded {} Tryz.checked os 4 .any ((Rows.OpenSpec.upto Rows.equalityJoinsSpec).pre6 enc Tryz.prog Tryz.f4 Rows.equalityJoinsUptoRow.domain false) (((Rows.OpenSpec.upto Rows.equalityJoinsSpec).at F).post enc Tryz.prog Tryz.f4 false true false false):=by
 refine returnsInHanded_of_cond (C:=Tryz.checked) (s:=Rows.OpenSpec.upto Rows.equalityJoinsSpec) (k:=Rows.uptoSmall) rfl own started (by kernel_rfl) Tryz.func4
  (OpenSpec.witness (enc:=enc) (C:=Tryz.checked) (s:=Rows.OpenSpec.upto Rows.equalityJoinsSpec) (k:=Rows.uptoSmall) rfl false ⟨#[],#[.agg #[.int .u8 0,.string ⟨#[]⟩,.bool false,.string ⟨#[]⟩,.slice none 0 0,.int .i64 0,.slice none 0 0],.agg #[.slice none 0 0,.int .u8 0,.string ⟨#[]⟩,.bool false,.string ⟨#[]⟩,.slice none 0 0,.int .i64 0,.slice none 0 0],.agg #[.slice none 0 0,.int .u8 0,.string ⟨#[]⟩,.bool false,.string ⟨#[]⟩,.slice none 0 0,.int .i64 0,.slice none 0 0],.agg #[.slice none 0 0,.int .u8 0,.string ⟨#[]⟩,.bool false,.string ⟨#[]⟩,.slice none 0 0,.int .i64 0,.slice none 0 0]],[]⟩ 8 (by kernel_rfl) (by kernel_rfl) (by kernel_rfl)
   (x:=([.agg [.lit (.int .u8 0),.lit (.string []),.agg [.lit (.bool false),.lit (.string []),.nil],.lit (.int .i64 0),.nil],.agg [.nil,.agg [.lit (.int .u8 0),.lit (.string []),.agg [.lit (.bool false),.lit (.string []),.nil],.lit (.int .i64 0),.nil]],.agg [.nil,.agg [.lit (.int .u8 0),.lit (.string []),.agg [.lit (.bool false),.lit (.string []),.nil],.lit (.int .i64 0),.nil]],.agg [.nil,.agg [.lit (.int .u8 0),.lit (.string []),.agg [.lit (.bool false),.lit (.string []),.nil],.lit (.int .i64 0),.nil]]],[],[])) (by kernel_rfl) rfl (by kernel_rfl)) ?_
 intro W base args ds gs before hval hW _ hk _
 exact contract H enc W base args ds gs before hval hW hk
theorem over:Rows.equalityJoinsUptoRow.holds Tryz.pinned (Rows.OpenSpec.upto Rows.equalityJoinsSpec):=
 OpenClaim.holds_of_cond 4 Tryz.f4 rfl rfl rfl rfl rfl rfl rfl ⟨rfl,rfl,rfl,rfl,rfl⟩ rfl rfl rfl rfl rfl (by kernel_rfl) Tryz.func4 (by kernel_rfl)
  (of_decide_eq_true (by kernel_rfl)) (by unfold Func.isWrapper;first|(rw[if_pos (by decide +kernel)];kernel_rfl)|(rw[if_neg (by decide +kernel)];exact⟨rfl,rfl⟩))
  (fun os started H enc _ F=>lifted os started H enc F)
end ej
theorem equalityJoins_holds:Rows.EqualityJoinsUptoSaid:=ej.over
#print axioms equalityJoins_holds
end Go.Proofs.YtlebiodkgkeomaaGreat
