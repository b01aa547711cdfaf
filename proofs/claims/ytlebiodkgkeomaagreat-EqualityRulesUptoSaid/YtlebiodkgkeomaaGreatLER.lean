/- For any sequent x1 and terms x2 and x3, the rules of equality (CheckThm, CheckTerm, Sides, Sym, ApTerm, ApThm) answer as the reference does at the theorem that is made from the sequent. Condition: the arguments are of bulk at most 1048576. -/
import Derived.Test.YtlebiodkgkeomaaGreatRdC
import Derived.Test.YtlebiodkgkeomaaGreatP10
set_option linter.all false
set_option linter.all false
set_option maxRecDepth 100000
namespace Go.Proofs.YtlebiodkgkeomaaGreat
open Go.ChangeShapes Go.WideShapes Go.ChangeAt Go.RowKit Go.Ab Go.Ab.Rd Go.Ab.X
namespace er
theorem own:ownKnob Tryz.prog.godebug=none:=by kernel_rfl
theorem laid:laidOutB Tryz.prog=true:=by kernel_rfl
theorem bkQ_S(g:Ssequent):bkQ g=bkS g:=rfl
theorem law(x1:Ssequent)(x2 x3:Tm)(h1:bkS x1<=2 ^ 21)(h2:bkT x2<=SML)(h3:bkT x3<=SML)(f1:∀ x∈x1.hyps,fitT x)(f1c:fitT x1.concl)(f2:fitT x2)(f3:fitT x3):PC Tryz.prog 3 [.agg (C_sequent x1),.agg (tmC x2),.agg (tmC x3)] (.b true):=
 ans_ok G_ok X_ok (law08_ok x1 x2 x3 h1 h2 h3 f1 f1c f2 f3) rfl
theorem fitE_mem:∀(l:List Tm),FitE (l.map tmC)->∀ x∈l,fitT x
 | y::l,h,x,hx=>by
  simp only[List.map_cons,FitE]at h
  rcases List.mem_cons.1 hx with rfl|hx
  ·exact fitT_of _ h.1
  ·exact fitE_mem l h.2 x hx
theorem fit_seq{w:World}{v:Value}(g:Ssequent)(h:RV (Iw w) noθ w (.agg (C_sequent g)) v):(∀ x∈g.hyps,fitT x)/\fitT g.concl:=by
 have hf:=RV_fit _ _ h
 rw[sequent_eq]at hf
 simp only[Fit,FitL]at hf
 exact⟨fitE_mem _ hf.1.2,fitT_of _ hf.2⟩
theorem contract(H:Type)(enc:TypeId×Value->H)(W:World)(base:Nat)(args:Array Value)(ds gs:List (DataW H))(before:List MemPlace)
  (hval:∀(j:Nat) t v,Tryz.f3.params[j]? = some t->args[j]? = some v->Value.okWide Tryz.prog W .any base t v)
  (hW:DataW.Whole enc Tryz.prog Tryz.f3.params.toList Rows.equalityRulesSpec.vars false W args.toList ds gs before) (hk:Rows.uptoSmall H (ds++gs)=true) :
  Calls Tryz.prog 3 args W fun e W'=>∃ v,e=.returned v/\Rows.equalityRulesSpec.post enc Tryz.prog Tryz.f3 false true false false W args v W':=by
 have hW':=hW
 obtain⟨p,q,hA0,hV,rfl,hfz,hnd⟩:=hW
 have hA:DataW.TrodAll enc Tryz.prog W 0 (fun _=>true) true Tryz.f3.params.toList args.toList ds p:=hA0
 rw[show Tryz.f3.params=#[29,27,27]from rfl]at hA hval
 obtain⟨v0,vs0,d0,ds0,p0,q0,ha,rfl,rfl,h0,hA⟩:=trodAll_cons hA
 obtain⟨v1,vs1,d1,ds1,p1,q1,rfl,rfl,rfl,h1,hA⟩:=trodAll_cons hA
 obtain⟨v2,vs2,d2,ds2,p2,q2,rfl,rfl,rfl,h2,hA⟩:=trodAll_cons hA
 obtain⟨rfl,rfl,rfl⟩:=trodAll_nil hA
 obtain rfl:args=#[v0,v1,v2]:=by cases args;simp_all
 obtain⟨rfl,rfl⟩:=trodVars_none hV
 clear hA0 hA ha
 have hb:Rows.uptoBulkAll ([d0,d1,d2]++[])<=1048576:=of_decide_eq_true hk
 simp only[List.append_nil,Rows.uptoBulkAll]at hb
 obtain⟨t0,r0,b0⟩:=arg_seq (hval 0 29 v0 rfl rfl) h0 (by omega)
 obtain⟨t1,r1,b1⟩:=arg_tm (hval 1 27 v1 rfl rfl) h1 (by omega)
 obtain⟨t2,r2,b2⟩:=arg_tm (hval 2 27 v2 rfl rfl) h2 (by omega)
 obtain⟨f0,f0c⟩:=fit_seq t0 r0
 have f1:fitT t1:=fitT_of t1 (by have:=RV_fit _ _ r1;simpa only[Fit] using this)
 have f2:fitT t2:=fitT_of t2 (by have:=RV_fit _ _ r2;simpa only[Fit] using this)
 rw[bkQ_S]at b0
 have hc:=(law t0 t1 t2 (by omega) (by simp only[SML];omega) (by simp only[SML];omega) f0 f0c f1 f2).2 (Iw W) W [v0,v1,v2] (fun _ h=>h)
  (by simp only[RVs];exact⟨v0,_,rfl,r0,v1,_,rfl,r1,v2,_,rfl,r2,rfl⟩)
 refine hc.mono fun e W' h=>?_
 obtain⟨v,rfl,hbel,hv⟩:=h
 simp only[RV]at hv
 subst hv
 have hlt:∀ x∈(p0++(p1++(p2++[])))++[],x.block<W.heap.size:=fun x hx=>by simpa using hW'.lt x hx
 refine⟨_,rfl,post_of_below (pa:=p0++(p1++p2)) (pv:=[]) hW' hbel (fun _ _ _=>trodAll_mk1 (shut_bool Tryz.underlying4 _)) (fun sp hsp=>trodAll_mk3
   (WideElems.Trod_stays laid (by kernel_rfl) (of_decide_eq_true (by kernel_rfl)) h0 (fun x hx=>hbel.same (hlt x (by simp[hx]))) (fun x hx=>hsp x (by simp[hx])))
   (WideElems.Trod_stays laid (by kernel_rfl) (of_decide_eq_true (by kernel_rfl)) h1 (fun x hx=>hbel.same (hlt x (by simp[hx]))) (fun x hx=>hsp x (by simp[hx])))
   (WideElems.Trod_stays laid (by kernel_rfl) (of_decide_eq_true (by kernel_rfl)) h2 (fun x hx=>hbel.same (hlt x (by simp[hx]))) (fun x hx=>hsp x (by simp[hx]))))
  (fun _ _=>rfl) (by simp) (ok_one (by kernel_rfl) rfl (okWide_bool_mk Tryz.underlying4 _))⟩
theorem lifted(os:Os)(started:os.Started)(H:Type)(enc:TypeId×Value->H)(F:Stop.Interp) :
  ReturnsInHanded {} Tryz.checked os 3 .any ((Rows.OpenSpec.upto Rows.equalityRulesSpec).pre6 enc Tryz.prog Tryz.f3 Rows.equalityRulesUptoRow.domain false) (((Rows.OpenSpec.upto Rows.equalityRulesSpec).at F).post enc Tryz.prog Tryz.f3 false true false false):=by
 refine returnsInHanded_of_cond (C:=Tryz.checked) (s:=Rows.OpenSpec.upto Rows.equalityRulesSpec) (k:=Rows.uptoSmall) rfl own started (by kernel_rfl) Tryz.func3
  (OpenSpec.witness (enc:=enc) (C:=Tryz.checked) (s:=Rows.OpenSpec.upto Rows.equalityRulesSpec) (k:=Rows.uptoSmall) rfl false ⟨#[],#[.agg #[.slice none 0 0,.int .u8 0,.string ⟨#[]⟩,.bool false,.string ⟨#[]⟩,.slice none 0 0,.int .i64 0,.slice none 0 0],.agg #[.int .u8 0,.string ⟨#[]⟩,.bool false,.string ⟨#[]⟩,.slice none 0 0,.int .i64 0,.slice none 0 0],.agg #[.int .u8 0,.string ⟨#[]⟩,.bool false,.string ⟨#[]⟩,.slice none 0 0,.int .i64 0,.slice none 0 0]],[]⟩ 8 (by kernel_rfl) (by kernel_rfl) (by kernel_rfl)
   (x:=([.agg [.nil,.agg [.lit (.int .u8 0),.lit (.string []),.agg [.lit (.bool false),.lit (.string []),.nil],.lit (.int .i64 0),.nil]],.agg [.lit (.int .u8 0),.lit (.string []),.agg [.lit (.bool false),.lit (.string []),.nil],.lit (.int .i64 0),.nil],.agg [.lit (.int .u8 0),.lit (.string []),.agg [.lit (.bool false),.lit (.string []),.nil],.lit (.int .i64 0),.nil]],[],[])) (by kernel_rfl) rfl (by kernel_rfl)) ?_
 intro W base args ds gs before hval hW _ hk _
 exact contract H enc W base args ds gs before hval hW hk
theorem over:Rows.equalityRulesUptoRow.holds Tryz.pinned (Rows.OpenSpec.upto Rows.equalityRulesSpec):=
 OpenClaim.holds_of_cond 3 Tryz.f3 rfl rfl rfl rfl rfl rfl rfl ⟨rfl,rfl,rfl,rfl,rfl⟩ rfl rfl rfl rfl rfl (by kernel_rfl) Tryz.func3 (by kernel_rfl)
  (of_decide_eq_true (by kernel_rfl)) (by unfold Func.isWrapper;first|(rw[if_pos (by decide +kernel)];kernel_rfl)|(rw[if_neg (by decide +kernel)];exact⟨rfl,rfl⟩))
  (fun os started H enc _ F=>lifted os started H enc F)
end er
theorem equalityRules_holds:Rows.EqualityRulesUptoSaid:=er.over
#print axioms equalityRules_holds
end Go.Proofs.YtlebiodkgkeomaaGreat
