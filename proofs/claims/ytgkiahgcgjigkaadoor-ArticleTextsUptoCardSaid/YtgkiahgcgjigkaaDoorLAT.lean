/- For any list x1 of commands and any text x2, the law ArticleTexts answers true: Text and Parse return what the reference returns, and do not modify their arguments. Condition: the arguments are of bulk at most 1048576 together, and the package-level variables of Go's library that the row lists hold what their initialisers lay. -/
import Derived.Test.YtgkiahgcgjigkaaDoorBH
import Derived.Test.YtgkiahgcgjigkaaDoorCards
import Derived.Test.YtgkiahgcgjigkaaDoorTie
import Derived.Carry
import Derived.ChangeMaps5
import Derived.Deep.DeepHandedRow
import Derived.Deep.DeepWitnessRowRef
import Derived.Lib.LaidTab
import Derived.Stop.LaidErr
import Derived.Shelf.Vars
import Derived.Lib.LaidIn
set_option linter.all false
set_option linter.all false
set_option maxRecDepth 100000
namespace Go.Proofs.YtgkiahgcgjigkaaDoor
open Go.ChangeShapes Go.WideShapes Go.ChangeAt Go.RowKit Go.Ab Go.Ab.Rd Go.Ab.X
open Go.ChangeMaps (open_string shut_string)
namespace tx
theorem own:ownKnob Tryd.prog.godebug=none:=by kernel_rfl
theorem laid:laidOutB Tryd.prog=true:=by kernel_rfl
theorem star : "*" ++ "errors.errorString" = "*errors.errorString" := by decide
theorem row107 (u : TypeId) (h : Tryd.prog.typeName? 3 u = some "*errors.errorString") : u = 107 :=
 typeName_ptr_named (nm := "errors.errorString") (by rw [star]; kernel_rfl) (by kernel_rfl) (by decide) u (by rw [star]; exact h)
theorem gMax : Tryd.prog.globalNamed "internal/bytealg.MaxLen" = some 0 := by kernel_rfl
theorem gSyn : Tryd.prog.globalNamed "strconv.ErrSyntax" = some 1 := by kernel_rfl
theorem gRan : Tryd.prog.globalNamed "strconv.ErrRange" = some 2 := by kernel_rfl
theorem gPow : Tryd.prog.globalNamed "internal/strconv.uint64pow10" = some 3 := by kernel_rfl
theorem var_heap{P:Program}{w:World}{n:String}{g:Nat}{cs:Array Value}(hg:P.globalNamed n=some g)(h:w.var? P n=some cs):∃ t f,w.heap[g]? = some (.cells cs t f):=by
 unfold World.var? at h
 rw[hg]at h
 simp only[Option.bind_some]at h
 split at h
 ·rename_i c t f e
  cases h
  exact⟨t,f,e⟩
 ·cases h
theorem met{W:World}(h:laidMetH Tryd.prog Rows.articleTextsUptoRow.laid W):laidMet Tryd.prog Rows.articleTextsUptoRow.laid W:=by
 unfold laidMetH at h
 rw[show(Rows.articleTextsUptoRow.laid.filter fun x=>x.2.handleName?.isSome)=[] by kernel_rfl]at h
 exact h
theorem world{W:World}(h:laidMetH Tryd.prog Rows.articleTextsUptoRow.laid W)(hsh:W.ShapedOpen Tryd.prog):JW W:=by
 have h0:=met h
 obtain⟨m,hm⟩:=cell_of_shapedOpen_int (P:=Tryd.prog) (g:=0) (t:=3) (zero:=#[.int .i64 0]) hsh (of_decide_eq_true (by kernel_rfl)) (by kernel_rfl) rfl (by kernel_rfl) (by kernel_rfl) Tryd.underlying3
 obtain⟨cs,hh,hs,_⟩:=hsh.1 0 #[.int .i64 0] 3 (of_decide_eq_true (by kernel_rfl)) (by kernel_rfl)
 have hcs:cs=#[.int .i64 m]:=by
  rw[Lib.cell_of_heap hh]at hm
  match cs,hs with
  | ⟨[c]⟩,_=>simp at hm;rw[hm]
 rw[hcs]at hh
 have h2:=h0.tail.tail
 have hp : Lib.TabIs Tryd.prog W "internal/strconv.uint64pow10" .u64 Lib.pow10Tab :=
  Lib.tabIs_of_head (rest:=_) (t:=102) (e:=84) (n:=20) gPow (by kernel_rfl) Tryd.underlying102 Tryd.underlying84 (by kernel_rfl) (by kernel_rfl) h2
 have h4:=h2.tail.tail
 obtain⟨a2,s2,v2,_⟩:=laid_sentinel (ti:=45) (tp:=107) (te:=109) (ts:=9) h4 gRan (by kernel_rfl) Tryd.underlying45 row107 Tryd.underlying107 Tryd.underlying109 rfl rfl Tryd.underlying9 (by kernel_rfl) (by kernel_rfl)
 obtain⟨a1,s1,v1,_⟩:=laid_sentinel (ti:=45) (tp:=107) (te:=109) (ts:=9) h4.tail gSyn (by kernel_rfl) Tryd.underlying45 row107 Tryd.underlying107 Tryd.underlying109 rfl rfl Tryd.underlying9 (by kernel_rfl) (by kernel_rfl)
 obtain⟨t1,f1,e1⟩:=var_heap gSyn v1
 obtain⟨t2,f2,e2⟩:=var_heap gRan v2
 obtain⟨t3,f3,e3⟩:=var_heap gPow hp
 exact⟨⟨m,_,_,hh⟩,⟨_,_,_,_,e1⟩,⟨_,_,_,_,e2⟩,_,_,e3⟩
theorem contract(H:Type)(enc:TypeId×Value->H)(W:World)(base:Nat)(args:Array Value)(ds gs:List (DataW H))(before:List MemPlace)
  (hval:∀(j:Nat) t v,Tryd.f3.params[j]? = some t->args[j]? = some v->Value.okWide Tryd.prog W .any base t v)
  (hW:DataW.Whole enc Tryd.prog Tryd.f3.params.toList Rows.articleTextsSpec.vars false W args.toList ds gs before) (hk:Rows.uptoSmall H (ds++gs)=true) (hJ:JW W) :
  Calls Tryd.prog 3 args W fun e W'=>∃ v,e=.returned v/\Rows.articleTextsSpec.post enc Tryd.prog Tryd.f3 false true false false W args v W':=by
 have hW':=hW
 obtain⟨p,q,hA0,hV,rfl,hfz,hnd⟩:=hW
 have hA:DataW.TrodAll enc Tryd.prog W 0 (fun _=>true) true Tryd.f3.params.toList args.toList ds p:=hA0
 rw[show Tryd.f3.params=#[22,9]from rfl]at hA hval
 obtain⟨v0,vs0,d0,ds0,p0,q0,ha,rfl,rfl,h0,hA⟩:=trodAll_cons hA
 obtain⟨v1,vs1,d1,ds1,p1,q1,rfl,rfl,rfl,h1,hA⟩:=trodAll_cons hA
 obtain⟨rfl,rfl,rfl⟩:=trodAll_nil hA
 obtain rfl:args=#[v0,v1]:=by cases args;simp_all
 obtain⟨rfl,rfl⟩:=trodVars_none hV
 clear hA0 hA ha
 have hb:Rows.uptoBulkAll ([d0,d1]++[])<=1048576:=of_decide_eq_true hk
 simp only[List.append_nil,Rows.uptoBulkAll]at hb
 obtain⟨a0,l0,c0,rfl⟩:=okWide_slice Tryd.underlying22 (hval 0 22 v0 rfl rfl)
 obtain⟨l,r0⟩:=arg_cmds rfl h0 (by omega)
 obtain⟨s,rfl,rfl,rfl,hs⟩:=open_string Tryd.underlying9 (hval 1 9 v1 rfl rfl) h1
 simp only[Rows.uptoBulk,ba_len]at hb
 have hf:=RV_fit _ _ r0
 simp only[Fit,List.length_map]at hf
 have hc:=(ans_ok G_ok X_ok (texts_law l s hf.1 (cmds_fit l hf.2)) rfl).2 (Iw W) W [.slice a0 l0 c0,.string s] (fun _ h=>h) hJ
  (by
   show RVs _ _ _ [.sl false 3 (l.map C_cmd),.s s] _
   simp only[RVs]
   refine⟨_,_,rfl,r0,_,_,rfl,?_,rfl⟩
   simp only[RV]
   exact⟨trivial,by simp only[LIM];omega⟩)
 refine hc.mono fun e W' h=>?_
 obtain⟨v,rfl,hbel,hv⟩:=h
 have hv:v=.bool true:=hv
 subst hv
 have hlt:∀ x∈p0,x.block<W.heap.size:=fun x hx=>hW'.lt x (by simp[hx])
 refine⟨_,rfl,post_of_below (pa:=p0++[]) (pv:=[]) hW' hbel (fun _ _ _=>trodAll_mk1 (shut_bool Tryd.underlying4 _)) (fun sp hsp=>trodAll_mk2
   (WideElems.Trod_stays laid (by kernel_rfl) (of_decide_eq_true (by kernel_rfl)) h0 (fun x hx=>hbel.same (hlt x hx)) (fun x hx=>hsp x (by simp[hx])))
   (shut_string Tryd.underlying9 hs))
  (fun _ _=>rfl) (by simp) (ok_one (by kernel_rfl) rfl (okWide_bool_mk Tryd.underlying4 _))⟩
noncomputable abbrev N0:Nat:=(World.settled Tryd.prog default).heap.size
noncomputable def laidWorld(os:Os):World:=
 let N:=(World.settled Tryd.prog os).heap.size
 let w0:=World.holding Tryd.prog os ⟨#[.cells #[.string ⟨#[105,110,118,97,108,105,100,32,115,121,110,116,97,120]⟩] 109,.cells #[.string ⟨#[118,97,108,117,101,32,111,117,116,32,111,102,32,114,97,110,103,101]⟩] 109],#[],[]⟩
 let put (h:Array Obj) (g:Nat) (cs:Array Value):Array Obj:=h.modify g fun
  | .cells _ t frozen=>.cells cs t frozen
  | o=>o
 let h1:=put w0.heap 1 #[.iface 107 (.pointer (some ⟨N,0,none⟩))]
 let h2:=put h1 2 #[.iface 107 (.pointer (some ⟨N+1,0,none⟩))]
 let h3:=put h2 3 (Lib.pow10Tab.map fun z=>Value.int .u64 z).toArray
 let h4:=put h3 4 (Pinned.utf8FirstZ.map fun(z:Nat)=>Value.int .u8 (z:Int)).toArray
 let h5:=put h4 5 (([128,191,160,191,128,159,144,191,128,143,0,0,0,0,0,0,0,0,0,0,0,0,0,0,0,0,0,0,0,0,0,0]:List Int).map fun z=>Value.int .u8 z).toArray
 let h6:=put h5 6 (([0,1,28,2,29,14,24,3,30,22,20,15,25,17,4,8,31,27,13,23,21,19,16,7,26,12,18,6,11,5,10,9]:List Int).map fun z=>Value.int .u8 z).toArray
 let h7:=put h6 7 (([0,1,56,2,57,49,28,3,61,58,42,50,38,29,17,4,62,47,59,36,45,43,51,22,53,39,33,30,24,18,12,5,63,55,48,27,60,41,37,16,46,35,44,21,52,32,23,11,54,26,40,15,34,20,31,10,25,14,19,9,13,8,7,6]:List Int).map fun z=>Value.int .u8 z).toArray
 { w0 with heap:=h7 }
theorem laid_met(os:Os)(args:Array Value):laidMet Tryd.prog Rows.articleTextsUptoRow.laid ((laidWorld os).forCall (fun _ _=>0) ⟨#[],args,[]⟩).memory:=
 (LaidIn.of_run [6,7,3,5,2,1,4,N0,N0+1] 8 (by kernel_rfl) (by kernel_rfl) (by kernel_rfl) (by kernel_rfl)).met
abbrev wargs:Array Value:=#[.slice none 0 0,.string ⟨#[]⟩]
theorem witness_row(os:Os){H:Type}(enc:TypeId×Value->H) :
  (Rows.OpenSpec.upto Rows.articleTextsSpec).preRow enc Tryd.prog Tryd.f3 Rows.articleTextsUptoRow.domain false Rows.articleTextsUptoRow.laid ((laidWorld os).forCall (fun _ _=>0) ⟨#[],wargs,[]⟩).memory wargs:=by
 have hw:(DataW.whole enc Tryd.prog ((laidWorld os).forCall (fun _ _=>0) ⟨#[],wargs,[]⟩).memory Tryd.f3.params.toList Rows.articleTextsSpec.vars false wargs.toList 8).map (fun x=>(x.1,x.2.1)) =
   some ([.nil,.lit (.string [])],[]):=by kernel_rfl
 obtain⟨⟨x1,x2,x3⟩,hx,hx1⟩:=Option.map_eq_some_iff.1 hw
 simp only[Prod.mk.injEq]at hx1
 obtain⟨rfl,rfl⟩:=hx1
 exact OpenSpec.preRow_of_cond 8 hx (by kernel_rfl) (fun k hk=>by cases hk;kernel_rfl) (by kernel_rfl) (laid_met os _)
theorem liftedUpto(os:Os)(started:os.Started)(H:Type)(enc:TypeId×Value->H)(F:Stop.Interp) :
  ReturnsInHanded {} Tryd.checked os 3 .any ((Rows.OpenSpec.upto Rows.articleTextsSpec).preRow enc Tryd.prog Tryd.f3 Rows.articleTextsUptoRow.domain false Rows.articleTextsUptoRow.laid) (((Rows.OpenSpec.upto Rows.articleTextsSpec).at F).post enc Tryd.prog Tryd.f3 false true false false):=by
 refine returnsInHanded_of_row (C:=Tryd.checked) (s:=Rows.OpenSpec.upto Rows.articleTextsSpec) own started (by kernel_rfl) Tryd.func3
  (witness_row_atRef (enc:=enc) (C:=Tryd.checked) false (laidWorld os) wargs rfl (by kernel_rfl) (by kernel_rfl) (by kernel_rfl) (witness_row os enc)) ?_
 intro W base args ds gs before hval hW _ hk _ hL hsh _
 exact contract H enc W base args ds gs before hval hW (hk _ rfl) (world hL hsh)
theorem saidUpto:Rows.ArticleTextsUptoSaid:=
 OpenClaim.holds_of_cond 3 Tryd.f3 rfl rfl rfl rfl rfl rfl rfl ⟨rfl,rfl,rfl,rfl,rfl⟩ rfl rfl rfl rfl rfl (by kernel_rfl) Tryd.func3 (by kernel_rfl)
  (of_decide_eq_true (by kernel_rfl)) (by unfold Func.isWrapper;first|(rw[if_pos (by decide +kernel)];kernel_rfl)|(rw[if_neg (by decide +kernel)];exact⟨rfl,rfl⟩))
  (fun os started H enc _ F=>by rw[OpenClaim.pre_eq_preRow];exact liftedUpto os started H enc F)
theorem plain (f : FuncId) (fn : Func) (hf : Tryd.pinned.checked.prog.funcNamed "sequent/sequentlaw32.ArticleTexts" = some f) (hfn : Tryd.pinned.checked.prog.funcs[f]? = some fn) :
  true=Tryd.pinned.checked.prog.looks []/\∀(j:Nat) t,fn.params[j]? = some t->Tryd.pinned.checked.prog.wantsStandIn t=false:=by
 obtain rfl : f = 3 := Option.some.inj ((show Tryd.prog.funcNamed "sequent/sequentlaw32.ArticleTexts" = some 3 by kernel_rfl).symm.trans hf) |>.symm
 obtain rfl:fn=Tryd.f3:=(Option.some.inj (Tryd.func3.symm.trans hfn)).symm
 refine⟨by kernel_rfl,fun j t ht=>?_⟩
 rw[show Tryd.f3.params=#[22,9]from rfl]at ht
 have hm:=Array.mem_of_getElem? ht
 simp only[List.mem_toArray,List.mem_cons,List.not_mem_nil,or_false]at hm
 rcases hm with rfl|rfl
 ·exact(show Tryd.prog.wantsStandIn 22=false by kernel_rfl)
 ·exact(show Tryd.prog.wantsStandIn 9=false by kernel_rfl)
end tx
theorem articleTexts_card:Rows.ArticleTextsUptoCardSaid:=
 Claim7.holds_tied_plain_at .later [] _ _ _ _ tx.saidUpto (fun _ h=>by cases h) (by kernel_rfl) (fun _ h=>by cases h) articleTextsUpto_row_tie rfl ⟨rfl,rfl⟩ (by kernel_rfl) rfl tx.plain (by kernel_rfl)
#print axioms articleTexts_card
end Go.Proofs.YtgkiahgcgjigkaaDoor
