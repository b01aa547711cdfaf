/- A part of the proof: AbO. -/
import Derived.Test.YtlebiodkgkeomaaGreatAbN
import Derived.Deep.LoopGhost
set_option linter.all false
set_option linter.unusedVariables false
namespace Go.Ab
open Go.RowKit
def codeOk(P:Program)(N:Nat):Code->SCode->Bool
 | .skip,.skip=>true
 | .region _ ops dr,.ops l=>!dr && opsOk P N ops ops.toList l
 | .region _ ops dr,.draw l=>dr && opsOk P N ops ops.toList l && drawOk ops l
 | .seq a b,.seq x y=>codeOk P N a x && codeOk P N b y
 | .cond c a b,.cond c' x y=>opdOk c c' && codeOk P N a x && codeOk P N b y
 | .block id c,.block id' x=>id == id' && codeOk P N c x
 | .loop c,.loop x=>codeOk P N c x
 | .exit id,.exit id'=>id == id'
 | .ret,.ret=>true
 | c,.wk x=>codeOk P N c x
 | _,_=>false
section
variable {P:Program} {Γ : Ctx} {N:Nat}
theorem Good.drew{st:AS}{a:Act}{w:World}(G:Good Γ N st a w):Good Γ N st a { w with drawn:=w.drawn+1 }:=by
 obtain⟨I,θ,S,hR⟩:=G.ex
 have hm:Mono I w I { w with drawn:=w.drawn+1 }:=⟨fun _ h=>h,fun _ _=>Same.refl _ _⟩
 refine⟨⟨I,θ,⟨S.below.drew,S.i0,S.inew,S.ilt,?_,?_,S.sep,S.iso,S.dom,S.own,S.pin⟩,hR.mono hm⟩,G.size,G.defers.step fun _ _ h _=>h⟩
 ·intro r t cs h
  obtain⟨B,c,h1,h2,h3,h4,h5⟩:=S.box r t cs h
  exact⟨B,c,h1,h2,h3,h4,hm.rvs h5⟩
 ·intro r e sz els h
  obtain⟨v,xs,h1,h2,h3,h4,h5⟩:=S.row r e sz els h
  refine⟨v,xs,h1,h2.kept (row:=none) ⟨rfl,rfl,rfl,Nat.le_refl _,fun _ _ _=>rfl⟩ ?_,h3,hm.rvs h4,h5⟩
  cases v.ownBlock<;>simp
def PostW(Γ : Ctx)(N:Nat)(Q:Ex->AS->Prop):Exit->Act->World->Prop:=fun e a w=>∃ ex st,e=ex.to/\Q ex st/\Good Γ N st a w
theorem swp_sound:∀(sc:SCode) (c:Code),codeOk P N c sc=true->∀ {st:AS} {Q:Ex->AS->Prop} {a:Act} {w:World},swp P sc st Q->Good Γ N st a w->c.wp P (PostW Γ N Q) a w
 | .skip,c,hk,st,Q,a,w,h,G=>by
  cases c<;>simp only[codeOk,Bool.false_eq_true]at hk
  exact wp_skip ⟨.normal,st,rfl,h,G⟩
 | .ops l,c,hk,st,Q,a,w,h,G=>by
  cases c<;>simp only[codeOk,Bool.false_eq_true]at hk
  rename_i id ops dr
  simp only[Bool.and_eq_true,Bool.not_eq_true']at hk
  obtain⟨rfl,hk⟩:=hk
  exact wp_region_list (wpo_sound ops.toList l hk G h (fun a' w' st' h' G'=>⟨.normal,st',rfl,h',G'⟩))
 | .draw l,c,hk,st,Q,a,w,h,G=>by
  cases c<;>simp only[codeOk,Bool.false_eq_true]at hk
  rename_i id ops dr
  simp only[Bool.and_eq_true]at hk
  obtain⟨⟨rfl,hk⟩,hd⟩:=hk
  refine wp_region_draw fun t=>?_
  have hd':=hd
  simp only[drawOk,Bool.and_eq_true]at hd'
  exact draw_sound hk hd h (fun a' w' st' h' G'=>⟨.normal,st',rfl,h',G'⟩) G.drew (topo_schedule hd'.1 _ t)
 | .seq x y,c,hk,st,Q,a,w,h,G=>by
  cases c<;>simp only[codeOk,Bool.false_eq_true]at hk
  rename_i c1 c2
  simp only[Bool.and_eq_true]at hk
  refine wp_seq (wp_mono (swp_sound x c1 hk.1 h G) ?_)
  rintro e a' w' ⟨ex,st',rfl,hq,G'⟩
  cases ex with
  | normal=>exact swp_sound y c2 hk.2 hq G'
  | exit id=>exact⟨.exit id,st',rfl,hq,G'⟩
  | ret=>exact⟨.ret,st',rfl,hq,G'⟩
 | .cond c' x y,c,hk,st,Q,a,w,h,G=>by
  cases c<;>simp only[codeOk,Bool.false_eq_true]at hk
  rename_i c0 c1 c2
  simp only[Bool.and_eq_true]at hk
  obtain⟨⟨h0,h1⟩,h2⟩:=hk
  obtain⟨I,θ,S,hR⟩:=G.ex
  have hv:=opd_rv hR h0
  simp only[swp]at h
  unfold condK at h
  split at h
  ·rename_i b hb
   rw[hb]at hv
   simp only[RV]at hv
   refine wp_cond hv ?_
   cases b with
   | true=>exact swp_sound x c1 h1 (by simpa using h) G
   | false=>exact swp_sound y c2 h2 (by simpa using h) G
  ·rename_i hb
   rw[hb]at hv
   simp only[RV]at hv
   obtain⟨b,hv⟩:=hv
   refine wp_cond hv ?_
   cases b with
   | true=>exact swp_sound x c1 h1 h.1 G
   | false=>exact swp_sound y c2 h2 h.2 G
  ·exact h.elim
 | .block id' x,c,hk,st,Q,a,w,h,G=>by
  cases c<;>simp only[codeOk,Bool.false_eq_true]at hk
  rename_i id c1
  simp only[Bool.and_eq_true,beq_iff_eq]at hk
  obtain⟨rfl,hk⟩:=hk
  refine wp_block (wp_mono (swp_sound x c1 hk h G) ?_)
  rintro e a' w' ⟨ex,st',rfl,hq,G'⟩
  cases ex with
  | normal=>exact⟨.normal,st',rfl,hq,G'⟩
  | exit i =>
   simp only[blkQ]at hq
   simp only[Ex.to,Exit.inBlock]
   split at hq
   ·rename_i e;rw[if_pos e];exact⟨.normal,st',rfl,hq,G'⟩
   ·rename_i e;rw[if_neg e];exact⟨.exit i,st',rfl,hq,G'⟩
  | ret=>exact⟨.ret,st',rfl,hq,G'⟩
 | .loop x,c,hk,st,Q,a,w,h,G=>by
  cases c<;>simp only[codeOk,Bool.false_eq_true]at hk
  rename_i c1
  simp only[swp]at h
  obtain⟨J,n,⟨s0,hw0,h0⟩,hround⟩:=h
  refine wp_loop_ghost (fun n a w=>∃ st,J n st/\Good Γ N st a w) n ⟨s0,h0,hw0 _ _ _ _ G⟩ ?_
  rintro m a w ⟨st,hJ,G⟩
  refine wp_mono (swp_sound x c1 hk (hround m st hJ G.fit) G) ?_
  rintro e a' w' ⟨ex,st',rfl,hq,G'⟩
  cases ex with
  | normal =>
   obtain⟨k,s'',hk,hw,hJ'⟩:=hq
   exact⟨k,hk,s'',hJ',hw _ _ _ _ G'⟩
  | exit id=>exact⟨.exit id,st',rfl,hq,G'⟩
  | ret=>exact⟨.ret,st',rfl,hq,G'⟩
 | .exit id',c,hk,st,Q,a,w,h,G=>by
  cases c<;>simp only[codeOk,Bool.false_eq_true]at hk
  rename_i id
  obtain rfl:=beq_iff_eq.1 hk
  exact wp_exit ⟨.exit _,st,rfl,h,G⟩
 | .ret,c,hk,st,Q,a,w,h,G=>by
  cases c<;>simp only[codeOk,Bool.false_eq_true]at hk
  exact wp_ret ⟨.ret,st,rfl,h,G⟩
 | .wk x,c,hk,st,Q,a,w,h,G=>by
  have hk':codeOk P N c x=true:=by cases c<;>simpa only[codeOk] using hk
  obtain⟨s,hw,h⟩:=h
  have G':=hw _ _ _ _ G
  exact swp_sound x c hk' (h G'.fit) G'
end
end Go.Ab
