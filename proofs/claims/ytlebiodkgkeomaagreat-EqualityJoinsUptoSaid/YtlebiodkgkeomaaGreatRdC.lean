/- A part of the proof: RdC. -/
import Derived.Test.YtlebiodkgkeomaaGreatRdA
import Derived.Test.YtlebiodkgkeomaaGreatUYE
set_option linter.all false
set_option linter.all false
set_option maxRecDepth 100000
namespace Go.Ab.Rd
open Go.RowKit Go.Ab Go.Ab.X Go.Proofs.YtlebiodkgkeomaaGreat Go.Proofs
section
variable {H:Type} {enc:TypeId×Value->H} {w:World} {spare:Nat->Bool} {held:Bool}
theorem sequent_eq(x:Ssequent):C_sequent x=.sl false 7 (List.map tmC x.hyps)::tmC x.concl:=by
 show C_ltm x.hyps++(C_tm x.concl++[])=_
 rw[List.append_nil];rfl
def bkQ(g:Ssequent):Nat:=1+bkTs g.hyps+bkT g.concl
theorem read_seq(n:Nat):Reads H enc Tryz.prog w spare held n 29 C_sequent bkQ:=by
 intro cs x h hb
 obtain⟨xs,m,rfl,rfl,hl,hlen,hf⟩:=DataW.trod_struct (show Tryz.prog.underlying 29=_ from Tryz.underlying29) h
 have k0:Tryz.prog.cellsOf 29=8:=by kernel_rfl
 have k1:Tryz.prog.cellsOf 22=1:=by kernel_rfl
 have k2:Tryz.prog.cellsOf 27=7:=by kernel_rfl
 rw[k0]at hl
 match xs,hlen,cs,hl with
 | [y0,y1],_,[c0,c1,c2,c3,c4,c5,c6,c7],_ =>
  have h0:DataW.trod enc Tryz.prog w 0 spare held m 22 [c0]=some y0:=by simpa [k1] using hf 0 _ rfl
  have h1:DataW.trod enc Tryz.prog w 0 spare held m 27 [c1,c2,c3,c4,c5,c6,c7]=some y1:=by simpa [k2] using hf 1 _ rfl
  simp only[List.map_cons,List.map_nil,Rows.uptoBulk,Rows.uptoBulkAll]at hb ⊢
  obtain⟨l,v,e0,o0,r0,b0⟩:=read_slice (C:=tmC) (bk:=bkT) Tryz.underlying22 k2 (fun t=>by simp[tm_eq]) pure_tm (by omega) (fun q hq=>read_tm q) h0 (by omega)
  obtain⟨t,r1,o1,b1⟩:=read_tm m [c1,c2,c3,c4,c5,c6,c7] y1 h1 (by omega)
  cases e0
  rw[sumL_ts]at b0
  refine⟨⟨l,t⟩,?_,?_,?_⟩
  ·rw[sequent_eq]
   simp only[RVs]
   exact⟨_,_,rfl,r0,r1⟩
  ·intro u hu
   rcases List.mem_cons.1 hu with rfl|hu
   ·exact o0
   ·exact o1 u hu
  ·simp only[bkQ];omega
theorem arg_seq{v:Value}{d:DataW H}{ps:List MemPlace}{r:Reach}{base:Nat}(hv:Value.okWide Tryz.prog w r base 29 v)(h:DataW.Trod enc Tryz.prog w 0 spare held 29 v d ps)(hb:Rows.uptoBulk d<=1048576) :
  ∃ t:Ssequent,RV (Iw w) noθ w (.agg (C_sequent t)) v/\bkQ t<=2 * Rows.uptoBulk d:=by
 obtain⟨n,h⟩:=h
 unfold Value.okWide at hv
 rw[show Tryz.prog.underlying 29=_ from Tryz.underlying29]at hv
 obtain⟨cs,rfl,_,_⟩:=hv
 obtain⟨t,h1,h2,h3⟩:=read_seq n _ _ h hb
 exact⟨t,agg_of h1 h2,h3⟩
end
end Go.Ab.Rd
