/- A part of the proof: QO. -/
import Derived.Test.YtlebiodkgkeomaaGreatSpC
set_option linter.all false
set_option linter.all false
namespace Go.Ab
open Go.RowKit
def Tri(x y z:Int):Prop:=(x=0->y=0->z=0)/\(x<=0->y<=0->z<=0/\(z=0->x=0/\y=0))
theorem Tri.or{x y z x' y' z':Int}(h:Tri x y z)(h':x=0->y=0->z=0->Tri x' y' z'):Tri (orI x x') (orI y y') (orI z z'):=by
 unfold orI
 by_cases h0:x=0/\y=0/\z=0
 ·obtain⟨rfl,rfl,rfl⟩:=h0
  simpa using h' rfl rfl rfl
 ·unfold Tri at *
  obtain⟨h1,h2⟩:=h
  grind
theorem neg_or{x y x' y':Int}(h:y = -x)(h':x=0->y' = -x'):orI y y' = -orI x x':=by
 unfold orI
 by_cases hx:x=0
 ·subst hx;simp[h,h']
 ·have:y≠0:=by omega
  simp[hx,this,h]
theorem tri_I(a b c:Int):Tri (cmpI a b) (cmpI b c) (cmpI a c):=by unfold Tri cmpI;grind
theorem neg_I(a b:Int):cmpI b a = -cmpI a b:=by unfold cmpI;grind
def cmp8(a b:UInt8):Int:=if a<b then -1 else if b<a then 1 else 0
theorem cmp8_I(a b:UInt8):cmp8 a b=cmpI a.toNat b.toNat:=by
 unfold cmp8 cmpI
 simp only[UInt8.lt_iff_toNat_lt]
 simp only[Int.ofNat_lt]
theorem cmpL_cons(a b:UInt8)(l r:List UInt8):Lib.compareBytes (a::l) (b::r)=orI (cmp8 a b) (Lib.compareBytes l r):=by
 rw[Lib.compareBytes];unfold orI cmp8
 by_cases h1:a<b
 ·simp[h1]
 ·by_cases h2:b<a<;>simp[h1,h2]
theorem tri_L:∀ a b c:List UInt8,Tri (Lib.compareBytes a b) (Lib.compareBytes b c) (Lib.compareBytes a c)
 | [],[],c=>by cases c<;>simp[Lib.compareBytes,Tri]
 | [],y::b,[]=>by simp[Lib.compareBytes,Tri]
 | [],y::b,z::c=>by simp[Lib.compareBytes,Tri]
 | x::a,[],c=>by cases c<;>simp[Lib.compareBytes,Tri]
 | x::a,y::b,[]=>by simp[Lib.compareBytes,Tri]
 | x::a,y::b,z::c=>by
  rw[cmpL_cons,cmpL_cons,cmpL_cons]
  refine Tri.or ?_ fun _ _ _=>tri_L a b c
  simp only[cmp8_I]
  exact tri_I _ _ _
theorem neg_L:∀ a b:List UInt8,Lib.compareBytes b a = -Lib.compareBytes a b
 | [],[]=>by simp[Lib.compareBytes]
 | [],_::_=>by simp[Lib.compareBytes]
 | _::_,[]=>by simp[Lib.compareBytes]
 | x::a,y::b=>by
  rw[cmpL_cons,cmpL_cons]
  refine neg_or ?_ fun _=>neg_L a b
  simp only[cmp8_I]
  exact neg_I _ _
theorem tri_B(a b c:ByteArray):Tri (cmpB a b) (cmpB b c) (cmpB a c):=tri_L _ _ _
theorem neg_B(a b:ByteArray):cmpB b a = -cmpB a b:=neg_L _ _
theorem tri_lex{α:Type}{f:α->α->Int}:∀(l m r:List α),l.length=m.length->m.length=r.length->(∀ x∈l,∀ y z,Tri (f x y) (f y z) (f x z))->Tri (lexL f l m) (lexL f m r) (lexL f l r)
 | [],[],[],_,_,_=>by simp[lexL,Tri]
 | x::l,y::m,z::r,h1,h2,h=>by
  have e:∀(x y:α) (l r:List α),lexL f (x::l) (y::r)=orI (f x y) (lexL f l r):=fun _ _ _ _=>rfl
  rw[e,e,e]
  exact Tri.or (h x (List.mem_cons_self ..) y z) fun _ _ _=>tri_lex l m r (by simpa using h1) (by simpa using h2) fun x hx=>h x (List.mem_cons_of_mem _ hx)
theorem neg_lex{α:Type}{f:α->α->Int}:∀(l m:List α),l.length=m.length->(∀ x∈l,∀ y,f y x = -f x y)->lexL f m l = -lexL f l m
 | [],[],_,_=>by simp[lexL]
 | x::l,y::m,h1,h=>by
  have e:∀(x y:α) (l r:List α),lexL f (x::l) (y::r)=orI (f x y) (lexL f l r):=fun _ _ _ _=>rfl
  rw[e,e]
  exact neg_or (h x (List.mem_cons_self ..) y) fun _=>neg_lex l m (by simpa using h1) fun x hx=>h x (List.mem_cons_of_mem _ hx)
def vI(b:Bool):Int:=if b then 0 else 1
theorem cmpTy_or(t u:Ty):cmpTy t u=orI (cmpI (vI t.v) (vI u.v)) (orI (cmpB t.n u.n) (orI (cmpI (t.a.length:Int) (u.a.length:Int)) (lexL cmpTy t.a u.a))):=by
 rw[cmpTy_eq]
 unfold orI
 rw[cmpB_eq]
 unfold cmpI vI
 cases t.v<;>cases u.v<;>grind
theorem tri_Y:∀ t u v:Ty,Tri (cmpTy t u) (cmpTy u v) (cmpTy t v):=by
 refine Ty.ind fun t ih u v=>?_
 rw[cmpTy_or,cmpTy_or,cmpTy_or]
 refine Tri.or (tri_I _ _ _) fun _ _ _=>Tri.or (tri_B _ _ _) fun _ _ _=>Tri.or (tri_I _ _ _) fun h1 h2 _=>?_
 have e1:t.a.length=u.a.length:=by unfold cmpI at h1;split at h1<;>(try split at h1)<;>omega
 have e2:u.a.length=v.a.length:=by unfold cmpI at h2;split at h2<;>(try split at h2)<;>omega
 exact tri_lex _ _ _ e1 e2 ih
theorem neg_Y:∀ t u:Ty,cmpTy u t = -cmpTy t u:=by
 refine Ty.ind fun t ih u=>?_
 rw[cmpTy_or,cmpTy_or]
 refine neg_or (neg_I _ _) fun _=>neg_or (neg_B _ _) fun _=>neg_or (neg_I _ _) fun h1=>?_
 have e1:t.a.length=u.a.length:=by unfold cmpI at h1;split at h1<;>(try split at h1)<;>omega
 exact neg_lex _ _ e1 ih
theorem cmpI_zero{a b:Int}(h:cmpI a b=0):a=b:=by unfold cmpI at h;split at h<;>(try split at h)<;>omega
theorem tri_T:∀ t u v:Tm,Tri (cmpTm t u) (cmpTm u v) (cmpTm t v):=by
 refine Tm.ind fun t ih u v=>?_
 rw[cmpTm_eq,cmpTm_eq,cmpTm_eq]
 refine Tri.or (tri_I _ _ _) fun h1 h2 _=>Tri.or ?_ fun _ _ _=>Tri.or (tri_Y _ _ _) fun _ _ _=>Tri.or (tri_I _ _ _) fun _ _ _=>Tri.or (tri_I _ _ _) fun h1 h2 _=>?_
 ·rw[<-cmpI_zero h1]
  split
  ·simp[Tri]
  ·exact tri_B _ _ _
 ·exact tri_lex _ _ _ (by have:=cmpI_zero h1;omega) (by have:=cmpI_zero h2;omega) ih
theorem neg_T:∀ t u:Tm,cmpTm u t = -cmpTm t u:=by
 refine Tm.ind fun t ih u=>?_
 rw[cmpTm_eq,cmpTm_eq]
 refine neg_or (neg_I _ _) fun h1=>neg_or ?_ fun _=>neg_or (neg_Y _ _) fun _=>neg_or (neg_I _ _) fun _=>neg_or (neg_I _ _) fun h1=>?_
 ·rw[<-cmpI_zero h1]
  split
  ·rfl
  ·exact neg_B _ _
 ·exact neg_lex _ _ (by have:=cmpI_zero h1;omega) ih
def leT(a b:Tm):Prop:=cmpTm a b<=0
def ltT(a b:Tm):Prop:=cmpTm a b<0
theorem leT.trans{a b c:Tm}(h:leT a b)(h':leT b c):leT a c:=((tri_T a b c).2 h h').1
theorem leT.refl(a:Tm):leT a a:=by unfold leT;rw[cmpTm_refl];exact Int.le_refl 0
theorem leT_of_not{a b:Tm}(h:¬ cmpTm a b<0):leT b a:=by unfold leT;rw[neg_T a b];omega
theorem ltT.le{a b:Tm}(h:ltT a b):leT a b:=by unfold leT;unfold ltT at h;omega
theorem leT.lt{a b c:Tm}(h:leT a b)(h':ltT b c):ltT a c:=by
 have:=(tri_T a b c).2 h h'.le
 unfold ltT at *;omega
theorem ltT.lt{a b c:Tm}(h:ltT a b)(h':leT b c):ltT a c:=by
 have:=(tri_T a b c).2 h.le h'
 unfold ltT at *;omega
theorem ltT.not{a:Tm}(h:ltT a a):False:=by unfold ltT at h;rw[cmpTm_refl]at h;omega
theorem sameT_symm{a b:Tm}(h:cmpTm a b=0):cmpTm b a=0:=by rw[neg_T a b,h];rfl
theorem sameT_trans{a b c:Tm}(h:cmpTm a b=0)(h':cmpTm b c=0):cmpTm a c=0:=(tri_T a b c).1 h h'
end Go.Ab
