/- A part of the proof: SpC. -/
import Derived.Test.YtlebiodkgkeomaaGreatSpA
set_option linter.all false
set_option linter.unusedVariables false
namespace Go.Ab
open Go.RowKit
def cmpI(a b:Int):Int:=if a<b then -1 else if b<a then 1 else 0
def orI(a b:Int):Int:=if a≠0 then a else b
mutual
def cmpTm:Tm->Tm->Int
 | .mk k n y i s,u=>orI (cmpI k u.k) (orI (if k=5 then 0 else cmpB n u.n) (orI (cmpTy y u.y) (orI (cmpI i u.i) (orI (cmpI (s.length:Int) (u.s.length:Int)) (cmpTms s u.s)))))
def cmpTms:List Tm->List Tm->Int
 | t::l,us=>match us with
  | u::r=>if cmpTm t u≠0 then cmpTm t u else cmpTms l r
  | []=>0
 | [],_=>0
end
theorem cmpTms_lex:∀ l r:List Tm,cmpTms l r=lexL cmpTm l r
 | [],r=>by simp only[cmpTms,lexL]
 | t::l,[]=>by simp only[cmpTms,lexL]
 | t::l,u::r=>by simp only[cmpTms,lexL,cmpTms_lex l r]
theorem cmpTm_eq(t u:Tm):cmpTm t u=orI (cmpI t.k u.k) (orI (if t.k=5 then 0 else cmpB t.n u.n) (orI (cmpTy t.y u.y) (orI (cmpI t.i u.i) (orI (cmpI (t.s.length:Int) (u.s.length:Int)) (lexL cmpTm t.s u.s))))):=by
 cases t;rw[cmpTm,cmpTms_lex];rfl
theorem dpT_sub{t x:Tm}(h:x∈t.s):dpT x<dpT t:=by
 have h1:=dpT_eq t
 have:∀(l:List Tm),x∈l->dpT x<=dpTs l:=by
  intro l
  induction l with
  | nil=>intro h;cases h
  | cons y l ih =>
   intro h
   rcases List.mem_cons.1 h with rfl|h
   ·simp only[dpTs];omega
   ·have:=ih h;simp only[dpTs];omega
 have:=this _ h
 omega
theorem bkT_sub{t x:Tm}(h:x∈t.s):bkT x<bkT t:=by
 have h1:=bkT_eq t
 have:=bkTs_mem h
 omega
theorem bkY_of{t:Tm}:bkY t.y<bkT t:=by have h1:=bkT_eq t;omega
end Go.Ab
namespace Go.Ab
open Go.RowKit
def nameT(s:ByteArray):Bool:=nameB s && !decide (fstC s=39)
def funY(a b:Ty):Ty:=.mk false ⟨#[102,117,110]⟩ [a,b]
def boolY:Ty:=.mk false ⟨#[98,111,111,108]⟩ []
def noneY(t:Ty):Bool:=!t.v && (decide (t.n=⟨#[]⟩) && decide (t.a.length=0))
def apY(f x:Ty):Option Ty:=
 if f.v=true\/f.n≠⟨#[102,117,110]⟩then none
 else match f.a with
  | [a,b]=>if cmpTy a x=0 then some b else none
  | _=>none
def fm:Tm->List Ty->Option Ty
 | .mk k n y i s,l =>
  if k=1\/k=2 then(if nameT n=true/\validY y=true/\i=0/\s.length=0 then some y else none)
  else if k=3 then(if n=⟨#[]⟩/\noneY y=true/\s.length=0/\0<=i then l[i.toNat]? else none)
  else if k=4 then(if n=⟨#[]⟩/\noneY y=true/\i=0 then
   match s with
   | [f,x]=>(fm f l).bind fun u=>(fm x l).bind fun v=>apY u v
   | _=>none
   else none)
  else if k=5 then(if nameT n=true/\validY y=true/\i=0 then
   match s with
   | [b]=>(fm b (y::l)).bind fun u=>if validY (funY y u)=true then some (funY y u)else none
   | _=>none
   else none)
  else none
theorem fm_eq(t:Tm)(l:List Ty):fm t l =
  if t.k=1\/t.k=2 then(if nameT t.n=true/\validY t.y=true/\t.i=0/\t.s.length=0 then some t.y else none)
  else if t.k=3 then(if t.n=⟨#[]⟩/\noneY t.y=true/\t.s.length=0/\0<=t.i then l[t.i.toNat]? else none)
  else if t.k=4 then(if t.n=⟨#[]⟩/\noneY t.y=true/\t.i=0 then
   match t.s with
   | [f,x]=>(fm f l).bind fun u=>(fm x l).bind fun v=>apY u v
   | _=>none
   else none)
  else if t.k=5 then(if nameT t.n=true/\validY t.y=true/\t.i=0 then
   match t.s with
   | [b]=>(fm b (t.y::l)).bind fun u=>if validY (funY t.y u)=true then some (funY t.y u)else none
   | _=>none
   else none)
  else none:=by
 rcases t with⟨k,n,y,i,s⟩
 rcases s with _|⟨a,_|⟨b,_|⟨c,s⟩⟩⟩<;>simp[fm,Tm.k,Tm.n,Tm.y,Tm.i,Tm.s]<;>grind
def tyOf(t:Tm):Option Ty:=if smallT t=true then fm t []else none
def chkT(t:Tm):Int:=if smallT t=true then(if(fm t []).isSome=true then 0 else 20)else 21
end Go.Ab

set_option linter.unusedVariables false
namespace Go.Ab
open Go.RowKit
theorem cmpB_refl(a:ByteArray):cmpB a a=0:=by rw[cmpB_eq];simp
theorem lexL_refl{α:Type}{f:α->α->Int}:∀(l:List α),(∀ x∈l,f x x=0)->lexL f l l=0
 | [],_=>rfl
 | x::l,h=>by
  simp only[lexL,h x (List.mem_cons_self ..),ne_eq,not_true,if_false]
  exact lexL_refl l fun y hy=>h y (List.mem_cons_of_mem _ hy)
theorem cmpTy_refl:∀ t:Ty,cmpTy t t=0:=Ty.ind fun t ih=>by
 rw[cmpTy_eq,lexL_refl t.a ih];simp
theorem cmpI_refl(a:Int):cmpI a a=0:=by simp[cmpI]
theorem cmpTm_refl:∀ t:Tm,cmpTm t t=0:=Tm.ind fun t ih=>by
 rw[cmpTm_eq,lexL_refl t.s ih,cmpI_refl,cmpI_refl,cmpI_refl,cmpTy_refl,cmpB_refl];simp[orI]
def zeroY:Ty:=.mk false ⟨#[]⟩ []
def zeroT:Tm:=.mk 0 ⟨#[]⟩ zeroY 0 []
end Go.Ab
