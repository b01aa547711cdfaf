/- A part of the proof: AbU. -/
import Derived.Test.YtlebiodkgkeomaaGreatAbS
import Derived.Test.YtlebiodkgkeomaaGreatAbT
set_option linter.all false
set_option linter.unusedVariables false
namespace Go.Ab
open Go.RowKit
def cI(k:IntKind)(n:Int):List AV:=[.i k n]
def cS(x:ByteArray):List AV:=[.s x]
def cB(x:Bool):List AV:=[.b x]
def cL{α:Type}(sz:Nat)(C:α->List AV)(l:List α):List AV:=[.sl false sz (List.map C l)]
theorem ty_eq(t:Ty):tyC t=[.b t.v,.s t.n,.sl false 3 (List.map tyC t.a)]:=by rw[tyC_eq,tysC_map]
theorem tm_eq(t:Tm):tmC t=[.i .u8 t.k,.s t.n,.b t.y.v,.s t.y.n,.sl false 3 (List.map tyC t.y.a),.i .i64 t.i,.sl false 7 (List.map tmC t.s)]:=by
 rw[tmC_eq,ty_eq,tmsC_map];rfl
theorem cI_eq(k:IntKind)(n:Int):cI k n=[.i k n]:=rfl
theorem cS_eq(x:ByteArray):cS x=[.s x]:=rfl
theorem cB_eq(x:Bool):cB x=[.b x]:=rfl
theorem cL_eq{α:Type}(sz:Nat)(C:α->List AV)(l:List α):cL sz C l=[.sl false sz (List.map C l)]:=rfl
theorem pureE_map{α:Type}{C:α->List AV}(h:∀ x,pureL (C x)=true):∀ l:List α,pureE (List.map C l)=true
 | []=>rfl
 | x::l=>by simp[pureE,h,pureE_map h l]
theorem pureE_ty(l:List Ty):pureE (List.map tyC l)=true:=pureE_map pure_ty l
theorem pureE_tm(l:List Tm):pureE (List.map tmC l)=true:=pureE_map pure_tm l
theorem pureE_cI(k:IntKind)(l:List Int):pureE (List.map (cI k) l)=true:=pureE_map (fun _=>rfl) l
theorem pureE_cS(l:List ByteArray):pureE (List.map cS l)=true:=pureE_map (fun _=>rfl) l
theorem pureE_cB(l:List Bool):pureE (List.map cB l)=true:=pureE_map (fun _=>rfl) l
theorem pureE_cL{α:Type}{C:α->List AV}(h:∀ x,pureL (C x)=true)(sz:Nat)(l:List (List α)):pureE (List.map (cL sz C) l)=true:=
 pureE_map (fun x=>by simp[cL,pureL,pureB,pureE_map h]) l
def ixL{α:Type}(l:List α)(n:Int):Option α:=if 0<=n then l[n.toNat]? else none
def ixS(l:ByteArray)(n:Int):Option Int:=if 0<=n then(l.data[n.toNat]?).map fun c=>(c.toNat:Int)else none
def lt{α β:Type}(x:α)(f:α->β):β:=f x
theorem lt_of{α β:Type}{x:α}{f:α->β}{r:β}(h:lt x f=r):∃ v,x=v/\f v=r:=⟨x,rfl,h⟩
theorem bind_of{α β:Type}{o:Option α}{f:α->Option β}{r:Option β}{z:β}(h:o.bind f=r)(hr:r=some z):∃ v,o=some v/\f v=r:=by
 cases o with
 | none=>subst hr;cases h
 | some v=>exact⟨v,rfl,h⟩
theorem cond_t{α:Type}{c:Bool}{a b r:α}(h:c=true)(hF:cond c a b=r):a=r:=by subst h;exact hF
theorem cond_f{α:Type}{c:Bool}{a b r:α}(h:c=false)(hF:cond c a b=r):b=r:=by subst h;exact hF
theorem ite_of{α:Type}{p:Prop}[Decidable p]{a r:Option α}{z:α}(hF:(if p then a else none)=r)(hr:r=some z):p/\a=r:=by
 by_cases h:p
 ·rw[if_pos h]at hF;exact⟨h,hF⟩
 ·rw[if_neg h]at hF;subst hr;cases hF
theorem ixL_of{α:Type}{l:List α}{n:Int}{x:α}(h:ixL l n=some x):(0<=n)=True/\l[n.toNat]? = some x:=by
 unfold ixL at h
 split at h
 ·exact⟨by simpa,h⟩
 ·cases h
theorem ixS_of{l:ByteArray}{n:Int}{x:Int}(h:ixS l n=some x):(0<=n)=True/\∃ c:UInt8,l.data[n.toNat]? = some c/\(c.toNat:Int)=x:=by
 unfold ixS at h
 split at h
 ·obtain⟨c,h1,h2⟩:=Option.map_eq_some_iff.1 h
  exact⟨by simpa,c,h1,h2⟩
 ·cases h
theorem dn{α:Type}{l:List α}{i:Nat}(h:List.drop i l=[]):decide ((i:Int)<(List.length l:Int))=false:=by
 have:=List.drop_eq_nil_iff.1 h
 simp only[decide_eq_false_iff_not];omega
theorem dc{α:Type}{l:List α}{i:Nat}{x:α}{r:List α}(h:List.drop i l=x::r):decide ((i:Int)<(List.length l:Int))=true/\l[i]? = some x/\List.drop (i+1) l=r:=by
 have hlt:i<l.length:=by
  have:=congrArg List.length h
  simp only[List.length_drop,List.length_cons]at this
  omega
 rw[List.drop_eq_getElem_cons hlt]at h
 injection h with h1 h2
 exact⟨by simp only[decide_eq_true_eq];omega,by rw[List.getElem?_eq_getElem hlt,h1],h2⟩
theorem wi{α:Type}{l:List α}{i:Nat}(h:decide ((i:Int)<(List.length l:Int))=true)(hl:List.length l<=LIM):IntKind.i64.wrap ((i:Int)+1)=((i+1:Nat):Int):=by
 simp only[decide_eq_true_eq]at h
 simp only[LIM]at hl
 rw[wr64 (by omega) (by omega)];omega
theorem get_some{α:Type}{l:List α}{i:Nat}(h:i<l.length):∃ x,l[i]? = some x:=⟨_,List.getElem?_eq_getElem h⟩
theorem get_map{α β:Type}(f:α->β)(l:List α)(i:Nat):(List.map f l)[i]? = (l[i]?).map f:=by simp
theorem set_map{α β:Type}(f:α->β)(l:List α)(i:Nat)(x:α):List.map f (List.set l i x)=List.set (List.map f l) i (f x):=by simp
theorem rep_map{α β:Type}(f:α->β)(n:Nat)(x:α):List.map f (List.replicate n x)=List.replicate n (f x):=by simp
theorem tm_len(l:List Tm):∀ el∈List.map tmC l,el.length=7:=by simp
theorem ty_len(l:List Ty):∀ el∈List.map tyC l,el.length=3:=by simp
theorem cI_len(k:IntKind)(l:List Int):∀ el∈List.map (cI k) l,el.length=1:=by simp[cI]
theorem cS_len(l:List ByteArray):∀ el∈List.map cS l,el.length=1:=by simp[cS]
theorem cB_len(l:List Bool):∀ el∈List.map cB l,el.length=1:=by intro el h;obtain⟨x,_,rfl⟩:=List.mem_map.1 h;rfl
theorem FZ.rowm{H:List AB}{r:Nat}{e:TypeId}{sz:Nat}{els:List (List AV)}(els':List (List AV))(hr:H[r]? = some (.row e sz els))(h:LEE els els')(hz:∀ el∈els',el.length=sz)(hp:pureE els=true)(hp':pureE els'=true):FZ H (.row r) (.sl false sz els'):=by
 refine .row r e sz els els' hr (LEE_length h) hz ?_ hp'
 have:∀ {a b:List AV},LEL a b->pureL a=true->FZL H a b:=by
  intro a
  induction a with
  | nil=>intro b h _;cases h;exact .nil
  | cons x a ih =>
   intro b h hp
   cases h
   rename_i h hs
   simp only[pureL,Bool.and_eq_true]at hp
   exact .cons _ _ _ _ (.le _ _ h hp.1) (ih hs hp.2)
 exact this (LEE_flat h) (pureE_flatten hp)
theorem LEE.rfl':∀(xs:List (List AV)),LEE xs xs
 | []=>.nil
 | x::xs=>.cons _ _ _ _ (LEL.rfl' _) (LEE.rfl' xs)
theorem LEE.app:∀ {a b c d:List (List AV)},LEE a b->LEE c d->LEE (a++c) (b++d)
 | _,_,_,_,.nil,h=>h
 | _,_,_,_,.cons _ _ _ _ h hs,k=>.cons _ _ _ _ h (LEE.app hs k)
theorem LEE.set:∀ {a b:List (List AV)} (i:Nat) {x y:List AV},LEE a b->LEL x y->LEE (a.set i x) (b.set i y)
 | _,_,_,_,_,.nil,_=>.nil
 | _,_,0,_,_,.cons _ _ _ _ h hs,k=>.cons _ _ _ _ k hs
 | _,_,i+1,_,_,.cons _ _ _ _ h hs,k=>.cons _ _ _ _ h (LEE.set i hs k)
theorem LEE.rep:∀(n:Nat) {x y:List AV},LEL x y->LEE (List.replicate n x) (List.replicate n y)
 | 0,_,_,_=>.nil
 | n+1,_,_,h=>.cons _ _ _ _ h (LEE.rep n h)
theorem dnS{s:ByteArray}{i:Nat}(h:List.drop i s.data.toList=[]):decide ((i:Int)<(ByteArray.size s:Int))=false:=by
 have:=List.drop_eq_nil_iff.1 h
 simp only[decide_eq_false_iff_not]
 have e:s.data.toList.length=s.size:=Array.length_toList
 omega
theorem dcS{s:ByteArray}{i:Nat}{x:UInt8}{r:List UInt8}(h:List.drop i s.data.toList=x::r):decide ((i:Int)<(ByteArray.size s:Int))=true/\s.data[i]? = some x/\List.drop (i+1) s.data.toList=r:=by
 obtain⟨h1,h2,h3⟩:=dc h
 have e:s.data.toList.length=s.size:=Array.length_toList
 rw[e]at h1
 exact⟨h1,by simpa using h2,h3⟩
theorem wiS{s:ByteArray}{i:Nat}(h:decide ((i:Int)<(ByteArray.size s:Int))=true)(hl:ByteArray.size s<=LIM):IntKind.i64.wrap ((i:Int)+1)=((i+1:Nat):Int):=by
 simp only[decide_eq_true_eq]at h
 simp only[LIM]at hl
 rw[wr64 (by omega) (by omega)];omega
section
open Classical
noncomputable def only{α β:Type}(p:α->Prop)(f:α->β):α->Option β:=fun x=>if p x then some (f x)else none
theorem only_of{α β:Type}{p:α->Prop}{f:α->β}{x:α}{r:β}(h:only p f x=some r):p x/\f x=r:=by
 unfold only at h
 split at h
 ·exact⟨by assumption,Option.some.inj h⟩
 ·cases h
theorem only_pos{α β:Type}{p:α->Prop}{f:α->β}{x:α}(h:p x):only p f x=some (f x):=if_pos h
end
end Go.Ab
