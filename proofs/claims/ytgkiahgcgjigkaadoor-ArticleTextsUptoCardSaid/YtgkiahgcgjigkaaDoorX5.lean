/- A part of the proof: X5. -/
import Derived.Test.YtgkiahgcgjigkaaDoorX4
set_option linter.all false
set_option linter.all false
namespace Go.Ab.X
open Go.RowKit Go.Ab
section
variable {U:Uni} {R S:Type}
def LeE(φ ψ:Env U):Prop:=∀ v g H a r,φ v g H a=some r->ψ v g H a=some r
theorem call_mono{φ ψ:Env U}(h:LeE φ ψ){md:Nat}{d:Option Nat}{f:N U}{args:List (N U)}{as:List (Option U.T)}{rs:Sh U}{s s':St U}(hc:callK' φ md d f args as rs s some=some s'):callK' ψ md d f args as rs s some=some s':=by
 unfold callK' at hc ⊢
 cases f<;>try exact hc
 rename_i g first caps
 simp only at hc ⊢
 cases h1:cvA (bif Nat.beq md 0 then []else s.H) as (first++(args++caps))with
 | none=>rw[h1]at hc;cases hc
 | some l =>
  rw[h1]at hc
  simp only[Option.bind_some]at hc ⊢
  cases h2:φ 0 g [] l with
  | none=>rw[h2]at hc;cases hc
  | some p=>rw[h2]at hc;rw[h _ _ _ _ _ h2];exact hc
theorem callG_mono{φ ψ:Env U}(h:LeE φ ψ){vr:Nat}{d:Option Nat}{f:N U}{args:List (N U)}{sel:List Nat}{hi:List (HSh U)}{as:List (Sh U)}{ho:List (HSh U)}{rs:Sh U}{s s':St U}(hc:callG' φ vr d f args sel hi as ho rs s some=some s'):callG' ψ vr d f args sel hi as ho rs s some=some s':=by
 unfold callG' at hc ⊢
 cases f<;>try exact hc
 rename_i g first caps
 simp only at hc ⊢
 cases hb:(nodupN sel && allLt s.H.length sel && solids hi && lenEq hi sel && noRoSel s.H sel)<;>rw[hb]at hc
 ·cases hc
 ·simp only[cond_true]at hc ⊢
  obtain⟨a0,h1,hc⟩:=bs hc
  obtain⟨a,h2,hc⟩:=bs hc
  rw[h1];simp only[Option.bind_some];rw[h2];simp only[Option.bind_some]
  cases h3:φ vr g (hOf false hi [] a).1 (shOf as (hOf false hi [] a).2).1 with
  | none=>rw[h3]at hc;cases hc
  | some p=>rw[h3]at hc;rw[h _ _ _ _ _ h3];exact hc
theorem p1_mono{φ ψ:Env U}(h:LeE φ ψ):∀ {o:P1 U} {s s':St U},p1K φ o s some=some s'->p1K ψ o s some=some s'
 | .a d o,s,s',hc=>hc
 | .call md d c args as rs,s,s',hc=>call_mono h hc
 | .callg vr d c args sel hi as ho rs,s,s',hc=>callG_mono h hc
 | .gd g w d o,s,s',hc=>by
  simp only[p1K]at hc ⊢
  cases hr:o.real<;>rw[hr]at hc
  ·cases hc
  ·simp only[cond_true]at hc ⊢
   cases hb:boolN (lkN s.T g)with
   | none=>rw[hb]at hc;exact hc
   | some b =>
    rw[hb]at hc
    cases b<;>cases w<;>simp only[cond_true,cond_false]at hc ⊢
    ·exact p1_mono h hc
    ·exact hc
    ·exact hc
    ·exact p1_mono h hc
 | .cn d t,s,s',hc=>hc
 | .adT d tid e,s,s',hc=>hc
 | .adB r p tid e,s,s',hc=>hc
 | .pad,s,s',hc=>hc
 | .tr d,s,s',hc=>hc
 | .nl d r,s,s',hc=>hc
 | .perm sel,s,s',hc=>hc
 | .fz r t,s,s',hc=>hc
 | .pre p o,s,s',hc=>by
  simp only[p1K]at hc ⊢
  cases hr:(!p.real && o.real)<;>rw[hr]at hc
  ·cases hc
  ·simp only[cond_true]at hc ⊢
   rw[p1K_bind]at hc ⊢
   cases h1:p1K φ p s some with
   | none=>rw[h1]at hc;cases hc
   | some s1 =>
    rw[h1]at hc
    rw[p1_mono h h1]
    exact p1_mono h hc
theorem runO_mono{φ ψ:Env U}(h:LeE φ ψ):∀ {l:List (P1 U)} {s s':St U},runO φ l s some=some s'->runO ψ l s some=some s'
 | [],s,s',hc=>hc
 | o::l,s,s',hc=>by
  simp only[runO]at hc ⊢
  rw[p1K_bind]at hc ⊢
  cases h1:p1K φ o s some with
  | none=>rw[h1]at hc;cases hc
  | some s1 =>
   rw[h1]at hc
   rw[p1_mono h h1]
   exact runO_mono h hc
def LeK{α:Type}(K K':α->Option R):Prop:=∀ x r,K x=some r->K' x=some r
theorem loopF_mono{step step':S->(S->Option R)->Option R}(h:∀ x n n' r,LeK n n'->step x n=some r->step' x n'=some r):∀(m:Nat),LeK (loopF step m) (loopF step' m)
 | 0=>fun x r hx=>by cases hx
 | m+1=>fun x r hx=>h x _ _ r (loopF_mono h m) hx
theorem loopF_up{step:S->(S->Option R)->Option R}(h:∀ x n n' r,LeK n n'->step x n=some r->step x n'=some r):∀(m n:Nat),m<=n->LeK (loopF step m) (loopF step n)
 | 0,n,_=>fun x r hx=>by cases hx
 | m+1,n+1,hle=>fun x r hx=>h x _ _ r (loopF_up h m n (Nat.le_of_succ_le_succ hle)) hx
theorem loopN_of{step:S->(S->Option R)->Option R}{x:S}{r:Option R}(h:∃ m,∀ n,m<=n->loopF step n x=r):loopN step x=r:=by
 have hx:∃ r,∃ m,∀ n,m<=n->loopF step n x=r:=⟨r,h⟩
 unfold loopN
 rw[dif_pos hx]
 obtain⟨m,hm⟩:=h
 obtain⟨m',hm'⟩:=hx.choose_spec
 rw[<-hm' (max m m') (Nat.le_max_right ..),hm (max m m') (Nat.le_max_left ..)]
theorem loopN_up{step:S->(S->Option R)->Option R}(h:∀ x n n' r,LeK n n'->step x n=some r->step x n'=some r){m:Nat}{x:S}{r:R}(hx:loopF step m x=some r):loopN step x=some r:=
 loopN_of ⟨m,fun n hn=>loopF_up h m n hn x r hx⟩
theorem kN_le{k k':St U->Option R}{K K':Ex->St U->Option R}(h:LeK k k')(h':∀ e,LeK (K e) (K' e)):∀ e,LeK (kN k K e) (kN k' K' e)
 | .normal=>h
 | .exit i=>h' _
 | .ret=>h' _
theorem bind_le{α:Type}{o:Option α}{k k':α->Option R}{r:R}(h:LeK k k')(hx:Option.bind o k=some r):Option.bind o k'=some r:=by
 cases o with
 | none=>cases hx
 | some a=>exact h a r hx
theorem forR_mono{α:Type}{step step':α->S->(S->Option R)->Option R}{done done':S->Option R}(h:∀ a x n n' r,LeK n n'->step a x n=some r->step' a x n'=some r)(hd:LeK done done'):∀(l:List α),LeK (forR step done l) (forR step' done' l)
 | []=>hd
 | a::l=>fun x r hx=>h a x _ _ r (forR_mono h hd l) hx
theorem run_mono{φ ψ:Env U}(h:LeE φ ψ):∀(c:TC U) {s:St U} {K K':Ex->St U->Option R} {r:R},(∀ e,LeK (K e) (K' e))->run φ c s K=some r->run ψ c s K'=some r
 | .skip,s,K,K',r,hK,hr=>hK _ _ _ hr
 | .ops l,s,K,K',r,hK,hr=>by
  simp only[run]at hr ⊢
  rw[runO_bind]at hr ⊢
  cases h1:runO φ l s some with
  | none=>rw[h1]at hr;cases hr
  | some s1=>rw[h1]at hr;rw[runO_mono h h1];exact hK _ _ _ hr
 | .draw l,s,K,K',r,hK,hr=>by
  simp only[run]at hr ⊢
  rw[runO_bind]at hr ⊢
  cases h1:runO φ l s some with
  | none=>rw[h1]at hr;cases hr
  | some s1=>rw[h1]at hr;rw[runO_mono h h1];exact hK _ _ _ hr
 | .draw2 l i sel,s,K,K',r,hK,hr=>by
  obtain⟨q1,q2⟩:=agree_some hr
  refine agree_of ?_ ?_
  ·rw[runO_bind]at q1 ⊢
   cases h1:runO φ l s some with
   | none=>rw[h1]at q1;cases q1
   | some s1=>rw[h1]at q1;rw[runO_mono h h1];exact hK _ _ _ q1
  ·rw[runO_bind]at q2 ⊢
   cases h1:runO φ (swapAt i l) s some with
   | none=>rw[h1]at q2;cases q2
   | some s1 =>
    rw[h1]at q2;rw[runO_mono h h1]
    simp only[Option.bind_some,p1K]at q2 ⊢
    revert q2
    cases(nodupN sel && noPin (selHN sel s1.H) && noRo s1.H)<;>intro q2
    ·cases q2
    ·exact hK _ _ _ q2
 | .seq a b,s,K,K',r,hK,hr=>run_mono h a (kN_le (fun s' r' hr'=>run_mono h b hK hr') hK) hr
 | .cond c x y,s,K,K',r,hK,hr=>by
  simp only[run]at hr ⊢
  cases hb:boolN (s.ev c)with
  | none =>
   rw[hb]at hr
   simp only at hr ⊢
   cases hu:isUb (s.ev c)<;>rw[hu]at hr
   ·cases hr
   ·obtain⟨q1,q2⟩:=agree_some hr
    exact agree_of (run_mono h x hK q1) (run_mono h y hK q2)
  | some b =>
   rw[hb]at hr
   cases b
   ·exact run_mono h y hK hr
   ·exact run_mono h x hK hr
 | .block id c,s,K,K',r,hK,hr=>by
  refine run_mono h c ?_ (show run φ c s (kB id K)=some r from hr)
  intro e
  cases e with
  | normal=>exact hK _
  | exit i=>intro s r;simp only[kB];cases Nat.beq i id<;>exact hK _ _ _
  | ret=>exact hK _
 | .loop sh c,s,K,K',r,hK,hr=>by
  simp only[run]at hr ⊢
  cases hok:sh.okE s<;>rw[hok]at hr
  ·cases hr
  refine bind_le (fun x r hx=>?_) hr
  obtain⟨m,hm⟩:=loopN_some hx
  have up:∀ {φ ψ:Env U} {K K':Ex->St U->Option R},LeE φ ψ->(∀ e,LeK (K e) (K' e))->∀ x n n' r,LeK n n'->run φ c (sh.of true s x) (kN (fun s'=>Option.bind (sh.de s') n) (fun e s'=>K e (rst sh s s')))=some r->run ψ c (sh.of true s x) (kN (fun s'=>Option.bind (sh.de s') n') (fun e s'=>K' e (rst sh s s')))=some r:=
   fun h hK x n n' r hn hx=>run_mono h c (kN_le (fun s' r' hr'=>bind_le hn hr') (fun e s' r' hr'=>hK e _ _ hr')) hx
  exact loopN_up (up (fun _ _ _ _ _ h=>h) (fun _ _ _ h=>h)) (loopF_mono (up h hK) m x r hm)
 | .range ts it f g ps pt ks hs al c,s,K,K',r,hK,hr=>by
  simp only[run]at hr ⊢
  cases hv:(rgS s pt ks).ev g<;>rw[hv]at hr<;>try exact(none_some hr).elim
  rename_i f' first caps
  simp only at hr ⊢
  cases hc:(Nat.beq f' f && lenEq first ([]:List Nat) && pureNs caps && ptOk hs.length s pt && purT s.T ks && pinHs hs s.H.length (pt.map (·.2)) && (rgL hs).okE (rgS s pt ks))<;>rw[hc]at hr
  ·cases hr
  refine bind_le (fun L r hr=>?_) hr
  cases ha:lenEq ts ps<;>rw[ha]at hr
  ·cases hr
  refine bind_le (fun x0 r hr=>?_) hr
  refine forR_mono (fun vs x n n' r hn hx=>?_) (fun x r hx=>hK _ _ _ hx) L x0 r hr
  rw[runO_bind]at hx ⊢
  cases h1:runO φ al ⟨setTN ps (vtN ts vs) (rgS s pt ks).T,((rgL hs).of true (rgS s pt ks) x).H,[]⟩ some with
  | none=>rw[h1]at hx;cases hx
  | some s2 =>
   rw[h1]at hx
   rw[runO_mono h h1]
   refine run_mono h c (kN_le (fun s' r' hr'=>?_) (fun e s' r' hr'=>?_)) hx
   ·cases hp:pinsAt s'.H s.H.length (pt.map (·.2))<;>rw[hp]at hr'
    ·cases hr'
    ·exact bind_le hn hr'
   ·cases hp:pinsAt s'.H s.H.length (pt.map (·.2))<;>simp only[hp]at hr' ⊢
    ·cases hr'
    ·exact hK e _ _ hr'
 | .exit id,s,K,K',r,hK,hr=>hK _ _ _ hr
 | .ret,s,K,K',r,hK,hr=>hK _ _ _ hr
 | .th a l,s,K,K',r,hK,hr=>by
  refine run_mono h a (kN_le (fun s' r' hr'=>?_) hK) (show run φ a s (kN (fun s'=>runO φ l s' (K .normal)) K)=some r from hr)
  rw[runO_bind]at hr' ⊢
  cases h1:runO φ l s' some with
  | none=>rw[h1]at hr';cases hr'
  | some s1=>rw[h1]at hr';rw[runO_mono h h1];exact hK _ _ _ hr'
 | .ps l a,s,K,K',r,hK,hr=>by
  simp only[run]at hr ⊢
  rw[runO_bind]at hr ⊢
  cases h1:runO φ l s some with
  | none=>rw[h1]at hr;cases hr
  | some s1=>rw[h1]at hr;rw[runO_mono h h1];exact run_mono h a hK hr
 | .jn sh a b,s,K,K',r,hK,hr=>by
  simp only[run,jn]at hr ⊢
  cases hok:sh.okE s<;>rw[hok]at hr
  ·cases hr
  ·exact run_mono h a (kN_le (fun s' r' hr'=>bind_le (fun x r hx=>run_mono h b hK hx) hr') (fun e s' r' hr'=>hK e _ _ hr')) hr
structure Lim(φ:Nat->Env U)(ψ:Env U):Prop where
 up:∀ m n,m<=n->LeE (φ m) (φ n)
 le:∀ n,LeE (φ n) ψ
 lim:∀ v g H a r,ψ v g H a=some r->∃ n,φ n v g H a=some r
theorem call_lim{φ:Nat->Env U}{ψ:Env U}(h:Lim φ ψ){md:Nat}{d:Option Nat}{f:N U}{args:List (N U)}{as:List (Option U.T)}{rs:Sh U}{s s':St U}(hc:callK' ψ md d f args as rs s some=some s'):∃ n,callK' (φ n) md d f args as rs s some=some s':=by
 unfold callK' at hc ⊢
 cases f<;>try exact⟨0,hc⟩
 rename_i g first caps
 simp only at hc ⊢
 cases h1:cvA (bif Nat.beq md 0 then []else s.H) as (first++(args++caps))with
 | none=>rw[h1]at hc;cases hc
 | some l =>
  rw[h1]at hc
  simp only[Option.bind_some]at hc ⊢
  cases h2:ψ 0 g [] l with
  | none=>rw[h2]at hc;cases hc
  | some p =>
   rw[h2]at hc
   obtain⟨n,hn⟩:=h.lim _ _ _ _ _ h2
   exact⟨n,by rw[hn];exact hc⟩
theorem callG_lim{φ:Nat->Env U}{ψ:Env U}(h:Lim φ ψ){vr:Nat}{d:Option Nat}{f:N U}{args:List (N U)}{sel:List Nat}{hi:List (HSh U)}{as:List (Sh U)}{ho:List (HSh U)}{rs:Sh U}{s s':St U}(hc:callG' ψ vr d f args sel hi as ho rs s some=some s'):∃ n,callG' (φ n) vr d f args sel hi as ho rs s some=some s':=by
 unfold callG' at hc ⊢
 cases f<;>try exact⟨0,hc⟩
 rename_i g first caps
 simp only at hc ⊢
 cases hb:(nodupN sel && allLt s.H.length sel && solids hi && lenEq hi sel && noRoSel s.H sel)<;>rw[hb]at hc
 ·cases hc
 ·simp only[cond_true]at hc ⊢
  obtain⟨a0,h1,hc⟩:=bs hc
  obtain⟨a,h2,hc⟩:=bs hc
  rw[h1];simp only[Option.bind_some];rw[h2];simp only[Option.bind_some]
  cases h3:ψ vr g (hOf false hi [] a).1 (shOf as (hOf false hi [] a).2).1 with
  | none=>rw[h3]at hc;cases hc
  | some p =>
   rw[h3]at hc
   obtain⟨n,hn⟩:=h.lim _ _ _ _ _ h3
   exact⟨n,by rw[hn];exact hc⟩
theorem p1_lim{φ:Nat->Env U}{ψ:Env U}(h:Lim φ ψ):∀ {o:P1 U} {s s':St U},p1K ψ o s some=some s'->∃ n,p1K (φ n) o s some=some s'
 | .a d o,s,s',hc=>⟨0,hc⟩
 | .call md d c args as rs,s,s',hc=>call_lim h hc
 | .callg vr d c args sel hi as ho rs,s,s',hc=>callG_lim h hc
 | .gd g w d o,s,s',hc=>by
  simp only[p1K]at hc ⊢
  cases hr:o.real<;>rw[hr]at hc
  ·cases hc
  ·simp only[cond_true]at hc ⊢
   cases hb:boolN (lkN s.T g)with
   | none=>rw[hb]at hc;exact⟨0,hc⟩
   | some b =>
    rw[hb]at hc
    cases b<;>cases w<;>simp only[cond_true,cond_false]at hc ⊢
    ·exact p1_lim h hc
    ·exact⟨0,hc⟩
    ·exact⟨0,hc⟩
    ·exact p1_lim h hc
 | .cn d t,s,s',hc=>⟨0,hc⟩
 | .adT d tid e,s,s',hc=>⟨0,hc⟩
 | .adB r p tid e,s,s',hc=>⟨0,hc⟩
 | .pad,s,s',hc=>⟨0,hc⟩
 | .tr d,s,s',hc=>⟨0,hc⟩
 | .nl d r,s,s',hc=>⟨0,hc⟩
 | .perm sel,s,s',hc=>⟨0,hc⟩
 | .fz r t,s,s',hc=>⟨0,hc⟩
 | .pre p o,s,s',hc=>by
  simp only[p1K]at hc ⊢
  cases hr:(!p.real && o.real)<;>rw[hr]at hc
  ·cases hc
  ·simp only[cond_true]at hc ⊢
   rw[p1K_bind]at hc
   cases h1:p1K ψ p s some with
   | none=>rw[h1]at hc;cases hc
   | some s1 =>
    rw[h1]at hc
    obtain⟨n1,k1⟩:=p1_lim h h1
    obtain⟨n2,k2⟩:=p1_lim h (show p1K ψ o s1 some=some s' from hc)
    refine⟨max n1 n2,?_⟩
    rw[p1K_bind,p1_mono (h.up _ _ (Nat.le_max_left ..)) k1]
    exact p1_mono (h.up _ _ (Nat.le_max_right ..)) k2
theorem runO_lim{φ:Nat->Env U}{ψ:Env U}(h:Lim φ ψ):∀ {l:List (P1 U)} {s s':St U},runO ψ l s some=some s'->∃ n,runO (φ n) l s some=some s'
 | [],s,s',hc=>⟨0,hc⟩
 | o::l,s,s',hc=>by
  simp only[runO]at hc ⊢
  rw[p1K_bind]at hc
  cases h1:p1K ψ o s some with
  | none=>rw[h1]at hc;cases hc
  | some s1 =>
   rw[h1]at hc
   obtain⟨n1,k1⟩:=p1_lim h h1
   obtain⟨n2,k2⟩:=runO_lim h (show runO ψ l s1 some=some s' from hc)
   refine⟨max n1 n2,?_⟩
   rw[p1K_bind,p1_mono (h.up _ _ (Nat.le_max_left ..)) k1]
   exact runO_mono (h.up _ _ (Nat.le_max_right ..)) k2
structure LimK{α:Type}(K:Nat->α->Option R)(K':α->Option R):Prop where
 up:∀ m n,m<=n->LeK (K m) (K n)
 lim:∀ x r,K' x=some r->∃ n,K n x=some r
theorem limN{k:Nat->St U->Option R}{k':St U->Option R}{K:Nat->Ex->St U->Option R}{K':Ex->St U->Option R}(h:LimK k k')(h':∀ e,LimK (fun n=>K n e) (K' e)):∀ e,LimK (fun n=>kN (k n) (K n) e) (kN k' K' e)
 | .normal=>h
 | .exit i=>h' _
 | .ret=>h' _
theorem limB{α:Type}{γ:Type}{f:γ->Option α}{k:Nat->α->Option R}{k':α->Option R}(h:LimK k k'):LimK (fun n (s:γ)=>Option.bind (f s) (k n)) (fun s=>Option.bind (f s) k'):=
 ⟨fun m n hmn s r hr=>bind_le (h.up m n hmn) hr,fun s r hr=>by
  cases hf:f s with
  | none=>rw[hf]at hr;cases hr
  | some a =>
   rw[hf]at hr
   obtain⟨n,hn⟩:=h.lim a r hr
   exact⟨n,by simp only[hf,Option.bind_some,hn]⟩⟩
theorem run_lim{φ:Nat->Env U}{ψ:Env U}(h:Lim φ ψ):∀(c:TC U) {K:Nat->Ex->St U->Option R} {K':Ex->St U->Option R},(∀ e,LimK (fun n=>K n e) (K' e))->LimK (fun n s=>run (φ n) c s (K n)) (fun s=>run ψ c s K'):=by
 have up:∀(c:TC U) {K:Nat->Ex->St U->Option R} {K':Ex->St U->Option R},(∀ e,LimK (fun n=>K n e) (K' e))->∀ m n,m<=n->LeK (fun s=>run (φ m) c s (K m)) (fun s=>run (φ n) c s (K n)):=
  fun c K K' hK m n hmn s r hr=>run_mono (h.up m n hmn) c (fun e=>(hK e).up m n hmn) hr
 have opsL:∀(l:List (P1 U)) {K:Nat->St U->Option R} {K':St U->Option R},LimK K K'->∀ s r,runO ψ l s K'=some r->∃ n,runO (φ n) l s (K n)=some r:=by
  intro l K K' hK s r hr
  rw[runO_bind]at hr
  cases h1:runO ψ l s some with
  | none=>rw[h1]at hr;cases hr
  | some s1 =>
   rw[h1]at hr
   obtain⟨n1,k1⟩:=runO_lim h h1
   obtain⟨n2,k2⟩:=hK.lim s1 r hr
   refine⟨max n1 n2,?_⟩
   rw[runO_bind,runO_mono (h.up _ _ (Nat.le_max_left ..)) k1]
   exact hK.up _ _ (Nat.le_max_right ..) _ _ k2
 intro c
 induction c with
 | skip=>intro K K' hK;exact⟨up _ hK,fun s r hr=>(hK .normal).lim s r hr⟩
 | ops l=>intro K K' hK;exact⟨up _ hK,fun s r hr=>opsL l (hK .normal) s r hr⟩
 | draw l=>intro K K' hK;exact⟨up _ hK,fun s r hr=>opsL l (hK .normal) s r hr⟩
 | draw2 l i sel =>
  intro K K' hK
  refine⟨up _ hK,fun s r hr=>?_⟩
  obtain⟨q1,q2⟩:=agree_some hr
  obtain⟨n1,w1⟩:=opsL l (hK .normal) s r q1
  have hK2:LimK (fun n s'=>p1K (φ n) (.perm sel) s' (K n .normal)) (fun s'=>p1K ψ (.perm sel) s' (K' .normal)):=by
   refine⟨fun a b hab s' r' h'=>?_,fun s' r' h'=>?_⟩
   ·simp only[p1K]at h' ⊢
    revert h'
    cases(nodupN sel && noPin (selHN sel s'.H) && noRo s'.H)<;>intro h'
    ·cases h'
    ·exact(hK .normal).up _ _ hab _ _ h'
   ·simp only[p1K]at h' ⊢
    revert h'
    cases(nodupN sel && noPin (selHN sel s'.H) && noRo s'.H)<;>intro h'
    ·cases h'
    ·exact(hK .normal).lim _ _ h'
  obtain⟨n2,w2⟩:=opsL (swapAt i l) hK2 s r q2
  have opsU:∀(l:List (P1 U)) {K:Nat->St U->Option R} {K':St U->Option R},LimK K K'->∀ a b,a<=b->runO (φ a) l s (K a)=some r->runO (φ b) l s (K b)=some r:=by
   intro l K K' hK a b hab h1
   rw[runO_bind]at h1 ⊢
   cases h2:runO (φ a) l s some with
   | none=>rw[h2]at h1;cases h1
   | some s1=>rw[h2]at h1;rw[runO_mono (h.up _ _ hab) h2];exact hK.up _ _ hab _ _ h1
  exact⟨max n1 n2,agree_of (opsU l (hK .normal) _ _ (Nat.le_max_left ..) w1) (opsU (swapAt i l) hK2 _ _ (Nat.le_max_right ..) w2)⟩
 | seq a b iha ihb=>intro K K' hK;exact⟨up _ hK,fun s r hr=>(iha (limN (ihb hK) hK)).lim s r hr⟩
 | cond c x y ihx ihy =>
  intro K K' hK
  refine⟨up _ hK,fun s r hr=>?_⟩
  simp only[run]at hr ⊢
  cases hb:boolN (s.ev c)with
  | none =>
   rw[hb]at hr
   simp only at hr ⊢
   cases hu:isUb (s.ev c)<;>rw[hu]at hr
   ·cases hr
   ·obtain⟨q1,q2⟩:=agree_some hr
    obtain⟨n1,w1⟩:=(ihx hK).lim _ _ q1
    obtain⟨n2,w2⟩:=(ihy hK).lim _ _ q2
    exact⟨max n1 n2,agree_of ((ihx hK).up _ _ (Nat.le_max_left ..) _ _ w1) ((ihy hK).up _ _ (Nat.le_max_right ..) _ _ w2)⟩
  | some b =>
   rw[hb]at hr
   cases b
   ·exact(ihy hK).lim _ _ hr
   ·exact(ihx hK).lim _ _ hr
 | block id c ih =>
  intro K K' hK
  refine⟨up _ hK,fun s r hr=>(ih (K:=fun n=>kB id (K n)) (K':=kB id K') ?_).lim s r hr⟩
  intro e
  cases e with
  | normal=>exact hK _
  | exit i =>
   cases hi:Nat.beq i id
   ·have:∀(K:Ex->St U->Option R),kB id K (.exit i)=K (.exit i):=fun K=>by funext s;simp only[kB,hi,cond_false]
    simp only[this];exact hK _
   ·have:∀(K:Ex->St U->Option R),kB id K (.exit i)=K .normal:=fun K=>by funext s;simp only[kB,hi,cond_true]
    simp only[this];exact hK _
  | ret=>exact hK _
 | loop sh c ih =>
  intro K K' hK
  refine⟨up _ hK,fun s r hr=>?_⟩
  simp only[run]at hr ⊢
  cases hok:sh.okE s<;>rw[hok]at hr
  ·cases hr
  have hK2:∀ e,LimK (fun n s'=>K n e (rst sh s s')) (fun s'=>K' e (rst sh s s')):=fun e=>⟨fun m n hmn s r hr=>(hK e).up m n hmn _ _ hr,fun s r hr=>(hK e).lim _ _ hr⟩
  have key:∀(m:Nat),LimK (fun n=>loopF (fun x next=>run (φ n) c (sh.of true s x) (kN (fun s'=>Option.bind (sh.de s') next) (fun e s'=>K n e (rst sh s s')))) m) (loopF (fun x next=>run ψ c (sh.of true s x) (kN (fun s'=>Option.bind (sh.de s') next) (fun e s'=>K' e (rst sh s s')))) m):=by
   intro m
   induction m with
   | zero=>exact⟨fun m n hmn x r hx=>(by cases hx),fun x r hx=>by cases hx⟩
   | succ m ihm =>
    have:=ih (limN (limB (f:=sh.de) ihm) hK2)
    exact⟨fun m n hmn x r hx=>this.up m n hmn _ _ hx,fun x r hx=>this.lim _ _ hx⟩
  cases hd:sh.de s with
  | none=>rw[hd]at hr;cases hr
  | some x0 =>
   rw[hd]at hr
   obtain⟨m,hm⟩:=loopN_some (show loopN _ x0=some r from hr)
   obtain⟨n,hn⟩:=(key m).lim _ _ hm
   refine⟨n,?_⟩
   have upN:∀ x n1 n2 r,LeK n1 n2->run (φ n) c (sh.of true s x) (kN (fun s'=>Option.bind (sh.de s') n1) (fun e s'=>K n e (rst sh s s')))=some r->run (φ n) c (sh.of true s x) (kN (fun s'=>Option.bind (sh.de s') n2) (fun e s'=>K n e (rst sh s s')))=some r:=
    fun x n1 n2 r hn hx=>run_mono (fun _ _ _ _ _ h=>h) c (kN_le (fun s' r' hr'=>bind_le hn hr') (fun _ _ _ h=>h)) hx
   exact loopN_up upN hn
 | range ts it f g ps pt ks hs al c ih =>
  intro K K' hK
  refine⟨up _ hK,fun s r hr=>?_⟩
  simp only[run]at hr ⊢
  cases hv:(rgS s pt ks).ev g<;>rw[hv]at hr<;>try exact(none_some hr).elim
  rename_i f' first caps
  simp only at hr ⊢
  cases hc:(Nat.beq f' f && lenEq first ([]:List Nat) && pureNs caps && ptOk hs.length s pt && purT s.T ks && pinHs hs s.H.length (pt.map (·.2)) && (rgL hs).okE (rgS s pt ks))<;>rw[hc]at hr
  ·cases hr
  simp only[cond_true]at hr ⊢
  cases hi:it caps with
  | none=>rw[hi]at hr;cases hr
  | some L =>
   rw[hi]at hr
   simp only[Option.bind_some]at hr ⊢
   cases ha:lenEq ts ps<;>rw[ha]at hr
   ·cases hr
   simp only[cond_true]at hr ⊢
   cases hd:(rgL hs).de (rgS s pt ks)with
   | none=>rw[hd]at hr;cases hr
   | some x0 =>
    rw[hd]at hr
    simp only[Option.bind_some]at hr ⊢
    have hK2:∀ e,LimK (fun n (s':St U)=>bif pinsAt s'.H s.H.length (pt.map (·.2))then K n e ⟨(rgS s pt ks).T,unpin s.H.length 0 (rst (rgL hs) (rgS s pt ks) s').H,[]⟩else none) (fun s'=>bif pinsAt s'.H s.H.length (pt.map (·.2))then K' e ⟨(rgS s pt ks).T,unpin s.H.length 0 (rst (rgL hs) (rgS s pt ks) s').H,[]⟩else none):=fun e =>
     ⟨fun m n hmn s' r hr=>(by
      cases hp:pinsAt s'.H s.H.length (pt.map (·.2))<;>simp only[hp]at hr ⊢
      ·cases hr
      ·exact(hK e).up m n hmn _ _ hr),fun s' r hr=>(by
      cases hp:pinsAt s'.H s.H.length (pt.map (·.2))<;>simp only[hp]at hr ⊢
      ·cases hr
      ·exact(hK e).lim _ _ hr)⟩
    have key:∀(L:List (Tup U ts)),LimK (fun n=>forR (fun vs x next=>runO (φ n) al ⟨setTN ps (vtN ts vs) (rgS s pt ks).T,((rgL hs).of true (rgS s pt ks) x).H,[]⟩ (fun s2=>run (φ n) c s2 (kN (fun s'=>bif pinsAt s'.H s.H.length (pt.map (·.2))then Option.bind ((rgL hs).de s') next else none) (fun e s'=>bif pinsAt s'.H s.H.length (pt.map (·.2))then K n e ⟨(rgS s pt ks).T,unpin s.H.length 0 (rst (rgL hs) (rgS s pt ks) s').H,[]⟩else none)))) (fun x=>K n .normal ⟨(rgS s pt ks).T,unpin s.H.length 0 (rstH hs (rgS s pt ks).H ((rgL hs).of true (rgS s pt ks) x).H),[]⟩) L)
      (forR (fun vs x next=>runO ψ al ⟨setTN ps (vtN ts vs) (rgS s pt ks).T,((rgL hs).of true (rgS s pt ks) x).H,[]⟩ (fun s2=>run ψ c s2 (kN (fun s'=>bif pinsAt s'.H s.H.length (pt.map (·.2))then Option.bind ((rgL hs).de s') next else none) (fun e s'=>bif pinsAt s'.H s.H.length (pt.map (·.2))then K' e ⟨(rgS s pt ks).T,unpin s.H.length 0 (rst (rgL hs) (rgS s pt ks) s').H,[]⟩else none)))) (fun x=>K' .normal ⟨(rgS s pt ks).T,unpin s.H.length 0 (rstH hs (rgS s pt ks).H ((rgL hs).of true (rgS s pt ks) x).H),[]⟩) L):=by
     intro L
     induction L with
     | nil=>exact⟨fun m n hmn x r hx=>(hK .normal).up m n hmn _ _ hx,fun x r hx=>(hK .normal).lim _ _ hx⟩
     | cons vs L ihL =>
      have l0:∀ {F:Nat->Tup U (rgL hs).ty->Option R} {F':Tup U (rgL hs).ty->Option R},LimK F F'->LimK (fun n (s':St U)=>bif pinsAt s'.H s.H.length (pt.map (·.2))then Option.bind ((rgL hs).de s') (F n)else none) (fun s'=>bif pinsAt s'.H s.H.length (pt.map (·.2))then Option.bind ((rgL hs).de s') F' else none):=fun {F F'} hF =>
       ⟨fun m n hmn s' r hr=>(by
        cases hp:pinsAt s'.H s.H.length (pt.map (·.2))<;>simp only[hp]at hr ⊢
        ·cases hr
        ·exact(limB (f:=(rgL hs).de) hF).up m n hmn _ _ hr),fun s' r hr=>(by
        cases hp:pinsAt s'.H s.H.length (pt.map (·.2))<;>simp only[hp]at hr ⊢
        ·cases hr
        ·exact(limB (f:=(rgL hs).de) hF).lim s' r hr)⟩
      have l1:=ih (limN (l0 ihL) hK2)
      refine⟨fun m n hmn x r hx=>?_,fun x r hx=>opsL al l1 _ r hx⟩
      have hx:runO (φ m) al _ _=some r:=hx
      show runO (φ n) al _ _=some r
      rw[runO_bind]at hx ⊢
      cases h1:runO (φ m) al ⟨setTN ps (vtN ts vs) (rgS s pt ks).T,((rgL hs).of true (rgS s pt ks) x).H,[]⟩ some with
      | none=>rw[h1]at hx;cases hx
      | some s2 =>
       rw[h1]at hx
       rw[runO_mono (h.up m n hmn) h1]
       exact l1.up m n hmn s2 r hx
    exact(key L).lim x0 r hr
 | exit id=>intro K K' hK;exact⟨up _ hK,fun s r hr=>(hK _).lim s r hr⟩
 | ret=>intro K K' hK;exact⟨up _ hK,fun s r hr=>(hK _).lim s r hr⟩
 | th a l iha =>
  intro K K' hK
  have l1:LimK (fun n s'=>runO (φ n) l s' (K n .normal)) (fun s'=>runO ψ l s' (K' .normal)):=by
   refine⟨fun m n hmn s r hr=>?_,fun s r hr=>opsL l (hK .normal) s r hr⟩
   rw[runO_bind]at hr ⊢
   cases h1:runO (φ m) l s some with
   | none=>rw[h1]at hr;cases hr
   | some s1=>rw[h1]at hr;rw[runO_mono (h.up m n hmn) h1];exact(hK .normal).up m n hmn _ _ hr
  have l2:=iha (limN l1 hK)
  exact⟨fun m n hmn s r hr=>l2.up m n hmn s r hr,fun s r hr=>l2.lim s r hr⟩
 | ps l a iha =>
  intro K K' hK
  exact⟨up _ hK,fun s r hr=>opsL l (iha hK) s r hr⟩
 | jn sh a b iha ihb =>
  intro K K' hK
  refine⟨up _ hK,fun s r hr=>?_⟩
  simp only[run,jn]at hr ⊢
  cases hok:sh.okE s<;>rw[hok]at hr
  ·cases hr
  have hK2:∀ e,LimK (fun n s'=>K n e (rst sh s s')) (fun s'=>K' e (rst sh s s')):=fun e=>⟨fun m n hmn s r hr=>(hK e).up m n hmn _ _ hr,fun s r hr=>(hK e).lim _ _ hr⟩
  have l1:LimK (fun n x=>run (φ n) b (sh.of false s x) (K n)) (fun x=>run ψ b (sh.of false s x) K'):=⟨fun m n hmn x r hx=>(ihb hK).up m n hmn _ _ hx,fun x r hx=>(ihb hK).lim _ _ hx⟩
  have l2:=iha (limN (limB (f:=sh.de) l1) hK2)
  exact l2.lim _ r hr
inductive FnX(U:Uni) where
 | code (x:XFn U)
 | prim (f:List (HB U)->List (N U)->Option (List (HB U)×N U))
def lkX:List (Nat×Nat×FnX U)->Nat->Nat->Option (FnX U)
 | [],_,_=>none
 | (v,k,x)::l,w,n=>bif Nat.beq n k && Nat.beq w v then some x else lkX l w n
noncomputable def stepX(X:List (Nat×Nat×FnX U))(φ:Env U):Env U:=fun v g H args=>match lkX X v g with
 | none=>none
 | some (.prim f)=>f H args
 | some (.code x)=>bif Nat.ble args.length x.N && noPin H then Option.map x.out.bk (run φ x.body ⟨initN 0 args,H++(boxIx v 0 H).map .pin,[]⟩ (fun e s=>x.out.dc (finK H.length (boxIx v 0 H) x e s)))else none
noncomputable def Fn_(X:List (Nat×Nat×FnX U)):Nat->Env U
 | 0=>fun _ _ _ _=>none
 | n+1=>stepX X (Fn_ X n)
open Classical in
noncomputable def Finf(X:List (Nat×Nat×FnX U)):Env U:=fun v g H args=>if h:∃ r,∃ n,Fn_ X n v g H args=some r then some h.choose else none
theorem step_mono{X:List (Nat×Nat×FnX U)}{φ ψ:Env U}(h:LeE φ ψ):LeE (stepX X φ) (stepX X ψ):=by
 intro v g H args r hr
 unfold stepX at hr ⊢
 cases hg:lkX X v g with
 | none=>rw[hg]at hr;cases hr
 | some f =>
  rw[hg]at hr
  cases f with
  | prim f=>exact hr
  | code x =>
   simp only at hr ⊢
   cases hl:(Nat.ble args.length x.N && noPin H)<;>rw[hl]at hr
   ·cases hr
   ·obtain⟨r',h1,h2⟩:=Option.map_eq_some_iff.1 (show Option.map _ _=some r from hr)
    show Option.map _ _=some r
    rw[run_mono h _ (fun _ _ _ h=>h) h1]
    exact congrArg some h2
theorem Fn_succ(X:List (Nat×Nat×FnX U)):∀ n,LeE (Fn_ X n) (Fn_ X (n+1))
 | 0=>fun v g H a r h=>by cases h
 | n+1=>step_mono (Fn_succ X n)
theorem Fn_up(X:List (Nat×Nat×FnX U)){m n:Nat}(h:m<=n):LeE (Fn_ X m) (Fn_ X n):=by
 induction h with
 | refl=>exact fun _ _ _ _ _ h=>h
 | step h ih=>exact fun v g H a r hr=>Fn_succ X _ _ _ _ _ _ (ih _ _ _ _ _ hr)
theorem Finf_lim(X:List (Nat×Nat×FnX U)):Lim (Fn_ X) (Finf X):=by
 refine⟨fun m n h=>Fn_up X h,fun n v g H a r h=>?_,fun v g H a r h=>?_⟩
 ·have hx:∃ r,∃ n,Fn_ X n v g H a=some r:=⟨r,n,h⟩
  unfold Finf
  rw[dif_pos hx]
  obtain⟨m,hm⟩:=hx.choose_spec
  have h1:=Fn_up X (Nat.le_max_left n m) _ _ _ _ _ h
  have h2:=Fn_up X (Nat.le_max_right n m) _ _ _ _ _ hm
  rw[h1]at h2
  exact h2.symm
 ·unfold Finf at h
  split at h
  ·rename_i hx
   obtain⟨m,hm⟩:=hx.choose_spec
   cases h
   exact⟨m,hm⟩
  ·cases h
theorem Finf_eq(X:List (Nat×Nat×FnX U)):Finf X=stepX X (Finf X):=by
 have L:=Finf_lim X
 have le:LeE (Finf X) (stepX X (Finf X)):=by
  intro v g H a r h
  obtain⟨n,hn⟩:=L.lim _ _ _ _ _ h
  have:=Fn_succ X n _ _ _ _ _ hn
  exact step_mono (L.le n) _ _ _ _ _ this
 have ge:LeE (stepX X (Finf X)) (Finf X):=by
  intro v g H args r h
  have:∃ n,stepX X (Fn_ X n) v g H args=some r:=by
   unfold stepX at h ⊢
   cases hl:lkX X v g with
   | none=>rw[hl]at h;cases h
   | some f =>
    rw[hl]at h
    cases f with
    | prim f=>exact⟨0,h⟩
    | code x =>
     simp only at h ⊢
     cases hb:(Nat.ble args.length x.N && noPin H)<;>rw[hb]at h
     ·cases h
     ·obtain⟨r',h1,h2⟩:=Option.map_eq_some_iff.1 (show Option.map _ _=some r from h)
      obtain⟨n,hn⟩:=(run_lim L x.body (K:=fun _ e s=>x.out.dc (finK H.length (boxIx v 0 H) x e s)) (K':=fun e s=>x.out.dc (finK H.length (boxIx v 0 H) x e s)) (fun e=>⟨fun _ _ _ _ _ h=>h,fun x r h=>⟨0,h⟩⟩)).lim _ _ h1
      refine⟨n,?_⟩
      show Option.map _ _=some r
      rw[hn]
      exact congrArg some h2
  obtain⟨n,hn⟩:=this
  exact L.le (n+1) _ _ _ _ _ hn
 funext v g H a
 cases h1:Finf X v g H a with
 | some r=>exact(le _ _ _ _ _ h1).symm
 | none =>
  cases h2:stepX X (Finf X) v g H a with
  | none=>rfl
  | some r=>rw[ge _ _ _ _ _ h2]at h1;cases h1
end
end Go.Ab.X

set_option linter.all false
namespace Go.Ab.X
open Go.RowKit Go.Ab
section
variable {U:Uni} {R S:Type} {P:Program}
def TabOk(P:Program)(X:List (Nat×Nat×FnX U)):Prop:=∀ v g f,lkX X v g=some f->match f with
 | .code x=>(∃ fn,P.funcs[g]? = some fn/\fnX P fn x=true)/\x.body.its P
 | .prim f=>∀ H args Ho y,f H args=some (Ho,y)->noPin H=true->∀(B:Nat->Value) (β:Nat->Value),PG P g (absH β 0 H++pinsOf B (boxIx v 0 H)) (absL args) (absH β 0 Ho++pinsOf B (boxIx v 0 H)) y.abs
def codeB(P:Program)(g:Nat)(x:XFn U):Bool:=match P.funcs[g]? with
 | some fn=>fnX P fn x
 | none=>false
def tabB(P:Program):List (Nat×Nat×FnX U)->Bool
 | []=>true
 | (_,g,.code x)::l=>codeB P g x && tabB P l
 | (_,_,.prim _)::l=>tabB P l
def primOk(P:Program):List (Nat×Nat×FnX U)->Prop
 | []=>True
 | (v,g,.prim f)::l=>(∀ H args Ho y,f H args=some (Ho,y)->noPin H=true->∀(B:Nat->Value) (β:Nat->Value),PG P g (absH β 0 H++pinsOf B (boxIx v 0 H)) (absL args) (absH β 0 Ho++pinsOf B (boxIx v 0 H)) y.abs)/\primOk P l
 | (_,_,.code _)::l=>primOk P l
def itsOk(P:Program):List (Nat×Nat×FnX U)->Prop
 | []=>True
 | (_,_,.code x)::l=>(bif x.body.noRange then True else x.body.its P)/\itsOk P l
 | (_,_,.prim _)::l=>itsOk P l
theorem its_no:∀(c:TC U),c.noRange=true->c.its P:=by
 intro c
 induction c with
 | seq a b iha ihb=>intro h;simp only[TC.noRange,Bool.and_eq_true]at h;exact⟨iha h.1,ihb h.2⟩
 | cond _ a b iha ihb=>intro h;simp only[TC.noRange,Bool.and_eq_true]at h;exact⟨iha h.1,ihb h.2⟩
 | jn _ a b iha ihb=>intro h;simp only[TC.noRange,Bool.and_eq_true]at h;exact⟨iha h.1,ihb h.2⟩
 | block _ c ih=>exact ih
 | loop _ c ih=>exact ih
 | th a _ ih=>exact ih
 | ps _ a ih=>exact ih
 | range=>intro h;cases h
 | _=>intro _;trivial
theorem codeB_ok{g:Nat}{x:XFn U}(h:codeB P g x=true):∃ fn,P.funcs[g]? = some fn/\fnX P fn x=true:=by
 unfold codeB at h
 split at h
 ·rename_i fn hf;exact⟨fn,hf,h⟩
 ·cases h
theorem tab_ok:∀ {X:List (Nat×Nat×FnX U)},tabB P X=true->primOk P X->itsOk P X->TabOk P X
 | [],_,_,_,v,g,f,h=>by cases h
 | (w,k,x)::X,hb,hp,hi,v,g,f,h=>by
  simp only[lkX]at h
  cases hk:(Nat.beq g k && Nat.beq v w)<;>rw[hk]at h
  ·cases x with
   | code x=>simp only[tabB,Bool.and_eq_true]at hb;exact tab_ok hb.2 hp hi.2 v g f h
   | prim p=>exact tab_ok (show tabB P X=true from hb) hp.2 hi v g f h
  ·simp only[Bool.and_eq_true]at hk
   obtain rfl:=Nat.eq_of_beq_eq_true hk.1
   obtain rfl:=Nat.eq_of_beq_eq_true hk.2
   obtain rfl:=Option.some.inj h
   cases x with
   | code x =>
    simp only[tabB,Bool.and_eq_true]at hb
    refine⟨codeB_ok hb.1,?_⟩
    have h1:=hi.1
    cases hn:x.body.noRange<;>rw[hn]at h1
    ·exact h1
    ·exact its_no _ hn
   | prim p=>exact hp.1
theorem SndE_Fn(hU:U.Ok){X:List (Nat×Nat×FnX U)}(hX:TabOk P X):∀ n,SndE P (Fn_ X n)
 | 0=>fun v g Hin args H y h=>by cases h
 | n+1=>fun v g Hin args H y h hnp B β=>by
  simp only[Fn_]at h
  unfold stepX at h
  cases hg:lkX X v g with
  | none=>rw[hg]at h;cases h
  | some f =>
   rw[hg]at h
   have hf:=hX v g f hg
   cases f with
   | prim p=>exact hf Hin args H y h hnp B β
   | code x =>
    simp only at h hf
    obtain⟨⟨fn,h1,h2⟩,hi⟩:=hf
    cases hl:(Nat.ble args.length x.N && noPin Hin)<;>rw[hl]at h
    ·cases h
    ·simp only[Bool.and_eq_true]at hl
     obtain⟨r,h3,h4⟩:=Option.map_eq_some_iff.1 (show Option.map _ _=some (H,y)from h)
     have:=fn_ok hU (SndE_Fn hU hX n) h1 h2 hi (Nat.le_of_ble_eq_true hl.1) hnp r h3 B β
     rw[h4]at this
     exact this
theorem SndE_inf(hU:U.Ok){X:List (Nat×Nat×FnX U)}(hX:TabOk P X):SndE P (Finf X):=by
 intro v g Hin args H y h
 obtain⟨n,hn⟩:=(Finf_lim X).lim _ _ _ _ _ h
 exact SndE_Fn hU hX n v g Hin args H y hn
noncomputable def ans(X:List (Nat×Nat×FnX U))(g:Nat)(rs:Sh U)(args:List (N U)):Option (Tup U (rs.ty [])):=dcR rs (Finf X 0 g [] args)
theorem ans_eq(hU:U.Ok){X:List (Nat×Nat×FnX U)}{g:Nat}{x:XFn U}{l:List (Sh U)}{args:List (N U)}(hx:lkX X 0 g=some (.code x))(hl:x.out=.pure l)(hn:Nat.ble args.length x.N=true) :
  ans X g (oneSh l) args=run (Finf X) x.body ⟨initN 0 args,[],[]⟩ (fun e s=>dcR (oneSh l) (finK 0 [] x e s)):=by
 obtain⟨N,res,out,body⟩:=x
 simp only at hl
 subst hl
 have e:Finf X 0 g [] args=Option.map (Out.bk (.pure l)) (run (Finf X) body ⟨initN 0 args,[],[]⟩ (fun e s=>Out.dc (.pure l) (finK 0 [] ⟨N,res,.pure l,body⟩ e s))):=by
  have:=congrFun (congrFun (congrFun (congrFun (Finf_eq X) 0) g) []) args
  rw[this]
  unfold stepX
  simp only[hx,hn,noPin,Bool.and_self,cond_true]
  rfl
 unfold ans
 rw[e]
 have k:(fun e s=>Out.dc (.pure l) (finK 0 [] ⟨N,res,.pure l,body⟩ e s))=(fun e s=>dcR (oneSh l) (finK 0 [] ⟨N,res,.pure l,body⟩ e s)):=by
  funext e s
  exact dcG_nil
 have h:∀(o:Option (Tup U ((oneSh l).ty []))),dcR (oneSh l) (Option.map (Out.bk (.pure l)) o)=o:=by
  intro o
  cases o with
  | none=>rfl
  | some r =>
   have:=dc_bk hU (o:=.pure l) rfl trivial r
   rw[show Out.dc (.pure l) (some (Out.bk (.pure l) r))=dcR (oneSh l) (some (Out.bk (.pure l) r))from dcG_nil]at this
   exact this
 exact(h _).trans (congrArg _ k)
theorem ans_prim{X:List (Nat×Nat×FnX U)}{g:Nat}{f:List (HB U)->List (N U)->Option (List (HB U)×N U)}{rs:Sh U}{args:List (N U)}(hx:lkX X 0 g=some (.prim f)):ans X g rs args=dcR rs (f [] args):=by
 have:=congrFun (congrFun (congrFun (congrFun (Finf_eq X) 0) g) []) args
 unfold ans
 rw[this]
 unfold stepX
 simp only[hx]
theorem ans_ok(hU:U.Ok){X:List (Nat×Nat×FnX U)}(hX:TabOk P X){g:Nat}{rs:Sh U}{args:List (N U)}{r:Tup U (rs.ty [])}(h:ans X g rs args=some r)(hp:pureN (rs.of r).1=true):PC P g (absL args) (rs.of r).1.abs:=by
 obtain⟨y,h1,h2⟩:=dcR_ok hU h
 have:=(SndE_inf hU hX).pr h1 (fun _=>.nilFunc)
 rw[h2]
 exact this.pc (.le _ _ (.refl _) (by rw[<-h2];exact pureN_ok hU hp))
end
end Go.Ab.X
