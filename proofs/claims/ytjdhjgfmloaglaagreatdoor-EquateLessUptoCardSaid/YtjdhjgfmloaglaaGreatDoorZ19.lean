import Derived.Test.YtjdhjgfmloaglaaGreatDoorZ18
set_option linter.unusedVariables false
set_option linter.unusedSimpArgs false
section
namespace Go.Tar
inductive Rch (E:Nat→Nat→Prop):Nat→Nat→Prop
 | refl (a:Nat):Rch E a a
 | tail {a b c:Nat}:Rch E a b→E b c→Rch E a c
theorem Rch.one {E:Nat→Nat→Prop}{a b:Nat}(h:E a b):Rch E a b:=.tail (.refl a) h
theorem Rch.trans {E:Nat→Nat→Prop}{a b c:Nat}(h:Rch E a b) (k:Rch E b c):Rch E a c:=by
 induction k with
 | refl=>exact h
 | tail _ e ih=>exact ih.tail e
theorem Rch.closed {E:Nat→Nat→Prop}{C:Nat→Prop}(hc:∀ a b,C a→E a b→C b) {a b:Nat}(h:Rch E a b) (ha:C a):C b:=by
 induction h with
 | refl=>exact ha
 | tail _ e ih=>exact hc _ _ ih e
structure St where
 num:Nat→Nat
 low:Nat→Nat
 wt:Nat→Bool
 wa:List Nat
 pt:Nat→Nat
 parts:Nat
 steps:List (Nat × Nat)
 met:Nat
def upd {α : Type}(f:Nat→α) (i:Nat) (v : α):Nat→α:=fun j=>if j=i then v else f j
theorem upd_self {α : Type}{f:Nat→α}{i:Nat}{v : α}:upd f i v i=v:=by simp [upd]
theorem upd_ne {α : Type}{f:Nat→α}{i j:Nat}{v : α}(h:j≠i):upd f i v j=f j:=by simp [upd,h]
def seen (s:St) (v k:Nat):Prop:=s.num v≠0∧∀ x∈s.steps,x.1=v→k < x.2
def ownr (s:St) (x:Nat × Nat) (v:Nat):Prop:=x∈s.steps∧s.num x.1≤s.num v∧∀ y∈s.steps,s.num y.1≤s.num v→s.num y.1≤s.num x.1
def unv (f:Nat→Nat) (n:Nat):Nat:=(List.range n).countP fun v=>f v == 0
theorem unv_zero:∀ n:Nat,unv (fun _=>0) n=n
 | 0=>rfl
 | n+1=>by
  have:=unv_zero n
  unfold unv at this ⊢
  rw [List.range_succ,List.countP_append,this]
  simp
theorem unv_same {f:Nat→Nat}{v k:Nat}:∀ {n:Nat},n≤v→unv (upd f v k) n=unv f n
 | 0,_=>rfl
 | n+1,h=>by
  have:=unv_same (f:=f) (v:=v) (k:=k) (n:=n) (by omega)
  unfold unv at this ⊢
  rw [List.range_succ,List.countP_append,List.countP_append,this]
  have:upd f v k n=f n:=upd_ne (by omega)
  simp [this]
theorem unv_upd {f:Nat→Nat}{v k:Nat}(h0:f v=0) (hk:k≠0):∀ {n:Nat},v < n→unv (upd f v k) n+1=unv f n
 | 0,h=>by omega
 | n+1,h=>by
  by_cases hv:v=n
  ·subst hv
   have:=unv_same (f:=f) (v:=v) (k:=k) (Nat.le_refl v)
   unfold unv at this ⊢
   rw [List.range_succ,List.countP_append,List.countP_append,this]
   simp [upd_self,h0,hk]
  ·have:=unv_upd h0 hk (n:=n) (by omega)
   unfold unv at this ⊢
   rw [List.range_succ,List.countP_append,List.countP_append]
   have e:upd f v k n=f n:=upd_ne (by omega)
   simp only [List.countP_singleton,e]
   omega
section
variable {n:Nat}{g:Nat→List Nat}
abbrev Eg (g:Nat→List Nat) (a b:Nat):Prop:=b∈g a
structure Inv (n:Nat) (g:Nat→List Nat) (s:St):Prop where
 wa1:s.wa.Pairwise fun a b=>s.num b < s.num a
 wa2:∀ v,s.wt v=true↔v∈s.wa
 wa3:∀ v∈s.wa,0 < s.num v
 lt:∀ v,s.num v≠0→v < n
 met:∀ v,s.num v≤s.met
 st1:s.steps.Pairwise fun a b=>s.num b.1 < s.num a.1
 st2:∀ x∈s.steps,x.1∈s.wa∧x.2≤(g x.1).length
 seg:∀ v∈s.wa,∃ x,ownr s x v
 down:∀ x∈s.steps,∀ v∈s.wa,s.num x.1≤s.num v→Rch (Eg g) x.1 v
 up:∀ v∈s.wa,∀ x,ownr s x v→Rch (Eg g) v x.1
 low1:∀ x∈s.steps,s.low x.1≤s.num x.1∧∃ w∈s.wa,s.low x.1=s.num w∧Rch (Eg g) x.1 w
 proc:∀ v k u,seen s v k→(g v)[k]? = some u→s.num u≠0
 low2:∀ v∈s.wa,∀ x,ownr s x v→∀ k u,seen s v k→(g v)[k]? = some u→u∈s.wa→s.low x.1≤s.num u
 done:∀ v,s.num v≠0→v∉s.wa→∀ u∈g v,s.num u≠0∧u∉s.wa
 cls:∀ u v,s.num u≠0→u∉s.wa→s.num v≠0→v∉s.wa→(s.pt u=s.pt v↔Rch (Eg g) u v∧Rch (Eg g) v u)
 cnt:∀ v,s.num v≠0→v∉s.wa→s.pt v < s.parts
 full:∀ p,p < s.parts→∃ v,s.num v≠0∧v∉s.wa∧s.pt v=p
 cle:s.parts+s.wa.length≤s.met
 ord:∀ u v,s.num u≠0→u∉s.wa→v∈g u→s.pt v≤s.pt u
 unv:unv s.num n+s.met=n
theorem ownr.uniq {s:St}(h:Inv n g s) {x y:Nat × Nat}{v:Nat}(hx:ownr s x v) (hy:ownr s y v):x=y:=by
 have h1:=hx.2.2 y hy.1 hy.2.1
 have h2:=hy.2.2 x hx.1 hx.2.1
 have h3:s.num x.1=s.num y.1:=by omega
 obtain ⟨i,hi,ei⟩:=List.mem_iff_getElem.1 hx.1
 obtain ⟨j,hj,ej⟩:=List.mem_iff_getElem.1 hy.1
 have hp:=List.pairwise_iff_getElem.1 h.st1
 rcases Nat.lt_trichotomy i j with hij | hij | hij
 ·have:=hp i j hi hj hij
  rw [ei,ej] at this
  omega
 ·subst hij
  rw [← ei,← ej]
 ·have:=hp j i hj hi hij
  rw [ei,ej] at this
  omega
theorem Inv.inj {s:St}(h:Inv n g s) {u v:Nat}(hu:u∈s.wa) (hv:v∈s.wa) (e:s.num u=s.num v):u=v:=by
 obtain ⟨i,hi,ei⟩:=List.mem_iff_getElem.1 hu
 obtain ⟨j,hj,ej⟩:=List.mem_iff_getElem.1 hv
 have hp:=List.pairwise_iff_getElem.1 h.wa1
 rcases Nat.lt_trichotomy i j with hij | hij | hij
 ·have:=hp i j hi hj hij
  rw [ei,ej] at this
  omega
 ·subst hij
  rw [← ei,← ej]
 ·have:=hp j i hj hi hij
  rw [ei,ej] at this
  omega
theorem Inv.top {s:St}{x:Nat × Nat}{r:List (Nat × Nat)}(h:Inv n g s) (e:s.steps=x::r) {y:Nat × Nat}(hy:y∈s.steps):s.num y.1≤s.num x.1:=by
 have h1:=h.st1
 rw [e,List.pairwise_cons] at h1
 rw [e] at hy
 rcases List.mem_cons.1 hy with rfl | hy
 ·exact Nat.le_refl _
 ·exact Nat.le_of_lt (h1.1 y hy)
theorem Inv.topown {s:St}{x:Nat × Nat}{r:List (Nat × Nat)}(h:Inv n g s) (e:s.steps=x::r) {v:Nat}(hv:s.num x.1≤s.num v):ownr s x v:=
 ⟨by rw [e];exact List.mem_cons_self,hv,fun y hy _=>h.top e hy⟩
theorem Inv.selfown {s:St}(h:Inv n g s) {x:Nat × Nat}(hx:x∈s.steps):ownr s x x.1:=⟨hx,Nat.le_refl _,fun _ _ h=>h⟩
theorem Inv.stinj {s:St}(h:Inv n g s) {x y:Nat × Nat}(hx:x∈s.steps) (hy:y∈s.steps) (e:x.1=y.1):x=y:=
 ownr.uniq h (h.selfown hx) (by rw [e];exact h.selfown hy)
def st0:St:=⟨fun _=>0,fun _=>0,fun _=>false,[],fun _=>0,0,[],0⟩
theorem inv0:Inv n g st0:=by
 refine ⟨List.Pairwise.nil,?_,?_,?_,?_,List.Pairwise.nil,?_,?_,?_,?_,?_,?_,?_,?_,?_,?_,?_,?_,?_,unv_zero n⟩ <;> simp [st0,seen,ownr]
def visit (s:St) (v:Nat):St:={ s with num:=upd s.num v (s.met+1),low:=upd s.low v (s.met+1),wt:=upd s.wt v true,wa:=v::s.wa,steps:=(v,0)::s.steps,met:=s.met+1 }
theorem visit_ok {s:St}{x:Nat × Nat}{r:List (Nat × Nat)}(h:Inv n g s) (e:s.steps=x::r) {v:Nat}(hv:v < n) (h0:s.num v=0) (hx:(g x.1)[x.2]? = some v) :
  Inv n g (visit { s with steps:=(x.1,x.2+1)::r } v):=by
 have hvw:v∉s.wa:=fun hc=>by have:=h.wa3 v hc;omega
 have hne:∀ {u:Nat},u∈s.wa→u≠v:=fun hu e=>hvw (e ▸ hu)
 have hnum:∀ {u:Nat},u≠v→upd s.num v (s.met+1) u=s.num u:=fun hu=>upd_ne hu
 have hxs:x∈s.steps:=by rw [e];exact List.mem_cons_self
 have hxw:=(h.st2 x hxs).1
 have hmem:∀ {y:Nat × Nat},y∈(x.1,x.2+1)::r→∃ y'∈s.steps,y'.1=y.1:=by
  intro y hy
  rcases List.mem_cons.1 hy with rfl | hy
  ·exact ⟨x,hxs,rfl⟩
  ·exact ⟨y,by rw [e];exact List.mem_cons_of_mem _ hy,rfl⟩
 have hmem':∀ {y:Nat × Nat},y∈s.steps→∃ y'∈(x.1,x.2+1)::r,y'.1=y.1:=by
  intro y hy
  rw [e] at hy
  rcases List.mem_cons.1 hy with rfl | hy
  ·exact ⟨_,List.mem_cons_self,rfl⟩
  ·exact ⟨y,List.mem_cons_of_mem _ hy,rfl⟩
 have hyv:∀ {y:Nat × Nat},y∈(x.1,x.2+1)::r→y.1≠v:=by
  intro y hy
  obtain ⟨y',h1,h2⟩:=hmem hy
  rw [← h2]
  exact hne (h.st2 y' h1).1
 -- owners of the elder ones
 have hown:∀ {y:Nat × Nat}{u:Nat},u≠v→ownr (visit { s with steps:=(x.1,x.2+1)::r } v) y u→∃ y',ownr s y' u∧y'.1=y.1:=by
  rintro y u hu ⟨h1,h2,h3⟩
  simp only [visit] at h1 h2 h3
  rcases List.mem_cons.1 h1 with rfl | h1
  ·rw [upd_self,hnum hu] at h2
   have:=h.met u
   omega
  ·obtain ⟨y',h4,h5⟩:=hmem h1
   refine ⟨y',⟨h4,?_,?_⟩,h5⟩
   ·rw [hnum (hyv h1),hnum hu] at h2
    rw [h5]
    exact h2
   ·intro z hz hzn
    obtain ⟨z',h6,h7⟩:=hmem' hz
    have:=h3 z' (List.mem_cons_of_mem _ h6)
    rw [hnum (hyv h6),hnum hu,hnum (hyv h1),h7] at this
    rw [h5]
    exact this hzn
 have hseen:∀ {u k:Nat},u≠v→seen (visit { s with steps:=(x.1,x.2+1)::r } v) u k→seen s u k∨(u=x.1∧k=x.2):=by
  rintro u k hu ⟨h1,h2⟩
  simp only [visit] at h1 h2
  rw [hnum hu] at h1
  by_cases hc:u=x.1∧k=x.2
  ·exact .inr hc
  ·refine .inl ⟨h1,?_⟩
   intro y hy hyu
   rw [e] at hy
   rcases List.mem_cons.1 hy with rfl | hy
   ·have:=h2 (y.1,y.2+1) (List.mem_cons_of_mem _ List.mem_cons_self) hyu
    simp only at this
    have hne:k≠y.2:=fun e=>hc ⟨hyu.symm,e⟩
    omega
   ·exact h2 y (List.mem_cons_of_mem _ (List.mem_cons_of_mem _ hy)) hyu
 have hdn:∀ {u:Nat},upd s.num v (s.met+1) u≠0→u∉v::s.wa→s.num u≠0∧u∉s.wa∧u≠v:=by
  intro u h1 h2
  rw [List.mem_cons,not_or] at h2
  rw [hnum h2.1] at h1
  exact ⟨h1,h2.2,h2.1⟩
 refine ⟨?_,?_,?_,?_,?_,?_,?_,?_,?_,?_,?_,?_,?_,?_,?_,?_,?_,?_,?_,?_⟩
 ·-- wa1
  show (v::s.wa).Pairwise _
  rw [List.pairwise_cons]
  refine ⟨fun u hu=>?_,h.wa1.imp_of_mem fun {a b} ha hb hab=>?_⟩
  ·show upd s.num v (s.met+1) u < upd s.num v (s.met+1) v
   rw [upd_self,hnum (hne hu)]
   have:=h.met u
   omega
  ·show upd s.num v (s.met+1) b < upd s.num v (s.met+1) a
   rw [hnum (hne ha),hnum (hne hb)]
   exact hab
 ·intro u
  show upd s.wt v true u=true↔u∈v::s.wa
  rw [List.mem_cons]
  by_cases hu:u=v
  ·subst hu;simp [upd_self]
  ·rw [upd_ne hu,h.wa2];simp [hu]
 ·intro u hu
  show 0 < upd s.num v (s.met+1) u
  rcases List.mem_cons.1 hu with rfl | hu
  ·rw [upd_self];omega
  ·rw [hnum (hne hu)];exact h.wa3 u hu
 ·intro u hu
  by_cases hc:u=v
  ·subst hc;exact hv
  ·exact h.lt u (by have:upd s.num v (s.met+1) u≠0:=hu;rwa [hnum hc] at this)
 ·intro u
  show upd s.num v (s.met+1) u≤s.met+1
  by_cases hc:u=v
  ·subst hc;rw [upd_self];exact Nat.le_refl _
  ·rw [hnum hc];have:=h.met u;omega
 ·-- st1
  show ((v,0)::(x.1,x.2+1)::r).Pairwise _
  have h1:=h.st1
  rw [e,List.pairwise_cons] at h1
  rw [List.pairwise_cons,List.pairwise_cons]
  refine ⟨fun y hy=>?_,fun y hy=>?_,h1.2.imp_of_mem fun {a b} ha hb hab=>?_⟩
  ·show upd s.num v (s.met+1) y.1 < upd s.num v (s.met+1) v
   rw [upd_self,hnum (hyv hy)]
   have:=h.met y.1
   omega
  ·show upd s.num v (s.met+1) y.1 < upd s.num v (s.met+1) x.1
   rw [hnum (hyv (List.mem_cons_of_mem _ hy)),hnum (hne hxw)]
   exact h1.1 y hy
  ·show upd s.num v (s.met+1) b.1 < upd s.num v (s.met+1) a.1
   rw [hnum (hyv (List.mem_cons_of_mem _ ha)),hnum (hyv (List.mem_cons_of_mem _ hb))]
   exact hab
 ·intro y hy
  rcases List.mem_cons.1 hy with rfl | hy
  ·exact ⟨List.mem_cons_self,Nat.zero_le _⟩
  ·rcases List.mem_cons.1 hy with rfl | hy
   ·exact ⟨List.mem_cons_of_mem _ hxw,(List.getElem?_eq_some_iff.1 hx).1⟩
   ·have:=h.st2 y (by rw [e];exact List.mem_cons_of_mem _ hy)
    exact ⟨List.mem_cons_of_mem _ this.1,this.2⟩
 ·-- seg
  intro u hu
  rcases List.mem_cons.1 hu with rfl | hu
  ·refine ⟨(u,0),List.mem_cons_self,Nat.le_refl _,fun y hy _=>?_⟩
   show upd s.num u (s.met+1) y.1≤upd s.num u (s.met+1) u
   rcases List.mem_cons.1 hy with rfl | hy
   ·exact Nat.le_refl _
   ·rw [upd_self,hnum (hyv hy)]
    have:=h.met y.1
    omega
  ·obtain ⟨y,h1,h2,h3⟩:=h.seg u hu
   obtain ⟨y',h4,h5⟩:=hmem' h1
   refine ⟨y',List.mem_cons_of_mem _ h4,?_,?_⟩
   ·show upd s.num v (s.met+1) y'.1≤upd s.num v (s.met+1) u
    rw [hnum (hyv h4),hnum (hne hu),h5]
    exact h2
   ·intro z hz hzn
    have hzn':upd s.num v (s.met+1) z.1≤upd s.num v (s.met+1) u:=hzn
    show upd s.num v (s.met+1) z.1≤upd s.num v (s.met+1) y'.1
    rw [hnum (hyv h4),h5]
    rcases List.mem_cons.1 hz with rfl | hz
    ·rw [upd_self,hnum (hne hu)] at hzn'
     have:=h.met u
     omega
    ·rw [hnum (hyv hz)]
     rw [hnum (hyv hz),hnum (hne hu)] at hzn'
     obtain ⟨z',h6,h7⟩:=hmem hz
     rw [← h7] at hzn' ⊢
     exact h3 z' h6 hzn'
 ·-- down
  intro y hy u hu hyu
  have hyu':upd s.num v (s.met+1) y.1≤upd s.num v (s.met+1) u:=hyu
  rcases List.mem_cons.1 hy with rfl | hy
  ·rcases List.mem_cons.1 hu with rfl | hu
   ·exact .refl _
   ·rw [upd_self,hnum (hne hu)] at hyu'
    have:=h.met u
    omega
  ·obtain ⟨y',h1,h2⟩:=hmem hy
   rw [← h2]
   rcases List.mem_cons.1 hu with rfl | hu
   ·have:=h.down y' h1 x.1 hxw (h.top e h1)
    exact this.tail (List.mem_of_getElem? hx)
   ·rw [hnum (hyv hy),hnum (hne hu),← h2] at hyu'
    exact h.down y' h1 u hu hyu'
 ·-- up
  intro u hu y hy
  rcases List.mem_cons.1 hu with rfl | hu
  ·have:y=(u,0):=by
    rcases List.mem_cons.1 hy.1 with h1 | h1
    ·exact h1
    ·exfalso
     have:=hy.2.2 (u,0) List.mem_cons_self (Nat.le_refl _)
     have h2:upd s.num u (s.met+1) u≤upd s.num u (s.met+1) y.1:=this
     rw [upd_self,hnum (hyv h1)] at h2
     have:=h.met y.1
     omega
   rw [this]
   exact .refl _
  ·obtain ⟨y',h1,h2⟩:=hown (hne hu) hy
   rw [← h2]
   exact h.up u hu y' h1
 ·-- low1
  intro y hy
  show upd s.low v (s.met+1) y.1≤upd s.num v (s.met+1) y.1∧∃ w∈v::s.wa,upd s.low v (s.met+1) y.1=upd s.num v (s.met+1) w∧Rch (Eg g) y.1 w
  rcases List.mem_cons.1 hy with rfl | hy
  ·exact ⟨by rw [upd_self,upd_self];exact Nat.le_refl _,v,List.mem_cons_self,by rw [upd_self,upd_self],.refl _⟩
  ·obtain ⟨y',h1,h2⟩:=hmem hy
   obtain ⟨h3,w,h4,h5,h6⟩:=h.low1 y' h1
   rw [upd_ne (hyv hy),hnum (hyv hy),← h2]
   exact ⟨h3,w,List.mem_cons_of_mem _ h4,by rw [hnum (hne h4)];exact h5,h6⟩
 ·-- proc
  intro u k w hs hw
  show upd s.num v (s.met+1) w≠0
  by_cases hwv:w=v
  ·subst hwv;rw [upd_self];omega
  rw [hnum hwv]
  by_cases huv:u=v
  ·subst huv
   have:=hs.2 (u,0) List.mem_cons_self rfl
   simp at this
  ·rcases hseen huv hs with h1 | ⟨rfl,rfl⟩
   ·exact h.proc u k w h1 hw
   ·rw [hx] at hw
    cases hw
    exact absurd rfl hwv
 ·-- low2
  intro u hu y hy k w hs hw hww
  show upd s.low v (s.met+1) y.1≤upd s.num v (s.met+1) w
  rcases List.mem_cons.1 hu with rfl | hu
  ·have:=hs.2 (u,0) List.mem_cons_self rfl
   simp at this
  ·obtain ⟨y',h1,h2⟩:=hown (hne hu) hy
   have hyne:y.1≠v:=by rw [← h2];exact hne (h.st2 y' h1.1).1
   rw [upd_ne hyne,← h2]
   rcases List.mem_cons.1 hww with rfl | hww
   ·rw [upd_self]
    have:=(h.low1 y' h1.1).1
    have:=h.met y'.1
    omega
   ·rw [hnum (hne hww)]
    rcases hseen (hne hu) hs with h3 | ⟨rfl,rfl⟩
    ·exact h.low2 u hu y' h1 k w h3 hw hww
    ·rw [hx] at hw
     cases hw
     exact absurd hww hvw
 ·-- done
  intro u h1 h2 w hw
  obtain ⟨h3,h4,h5⟩:=hdn h1 h2
  obtain ⟨h6,h7⟩:=h.done u h3 h4 w hw
  have hwv:w≠v:=fun e=>h6 (by rw [e];exact h0)
  exact ⟨by show upd s.num v (s.met+1) w≠0;rw [hnum hwv];exact h6,by rw [show (visit { s with steps:=(x.1,x.2+1)::r } v).wa=v::s.wa from rfl,List.mem_cons,not_or];exact ⟨hwv,h7⟩⟩
 ·intro u w h1 h2 h3 h4
  obtain ⟨a1,a2,a3⟩:=hdn h1 h2
  obtain ⟨b1,b2,b3⟩:=hdn h3 h4
  exact h.cls u w a1 a2 b1 b2
 ·intro u h1 h2
  obtain ⟨a1,a2,a3⟩:=hdn h1 h2
  exact h.cnt u a1 a2
 ·intro p hp
  obtain ⟨u,h1,h2,h3⟩:=h.full p hp
  have huv:u≠v:=fun e=>h1 (by rw [e];exact h0)
  exact ⟨u,by show upd s.num v (s.met+1) u≠0;rw [hnum huv];exact h1,by show u∉v::s.wa;rw [List.mem_cons,not_or];exact ⟨huv,h2⟩,h3⟩
 ·show s.parts+(v::s.wa).length≤s.met+1
  have:=h.cle
  rw [List.length_cons]
  omega
 ·intro a c h1 h2 hc
  obtain ⟨a1,a2,a3⟩:=hdn h1 h2
  exact h.ord a c a1 a2 hc
 ·show unv (upd s.num v (s.met+1)) n+(s.met+1)=n
  have h1:=unv_upd (k:=s.met+1) h0 (by omega) hv
  have h2:=h.unv
  omega
theorem Inv.nowait {s:St}(h:Inv n g s) (e:s.steps = []):s.wa = []:=by
 cases hw:s.wa with
 | nil=>rfl
 | cons v l=>
  obtain ⟨x,hx,_⟩:=h.seg v (by rw [hw];exact List.mem_cons_self)
  rw [e] at hx
  cases hx
theorem visit_first {s:St}(h:Inv n g s) (e:s.steps = []) {v:Nat}(hv:v < n) (h0:s.num v=0):Inv n g (visit s v):=by
 have hw:=h.nowait e
 have hnum:∀ {u:Nat},u≠v→upd s.num v (s.met+1) u=s.num u:=fun hu=>upd_ne hu
 have hdn:∀ {u:Nat},upd s.num v (s.met+1) u≠0→u∉v::s.wa→s.num u≠0∧u∉s.wa∧u≠v:=by
  intro u h1 h2
  rw [List.mem_cons,not_or] at h2
  rw [hnum h2.1] at h1
  exact ⟨h1,h2.2,h2.1⟩
 have hst:(visit s v).steps = [(v,0)]:=by simp [visit,e]
 have hwa:(visit s v).wa = [v]:=by simp [visit,hw]
 have own:∀ {y:Nat × Nat}{u:Nat},ownr (visit s v) y u→y=(v,0):=by
  intro y u hy
  have:=hy.1
  rw [hst] at this
  exact List.mem_singleton.1 this
 refine ⟨?_,?_,?_,?_,?_,?_,?_,?_,?_,?_,?_,?_,?_,?_,?_,?_,?_,?_,?_,?_⟩
 ·rw [hwa];simp
 ·intro u
  rw [hwa]
  show upd s.wt v true u=true↔u ∈ [v]
  by_cases hu:u=v
  ·subst hu;simp [upd_self]
  ·rw [upd_ne hu,h.wa2,hw];simp [hu]
 ·intro u hu
  rw [hwa] at hu
  obtain rfl:=List.mem_singleton.1 hu
  show 0 < upd s.num u (s.met+1) u
  rw [upd_self];omega
 ·intro u hu
  by_cases hc:u=v
  ·subst hc;exact hv
  ·exact h.lt u (by have:upd s.num v (s.met+1) u≠0:=hu;rwa [hnum hc] at this)
 ·intro u
  show upd s.num v (s.met+1) u≤s.met+1
  by_cases hc:u=v
  ·subst hc;rw [upd_self];exact Nat.le_refl _
  ·rw [hnum hc];have:=h.met u;omega
 ·rw [hst];simp
 ·intro y hy
  rw [hst] at hy
  obtain rfl:=List.mem_singleton.1 hy
  rw [hwa]
  exact ⟨List.mem_cons_self,Nat.zero_le _⟩
 ·intro u hu
  rw [hwa] at hu
  obtain rfl:=List.mem_singleton.1 hu
  refine ⟨(u,0),by rw [hst];exact List.mem_cons_self,Nat.le_refl _,fun y hy _=>?_⟩
  rw [hst] at hy
  obtain rfl:=List.mem_singleton.1 hy
  exact Nat.le_refl _
 ·intro y hy u hu _
  rw [hst] at hy
  obtain rfl:=List.mem_singleton.1 hy
  rw [hwa] at hu
  obtain rfl:=List.mem_singleton.1 hu
  exact .refl _
 ·intro u hu y hy
  obtain rfl:=own hy
  rw [hwa] at hu
  obtain rfl:=List.mem_singleton.1 hu
  exact .refl _
 ·intro y hy
  rw [hst] at hy
  obtain rfl:=List.mem_singleton.1 hy
  show upd s.low v (s.met+1) v≤upd s.num v (s.met+1) v∧∃ w∈(visit s v).wa,upd s.low v (s.met+1) v=upd s.num v (s.met+1) w∧Rch (Eg g) v w
  rw [hwa]
  exact ⟨by rw [upd_self,upd_self];exact Nat.le_refl _,v,List.mem_cons_self,by rw [upd_self,upd_self],.refl _⟩
 ·intro u k w hs hw'
  show upd s.num v (s.met+1) w≠0
  by_cases hwv:w=v
  ·subst hwv;rw [upd_self];omega
  rw [hnum hwv]
  by_cases huv:u=v
  ·subst huv
   have:=hs.2 (u,0) (by rw [hst];exact List.mem_cons_self) rfl
   simp at this
  ·refine h.proc u k w ⟨?_,?_⟩ hw'
   ·have:=hs.1
    have h1:upd s.num v (s.met+1) u≠0:=this
    rwa [hnum huv] at h1
   ·rw [e];simp
 ·intro u hu y hy k w hs
  rw [hwa] at hu
  obtain rfl:=List.mem_singleton.1 hu
  have:=hs.2 (u,0) (by rw [hst];exact List.mem_cons_self) rfl
  simp at this
 ·intro u h1 h2 w hw'
  obtain ⟨h3,h4,h5⟩:=hdn h1 h2
  obtain ⟨h6,h7⟩:=h.done u h3 h4 w hw'
  have hwv:w≠v:=fun e=>h6 (by rw [e];exact h0)
  exact ⟨by show upd s.num v (s.met+1) w≠0;rw [hnum hwv];exact h6,by rw [show (visit s v).wa=v::s.wa from rfl,List.mem_cons,not_or];exact ⟨hwv,h7⟩⟩
 ·intro u w h1 h2 h3 h4
  obtain ⟨a1,a2,a3⟩:=hdn h1 h2
  obtain ⟨b1,b2,b3⟩:=hdn h3 h4
  exact h.cls u w a1 a2 b1 b2
 ·intro u h1 h2
  obtain ⟨a1,a2,a3⟩:=hdn h1 h2
  exact h.cnt u a1 a2
 ·intro p hp
  obtain ⟨u,h1,h2,h3⟩:=h.full p hp
  have huv:u≠v:=fun e=>h1 (by rw [e];exact h0)
  exact ⟨u,by show upd s.num v (s.met+1) u≠0;rw [hnum huv];exact h1,by show u∉v::s.wa;rw [List.mem_cons,not_or];exact ⟨huv,h2⟩,h3⟩
 ·show s.parts+(v::s.wa).length≤s.met+1
  have:=h.cle
  rw [List.length_cons]
  omega
 ·intro a c h1 h2 hc
  obtain ⟨a1,a2,a3⟩:=hdn h1 h2
  exact h.ord a c a1 a2 hc
 ·show unv (upd s.num v (s.met+1)) n+(s.met+1)=n
  have h1:=unv_upd (k:=s.met+1) h0 (by omega) hv
  have h2:=h.unv
  omega
def look (s:St) (x:Nat × Nat) (r:List (Nat × Nat)) (u:Nat):St:={ s with steps:=(x.1,x.2+1)::r,low:=if s.wt u then upd s.low x.1 (min (s.low x.1) (s.num u)) else s.low }
theorem look_ok {s:St}{x:Nat × Nat}{r:List (Nat × Nat)}(h:Inv n g s) (e:s.steps=x::r) {u:Nat}(h0:s.num u≠0) (hx:(g x.1)[x.2]? = some u):Inv n g (look s x r u):=by
 have hxs:x∈s.steps:=by rw [e];exact List.mem_cons_self
 have hxw:=(h.st2 x hxs).1
 have hnr:∀ {y:Nat × Nat},y∈r→y.1≠x.1:=by
  intro y hy he
  have h1:=h.st1
  rw [e,List.pairwise_cons] at h1
  have:=h1.1 y hy
  rw [he] at this
  omega
 have hmem:∀ {y:Nat × Nat},y∈(x.1,x.2+1)::r→∃ y'∈s.steps,y'.1=y.1:=by
  intro y hy
  rcases List.mem_cons.1 hy with rfl | hy
  ·exact ⟨x,hxs,rfl⟩
  ·exact ⟨y,by rw [e];exact List.mem_cons_of_mem _ hy,rfl⟩
 have hmem':∀ {y:Nat × Nat},y∈s.steps→∃ y'∈(x.1,x.2+1)::r,y'.1=y.1:=by
  intro y hy
  rw [e] at hy
  rcases List.mem_cons.1 hy with rfl | hy
  ·exact ⟨_,List.mem_cons_self,rfl⟩
  ·exact ⟨y,List.mem_cons_of_mem _ hy,rfl⟩
 have hown:∀ {y:Nat × Nat}{w:Nat},ownr (look s x r u) y w→∃ y',ownr s y' w∧y'.1=y.1:=by
  rintro y w ⟨h1,h2,h3⟩
  obtain ⟨y',h4,h5⟩:=hmem h1
  refine ⟨y',⟨h4,by rw [h5];exact h2,fun z hz hzn=>?_⟩,h5⟩
  obtain ⟨z',h6,h7⟩:=hmem' hz
  have:=h3 z' h6
  rw [h7] at this
  rw [h5]
  exact this hzn
 have hseen:∀ {w k:Nat},seen (look s x r u) w k→seen s w k∨(w=x.1∧k=x.2):=by
  rintro w k ⟨h1,h2⟩
  by_cases hc:w=x.1∧k=x.2
  ·exact .inr hc
  ·refine .inl ⟨h1,?_⟩
   intro y hy hyu
   rw [e] at hy
   rcases List.mem_cons.1 hy with rfl | hy
   ·have:=h2 (y.1,y.2+1) List.mem_cons_self hyu
    simp only at this
    have hne:k≠y.2:=fun e=>hc ⟨hyu.symm,e⟩
    omega
   ·exact h2 y (List.mem_cons_of_mem _ hy) hyu
 have hlow:∀ v,(look s x r u).low v≤s.low v:=by
  intro v
  show (if s.wt u then upd s.low x.1 (min (s.low x.1) (s.num u)) else s.low) v≤_
  split
  ·by_cases hv:v=x.1
   ·subst hv;rw [upd_self];exact Nat.min_le_left _ _
   ·rw [upd_ne hv];exact Nat.le_refl _
  ·exact Nat.le_refl _
 have hlow':u∈s.wa→(look s x r u).low x.1≤s.num u:=by
  intro hu
  show (if s.wt u then upd s.low x.1 (min (s.low x.1) (s.num u)) else s.low) x.1≤_
  rw [if_pos ((h.wa2 u).2 hu),upd_self]
  exact Nat.min_le_right _ _
 refine ⟨h.wa1,h.wa2,h.wa3,h.lt,h.met,?_,?_,?_,?_,?_,?_,?_,?_,h.done,h.cls,h.cnt,h.full,h.cle,h.ord,h.unv⟩
 ·have h1:=h.st1
  rw [e,List.pairwise_cons] at h1
  show ((x.1,x.2+1)::r).Pairwise _
  rw [List.pairwise_cons]
  exact h1
 ·intro y hy
  rcases List.mem_cons.1 hy with rfl | hy
  ·exact ⟨hxw,(List.getElem?_eq_some_iff.1 hx).1⟩
  ·exact h.st2 y (by rw [e];exact List.mem_cons_of_mem _ hy)
 ·intro v hv
  obtain ⟨y,h1,h2,h3⟩:=h.seg v hv
  obtain ⟨y',h4,h5⟩:=hmem' h1
  refine ⟨y',h4,by rw [h5];exact h2,fun z hz hzn=>?_⟩
  obtain ⟨z',h6,h7⟩:=hmem hz
  have:=h3 z' h6
  rw [h7] at this
  rw [h5]
  exact this hzn
 ·intro y hy v hv hyv
  obtain ⟨y',h1,h2⟩:=hmem hy
  rw [← h2]
  exact h.down y' h1 v hv (by rw [h2];exact hyv)
 ·intro v hv y hy
  obtain ⟨y',h1,h2⟩:=hown hy
  rw [← h2]
  exact h.up v hv y' h1
 ·intro y hy
  obtain ⟨y',h1,h2⟩:=hmem hy
  obtain ⟨h3,w,h4,h5,h6⟩:=h.low1 y' h1
  rw [h2] at h3 h5 h6
  refine ⟨Nat.le_trans (hlow _) h3,?_⟩
  by_cases hc:s.wt u=true∧y.1=x.1∧s.num u < s.low x.1
  ·refine ⟨u,(h.wa2 u).1 hc.1,?_,?_⟩
   ·show (if s.wt u then upd s.low x.1 (min (s.low x.1) (s.num u)) else s.low) y.1=s.num u
    rw [if_pos hc.1,hc.2.1,upd_self]
    omega
   ·rw [hc.2.1]
    exact .one (List.mem_of_getElem? hx)
  ·refine ⟨w,h4,?_,h6⟩
   show (if s.wt u then upd s.low x.1 (min (s.low x.1) (s.num u)) else s.low) y.1=s.num w
   rw [← h5]
   split
   ·rename_i hu
    by_cases hy':y.1=x.1
    ·rw [hy',upd_self]
     have:¬ s.num u < s.low x.1:=fun hl=>hc ⟨hu,hy',hl⟩
     omega
    ·rw [upd_ne hy']
   ·rfl
 ·intro v k w hs hw
  rcases hseen hs with h1 | ⟨rfl,rfl⟩
  ·exact h.proc v k w h1 hw
  ·rw [hx] at hw
   cases hw
   exact h0
 ·intro v hv y hy k w hs hw hww
  obtain ⟨y',h1,h2⟩:=hown hy
  rcases hseen hs with h3 | ⟨rfl,rfl⟩
  ·have:=h.low2 v hv y' h1 k w h3 hw hww
   rw [h2] at this
   exact Nat.le_trans (hlow _) this
  ·rw [hx] at hw
   cases hw
   have:y'=x:=ownr.uniq h h1 (h.selfown hxs)
   rw [← h2,this]
   exact hlow' hww
def pop (s:St) (x:Nat × Nat) (r:List (Nat × Nat)):St:={ s with steps:=r,low:=match r with | []=>s.low | y::_=>upd s.low y.1 (min (s.low y.1) (s.low x.1)) }
theorem Inv.below {s:St}{x:Nat × Nat}{r:List (Nat × Nat)}(h:Inv n g s) (e:s.steps=x::r) {y:Nat × Nat}(hy:y∈r):s.num y.1 < s.num x.1:=by
 have h1:=h.st1
 rw [e,List.pairwise_cons] at h1
 exact h1.1 y hy
theorem pop_ok {s:St}{x:Nat × Nat}{r:List (Nat × Nat)}(h:Inv n g s) (e:s.steps=x::r) (hf:x.2=(g x.1).length) (hl:s.low x.1≠s.num x.1):r ≠ []∧Inv n g (pop s x r):=by
 have hxs:x∈s.steps:=by rw [e];exact List.mem_cons_self
 have hxw:=(h.st2 x hxs).1
 obtain ⟨l1,w0,l2,l3,l4⟩:=h.low1 x hxs
 have hlt:s.num w0 < s.num x.1:=by omega
 obtain ⟨y0,hy0⟩:=h.seg w0 l2
 have hy0r:y0∈r:=by
  have:=hy0.1
  rw [e] at this
  rcases List.mem_cons.1 this with rfl | h1
  ·have:=hy0.2.1
   omega
  ·exact h1
 obtain ⟨b,r',hr⟩:∃ b r',r=b::r':=by
  cases r with
  | nil=>cases hy0r
  | cons b r'=>exact ⟨b,r',rfl⟩
 refine ⟨by rw [hr];simp,?_⟩
 have hbs:b∈s.steps:=by rw [e,hr];exact List.mem_cons_of_mem _ List.mem_cons_self
 have hbx:s.num b.1 < s.num x.1:=h.below e (by rw [hr];exact List.mem_cons_self)
 have hrb:∀ {y:Nat × Nat},y∈r→s.num y.1≤s.num b.1:=by
  intro y hy
  have h1:=h.st1
  rw [e,hr,List.pairwise_cons,List.pairwise_cons] at h1
  rw [hr] at hy
  rcases List.mem_cons.1 hy with rfl | hy
  ·exact Nat.le_refl _
  ·exact Nat.le_of_lt (h1.2.1 y hy)
 have hrs:∀ {y:Nat × Nat},y∈r→y∈s.steps:=fun hy=>by rw [e];exact List.mem_cons_of_mem _ hy
 have hrx:∀ {y:Nat × Nat},y∈r→y.1≠x.1:=fun hy he=>by
  have:=h.below e hy
  rw [he] at this
  omega
 -- x leads to b
 have hxb:Rch (Eg g) x.1 b.1:=by
  have h1:=h.up w0 l2 y0 hy0
  have hbw:=(h.st2 b hbs).1
  exact (l4.trans h1).trans (h.down y0 hy0.1 b.1 hbw (hrb hy0r))
 have hlowb:(pop s x r).low b.1=min (s.low b.1) (s.low x.1):=by
  show (match r with | []=>s.low | y::_=>upd s.low y.1 (min (s.low y.1) (s.low x.1))) b.1=_
  rw [hr]
  exact upd_self
 have hlown:∀ {v:Nat},v≠b.1→(pop s x r).low v=s.low v:=by
  intro v hv
  show (match r with | []=>s.low | y::_=>upd s.low y.1 (min (s.low y.1) (s.low x.1))) v=_
  rw [hr]
  exact upd_ne hv
 have hlowle:∀ v,(pop s x r).low v≤s.low v:=by
  intro v
  by_cases hv:v=b.1
  ·rw [hv,hlowb];exact Nat.min_le_left _ _
  ·rw [hlown hv];exact Nat.le_refl _
 -- owners behind the pop
 have hown:∀ {y:Nat × Nat}{v:Nat},ownr (pop s x r) y v→ownr s y v∨(ownr s x v∧y=b):=by
  rintro y v ⟨h1,h2,h3⟩
  have h1':y∈r:=h1
  by_cases hxv:s.num x.1≤s.num v
  ·refine .inr ⟨h.topown e hxv,?_⟩
   have hb1:=h3 b (by show b∈r;rw [hr];exact List.mem_cons_self) (by show s.num b.1≤s.num v;omega)
   have hb2:=hrb h1'
   have:ownr s y y.1:=h.selfown (hrs h1')
   have he:s.num y.1=s.num b.1:=Nat.le_antisymm hb2 hb1
   have:=h.inj (h.st2 y (hrs h1')).1 (h.st2 b hbs).1 he
   exact h.stinj (hrs h1') hbs this
  ·refine .inl ⟨hrs h1',h2,fun z hz hzn=>?_⟩
   rw [e] at hz
   rcases List.mem_cons.1 hz with rfl | hz
   ·exact absurd hzn hxv
   ·exact h3 z hz hzn
 have hseen:∀ {v k u:Nat},seen (pop s x r) v k→(g v)[k]? = some u→seen s v k:=by
  rintro v k u ⟨h1,h2⟩ hu
  refine ⟨h1,fun y hy hyv=>?_⟩
  rw [e] at hy
  rcases List.mem_cons.1 hy with rfl | hy
  ·have:=(List.getElem?_eq_some_iff.1 hu).1
   rw [hf,hyv]
   exact this
  ·exact h2 y hy hyv
 refine ⟨h.wa1,h.wa2,h.wa3,h.lt,h.met,?_,?_,?_,?_,?_,?_,?_,?_,h.done,h.cls,h.cnt,h.full,h.cle,h.ord,h.unv⟩
 ·have h1:=h.st1
  rw [e,List.pairwise_cons] at h1
  exact h1.2
 ·intro y hy
  exact h.st2 y (hrs hy)
 ·intro v hv
  obtain ⟨y,hy⟩:=h.seg v hv
  by_cases hyx:y=x
  ·subst hyx
   refine ⟨b,by show b∈r;rw [hr];exact List.mem_cons_self,?_,fun z hz _=>hrb hz⟩
   have:=hy.2.1
   show s.num b.1≤s.num v
   omega
  ·refine ⟨y,?_,hy.2.1,fun z hz hzn=>hy.2.2 z (hrs hz) hzn⟩
   have:=hy.1
   rw [e] at this
   exact (List.mem_cons.1 this).resolve_left hyx
 ·intro y hy v hv hyv
  exact h.down y (hrs hy) v hv hyv
 ·intro v hv y hy
  rcases hown hy with h1 | ⟨h1,rfl⟩
  ·exact h.up v hv y h1
  ·exact (h.up v hv x h1).trans hxb
 ·intro y hy
  have hy':y∈r:=hy
  obtain ⟨h1,w,h2,h3,h4⟩:=h.low1 y (hrs hy')
  refine ⟨Nat.le_trans (hlowle _) h1,?_⟩
  by_cases hyb:y.1=b.1
  ·by_cases hc:s.low x.1 < s.low b.1
   ·refine ⟨w0,l2,?_,?_⟩
    ·rw [hyb,hlowb]
     show _=s.num w0
     omega
    ·have hb:=h.stinj (hrs hy') hbs hyb
     rw [hb]
     exact (h.down b hbs x.1 hxw (Nat.le_of_lt hbx)).trans l4
   ·refine ⟨w,h2,?_,h4⟩
    rw [hyb] at h3
    rw [hyb,hlowb]
    show _=s.num w
    omega
  ·exact ⟨w,h2,by rw [hlown hyb];exact h3,h4⟩
 ·intro v k u hs hu
  exact h.proc v k u (hseen hs hu) hu
 ·intro v hv y hy k u hs hu huw
  have h2:=hseen hs hu
  rcases hown hy with h1 | ⟨h1,rfl⟩
  ·exact Nat.le_trans (hlowle _) (h.low2 v hv y h1 k u h2 hu huw)
  ·have:=h.low2 v hv x h1 k u h2 hu huw
   rw [hlowb]
   exact Nat.le_trans (Nat.min_le_right _ _) this
def close (s:St) (x:Nat × Nat) (r:List (Nat × Nat)) (pre rest:List Nat):St:=
 { pop s x r with wa:=rest,wt:=fun v=>if v∈pre ++ [x.1] then false else s.wt v,pt:=fun v=>if v∈pre ++ [x.1] then s.parts else s.pt v,parts:=s.parts+1 }
theorem close_ok {s:St}{x:Nat × Nat}{r:List (Nat × Nat)}{pre rest:List Nat}(h:Inv n g s) (e:s.steps=x::r) (hf:x.2=(g x.1).length) (hl:s.low x.1=s.num x.1) (hw:s.wa=pre++x.1::rest):Inv n g (close s x r pre rest):=by
 have hxs:x∈s.steps:=by rw [e];exact List.mem_cons_self
 have hxw:=(h.st2 x hxs).1
 have hrs:∀ {y:Nat × Nat},y∈r→y∈s.steps:=fun hy=>by rw [e];exact List.mem_cons_of_mem _ hy
 have hp:=h.wa1
 rw [hw,List.pairwise_append,List.pairwise_cons] at hp
 obtain ⟨p1,⟨p2,p3⟩,p4⟩:=hp
 have hpre:∀ {v:Nat},v∈pre→s.num x.1 < s.num v:=fun hv=>p4 _ hv _ List.mem_cons_self
 have hrest:∀ {v:Nat},v∈rest→s.num v < s.num x.1:=fun hv=>p2 _ hv
 have hS:∀ {v:Nat},v∈pre ++ [x.1]→v∈s.wa∧s.num x.1≤s.num v:=by
  intro v hv
  rcases List.mem_append.1 hv with hv | hv
  ·exact ⟨by rw [hw];exact List.mem_append.2 (.inl hv),Nat.le_of_lt (hpre hv)⟩
  ·rw [List.mem_singleton.1 hv];exact ⟨hxw,Nat.le_refl _⟩
 have hSr:∀ {v:Nat},v∈s.wa↔v∈pre ++ [x.1]∨v∈rest:=by
  intro v
  rw [hw]
  simp only [List.mem_append,List.mem_cons,List.mem_singleton,List.not_mem_nil,or_false]
  constructor
  ·rintro (h | h | h)
   ·exact .inl (.inl h)
   ·exact .inl (.inr h)
   ·exact .inr h
  ·rintro ((h | h) | h)
   ·exact .inl h
   ·exact .inr (.inl h)
   ·exact .inr (.inr h)
 have hSn:∀ {v:Nat},v∈rest→v∉pre ++ [x.1]:=by
  intro v hv hc
  have h1:=hrest hv
  have h2:=(hS hc).2
  omega
 have hxS:x.1∈pre ++ [x.1]:=List.mem_append.2 (.inr List.mem_cons_self)
 have hrw:∀ {v:Nat},v∈rest→v∈s.wa:=fun hv=>hSr.2 (.inr hv)
 -- low of those below stays
 have hlow:∀ {y:Nat × Nat},y∈r→(close s x r pre rest).low y.1=s.low y.1:=by
  intro y hy
  show (match r with | []=>s.low | z::_=>upd s.low z.1 (min (s.low z.1) (s.low x.1))) y.1=_
  cases r with
  | nil=>cases hy
  | cons b r'=>
   simp only
   by_cases hyb:y.1=b.1
   ·rw [hyb,upd_self]
    have h1:=h.below e (y:=b) List.mem_cons_self
    have h2:=(h.low1 b (hrs List.mem_cons_self)).1
    omega
   ·rw [upd_ne hyb]
 have hown:∀ {y:Nat × Nat}{v:Nat},v∈rest→ownr (close s x r pre rest) y v→ownr s y v:=by
  rintro y v hv ⟨h1,h2,h3⟩
  refine ⟨hrs h1,h2,fun z hz hzn=>?_⟩
  rw [e] at hz
  rcases List.mem_cons.1 hz with rfl | hz
  ·have:=hrest hv
   omega
  ·exact h3 z hz hzn
 have hseen:∀ {v k u:Nat},seen (close s x r pre rest) v k→(g v)[k]? = some u→seen s v k:=by
  rintro v k u ⟨h1,h2⟩ hu
  refine ⟨h1,fun y hy hyv=>?_⟩
  rw [e] at hy
  rcases List.mem_cons.1 hy with rfl | hy
  ·have:=(List.getElem?_eq_some_iff.1 hu).1
   rw [hf,hyv]
   exact this
  ·exact h2 y hy hyv
 -- edges out of the part
 have hfin:∀ {v:Nat},v∈pre ++ [x.1]→∀ k,k < (g v).length→seen s v k:=by
  intro v hv k hk
  obtain ⟨h1,h2⟩:=hS hv
  refine ⟨by have:=h.wa3 v h1;omega,fun y hy hyv=>?_⟩
  rw [e] at hy
  rcases List.mem_cons.1 hy with rfl | hy
  ·rw [hf,hyv];exact hk
  ·have:=h.below e hy
   rw [hyv] at this
   omega
 have hout:∀ {v u:Nat},v∈pre ++ [x.1]→u∈g v→s.num u≠0∧u∉rest:=by
  intro v u hv hu
  obtain ⟨k,hk⟩:=List.getElem?_of_mem hu
  have hsn:=hfin hv k (List.getElem?_eq_some_iff.1 hk).1
  refine ⟨h.proc v k u hsn hk,fun hur=>?_⟩
  obtain ⟨h1,h2⟩:=hS hv
  have:=h.low2 v h1 x (h.topown e h2) k u hsn hk (hrw hur)
  have:=hrest hur
  omega
 have hdn:∀ {v:Nat},s.num v≠0→v∉rest→v∈pre ++ [x.1]∨v∉s.wa:=by
  intro v h1 h2
  by_cases hc:v∈s.wa
  ·exact .inl ((hSr.1 hc).resolve_right h2)
  ·exact .inr hc
 have hcl:∀ {u v:Nat},Rch (Eg g) u v→(s.num u≠0∧u∉s.wa)→s.num v≠0∧v∉s.wa:=by
  intro u v huv hu
  exact huv.closed (C:=fun a=>s.num a≠0∧a∉s.wa) (fun a b ha hab=>h.done a ha.1 ha.2 b hab) hu
 have hSx:∀ {v:Nat},v∈pre ++ [x.1]→Rch (Eg g) x.1 v∧Rch (Eg g) v x.1:=by
  intro v hv
  obtain ⟨h1,h2⟩:=hS hv
  exact ⟨h.down x hxs v h1 h2,h.up v h1 x (h.topown e h2)⟩
 have ptS:∀ {v:Nat},v∈pre ++ [x.1]→(close s x r pre rest).pt v=s.parts:=fun hv=>if_pos hv
 have ptN:∀ {v:Nat},v∉s.wa→(close s x r pre rest).pt v=s.pt v:=fun hv=>if_neg fun hc=>hv (hS hc).1
 refine ⟨p3,?_,?_,h.lt,h.met,?_,?_,?_,?_,?_,?_,?_,?_,?_,?_,?_,?_,?_,?_,h.unv⟩
 ·intro v
  show (if v∈pre ++ [x.1] then false else s.wt v)=true↔v∈rest
  by_cases hc:v∈pre ++ [x.1]
  ·rw [if_pos hc]
   simp only [Bool.false_eq_true,false_iff]
   exact fun hr=>hSn hr hc
  ·rw [if_neg hc,h.wa2,hSr]
   exact ⟨fun h=>h.resolve_left hc,.inr⟩
 ·intro v hv
  exact h.wa3 v (hrw hv)
 ·have h1:=h.st1
  rw [e,List.pairwise_cons] at h1
  exact h1.2
 ·intro y hy
  have hy':y∈r:=hy
  have h1:=h.st2 y (hrs hy')
  refine ⟨?_,h1.2⟩
  have h2:=h.below e hy'
  refine (hSr.1 h1.1).resolve_left fun hc=>?_
  have:=(hS hc).2
  omega
 ·intro v hv
  have hv':v∈rest:=hv
  obtain ⟨y,hy⟩:=h.seg v (hrw hv')
  refine ⟨y,?_,hy.2.1,fun z hz hzn=>hy.2.2 z (hrs hz) hzn⟩
  have h1:=hy.1
  rw [e] at h1
  rcases List.mem_cons.1 h1 with rfl | h1
  ·have:=hy.2.1
   have:=hrest hv'
   omega
  ·exact h1
 ·intro y hy v hv hyv
  exact h.down y (hrs hy) v (hrw hv) hyv
 ·intro v hv y hy
  exact h.up v (hrw hv) y (hown hv hy)
 ·intro y hy
  have hy':y∈r:=hy
  obtain ⟨h1,w,h2,h3,h4⟩:=h.low1 y (hrs hy')
  have hyx:=h.below e hy'
  rw [hlow hy']
  refine ⟨h1,w,?_,h3,h4⟩
  refine (hSr.1 h2).resolve_left fun hc=>?_
  have:=(hS hc).2
  omega
 ·intro v k u hs hu
  exact h.proc v k u (hseen hs hu) hu
 ·intro v hv y hy k u hs hu huw
  have hv':v∈rest:=hv
  have h1:=hown hv' hy
  have hyr:y∈r:=hy.1
  rw [hlow hyr]
  exact h.low2 v (hrw hv') y h1 k u (hseen hs hu) hu (hrw huw)
 ·intro v h1 h2 u hu
  rcases hdn h1 h2 with hc | hc
  ·exact hout hc hu
  ·obtain ⟨h3,h4⟩:=h.done v h1 hc u hu
   exact ⟨h3,fun hr=>h4 (hrw hr)⟩
 ·intro u v h1 h2 h3 h4
  rcases hdn h1 h2 with hu | hu
  ·rcases hdn h3 h4 with hv | hv
   ·rw [ptS hu,ptS hv]
    exact ⟨fun _=>⟨(hSx hu).2.trans (hSx hv).1,(hSx hv).2.trans (hSx hu).1⟩,fun _=>rfl⟩
   ·rw [ptS hu,ptN hv]
    refine ⟨fun hc=>?_,fun hc=>?_⟩
    ·have:=h.cnt v h3 hv
     omega
    ·exact absurd (hS hu).1 (hcl hc.2 ⟨h3,hv⟩).2
  ·rcases hdn h3 h4 with hv | hv
   ·rw [ptN hu,ptS hv]
    refine ⟨fun hc=>?_,fun hc=>?_⟩
    ·have:=h.cnt u h1 hu
     omega
    ·exact absurd (hS hv).1 (hcl hc.1 ⟨h1,hu⟩).2
   ·rw [ptN hu,ptN hv]
    exact h.cls u v h1 hu h3 hv
 ·intro v h1 h2
  show _ < s.parts+1
  rcases hdn h1 h2 with hv | hv
  ·rw [ptS hv];omega
  ·rw [ptN hv]
   have:=h.cnt v h1 hv
   omega
 ·intro p hp
  have hp':p < s.parts+1:=hp
  by_cases hc:p=s.parts
  ·exact ⟨x.1,by have:=h.wa3 _ hxw;show s.num x.1≠0;omega,fun hr=>hSn hr hxS,by rw [ptS hxS];exact hc.symm⟩
  ·obtain ⟨v,h1,h2,h3⟩:=h.full p (by omega)
   exact ⟨v,h1,fun hr=>h2 (hrw hr),by rw [ptN h2];exact h3⟩
 ·show s.parts+1+rest.length≤s.met
  have:=h.cle
  rw [hw,List.length_append,List.length_cons] at this
  omega
 ·intro u v h1 h2 hv
  rcases hdn h1 h2 with hu | hu
  ·rw [ptS hu]
   obtain ⟨a1,a2⟩:=hout hu hv
   rcases hdn a1 a2 with hc | hc
   ·rw [ptS hc];exact Nat.le_refl _
   ·rw [ptN hc];exact Nat.le_of_lt (h.cnt v a1 hc)
  ·rw [ptN hu,ptN (h.done u h1 hu v hv).2]
   exact h.ord u v h1 hu hv
def left (n:Nat) (g:Nat→List Nat) (s:St):Nat:=((List.range n).map fun v=>if s.num v=0 then 2+(g v).length else 0).sum+(s.steps.map fun x=>1+((g x.1).length - x.2)).sum
theorem sum_upd {f:Nat→Nat}{c:Nat→Nat}{v k:Nat}(h0:f v=0) (hk:k≠0):∀ {n:Nat},(v < n→((List.range n).map fun u=>if upd f v k u=0 then c u else 0).sum+c v=((List.range n).map fun u=>if f u=0 then c u else 0).sum)∧(n≤v→((List.range n).map fun u=>if upd f v k u=0 then c u else 0).sum=((List.range n).map fun u=>if f u=0 then c u else 0).sum)
 | 0=>⟨fun h=>by omega,fun _=>rfl⟩
 | n+1=>by
  obtain ⟨i1,i2⟩:=sum_upd (c:=c) h0 hk (n:=n)
  simp only [List.range_succ,List.map_append,List.sum_append,List.map_cons,List.map_nil,List.sum_cons,List.sum_nil,Nat.add_zero]
  refine ⟨fun h=>?_,fun h=>?_⟩
  ·by_cases hv:v=n
   ·subst hv
    rw [i2 (Nat.le_refl _),upd_self,if_neg hk,if_pos h0,Nat.add_zero]
   ·have h1:=i1 (by omega)
    rw [upd_ne (show n≠v by omega)]
    omega
  ·rw [i2 (by omega),upd_ne (show n≠v by omega)]
theorem left_visit {s:St}{v:Nat}(hv:v < n) (h0:s.num v=0):left n g (visit s v)+1=left n g s:=by
 have h1:=(sum_upd (c:=fun v=>2+(g v).length) (k:=s.met+1) h0 (by omega) (n:=n)).1 hv
 unfold left visit
 simp only [List.map_cons,List.sum_cons]
 omega
theorem left_step {s:St}{x:Nat × Nat}{r:List (Nat × Nat)}(e:s.steps=x::r) (hx:x.2 < (g x.1).length):left n g { s with steps:=(x.1,x.2+1)::r } + 1=left n g s:=by
 unfold left
 rw [e]
 simp only [List.map_cons,List.sum_cons]
 omega
theorem left_look {s:St}{x:Nat × Nat}{r:List (Nat × Nat)}{u:Nat}(e:s.steps=x::r) (hx:x.2 < (g x.1).length):left n g (look s x r u)+1=left n g s:=by
 rw [← left_step e hx]
 rfl
theorem left_pop {s:St}{x:Nat × Nat}{r:List (Nat × Nat)}(e:s.steps=x::r):left n g (pop s x r) < left n g s:=by
 unfold left
 rw [e,show (pop s x r).num=s.num from rfl,show (pop s x r).steps=r from rfl]
 simp only [List.map_cons,List.sum_cons]
 omega
theorem left_close {s:St}{x:Nat × Nat}{r:List (Nat × Nat)}{pre rest:List Nat}(e:s.steps=x::r):left n g (close s x r pre rest) < left n g s:=by
 unfold left
 rw [e,show (close s x r pre rest).num=s.num from rfl,show (close s x r pre rest).steps=r from rfl]
 simp only [List.map_cons,List.sum_cons]
 omega
theorem steps_left (s:St):s.steps.length≤left n g s:=by
 have key:∀ l:List (Nat × Nat),l.length≤(l.map fun x=>1+((g x.1).length - x.2)).sum:=by
  intro l
  induction l with
  | nil=>simp
  | cons x l ih=>simp only [List.length_cons,List.map_cons,List.sum_cons];omega
 have:=key s.steps
 unfold left
 omega
theorem left0 {D:Nat}(h:∀ v,(g v).length≤D):left n g st0≤n*(2+D):=by
 have key:∀ m:Nat,((List.range m).map fun v=>if st0.num v=0 then 2+(g v).length else 0).sum≤m*(2+D):=by
  intro m
  induction m with
  | zero=>simp
  | succ m ih=>
   simp only [List.range_succ,List.map_append,List.sum_append,List.map_cons,List.map_nil,List.sum_cons,List.sum_nil,Nat.succ_mul]
   have:st0.num m=0:=rfl
   rw [if_pos this]
   have:=h m
   omega
 unfold left
 have:=key n
 simpa [st0] using this
theorem Inv.wale {s:St}(h:Inv n g s):s.wa.length≤n∧s.parts≤n∧s.met≤n:=by
 have h1:=h.cle
 have h2:=h.unv
 omega
theorem Inv.final {s:St}(h:Inv n g s) (e:s.steps = []) (ha:∀ v,v < n→s.num v≠0):(∀ u v,u < n→v < n→(s.pt u=s.pt v↔Rch (Eg g) u v∧Rch (Eg g) v u))∧(∀ v,v < n→s.pt v < s.parts)∧(∀ p,p < s.parts→∃ v,v < n∧s.pt v=p)∧s.parts≤n∧(∀ u v,u < n→v∈g u→s.pt v≤s.pt u):=by
 have hw:=h.nowait e
 have hn:∀ v,v∉s.wa:=by rw [hw];simp
 refine ⟨fun u v hu hv=>h.cls u v (ha u hu) (hn u) (ha v hv) (hn v),fun v hv=>h.cnt v (ha v hv) (hn v),fun p hp=>?_,?_,?_⟩
 ·obtain ⟨v,h1,_,h3⟩:=h.full p hp
  exact ⟨v,h.lt v h1,h3⟩
 ·have h1:=h.cle
  have h2:=h.unv
  omega
 ·intro u v hu hv
  exact h.ord u v (ha u hu) (hn u) hv
end
end Go.Tar
end
section
namespace Go.Proofs.YtjdhjgfmloaglaaGreatDoor.C7
open Go Go.V Go.Proofs N07 Go.Tar
attribute [local irreducible] Cvt ExtF CallF hrun App MkS
theorem tyI:TyS Tryz.prog 103 3 1 8 (.int .i64 0):=⟨by kernel_rfl,by kernel_rfl,rfl,by decide⟩
theorem tyB:TyS Tryz.prog 187 4 1 1 (.bool false):=⟨by kernel_rfl,by kernel_rfl,rfl,by decide⟩
theorem tyG:TyS Tryz.prog 183 103 1 24 (.slice none 0 0):=⟨by kernel_rfl,by kernel_rfl,rfl,by decide⟩
theorem tyII:TyS Tryz.prog 145 103 1 24 (.slice none 0 0):=⟨by kernel_rfl,by kernel_rfl,rfl,by decide⟩
theorem tyS:TyS Tryz.prog 188 217 2 16 (.agg #[.int .i64 0,.int .i64 0]):=⟨by kernel_rfl,by kernel_rfl,rfl,by decide⟩
def flP (x:Nat × Nat):List Value:=[.int .i64 (x.1:Int),.int .i64 (x.2:Int)]
theorem FlP:Fl flP 2:=⟨fun _=>rfl,fun x v hv=>by
 simp only [flP,List.mem_cons,List.not_mem_nil,or_false] at hv
 rcases hv with rfl | rfl <;> rfl⟩
def flE (x:Int × Int):List Value:=[.int .i64 x.1,.int .i64 x.2]
theorem FlE:Fl flE 2:=⟨fun _=>rfl,fun x v hv=>by
 simp only [flE,List.mem_cons,List.not_mem_nil,or_false] at hv
 rcases hv with rfl | rfl <;> rfl⟩
def inb (N:Nat) (e:Int × Int):Bool:=decide (0≤e.1) && decide (e.1 < (N:Int)) && decide (0≤e.2) && decide (e.2 < (N:Int))
def adj (N:Nat) (es:List (Int × Int)) (v:Nat):List Nat:=es.filterMap fun e=>if inb N e && (e.1.toNat == v) then some e.2.toNat else none
def adjs (N:Nat) (es:List (Int × Int)):List (List Nat):=(List.range N).map (adj N es)
theorem adj_snoc {N v:Nat}{es:List (Int × Int)}{e:Int × Int}:adj N (es ++ [e]) v=if inb N e && (e.1.toNat == v) then adj N es v ++ [e.2.toNat] else adj N es v:=by
 unfold adj
 rw [List.filterMap_append]
 split
 ·rename_i h
  rw [List.filterMap_cons]
  simp only [if_pos h]
  rfl
 ·rename_i h
  rw [List.filterMap_cons]
  simp only [if_neg h]
  exact List.append_nil _
theorem adjs_len {N:Nat}{es:List (Int × Int)}:(adjs N es).length=N:=by simp [adjs]
theorem adjs_get {N v:Nat}{es:List (Int × Int)}(h:v < N):(adjs N es)[v]? = some (adj N es v):=by simp [adjs,h]
theorem map_set {α : Type}{f:Nat→α}{N a:Nat}{x : α}:((List.range N).map f).set a x=(List.range N).map (upd f a x):=by
 apply List.ext_getElem?
 intro i
 by_cases hi:i=a
 ·subst hi
  by_cases h:i < N
  ·rw [List.getElem?_set_self (by simpa using h)]
   simp [h,upd_self]
  ·rw [List.getElem?_eq_none (by simp;omega),List.getElem?_eq_none (by simp;omega)]
 ·rw [List.getElem?_set_ne (Ne.symm hi)]
  by_cases h:i < N
  ·simp [h,upd_ne hi]
  ·rw [List.getElem?_eq_none (by simp;omega),List.getElem?_eq_none (by simp;omega)]
theorem adjs_in {N:Nat}{es:List (Int × Int)}{e:Int × Int}(h:inb N e=true):adjs N (es ++ [e])=(adjs N es).set e.1.toNat (adj N es e.1.toNat ++ [e.2.toNat]):=by
 unfold adjs
 rw [map_set]
 apply List.map_congr_left
 intro v _
 rw [adj_snoc,h,Bool.true_and]
 by_cases hv:v=e.1.toNat
 ·subst hv;simp [upd_self]
 ·rw [upd_ne hv,if_neg (by simpa using Ne.symm hv)]
theorem adjs_out {N:Nat}{es:List (Int × Int)}{e:Int × Int}(h:inb N e=false):adjs N (es ++ [e])=adjs N es:=by
 unfold adjs
 apply List.map_congr_left
 intro v _
 rw [adj_snoc,h,Bool.false_and,if_neg (by simp)]
theorem adj_lt {N v u:Nat}{es:List (Int × Int)}(h:u∈adj N es v):u < N:=by
 unfold adj at h
 obtain ⟨e,_,he⟩:=List.mem_filterMap.1 h
 split at he
 ·rename_i hc
  simp only [Option.some.injEq] at he
  simp only [inb,Bool.and_eq_true,decide_eq_true_eq] at hc
  omega
 ·cases he
theorem adj_le {N v:Nat}{es:List (Int × Int)}:(adj N es v).length≤es.length:=List.length_filterMap_le _ _
section
variable {H:Hp}{K:Value→Hp→Prop}{Z:List PanicEntry→Hp→Prop}
theorem index_ok {s:Sl}{l:List Nat}{v:Nat}(h:Rd flN 1 H s l) (hl:l.length≤1000000000)
  (k:∀ y:Int,(0≤y↔v∈l)→K (.int .i64 y) H):CallF Tryz.prog 172 #[.slice s.a s.n s.c,.int .i64 (v:Int)] H K Z:=by
 refine V172_ok ?_
 unfold V172
 have hn:=h.len
 refine ⟨fun t A m=>∃ j:Nat,A=H∧t=(j:Int)∧j≤l.length∧m=l.length - j∧v∉l.take j,⟨_,0,rfl,rfl,Nat.zero_le _,rfl,by simp⟩,?_⟩
 rintro t A m ⟨j,rfl,rfl,hj,rfl,hno⟩ scr
 refine ⟨fun hlt=>?_,fun hge=>?_⟩
 ·have hlt':j < l.length:=by have:=dlt hlt;omega
  have hx:l[j]? = some l[j]:=List.getElem?_eq_getElem hlt'
  refine h.ix1 FlN (by omega) hx fun ad e=>⟨_,e,fun hy=>?_,fun hy=>?_⟩
  ·have hy':v=l[j]:=by have:=eq_of_beq hy;omega
   exact k _ ⟨fun _=>by rw [hy'];exact List.getElem_mem _,fun _=>by omega⟩
  ·have hy':v≠l[j]:=fun e=>by rw [e] at hy;simp at hy
   rw [wi (by omega)]
   refine ⟨l.length - (j+1),by omega,j+1,rfl,rfl,hlt',rfl,?_⟩
   rw [List.take_succ_eq_append_getElem hlt',List.mem_append,List.mem_singleton,not_or]
   exact ⟨hno,hy'⟩
 ·have hge':=dge hge
  have:l.take j=l:=List.take_of_length_le (by omega)
  rw [this] at hno
  exact k _ ⟨fun h=>by omega,fun h=>absurd h hno⟩
theorem contains_ok {s:Sl}{l:List Nat}{v:Nat}(h:Rd flN 1 H s l) (hl:l.length≤1000000000)
  (k:K (.bool (decide (v∈l))) H):CallF Tryz.prog 143 #[.slice s.a s.n s.c,.int .i64 (v:Int)] H K Z:=by
 refine V143_ok ?_
 unfold V143
 refine index_ok h hl fun y hy=>⟨y,rfl,?_⟩
 have:decide (y≥0)=decide (v∈l):=decide_eq_decide.2 hy
 rw [this]
 exact k
theorem app_in {H0 H4 H5:Hp}{S:Nat→Prop}{R:List It}{EG:TypeId}{s si:Sl}{ss:List Sl}{ls:List (List Nat)}{li:List Nat}{a x b ty:Nat}{K:Sl→Hp→Prop}
  (h:Sym H0 S H4 (rows2 flN EG 3 1 none s ss ls::R)) (hs:ss[a]? = some si) (hl:ls[a]? = some li) (hn:Newb H4 (.cells #[.int .i64 (x:Int)] 3) b H5) (hb:li.length≤1000000000)
  (kk:∀ ap H6,(∀ a∈R,a.ok H6)→(∀ K',(∀ H7 ss',Sym H0 S H7 (rows2 flN EG 3 1 none s ss' (ls.set a (li ++ [x]))::R)→K' H7)→IxA s.a s.n (a:Int) 1 fun ad=>StL ad 0 [.slice ap.a ap.n ap.c] H6 K')→K ap H6) :
  App Tryz.prog #[103,103] ty H5 [.slice si.a si.n si.c,.slice (some ⟨b,0,none⟩) 1 1] K:=by
 have h1:=h.out2 hs hl
 have hr:RowN flN 3 1 H4 si li:=h1.get (k:=0) rfl
 have hn':=hr.len FlN (by decide)
 refine h1.app1 (k:=0) tyI FlN (by decide) hn rfl (by omega) ?_
 intro ap H6 hap h2
 have h2':Sym H0 S H6 (arr flN 3 1 ap (li ++ [x])::rows2 flN EG 3 1 (some a) s ss ls::R):=h2
 refine kk ap H6 (fun c hc=>h2'.ok c (List.mem_cons_of_mem _ (List.mem_cons_of_mem _ hc))) fun K' hK'=>?_
 refine h2'.st2 (k:=1) rfl hs fun H7 h3=>?_
 have h3':Sym H0 S H7 (arr flN 3 1 ap (li ++ [x])::rows2 flN EG 3 1 (some a) s (ss.set a ap) ls::R):=h3
 have hsl:=(List.getElem?_eq_some_iff.1 hs).1
 exact hK' H7 _ (h3'.in2 (List.getElem?_set_self hsl) (List.getElem?_eq_some_iff.1 hl).1)
set_option maxRecDepth 10000 in
theorem made_ok {n:Int}{l:Sl}{es:List (Int × Int)}(h:Rd flE 2 H l es) (hl:es.length≤1000000)
  (k:∀ s ss H',Sym H no H' [rows2 flN 103 3 1 none s ss (adjs (if n < 0∨n > 20000 then 0 else n.toNat) es)]→s.n=(if n < 0∨n > 20000 then 0 else n.toNat)→K (.slice s.a s.n s.c) H') :
  CallF Tryz.prog 141 #[.int .i64 n,.slice l.a l.n l.c] H K Z:=by
 refine V141_ok ?_
 unfold V141
 have hn:=h.len
 have nil:(n < 0∨n > 20000)→K (.slice none 0 0) H:=by
  intro hc
  have:=k ⟨none,0,0⟩ [] H
  rw [if_pos hc] at this
  refine this ⟨Fr.refl _ _,?_,by simp,?_⟩ rfl
  ·intro a ha
   obtain rfl:=List.mem_singleton.1 ha
   exact ⟨⟨Row.nil _ _ _,by intro g o e;cases e⟩,rfl,by simp,by simp,by simp⟩
  ·intro a ha i hi
   obtain rfl:=List.mem_singleton.1 ha
   rcases hi with hi | ⟨j,sj,_,hj,_⟩
   ·exact (own_none rfl hi).elim
   ·simp at hj
 refine ⟨fun A=>A=H∧¬ (n < 0∨n > 20000),?_,fun h0=>nil (.inl (of_decide_eq_true h0)),fun h0=>⟨fun h1=>nil (.inr (of_decide_eq_true h1)),fun h1=>⟨rfl,?_⟩⟩⟩
 ·rintro A ⟨rfl,hc⟩ scr
  rw [if_neg hc] at k
  obtain ⟨N,rfl⟩:∃ N:Nat,n=(N:Int):=⟨n.toNat,by omega⟩
  rw [Int.toNat_natCast] at k
  refine (Sym.start A).make tyG FlS (zt:=⟨none,0,0⟩) rfl rfl (by omega) ?_
  intro mk B hmk _ _ hB
  have h2:Sym A no B [rows2 flN 103 3 1 none mk (List.replicate N ⟨none,0,0⟩) (adjs N [])]:=by
   refine hB.as (k:=0) rfl (fun hok=>⟨hok,by simp [adjs_len],?_,?_,?_⟩) ?_
   ·intro i si li _ hs hli
    have hs':si=⟨none,0,0⟩:=by
     rw [List.getElem?_replicate] at hs
     split at hs <;> simp_all
    have hl':li = []:=by
     have hi:i < N:=by
      have:=(List.getElem?_eq_some_iff.1 hli).1
      rwa [adjs_len] at this
     rw [adjs_get hi] at hli
     simpa [adj] using hli.symm
    subst hs' hl'
    exact ⟨Row.nil _ _ _,by intro g o e;cases e⟩
   ·intro i j si sj _ _ _ hs _ b hb
    rw [List.getElem?_replicate] at hs
    split at hs
    ·cases hs;exact (own_none rfl hb).elim
    ·cases hs
   ·intro i si _ hs b hb
    rw [List.getElem?_replicate] at hs
    split at hs
    ·cases hs;exact (own_none rfl hb).elim
    ·cases hs
   ·rintro i (hi | ⟨j,sj,_,hs,hb⟩)
    ·exact hi
    ·rw [List.getElem?_replicate] at hs
     split at hs
     ·cases hs;exact (own_none rfl hb).elim
     ·cases hs
  refine ⟨fun t C m=>∃ (j:Nat) (ss:List Sl),t=(j:Int)∧j≤es.length∧m=es.length - j∧Sym A no C [rows2 flN 103 3 1 none mk ss (adjs N (es.take j))],⟨_,0,_,rfl,Nat.zero_le _,rfl,h2⟩,?_⟩
  rintro t C m ⟨j,ss,rfl,hj,rfl,hC⟩ scr1
  refine ⟨fun hlt=>?_,fun hge=>?_⟩
  ·have hlt':j < es.length:=by have:=dlt hlt;omega
   have hx:es[j]? = some es[j]:=List.getElem?_eq_getElem hlt'
   have hs1:es.take (j+1)=es.take j ++ [es[j]]:=List.take_succ_eq_append_getElem hlt'
   generalize es[j]=e at hx hs1
   have hcont:∀ (D:Hp) (ss':List Sl),Sym A no D [rows2 flN 103 3 1 none mk ss' (adjs N (es.take (j+1)))] →
     ∃ m2,m2 < es.length - j∧∃ (j':Nat) (ss:List Sl),w64 ((j:Int)+1)=(j':Int)∧j'≤es.length∧m2=es.length - j'∧Sym A no D [rows2 flN 103 3 1 none mk ss (adjs N (es.take j'))]:=by
    intro D ss' hD
    exact ⟨es.length - (j+1),by omega,j+1,ss',wi (by omega),hlt',rfl,hD⟩
   refine (h.more hC.fr).ix (by decide) FlE (by omega) hx fun ad hk e0=>?_
   refine ⟨e.1,e.2,⟨e0,hk 1 _ rfl,trivial⟩,?_⟩
   intro bE D hnD
   have hD:=hC.newb hnD
   refine hD.stbs (k:=0) (i:=0) (vs:=[.int .i64 e.1,.int .i64 e.2]) rfl (by simp) (by simp [Value.oneCell]) ?_
   intro E1 hE
   have hE':Sym A no E1 [blk bE [.int .i64 e.1,.int .i64 e.2] 144,rows2 flN 103 3 1 none mk ss (adjs N (es.take j))]:=hE
   have l0:hcell E1 ⟨bE,0,none⟩=some (.int .i64 e.1):=hE'.ld (k:=0) rfl 0
   have l1:hcell E1 ⟨bE,1,none⟩=some (.int .i64 e.2):=hE'.ld (k:=0) rfl 1
   have out:inb N e=false→∃ m2,m2 < es.length - j∧∃ (j':Nat) (ss:List Sl),w64 ((j:Int)+1)=(j':Int)∧j'≤es.length∧m2=es.length - j'∧Sym A no E1 [rows2 flN 103 3 1 none mk ss (adjs N (es.take j'))]:=by
    intro hi
    refine hcont E1 ss ?_
    rw [hs1,adjs_out hi]
    exact hE'.drop
   refine ⟨_,l0,fun c1=>⟨_,l0,fun c2=>⟨_,l1,fun c3=>⟨_,l1,fun c4=>⟨_,l1,?_⟩,fun c4=>out ?_⟩,fun c3=>out ?_⟩,fun c2=>out ?_⟩,fun c1=>out ?_⟩
   case refine_2=>have:=of_decide_eq_false c4;simp [inb];omega
   case refine_3=>have:=of_decide_eq_false c3;simp [inb];omega
   case refine_4=>have:=of_decide_eq_false c2;simp [inb];omega
   case refine_5=>have:=of_decide_eq_false c1;simp [inb];omega
   have c1':0≤e.1:=of_decide_eq_true c1
   have c2':e.1 < (N:Int):=of_decide_eq_true c2
   have c3':0≤e.2:=of_decide_eq_true c3
   have c4':e.2 < (N:Int):=of_decide_eq_true c4
   have hin:inb N e=true:=by simp [inb];omega
   have hgo:adjs N (es.take (j+1))=(adjs N (es.take j)).set e.1.toNat (adj N (es.take j) e.1.toNat ++ [e.2.toNat]):=by rw [hs1,adjs_in hin]
   obtain ⟨a,ha⟩:∃ a:Nat,e.1=(a:Int):=⟨e.1.toNat,by omega⟩
   obtain ⟨x,hx2⟩:∃ x:Nat,e.2=(x:Int):=⟨e.2.toNat,by omega⟩
   rw [ha,Int.toNat_natCast,hx2,Int.toNat_natCast] at hgo
   rw [ha] at c2' l0
   rw [hx2]
   have haN:a < N:=by omega
   have hok:=(hE'.get (k:=1) rfl:Rows2 flN 103 3 1 none E1 mk ss (adjs N (es.take j)))
   obtain ⟨r1,r2⟩:=hok.rd FlN (by decide)
   have hssl:ss.length=N:=by rw [hok.len,adjs_len]
   have hsi:ss[a]? = some (ss[a]'(by omega)):=List.getElem?_eq_getElem _
   generalize ss[a]'(by omega)=si at hsi
   have hlen:(adj N (es.take j) a).length≤1000000000:=by
    have:=@adj_le N a (es.take j)
    rw [List.length_take] at this
    omega
   have hE2:Sym A no E1 [rows2 flN 103 3 1 none mk ss (adjs N (es.take j)),blk bE [.int .i64 e.1,.int .i64 e.2] 144]:=hE'.re [1,0] (by decide)
   -- the append,and what follows
   have app:∀ (b:Nat) (F:Hp) (K':Sl→Hp→Prop),Newb E1 (.cells #[.int .i64 (x:Int)] 3) b F →
     (∀ ap G,hcell G ⟨bE,0,none⟩=some (.int .i64 (a:Int))→(IxA mk.a mk.n (a:Int) 1 fun ad=>StL ad 0 [.slice ap.a ap.n ap.c] G fun G'=>∃ m2,m2 < es.length - j∧∃ (j':Nat) (ss:List Sl),w64 ((j:Int)+1)=(j':Int)∧j'≤es.length∧m2=es.length - j'∧Sym A no G' [rows2 flN 103 3 1 none mk ss (adjs N (es.take j'))])→K' ap G) →
     App Tryz.prog #[103,103] 103 F [.slice si.a si.n si.c,.slice (some ⟨b,0,none⟩) 1 1] K':=by
    intro b F K' hnF hK'
    refine app_in hE2 hsi (adjs_get haN) hnF hlen fun ap G hG hst=>hK' ap G ?_ (hst _ fun G' ss' hG'=>hcont G' ss' ?_)
    ·have:=Blk.ld (hG _ List.mem_cons_self) 0
     rw [this,← ha]
     rfl
    ·rw [hgo]
     exact hG'.sub (by simp)
   have ix:∀ K':Addr→Prop,(∀ ad,hcell E1 ad=some (.slice si.a si.n si.c)→K' ad)→IxA mk.a mk.n (a:Int) 1 K':=fun K' hK'=>r1.ix1 FlS (by omega) hsi fun ad e=>hK' ad e
   have nw:∀ (b:Nat) (F:Hp),Newb E1 (.cells #[.int .i64 (x:Int)] 3) b F→hcell F ⟨bE,0,none⟩=some (.int .i64 (a:Int)):=fun b F hF=>hF.fr.cell l0 fun h=>h
   have nwi:∀ (b:Nat) (F:Hp) (ad:Addr),Newb E1 (.cells #[.int .i64 (x:Int)] 3) b F→hcell E1 ad=some (.slice si.a si.n si.c)→hcell F ad=some (.slice si.a si.n si.c):=fun b F ad hF h=>hF.fr.cell h fun h=>h
   have ixn:∀ (b:Nat) (F:Hp) (K':Addr→Prop),Newb E1 (.cells #[.int .i64 (x:Int)] 3) b F→(∀ ad,hcell F ad=some (.slice si.a si.n si.c)→K' ad)→IxA mk.a mk.n (a:Int) 1 K':=fun b F K' hF hK'=>ix K' fun ad e=>hK' ad (nwi b F ad hF e)
   refine ⟨⟨_,l0,⟨_,l0,ix _ fun ad1 e1=>⟨⟨si,e1,fun b F hF=>app b F _ hF fun ap G hG hst=>hst⟩,fun b F hF=>⟨si,nwi b F ad1 hF e1,app b F _ hF fun ap G hG hst=>hst⟩⟩⟩,fun b F hF=>⟨_,nw b F hF,ixn b F _ hF fun ad4 e4=>⟨si,e4,app b F _ hF fun ap G hG hst=>hst⟩⟩⟩,
    ⟨_,l0,ix _ fun ad6 e6=>⟨⟨_,l0,⟨si,e6,fun b F hF=>app b F _ hF fun ap G hG hst=>hst⟩,fun b F hF=>⟨si,nwi b F ad6 hF e6,app b F _ hF fun ap G hG hst=>hst⟩⟩,⟨si,e6,⟨_,l0,fun b F hF=>app b F _ hF fun ap G hG hst=>hst⟩,fun b F hF=>⟨⟨_,nw b F hF,app b F _ hF fun ap G hG hst=>hst⟩,app b F _ hF fun ap G hG hst=>⟨_,hG,hst⟩⟩⟩,fun b F hF=>⟨si,nwi b F ad6 hF e6,⟨_,nw b F hF,app b F _ hF fun ap G hG hst=>hst⟩,app b F _ hF fun ap G hG hst=>⟨_,hG,hst⟩⟩⟩⟩,
    fun b F hF=>⟨_,nw b F hF,ixn b F _ hF fun ad14 e14=>⟨si,e14,⟨_,nw b F hF,app b F _ hF fun ap G hG hst=>hst⟩,app b F _ hF fun ap G hG hst=>⟨_,hG,hst⟩⟩⟩⟩
  ·have hge':=dge hge
   have:es.take j=es:=List.take_of_length_le (by omega)
   rw [this] at hC
   have hok:=(hC.get (k:=0) rfl:Rows2 flN 103 3 1 none C mk ss (adjs N es))
   exact k mk ss C hC hmk
 ·have:=of_decide_eq_false h0
  have:=of_decide_eq_false h1
  omega
def mp {α : Type}(N:Nat) (f:Nat→α):List α:=(List.range N).map f
theorem mp_get {α : Type}{N v:Nat}{f:Nat→α}(h:v < N):(mp N f)[v]? = some (f v):=by simp [mp,h]
theorem mp_set {α : Type}{N a:Nat}{f:Nat→α}{x : α}:(mp N f).set a x=mp N (upd f a x):=map_set
structure Ss where
 a:Sl
 b:Sl
 c:Sl
 d:Sl
 e:Sl
 f:Sl
def SR (N:Nat) (b:Nat) (g:Sl) (q:Ss) (s:St):List It:=
 [blk b [.slice g.a g.n g.c,.slice q.a.a q.a.n q.a.c,.slice q.b.a q.b.n q.b.c,.slice q.c.a q.c.n q.c.c,.slice q.d.a q.d.n q.d.c,.slice q.e.a q.e.n q.e.c,.int .i64 (s.parts:Int),.slice q.f.a q.f.n q.f.c] 190,
  arr flN 3 1 q.a (mp N s.num),arr flN 3 1 q.b (mp N s.low),arr flB 4 1 q.c (mp N s.wt),arr flN 3 1 q.d s.wa.reverse,arr flN 3 1 q.e (mp N s.pt),arr flP 217 2 q.f s.steps.reverse]
section
variable {H0 H:Hp}{S:Nat→Prop}{R:List It}{N b:Nat}{g:Sl}{q:Ss}{s:St}{K:Value→Hp→Prop}{Z:List PanicEntry→Hp→Prop}
theorem visit_ok {v:Nat}(h:Sym H0 S H (SR N b g q s++R)) (hv:v < N) (h1:s.wa.length≤100000000) (h2:s.steps.length≤100000000)
  (k:∀ q' H',Sym H0 S H' (SR N b g q' (Tar.visit s v)++R)→K (.tuple #[]) H') :
  CallF Tryz.prog 170 #[.pointer (some ⟨b,0,none⟩),.int .i64 (v:Int),.int .i64 ((s.met+1:Nat):Int)] H K Z:=by
 refine V170_ok ?_
 unfold V170
 simp only [add_mk,Nat.zero_add]
 have e4:q.d.n=s.wa.length:=by have:=RowN.len FlN (by decide) (h.get (k:=4) rfl);rwa [List.length_reverse] at this
 have e7:q.f.n=s.steps.length:=by have:=RowN.len FlP (by decide) (h.get (k:=6) rfl);rwa [List.length_reverse] at this
 refine ⟨q.a,h.ld (k:=0) rfl 1,q.b,h.ld (k:=0) rfl 2,q.c,h.ld (k:=0) rfl 3,?_⟩
 refine h.stn (k:=1) (y:=s.met+1) FlN rfl (mp_get hv) rfl fun A hA=>?_
 refine hA.stn (k:=2) (y:=s.met+1) FlN rfl (mp_get hv) rfl fun B hB=>?_
 refine hB.stn (k:=3) (y:=true) FlB rfl (mp_get hv) rfl fun C hC=>?_
 refine ⟨q.d,hC.ld (k:=0) rfl 4,fun b1 D hD=>?_⟩
 refine hC.app1 (k:=4) (x:=v) tyI FlN (by decide) hD rfl (by omega) fun ap E ha hE=>?_
 refine hE.stb (k:=0) (i:=4) (v:=.slice ap.a ap.n ap.c) rfl (by simp) rfl fun F hF=>?_
 refine ⟨q.f,hF.ld (k:=0) rfl 7,fun b2 G hG=>?_⟩
 refine hF.app1 (k:=6) (x:=(v,0)) tyS FlP (by decide) hG rfl (by omega) fun ap1 I ha1 hI=>?_
 refine hI.stb (k:=0) (i:=7) (v:=.slice ap1.a ap1.n ap1.c) rfl (by simp) rfl fun J hJ=>?_
 refine k ⟨q.a,q.b,q.c,ap,q.e,ap1⟩ J ?_
 have hJ':Sym H0 S J ([blk b [.slice g.a g.n g.c,.slice q.a.a q.a.n q.a.c,.slice q.b.a q.b.n q.b.c,.slice q.c.a q.c.n q.c.c,.slice ap.a ap.n ap.c,.slice q.e.a q.e.n q.e.c,.int .i64 (s.parts:Int),.slice ap1.a ap1.n ap1.c] 190,
  arr flN 3 1 q.a ((mp N s.num).set v (s.met+1)),arr flN 3 1 q.b ((mp N s.low).set v (s.met+1)),arr flB 4 1 q.c ((mp N s.wt).set v true),arr flN 3 1 ap (s.wa.reverse ++ [v]),arr flN 3 1 q.e (mp N s.pt),arr flP 217 2 ap1 (s.steps.reverse ++ [(v,0)])]++R):=hJ
 rw [mp_set,mp_set,mp_set] at hJ'
 have f1:s.wa.reverse ++ [v]=(v::s.wa).reverse:=by simp
 have f2:s.steps.reverse ++ [(v,0)]=((v,0)::s.steps).reverse:=by simp
 rw [f1,f2] at hJ'
 exact hJ'
theorem min_eq {a c:Nat}:(if ((a:Nat):Int) < ((c:Nat):Int) then ((a:Nat):Int) else ((c:Nat):Int))=((min c a:Nat):Int):=by
 split <;> omega
def took (s:St) (p w:List Nat):St:={ s with wa:=w,wt:=fun v=>if v∈p then false else s.wt v,pt:=fun v=>if v∈p then s.parts else s.pt v }
theorem took_upd {α : Type}{p:List Nat}{f:Nat→α}{k:Nat}{c : α}:upd (fun v=>if v∈p then c else f v) k c=fun v=>if v∈p ++ [k] then c else f v:=by
 funext v
 by_cases hv:v=k
 ·subst hv;simp [upd_self]
 ·rw [upd_ne hv];simp [hv]
set_option maxRecDepth 10000 in
theorem leave_ok {gf:Nat→List Nat}{x:Nat × Nat}{r:List (Nat × Nat)}(h:Sym H0 S H (SR N b g q s++R)) (hI:Inv N gf s) (e:s.steps=x::r) (h1:s.wa.length≤100000000) (h2:s.steps.length≤100000000) (h3:s.parts≤100000000)
  (k1:s.low x.1≠s.num x.1→∀ q' H',Sym H0 S H' (SR N b g q' (pop s x r)++R)→K (.tuple #[]) H')
  (k2:s.low x.1=s.num x.1→∀ q' H' pre rest,s.wa=pre++x.1::rest→Sym H0 S H' (SR N b g q' (close s x r pre rest)++R)→K (.tuple #[]) H') :
  CallF Tryz.prog 171 #[.pointer (some ⟨b,0,none⟩),.int .i64 (x.1:Int)] H K Z:=by
 refine V171_ok ?_
 unfold V171
 simp only [add_mk,Nat.zero_add]
 have hxs:x∈s.steps:=by rw [e];exact List.mem_cons_self
 have hxw:=(hI.st2 x hxs).1
 have hxN:x.1 < N:=hI.lt _ (by have:=hI.wa3 _ hxw;omega)
 have e7:q.f.n=s.steps.length:=by have:=RowN.len FlP (by decide) (h.get (k:=6) rfl);rwa [List.length_reverse] at this
 have hsl:s.steps.length=r.length+1:=by rw [e];rfl
 refine ⟨q.f,h.ld (k:=0) rfl 7,q.f,h.ld (k:=0) rfl 7,?_⟩
 rw [e7,hsl,wd (by omega) (by omega),show r.length+1 - 1=r.length from rfl]
 have htk:s.steps.reverse.take r.length=r.reverse:=by
  rw [e,List.reverse_cons,List.take_append_of_le_length (by simp),List.take_of_length_le (by simp)]
 have htr:=h.trunc (k:=6) (hi:=r.length) (K:=fun cut=>StL ⟨b,7,none⟩ 0 [.slice cut.a cut.n cut.c] H fun H1=>∃ q',Sym H0 S H1 (SR N b g q' { s with steps:=r }++R)∧q'.f=cut) FlP (by decide) rfl (by rw [List.length_reverse];omega) ?_
 rotate_left
 ·rw [htk]
  intro hA
  refine hA.stb (k:=0) (i:=7) (v:=.slice q.f.a r.length q.f.c) rfl (by simp) rfl fun B hB=>⟨⟨q.a,q.b,q.c,q.d,q.e,⟨q.f.a,r.length,q.f.c⟩⟩,hB,rfl⟩
 obtain ⟨t1,t2,t3⟩:=htr
 rw [e7,hsl] at t1
 refine ⟨t1,t2,?_⟩
 refine StL.mono t3 ?_
 rintro A ⟨q1,hA,_⟩
 have e71:q1.f.n=r.length:=by have:=RowN.len FlP (by decide) (hA.get (k:=6) rfl);rwa [List.length_reverse] at this
 refine ⟨fun C=>∃ q2,Sym H0 S C (SR N b g q2 (pop s x r)++R),?_,?_⟩
 ·rintro C ⟨q2,hC⟩ scr
  have hlow:(pop s x r).low x.1=s.low x.1:=by
   show (match r with | []=>s.low | y::_=>upd s.low y.1 (min (s.low y.1) (s.low x.1))) x.1=_
   cases r with
   | nil=>rfl
   | cons y r'=>
    have:=hI.below e (y:=y) List.mem_cons_self
    refine upd_ne fun hc=>?_
    rw [hc] at this
    omega
  refine ⟨q2.b,hC.ld (k:=0) rfl 2,?_⟩
  refine (hC.rd (k:=2) FlN (by decide) rfl).ixn FlN (mp_get hxN) fun ad ea=>?_
  refine ⟨_,ea,q2.a,hC.ld (k:=0) rfl 1,?_⟩
  refine (hC.rd (k:=1) FlN (by decide) rfl).ixn FlN (mp_get hxN) fun ad1 ea1=>?_
  refine ⟨_,ea1,fun hne=>?_,fun heq=>?_⟩
  ·refine k1 ?_ q2 C hC
   intro hc
   rw [hlow,hc] at hne
   simp [pop] at hne
  ·have heq':s.low x.1=s.num x.1:=by
    rw [hlow] at heq
    have:((s.low x.1:Nat):Int)=((s.num x.1:Nat):Int):=by simpa [pop] using heq
    omega
   have hwt:s.wt x.1=true:=(hI.wa2 x.1).2 hxw
   refine ⟨fun D m=>∃ q3 p w,s.wa=p++w∧m=w.length∧((x.1∉p∧x.1∈w)∨∃ pre,p=pre ++ [x.1])∧Sym H0 S D (SR N b g q3 (took (pop s x r) p w)++R),⟨_,q2,[],s.wa,rfl,rfl,.inl ⟨by simp,hxw⟩,?_⟩,?_⟩
   ·have:took (pop s x r) [] s.wa=pop s x r:=by simp [took,pop]
    rw [this]
    exact hC
   rintro D m ⟨q3,p,w,hpw,rfl,hcase,hD⟩ scr1
   refine ⟨q3.c,hD.ld (k:=0) rfl 3,?_⟩
   refine (hD.rd (k:=3) FlB (by decide) rfl).ixn FlB (mp_get hxN) fun ad2 ea2=>?_
   refine ⟨_,ea2,fun hy=>?_,fun hy=>?_⟩
   ·have hxp:x.1∉p:=by
     intro hc
     have:(if x.1∈p then false else s.wt x.1)=true:=hy
     rw [if_pos hc] at this
     cases this
    have hxw':x.1∈w:=by
     rcases hcase with hc | ⟨pre,hc⟩
     ·exact hc.2
     ·exact absurd (by rw [hc];simp) hxp
    obtain ⟨t,w',rfl⟩:∃ t w',w=t::w':=by
     cases w with
     | nil=>cases hxw'
     | cons t w'=>exact ⟨t,w',rfl⟩
    have htw:t∈s.wa:=by rw [hpw];simp
    have htN:t < N:=hI.lt _ (by have:=hI.wa3 _ htw;omega)
    have e4:q3.d.n=w'.length+1:=by have:=RowN.len FlN (by decide) (hD.get (k:=4) rfl);rw [List.length_reverse] at this;exact this
    have hwl:w'.length+1≤100000000:=by
     have:=congrArg List.length hpw
     rw [List.length_append,List.length_cons] at this
     omega
    have hrev:(t::w').reverse=w'.reverse ++ [t]:=List.reverse_cons
    have hget:(took (pop s x r) p (t::w')).wa.reverse[w'.length]? = some t:=by
     show (t::w').reverse[w'.length]? = some t
     rw [hrev]
     simp
    refine ⟨q3.d,hD.ld (k:=0) rfl 4,q3.d,hD.ld (k:=0) rfl 4,?_⟩
    rw [e4,wd (by omega) (by omega),show w'.length+1 - 1=w'.length from rfl]
    have hix:=(hD.rd (k:=4) FlN (by decide) rfl)
    rw [← e4]
    refine hix.ixn FlN hget fun ad3 ea3=>?_
    refine ⟨_,ea3,q3.d,hD.ld (k:=0) rfl 4,q3.d,hD.ld (k:=0) rfl 4,?_⟩
    rw [e4,wd (by omega) (by omega),show w'.length+1 - 1=w'.length from rfl]
    rw [← e4]
    refine hD.trunc (k:=4) (hi:=w'.length) FlN (by decide) rfl (by show w'.length≤(t::w').reverse.length;simp) fun hE=>?_
    have htk':(took (pop s x r) p (t::w')).wa.reverse.take w'.length=w'.reverse:=by
     show (t::w').reverse.take w'.length=_
     rw [hrev,List.take_append_of_le_length (by simp),List.take_of_length_le (by simp)]
    rw [htk'] at hE
    refine hE.stb (k:=0) (i:=4) (v:=.slice q3.d.a w'.length q3.d.c) rfl (by simp) rfl fun E1 hE1=>?_
    refine ⟨q3.e,hE1.ld (k:=0) rfl 5,q3.c,hE1.ld (k:=0) rfl 3,_,hE1.ld (k:=0) rfl 6,?_⟩
    refine hE1.stn (k:=5) (y:=s.parts) FlN rfl (mp_get htN) rfl fun F hF=>?_
    refine hF.stn (k:=3) (y:=false) FlB rfl (mp_get htN) rfl fun G hG=>?_
    refine ⟨w'.length,by simp,⟨q3.a,q3.b,q3.c,⟨q3.d.a,w'.length,q3.d.c⟩,q3.e,q3.f⟩,p ++ [t],w',by rw [hpw];simp,rfl,?_,?_⟩
    ·by_cases hc:t=x.1
     ·exact .inr ⟨p,by rw [hc]⟩
     ·refine .inl ⟨?_,?_⟩
      ·rw [List.mem_append,List.mem_singleton,not_or]
       exact ⟨hxp,fun h=>hc h.symm⟩
      ·rcases List.mem_cons.1 hxw' with h | h
       ·exact absurd h.symm hc
       ·exact h
    ·have hG':Sym H0 S G ([blk b [.slice g.a g.n g.c,.slice q3.a.a q3.a.n q3.a.c,.slice q3.b.a q3.b.n q3.b.c,.slice q3.c.a q3.c.n q3.c.c,.slice q3.d.a w'.length q3.d.c,.slice q3.e.a q3.e.n q3.e.c,.int .i64 (s.parts:Int),.slice q3.f.a q3.f.n q3.f.c] 190,
      arr flN 3 1 q3.a (mp N s.num),arr flN 3 1 q3.b (mp N (pop s x r).low),arr flB 4 1 q3.c ((mp N (fun v=>if v∈p then false else s.wt v)).set t false),arr flN 3 1 ⟨q3.d.a,w'.length,q3.d.c⟩ w'.reverse,arr flN 3 1 q3.e ((mp N (fun v=>if v∈p then s.parts else s.pt v)).set t s.parts),arr flP 217 2 q3.f r.reverse]++R):=hG
     rw [mp_set,mp_set,took_upd,took_upd] at hG'
     exact hG'
   ·have hxp:x.1∈p:=by
     apply Classical.byContradiction
     intro hc
     have:(if x.1∈p then false else s.wt x.1)=false:=hy
     rw [if_neg hc,hwt] at this
     cases this
    obtain ⟨pre,rfl⟩:∃ pre,p=pre ++ [x.1]:=by
     rcases hcase with hc | hc
     ·exact absurd hxp hc.1
     ·exact hc
    refine ⟨_,hD.ld (k:=0) rfl 6,?_⟩
    have hw:w64 (((took (pop s x r) (pre ++ [x.1]) w).parts:Int)+1)=((s.parts+1:Nat):Int):=wi (by show s.parts≤_;omega)
    rw [hw]
    refine hD.stb (k:=0) (i:=6) rfl (by simp) rfl fun E hE=>?_
    exact k2 heq' q3 E pre w (by rw [hpw];simp) hE
 ·refine ⟨q1.f,hA.ld (k:=0) rfl 7,fun hpos=>?_,fun hz=>?_⟩
  ·have hpos':0 < r.length:=by have:=of_decide_eq_true hpos;omega
   obtain ⟨y,r',rfl⟩:∃ y r',r=y::r':=by
    cases r with
    | nil=>simp at hpos'
    | cons y r'=>exact ⟨y,r',rfl⟩
   have hys:y∈s.steps:=by rw [e];simp
   have hyN:y.1 < N:=hI.lt _ (by have:=hI.wa3 _ (hI.st2 y hys).1;omega)
   refine ⟨q1.f,hA.ld (k:=0) rfl 7,q1.f,hA.ld (k:=0) rfl 7,?_⟩
   have e72:q1.f.n=r'.length+1:=e71
   have hrl:r'.length+1≤100000000:=by simp at hsl;omega
   have hix:=(hA.rd (k:=6) FlP (by decide) rfl)
   have hww:w64 ((q1.f.n:Int) - 1)=(r'.length:Int):=by rw [e72,wd (by omega) (by omega)];rfl
   rw [hww]
   have hget:(y::r').reverse[r'.length]? = some y:=by rw [List.reverse_cons];simp
   refine hix.ix (by decide) FlP (by omega) hget fun ad6 _ ea6=>?_
   refine ⟨_,ea6,q1.b,hA.ld (k:=0) rfl 2,q1.b,hA.ld (k:=0) rfl 2,?_⟩
   refine (hA.rd (k:=2) FlN (by decide) rfl).ixn FlN (mp_get hyN) fun ad7 ea7=>?_
   refine ⟨_,ea7,q1.b,hA.ld (k:=0) rfl 2,?_⟩
   refine (hA.rd (k:=2) FlN (by decide) rfl).ixn FlN (mp_get hxN) fun ad8 ea8=>?_
   refine ⟨_,ea8,?_⟩
   rw [min_eq]
   refine hA.stn (k:=2) (y:=min (s.low y.1) (s.low x.1)) FlN rfl (mp_get hyN) rfl fun B hB=>⟨q1,?_⟩
   have hB':Sym H0 S B ([blk b [.slice g.a g.n g.c,.slice q1.a.a q1.a.n q1.a.c,.slice q1.b.a q1.b.n q1.b.c,.slice q1.c.a q1.c.n q1.c.c,.slice q1.d.a q1.d.n q1.d.c,.slice q1.e.a q1.e.n q1.e.c,.int .i64 (s.parts:Int),.slice q1.f.a q1.f.n q1.f.c] 190,
    arr flN 3 1 q1.a (mp N s.num),arr flN 3 1 q1.b ((mp N s.low).set y.1 (min (s.low y.1) (s.low x.1))),arr flB 4 1 q1.c (mp N s.wt),arr flN 3 1 q1.d s.wa.reverse,arr flN 3 1 q1.e (mp N s.pt),arr flP 217 2 q1.f (y::r').reverse]++R):=hB
   rw [mp_set] at hB'
   exact hB'
  ·have hz':r.length=0:=by have:=of_decide_eq_false hz;omega
   obtain rfl:r = []:=List.eq_nil_of_length_eq_zero hz'
   exact ⟨q1,hA⟩
end
end
end Go.Proofs.YtjdhjgfmloaglaaGreatDoor.C7
end
section
namespace Go.Proofs.YtjdhjgfmloaglaaGreatDoor.C7
open Go Go.V Go.Proofs N07 Go.Tar
attribute [local irreducible] Cvt ExtF CallF hrun App MkS
section
variable {H0 H:Hp}{S:Nat→Prop}{R:List It}{N:Nat}{g:Sl}{K:Value→Hp→Prop}{Z:List PanicEntry→Hp→Prop}
theorem mp_rep {α : Type}{c : α}{f:Nat→α}(hf:∀ v,f v=c):List.replicate N c=mp N f:=by
 apply List.ext_getElem?
 intro i
 by_cases h:i < N
 ·rw [mp_get h,List.getElem?_replicate,if_pos h,hf]
 ·rw [List.getElem?_eq_none (by simp;omega),List.getElem?_eq_none (by simp [mp];omega)]
theorem run_leaf {A B:Hp}{s1 s2 s3 s5:Sl}{b:Nat}(h:Sym H no A [arr flN 3 1 s1 (List.replicate N 0),arr flN 3 1 s2 (List.replicate N 0),arr flB 4 1 s3 (List.replicate N false),arr flN 3 1 s5 (List.replicate N 0)])
  (hn:Newb A (.cells #[.slice g.a g.n g.c,.slice s1.a s1.n s1.c,.slice s2.a s2.n s2.c,.slice s3.a s3.n s3.c,.slice none 0 0,.slice s5.a s5.n s5.c,.int .i64 0,.slice none 0 0] 190) b B) :
  ∃ b' q,(some (⟨b,0,none⟩:Addr))=some ⟨b',0,none⟩∧Sym H no B (SR N b' g q st0):=by
 refine ⟨b,⟨s1,s2,s3,⟨none,0,0⟩,s5,⟨none,0,0⟩⟩,rfl,?_⟩
 have h1:=((h.newb hn).nilrow flN 3 1).nilrow flP 217 2
 rw [mp_rep (N:=N) (f:=st0.num) fun _=>rfl,mp_rep (N:=N) (f:=st0.wt) fun _=>rfl] at h1
 exact h1.re [2,3,4,5,1,6,0] (by decide)
set_option maxRecDepth 10000 in
theorem run_ok {ss:List Sl}{es:List (Int × Int)}{EG:TypeId}(hg:Rows2 flN EG 3 1 none H g ss (adjs N es)) (hN:N≤20000) (hE:es.length≤1000)
  (k:∀ b q s H',Sym H no H' (SR N b g q s)→Inv N (adj N es) s→s.steps = []→(∀ v,v < N→s.num v≠0)→K (.pointer (some ⟨b,0,none⟩)) H') :
  CallF Tryz.prog 142 #[.slice g.a g.n g.c] H K Z:=by
 refine V142_ok ?_
 unfold V142
 obtain ⟨g1,g2⟩:=hg.rd FlN (by decide)
 have hgl:ss.length=N:=by rw [hg.len,adjs_len]
 obtain rfl:N=g.n:=by rw [g1.len,hgl]
 have hl0:left g.n (adj g.n es) st0≤100000000:=by
  have:=left0 (n:=g.n) (g:=adj g.n es) (D:=1000) fun v=>Nat.le_trans adj_le hE
  have h2:g.n*(2+1000)≤20000*(2+1000):=Nat.mul_le_mul_right _ hN
  omega
 have h0:=Sym.start H
 refine ⟨fun p A=>∃ b q,p=some ⟨b,0,none⟩∧Sym H no A (SR g.n b g q st0),?_,?_⟩
 rotate_left
 ·refine ⟨?_,?_,?_,?_⟩
  ·refine h0.make tyI FlN (zt:=0) rfl rfl (by omega) fun s1 A1 _ _ _ h1=>?_
   refine ⟨?_,?_,?_⟩
   ·refine h1.make tyI FlN (zt:=0) rfl rfl (by omega) fun s2 A2 _ _ _ h2=>?_
    refine ⟨?_,?_⟩
    ·refine h2.make tyB FlB (zt:=false) rfl rfl (by omega) fun s3 A3 _ _ _ h3=>?_
     refine h3.make tyI FlN (zt:=0) rfl rfl (by omega) fun s4 A4 _ _ _ h4=>?_
     exact fun b B hn=>run_leaf (h4.re [3,2,1,0] (by decide)) hn
    ·refine h2.make tyI FlN (zt:=0) rfl rfl (by omega) fun s3 A3 _ _ _ h3=>?_
     refine h3.make tyB FlB (zt:=false) rfl rfl (by omega) fun s4 A4 _ _ _ h4=>?_
     exact fun b B hn=>run_leaf (h4.re [3,2,0,1] (by decide)) hn
   ·refine h1.make tyB FlB (zt:=false) rfl rfl (by omega) fun s2 A2 _ _ _ h2=>?_
    refine ⟨?_,?_⟩
    ·refine h2.make tyI FlN (zt:=0) rfl rfl (by omega) fun s3 A3 _ _ _ h3=>?_
     refine h3.make tyI FlN (zt:=0) rfl rfl (by omega) fun s4 A4 _ _ _ h4=>?_
     exact fun b B hn=>run_leaf (h4.re [3,1,2,0] (by decide)) hn
    ·refine h2.make tyI FlN (zt:=0) rfl rfl (by omega) fun s3 A3 _ _ _ h3=>?_
     refine h3.make tyI FlN (zt:=0) rfl rfl (by omega) fun s4 A4 _ _ _ h4=>?_
     exact fun b B hn=>run_leaf (h4.re [3,0,2,1] (by decide)) hn
   ·refine h1.make tyI FlN (zt:=0) rfl rfl (by omega) fun s2 A2 _ _ _ h2=>?_
    refine ⟨?_,?_⟩
    ·refine h2.make tyI FlN (zt:=0) rfl rfl (by omega) fun s3 A3 _ _ _ h3=>?_
     refine h3.make tyB FlB (zt:=false) rfl rfl (by omega) fun s4 A4 _ _ _ h4=>?_
     exact fun b B hn=>run_leaf (h4.re [3,1,0,2] (by decide)) hn
    ·refine h2.make tyB FlB (zt:=false) rfl rfl (by omega) fun s3 A3 _ _ _ h3=>?_
     refine h3.make tyI FlN (zt:=0) rfl rfl (by omega) fun s4 A4 _ _ _ h4=>?_
     exact fun b B hn=>run_leaf (h4.re [3,0,1,2] (by decide)) hn
  ·refine h0.make tyI FlN (zt:=0) rfl rfl (by omega) fun s1 A1 _ _ _ h1=>?_
   refine ⟨?_,?_,?_⟩
   ·refine h1.make tyI FlN (zt:=0) rfl rfl (by omega) fun s2 A2 _ _ _ h2=>?_
    refine ⟨?_,?_⟩
    ·refine h2.make tyB FlB (zt:=false) rfl rfl (by omega) fun s3 A3 _ _ _ h3=>?_
     refine h3.make tyI FlN (zt:=0) rfl rfl (by omega) fun s4 A4 _ _ _ h4=>?_
     exact fun b B hn=>run_leaf (h4.re [2,3,1,0] (by decide)) hn
    ·refine h2.make tyI FlN (zt:=0) rfl rfl (by omega) fun s3 A3 _ _ _ h3=>?_
     refine h3.make tyB FlB (zt:=false) rfl rfl (by omega) fun s4 A4 _ _ _ h4=>?_
     exact fun b B hn=>run_leaf (h4.re [2,3,0,1] (by decide)) hn
   ·refine h1.make tyB FlB (zt:=false) rfl rfl (by omega) fun s2 A2 _ _ _ h2=>?_
    refine ⟨?_,?_⟩
    ·refine h2.make tyI FlN (zt:=0) rfl rfl (by omega) fun s3 A3 _ _ _ h3=>?_
     refine h3.make tyI FlN (zt:=0) rfl rfl (by omega) fun s4 A4 _ _ _ h4=>?_
     exact fun b B hn=>run_leaf (h4.re [1,3,2,0] (by decide)) hn
    ·refine h2.make tyI FlN (zt:=0) rfl rfl (by omega) fun s3 A3 _ _ _ h3=>?_
     refine h3.make tyI FlN (zt:=0) rfl rfl (by omega) fun s4 A4 _ _ _ h4=>?_
     exact fun b B hn=>run_leaf (h4.re [0,3,2,1] (by decide)) hn
   ·refine h1.make tyI FlN (zt:=0) rfl rfl (by omega) fun s2 A2 _ _ _ h2=>?_
    refine ⟨?_,?_⟩
    ·refine h2.make tyI FlN (zt:=0) rfl rfl (by omega) fun s3 A3 _ _ _ h3=>?_
     refine h3.make tyB FlB (zt:=false) rfl rfl (by omega) fun s4 A4 _ _ _ h4=>?_
     exact fun b B hn=>run_leaf (h4.re [1,3,0,2] (by decide)) hn
    ·refine h2.make tyB FlB (zt:=false) rfl rfl (by omega) fun s3 A3 _ _ _ h3=>?_
     refine h3.make tyI FlN (zt:=0) rfl rfl (by omega) fun s4 A4 _ _ _ h4=>?_
     exact fun b B hn=>run_leaf (h4.re [0,3,1,2] (by decide)) hn
  ·refine h0.make tyB FlB (zt:=false) rfl rfl (by omega) fun s1 A1 _ _ _ h1=>?_
   refine ⟨?_,?_,?_⟩
   ·refine h1.make tyI FlN (zt:=0) rfl rfl (by omega) fun s2 A2 _ _ _ h2=>?_
    refine ⟨?_,?_⟩
    ·refine h2.make tyI FlN (zt:=0) rfl rfl (by omega) fun s3 A3 _ _ _ h3=>?_
     refine h3.make tyI FlN (zt:=0) rfl rfl (by omega) fun s4 A4 _ _ _ h4=>?_
     exact fun b B hn=>run_leaf (h4.re [2,1,3,0] (by decide)) hn
    ·refine h2.make tyI FlN (zt:=0) rfl rfl (by omega) fun s3 A3 _ _ _ h3=>?_
     refine h3.make tyI FlN (zt:=0) rfl rfl (by omega) fun s4 A4 _ _ _ h4=>?_
     exact fun b B hn=>run_leaf (h4.re [2,0,3,1] (by decide)) hn
   ·refine h1.make tyI FlN (zt:=0) rfl rfl (by omega) fun s2 A2 _ _ _ h2=>?_
    refine ⟨?_,?_⟩
    ·refine h2.make tyI FlN (zt:=0) rfl rfl (by omega) fun s3 A3 _ _ _ h3=>?_
     refine h3.make tyI FlN (zt:=0) rfl rfl (by omega) fun s4 A4 _ _ _ h4=>?_
     exact fun b B hn=>run_leaf (h4.re [1,2,3,0] (by decide)) hn
    ·refine h2.make tyI FlN (zt:=0) rfl rfl (by omega) fun s3 A3 _ _ _ h3=>?_
     refine h3.make tyI FlN (zt:=0) rfl rfl (by omega) fun s4 A4 _ _ _ h4=>?_
     exact fun b B hn=>run_leaf (h4.re [0,2,3,1] (by decide)) hn
   ·refine h1.make tyI FlN (zt:=0) rfl rfl (by omega) fun s2 A2 _ _ _ h2=>?_
    refine ⟨?_,?_⟩
    ·refine h2.make tyI FlN (zt:=0) rfl rfl (by omega) fun s3 A3 _ _ _ h3=>?_
     refine h3.make tyI FlN (zt:=0) rfl rfl (by omega) fun s4 A4 _ _ _ h4=>?_
     exact fun b B hn=>run_leaf (h4.re [1,0,3,2] (by decide)) hn
    ·refine h2.make tyI FlN (zt:=0) rfl rfl (by omega) fun s3 A3 _ _ _ h3=>?_
     refine h3.make tyI FlN (zt:=0) rfl rfl (by omega) fun s4 A4 _ _ _ h4=>?_
     exact fun b B hn=>run_leaf (h4.re [0,1,3,2] (by decide)) hn
  ·refine h0.make tyI FlN (zt:=0) rfl rfl (by omega) fun s1 A1 _ _ _ h1=>?_
   refine ⟨?_,?_,?_⟩
   ·refine h1.make tyI FlN (zt:=0) rfl rfl (by omega) fun s2 A2 _ _ _ h2=>?_
    refine ⟨?_,?_⟩
    ·refine h2.make tyI FlN (zt:=0) rfl rfl (by omega) fun s3 A3 _ _ _ h3=>?_
     refine h3.make tyB FlB (zt:=false) rfl rfl (by omega) fun s4 A4 _ _ _ h4=>?_
     exact fun b B hn=>run_leaf (h4.re [2,1,0,3] (by decide)) hn
    ·refine h2.make tyB FlB (zt:=false) rfl rfl (by omega) fun s3 A3 _ _ _ h3=>?_
     refine h3.make tyI FlN (zt:=0) rfl rfl (by omega) fun s4 A4 _ _ _ h4=>?_
     exact fun b B hn=>run_leaf (h4.re [2,0,1,3] (by decide)) hn
   ·refine h1.make tyI FlN (zt:=0) rfl rfl (by omega) fun s2 A2 _ _ _ h2=>?_
    refine ⟨?_,?_⟩
    ·refine h2.make tyI FlN (zt:=0) rfl rfl (by omega) fun s3 A3 _ _ _ h3=>?_
     refine h3.make tyB FlB (zt:=false) rfl rfl (by omega) fun s4 A4 _ _ _ h4=>?_
     exact fun b B hn=>run_leaf (h4.re [1,2,0,3] (by decide)) hn
    ·refine h2.make tyB FlB (zt:=false) rfl rfl (by omega) fun s3 A3 _ _ _ h3=>?_
     refine h3.make tyI FlN (zt:=0) rfl rfl (by omega) fun s4 A4 _ _ _ h4=>?_
     exact fun b B hn=>run_leaf (h4.re [0,2,1,3] (by decide)) hn
   ·refine h1.make tyB FlB (zt:=false) rfl rfl (by omega) fun s2 A2 _ _ _ h2=>?_
    refine ⟨?_,?_⟩
    ·refine h2.make tyI FlN (zt:=0) rfl rfl (by omega) fun s3 A3 _ _ _ h3=>?_
     refine h3.make tyI FlN (zt:=0) rfl rfl (by omega) fun s4 A4 _ _ _ h4=>?_
     exact fun b B hn=>run_leaf (h4.re [1,0,2,3] (by decide)) hn
    ·refine h2.make tyI FlN (zt:=0) rfl rfl (by omega) fun s3 A3 _ _ _ h3=>?_
     refine h3.make tyI FlN (zt:=0) rfl rfl (by omega) fun s4 A4 _ _ _ h4=>?_
     exact fun b B hn=>run_leaf (h4.re [0,1,2,3] (by decide)) hn
 rintro p A ⟨b,q0,rfl,hA⟩ scr
 refine ⟨fun met t B m=>∃ (j:Nat) (q:Ss) (s:St),t=(j:Int)∧j≤g.n∧m=g.n - j∧met=(s.met:Int)∧Sym H no B (SR g.n b g q s)∧Inv g.n (adj g.n es) s∧s.steps = []∧left g.n (adj g.n es) s≤100000000∧∀ v,v < j→s.num v≠0,
  ⟨_,0,q0,st0,rfl,Nat.zero_le _,rfl,rfl,hA,inv0,rfl,hl0,by simp⟩,?_⟩
 rintro met t B m ⟨j,q,s,rfl,hj,rfl,rfl,hB,hI,hst,hleft,hvis⟩ scr1
 refine ⟨fun hlt=>?_,fun hge=>?_⟩
 rotate_left
 ·have hge':=dge hge
  exact k b q s B hB hI hst fun v hv=>hvis v (by omega)
 have hjN:=dlt hlt
 let J:Int→Hp→Prop:=fun met C=>∃ (q:Ss) (s:St),met=(s.met:Int)∧Sym H no C (SR g.n b g q s)∧Inv g.n (adj g.n es) s∧left g.n (adj g.n es) s≤100000000∧∀ v,v < j+1→s.num v≠0
 refine ⟨J,?_,?_⟩
 rotate_left
 ·refine ⟨q.a,by rw [add_mk];exact hB.ld (k:=0) rfl 1,?_⟩
  refine (hB.rd (k:=1) FlN (by decide) rfl).ixn FlN (mp_get hjN) fun ad ea=>?_
  refine ⟨_,ea,fun h0=>?_,fun h0=>?_⟩
  ·have h0':s.num j=0:=by
    have:((s.num j:Nat):Int)=0:=by simpa using h0
    omega
   have hw:=hI.wale
   rw [wi (by omega)]
   have hB':Sym H no B (SR g.n b g q s ++ []):=by rw [List.append_nil];exact hB
   refine visit_ok hB' hjN (by omega) (by have:=steps_left (n:=g.n) (g:=adj g.n es) s;omega) fun q' C hC=>⟨rfl,q',Tar.visit s j,rfl,?_,Tar.visit_first hI hst hjN h0',?_,?_⟩
   ·rw [List.append_nil] at hC
    exact hC
   ·have:=left_visit (g:=adj g.n es) hjN h0'
    omega
   ·intro v hv
    show upd s.num j (s.met+1) v≠0
    by_cases hvj:v=j
    ·rw [hvj,upd_self];omega
    ·rw [upd_ne hvj];exact hvis v (by omega)
  ·have h0':s.num j≠0:=by intro hc;rw [hc] at h0;simp at h0
   exact ⟨q,s,rfl,hB,hI,hleft,fun v hv=>if hvj:v=j then by rw [hvj];exact h0' else hvis v (by omega)⟩
 rintro met1 C hC0 scr2
 refine ⟨J,?_,hC0⟩
 clear hC0 hvis hleft hst hI hB hlt
 clear s q
 rintro met2 D ⟨q,s,rfl,hD,hI,hleft,hvis⟩ scr3
 refine ⟨fun met E m=>∃ (q:Ss) (s:St),met=(s.met:Int)∧m=left g.n (adj g.n es) s∧Sym H no E (SR g.n b g q s)∧Inv g.n (adj g.n es) s∧left g.n (adj g.n es) s≤100000000∧∀ v,v < j+1→s.num v≠0,⟨_,q,s,rfl,rfl,hD,hI,hleft,hvis⟩,?_⟩
 clear hvis hleft hI hD
 clear s q
 rintro met3 E m4 ⟨q,s,rfl,rfl,hE1,hI,hleft,hvis⟩ scr4
 have hstl:=steps_left (n:=g.n) (g:=adj g.n es) s
 have e7:q.f.n=s.steps.length:=by have:=RowN.len FlP (by decide) (hE1.get (k:=6) rfl);rwa [List.length_reverse] at this
 refine ⟨q.f,by rw [add_mk];exact hE1.ld (k:=0) rfl 7,fun hpos=>?_,fun hz=>?_⟩
 rotate_left
 ·have hst:s.steps = []:=List.eq_nil_of_length_eq_zero (by have:=of_decide_eq_false hz;omega)
  exact ⟨g.n - (j+1),by omega,j+1,q,s,wi (by omega),hjN,rfl,rfl,hE1,hI,hst,hleft,hvis⟩
 obtain ⟨x,r,hst⟩:∃ x r,s.steps=x::r:=by
  cases hs:s.steps with
  | nil=>rw [hs] at e7;have:=of_decide_eq_true hpos;simp at e7;omega
  | cons x r=>exact ⟨x,r,rfl⟩
 have hsl:s.steps.length=r.length+1:=by rw [hst];rfl
 refine ⟨q.f,by rw [add_mk];exact hE1.ld (k:=0) rfl 7,q.f,by rw [add_mk];exact hE1.ld (k:=0) rfl 7,?_⟩
 have hww:w64 ((q.f.n:Int) - 1)=(r.length:Int):=by rw [e7,hsl,wd (by omega) (by omega)];rfl
 rw [hww]
 obtain ⟨g7,hg7⟩:=(hE1.get (k:=6) rfl:RowN flP 217 2 E q.f s.steps.reverse).row.some (by omega)
 refine ⟨_,hg7,⟨by omega,by omega⟩,?_⟩
 rw [Int.toNat_natCast]
 refine ⟨fun met F m=>∃ (q':Ss) (s':St) (x':Nat × Nat),q'.f=q.f∧met=(s'.met:Int)∧m=left g.n (adj g.n es) s'∧left g.n (adj g.n es) s'≤left g.n (adj g.n es) s∧s'.steps=x'::r∧Sym H no F (SR g.n b g q' s')∧Inv g.n (adj g.n es) s'∧∀ v,v < j+1→s'.num v≠0,⟨_,q,s,x,rfl,rfl,rfl,Nat.le_refl _,hst,hE1,hI,hvis⟩,?_⟩
 rintro met4 F m7 ⟨q1,s1,y,hq1,rfl,rfl,hle1,hst1,hF,hI1,hvis1⟩ scr5
 have hys:y∈s1.steps:=by rw [hst1];exact List.mem_cons_self
 have hyw:=(hI1.st2 y hys).1
 have hyN:y.1 < g.n:=hI1.lt _ (by have:=hI1.wa3 _ hyw;omega)
 have hw1:=hI1.wale
 have hstl1:=steps_left (n:=g.n) (g:=adj g.n es) s1
 have hget:s1.steps.reverse[r.length]? = some y:=by rw [hst1,List.reverse_cons];simp
 have hg71:q1.f.a=some ⟨g7,0,none⟩:=by rw [hq1];exact hg7
 have rd7:=hF.rd (k:=6) FlP (by decide) rfl
 have l1:=rd7.at (k:=1) hg71 hget rfl
 have l0:=rd7.at (k:=0) hg71 hget rfl
 rw [add_zero'] at l0
 have gF:=g1.more hF.fr
 have hsi:ss[y.1]? = some (ss[y.1]'(by omega)):=List.getElem?_eq_getElem _
 generalize ss[y.1]'(by omega)=si at hsi
 have gi:=(g2 _ _ _ hsi (adjs_get hyN)).more hF.fr
 have hil:=gi.len
 refine ⟨_,l1,_,l0,gF.ixn FlS hsi fun ad4 e4=>⟨si,e4,fun hmore=>?_,fun hend=>?_⟩⟩
 ·have hmore':y.2 < (adj g.n es y.1).length:=by have:=dlt hmore;omega
  obtain ⟨u,hu⟩:∃ u,(adj g.n es y.1)[y.2]? = some u:=⟨_,List.getElem?_eq_getElem hmore'⟩
  have huN:u < g.n:=adj_lt (List.mem_of_getElem? hu)
  refine ⟨_,l0,gF.ixn FlS hsi fun ad5 e5=>⟨si,e5,_,l1,gi.ixn FlN hu fun ad6 e6=>⟨_,e6,_,l1,?_⟩⟩⟩
  have hy2:y.2≤1000000000000:=by have:=@adj_le g.n y.1 es;omega
  rw [wi hy2]
  have hsta:=hF.sta (k:=6) (i:=(r.length:Int)) (j:=1) (x:=y) (y:=(y.1,y.2+1)) (v:=.int .i64 ((y.2+1:Nat):Int)) (K:=fun G=>∃ q2:Ss,q2.f=q.f∧Sym H no G (SR g.n b g q2 { s1 with steps:=(y.1,y.2+1)::r })) FlP rfl (by omega) (by rw [Int.toNat_natCast];exact hget) (by decide) rfl ?_
  rotate_left
  ·intro G hG
   have hset:s1.steps.reverse.set r.length (y.1,y.2+1)=((y.1,y.2+1)::r).reverse:=by
    rw [hst1,List.reverse_cons,List.reverse_cons,List.set_append_right _ _ (by simp)]
    simp
   rw [Int.toNat_natCast,hset] at hG
   exact ⟨q1,hq1,hG⟩
  have hsta2:=hsta.at hg71
  rw [Int.toNat_natCast] at hsta2
  refine StL.mono hsta2 ?_
  rintro G ⟨q2,hq2,hG⟩
  have hg72:q2.f.a=some ⟨g7,0,none⟩:=by rw [hq2];exact hg7
  have hget2:((y.1,y.2+1)::r).reverse[r.length]? = some (y.1,y.2+1):=by rw [List.reverse_cons];simp
  have l02:=(hG.rd (k:=6) FlP (by decide) rfl).at (k:=0) hg72 hget2 rfl
  rw [add_zero'] at l02
  refine ⟨q2.a,by rw [add_mk];exact hG.ld (k:=0) rfl 1,?_⟩
  refine (hG.rd (k:=1) FlN (by decide) rfl).ixn FlN (mp_get huN) fun ad8 e8=>⟨_,e8,fun h0=>?_,fun h0=>?_⟩
  ·have h0':s1.num u=0:=by
    have:((s1.num u:Nat):Int)=0:=by simpa using h0
    omega
   rw [wi (by omega)]
   have hG':Sym H no G (SR g.n b g q2 { s1 with steps:=(y.1,y.2+1)::r } ++ []):=by rw [List.append_nil];exact hG
   have hlv:=left_visit (g:=adj g.n es) (s:={ s1 with steps:=(y.1,y.2+1)::r }) huN h0'
   have hls:=left_step (n:=g.n) hst1 hmore'
   have hw3:({ s1 with steps:=(y.1,y.2+1)::r }:St).wa=s1.wa:=rfl
   refine visit_ok (s:={ s1 with steps:=(y.1,y.2+1)::r }) hG' huN (by show s1.wa.length≤_;omega) (by have:=steps_left (n:=g.n) (g:=adj g.n es) { s1 with steps:=(y.1,y.2+1)::r };omega) fun q' C hC=>⟨rfl,_,?_,q',_,rfl,rfl,?_,Tar.visit_ok hI1 hst1 huN h0' hu,?_,?_⟩
   ·omega
   ·rw [List.append_nil] at hC
    exact hC
   ·omega
   ·intro v hv
    show upd s1.num u (s1.met+1) v≠0
    by_cases hvu:v=u
    ·rw [hvu,upd_self];omega
    ·rw [upd_ne hvu];exact hvis1 v hv
  ·have h0':s1.num u≠0:=by intro hc;simp [hc] at h0
   have hlk:=left_look (n:=g.n) (u:=u) hst1 hmore'
   have hIl:=Tar.look_ok hI1 hst1 h0' hu
   refine ⟨q2.c,by rw [add_mk];exact hG.ld (k:=0) rfl 3,?_⟩
   refine (hG.rd (k:=3) FlB (by decide) rfl).ixn FlB (mp_get huN) fun ad10 e10=>⟨_,e10,fun hw=>?_,fun hw=>?_⟩
   ·have hw':s1.wt u=true:=hw
    refine ⟨q2.b,by rw [add_mk];exact hG.ld (k:=0) rfl 2,_,l02,q2.b,by rw [add_mk];exact hG.ld (k:=0) rfl 2,_,l02,?_⟩
    refine (hG.rd (k:=2) FlN (by decide) rfl).ixn FlN (mp_get hyN) fun ad13 e13=>⟨_,e13,q2.a,by rw [add_mk];exact hG.ld (k:=0) rfl 1,?_⟩
    refine (hG.rd (k:=1) FlN (by decide) rfl).ixn FlN (mp_get huN) fun ad15 e15=>⟨_,e15,?_⟩
    rw [min_eq]
    refine hG.stn (k:=2) (y:=min (s1.low y.1) (s1.num u)) FlN rfl (mp_get hyN) rfl fun I hI2=>⟨_,?_,q2,Tar.look s1 y r u,(y.1,y.2+1),hq2,rfl,rfl,?_,rfl,?_,hIl,hvis1⟩
    ·omega
    ·omega
    ·have hI3:Sym H no I ([blk b [.slice g.a g.n g.c,.slice q2.a.a q2.a.n q2.a.c,.slice q2.b.a q2.b.n q2.b.c,.slice q2.c.a q2.c.n q2.c.c,.slice q2.d.a q2.d.n q2.d.c,.slice q2.e.a q2.e.n q2.e.c,.int .i64 (s1.parts:Int),.slice q2.f.a q2.f.n q2.f.c] 190,
      arr flN 3 1 q2.a (mp g.n s1.num),arr flN 3 1 q2.b ((mp g.n s1.low).set y.1 (min (s1.low y.1) (s1.num u))),arr flB 4 1 q2.c (mp g.n s1.wt),arr flN 3 1 q2.d s1.wa.reverse,arr flN 3 1 q2.e (mp g.n s1.pt),arr flP 217 2 q2.f ((y.1,y.2+1)::r).reverse]):=hI2
     rw [mp_set] at hI3
     have:(Tar.look s1 y r u).low=upd s1.low y.1 (min (s1.low y.1) (s1.num u)):=by
      show (if s1.wt u then _ else _)=_
      rw [if_pos hw']
     unfold SR
     rw [this]
     exact hI3
   ·have hw':s1.wt u=false:=hw
    refine ⟨_,?_,q2,Tar.look s1 y r u,(y.1,y.2+1),hq2,rfl,rfl,?_,rfl,?_,hIl,hvis1⟩
    ·omega
    ·omega
    ·have:(Tar.look s1 y r u).low=s1.low:=by
      show (if s1.wt u then _ else _)=_
      rw [hw',if_neg (by simp)]
     unfold SR
     rw [this]
     exact hG
 ·have hend':y.2=(adj g.n es y.1).length:=by
   have h1:=dge hend
   have h2:=(hI1.st2 y hys).2
   omega
  refine ⟨_,l0,?_⟩
  have hF':Sym H no F (SR g.n b g q1 s1 ++ []):=by rw [List.append_nil];exact hF
  refine leave_ok hF' hI1 hst1 (by omega) (by omega) (by omega) ?_ ?_
  ·intro hne q' G hG
   rw [List.append_nil] at hG
   have:=left_pop (n:=g.n) (g:=adj g.n es) hst1
   exact ⟨rfl,_,by omega,q',pop s1 y r,rfl,rfl,hG,(Tar.pop_ok hI1 hst1 hend' hne).2,by omega,hvis1⟩
  ·intro heq q' G pre rest hpr hG
   rw [List.append_nil] at hG
   have:=left_close (n:=g.n) (g:=adj g.n es) (pre:=pre) (rest:=rest) hst1
   exact ⟨rfl,_,by omega,q',close s1 y r pre rest,rfl,rfl,hG,Tar.close_ok hI1 hst1 hend' heq hpr,by omega,hvis1⟩
end
end Go.Proofs.YtjdhjgfmloaglaaGreatDoor.C7
end
