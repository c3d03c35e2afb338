import Derived.Test.YtjdhjgfmloaglaaGreatDoorZ19
set_option linter.unusedVariables false
set_option linter.unusedSimpArgs false
section
namespace Go.Tar
def wst (m:Nat→Nat→Bool) (k:Nat):Nat→Nat→Bool:=fun i j=>m i j || (m i k && m k j)
def wrs (m:Nat→Nat→Bool):Nat→Nat→Nat→Bool
 | 0=>m
 | k+1=>wst (wrs m k) k
theorem wrs_step {m:Nat→Nat→Bool}{k i j:Nat}:wrs m (k+1) i j=true↔wrs m k i j=true∨(wrs m k i k=true∧wrs m k k j=true):=by
 show wst (wrs m k) k i j=true↔_
 unfold wst
 rw [Bool.or_eq_true,Bool.and_eq_true]
theorem wrs_mono {m:Nat→Nat→Bool}{i j:Nat}(h:m i j=true):∀ k,wrs m k i j=true
 | 0=>h
 | k+1=>wrs_step.2 (.inl (wrs_mono h k))
theorem wrs_trans {m:Nat→Nat→Bool}:∀ (K:Nat) {i k j:Nat},k < K→wrs m K i k=true→wrs m K k j=true→wrs m K i j=true
 | 0,_,_,_,h,_,_=>by omega
 | K+1,i,k,j,hk,h1,h2=>by
  by_cases he:k=K
  ·subst he
   have a:wrs m k i k=true:=by
    rcases wrs_step.1 h1 with h | h
    ·exact h
    ·exact h.1
   have b:wrs m k k j=true:=by
    rcases wrs_step.1 h2 with h | h
    ·exact h
    ·exact h.2
   exact wrs_step.2 (.inr ⟨a,b⟩)
  ·have hk':k < K:=by omega
   rcases wrs_step.1 h1 with h1 | ⟨h1,h1'⟩
   ·rcases wrs_step.1 h2 with h2 | ⟨h2,h2'⟩
    ·exact wrs_step.2 (.inl (wrs_trans K hk' h1 h2))
    ·exact wrs_step.2 (.inr ⟨wrs_trans K hk' h1 h2,h2'⟩)
   ·rcases wrs_step.1 h2 with h2 | ⟨h2,h2'⟩
    ·exact wrs_step.2 (.inr ⟨h1,wrs_trans K hk' h1' h2⟩)
    ·exact wrs_step.2 (.inr ⟨h1,h2'⟩)
theorem wrs_sound {E:Nat→Nat→Prop}{m:Nat→Nat→Bool}(h:∀ i j,m i j=true→Rch E i j):∀ (k:Nat) {i j:Nat},wrs m k i j=true→Rch E i j
 | 0,i,j,hw=>h i j hw
 | k+1,i,j,hw=>by
  rcases wrs_step.1 hw with h1 | ⟨h1,h2⟩
  ·exact wrs_sound h k h1
  ·exact (wrs_sound h k h1).trans (wrs_sound h k h2)
theorem wrs_full {E:Nat→Nat→Prop}{m:Nat→Nat→Bool}{N:Nat}(h1:∀ i j,E i j→m i j=true) (h2:∀ i,i < N→m i i=true) (h3:∀ i j,E i j→i < N∧j < N) {i j:Nat}(h:Rch E i j) (hi:i < N):wrs m N i j=true:=by
 induction h with
 | refl=>exact wrs_mono (h2 _ hi) N
 | tail h e ih=>
  have hb:=h3 _ _ e
  exact wrs_trans N hb.1 ih (wrs_mono (h1 _ _ e) N)
def cnt (f:Nat→Bool) (n:Nat):Nat:=(List.range n).countP f
theorem cnt_succ {f:Nat→Bool}{n:Nat}:cnt f (n+1)=cnt f n+if f n then 1 else 0:=by
 unfold cnt
 rw [List.range_succ,List.countP_append,List.countP_singleton]
theorem cnt_le {f:Nat→Bool}:∀ n,cnt f n≤n
 | 0=>Nat.le_refl _
 | n+1=>by
  have:=cnt_le (f:=f) n
  rw [cnt_succ]
  split <;> omega
theorem cnt_congr {f f':Nat→Bool}:∀ {n:Nat},(∀ v,v < n→f v=f' v)→cnt f n=cnt f' n
 | 0,_=>rfl
 | n+1,h=>by rw [cnt_succ,cnt_succ,cnt_congr fun v hv=>h v (by omega),h n (by omega)]
theorem cnt_up {f f':Nat→Bool}{v:Nat}(h0:f v=false) (h1:f' v=true) (he:∀ u,u≠v→f' u=f u):∀ {n:Nat},v < n→cnt f' n=cnt f n+1
 | 0,h=>by omega
 | n+1,h=>by
  rw [cnt_succ,cnt_succ]
  by_cases hv:v=n
  ·subst hv
   rw [cnt_congr fun u hu=>he u (by omega),h0,h1]
   simp
  ·rw [cnt_up h0 h1 he (by omega),he n (by omega)]
   omega
theorem cnt_zero {f:Nat→Bool}:∀ {n:Nat},cnt f n=0↔∀ v,v < n→f v=false
 | 0=>⟨fun _ v h=>by omega,fun _=>rfl⟩
 | n+1=>by
  rw [cnt_succ]
  constructor
  ·intro h v hv
   have h1:cnt f n=0:=by omega
   by_cases hn:v=n
   ·subst hn
    cases hf:f v with
    | false=>rfl
    | true=>rw [hf] at h;simp at h
   ·exact cnt_zero.1 h1 v (by omega)
  ·intro h
   rw [cnt_zero.2 fun v hv=>h v (by omega),h n (by omega)]
   rfl
theorem cnt_lt {f:Nat→Bool}:∀ {n:Nat},cnt f n < n→∃ v,v < n∧f v=false
 | 0,h=>by omega
 | n+1,h=>by
  rw [cnt_succ] at h
  cases hf:f n with
  | false=>exact ⟨n,by omega,hf⟩
  | true=>
   rw [hf] at h
   obtain ⟨v,h1,h2⟩:=cnt_lt (f:=f) (n:=n) (by simp at h;omega)
   exact ⟨v,by omega,h2⟩
theorem cnt_all {f:Nat→Bool}{n:Nat}(h:cnt f n=n):∀ v,v < n→f v=true:=by
 intro v hv
 cases hf:f v with
 | true=>rfl
 | false=>
  exfalso
  have h1:=cnt_up (f:=f) (f':=upd f v true) hf upd_self (fun u hu=>upd_ne hu) hv
  have:=cnt_le (f:=upd f v true) n
  omega
theorem least {Q:Nat→Prop}{p:Nat}(h:Q p):∃ q,q≤p∧Q q∧∀ k,k < q→¬ Q k:=by
 induction p using Nat.strongRecOn with
 | ind p ih=>
  by_cases hc:∃ k,k < p∧Q k
  ·obtain ⟨k,hk,hq⟩:=hc
   obtain ⟨q,h1,h2,h3⟩:=ih k hk hq
   exact ⟨q,by omega,h2,h3⟩
  ·exact ⟨p,Nat.le_refl _,h,fun k hk hq=>hc ⟨k,hk,hq⟩⟩
section
variable {r:Nat→Nat→Bool}{N:Nat}
def cls (r:Nat→Nat→Bool) (N:Nat) (i:Nat):List Nat:=(List.range N).filter fun j=>r i j && r j i
def fre (r:Nat→Nat→Bool) (N:Nat) (dn:Nat→Bool) (i:Nat):Bool:=(List.range N).all fun j=>!(r i j && !(r j i)) || dn j
def pck (r:Nat→Nat→Bool) (N:Nat) (dn:Nat→Bool):Option Nat:=(List.range N).find? fun i=>!dn i && fre r N dn i
def dnx (r:Nat→Nat→Bool) (dn:Nat→Bool) (i:Nat):Nat→Bool:=fun j=>dn j || (r i j && r j i)
def bld (r:Nat→Nat→Bool) (N:Nat):Nat→(Nat→Bool)→List (List Nat)
 | 0,_=>[]
 | k+1,dn=>match pck r N dn with
  | none=>[]
  | some i=>cls r N i::bld r N k (dnx r dn i)
theorem pck_some {dn:Nat→Bool}{i:Nat}(hi:i < N) (h1:dn i=false) (h2:fre r N dn i=true) (h3:∀ j,j < i→dn j=false→fre r N dn j=false):pck r N dn=some i:=by
 unfold pck
 rw [List.find?_range_eq_some]
 refine ⟨by rw [h1,h2];rfl,List.mem_range.2 hi,fun j hj=>?_⟩
 cases hd:dn j with
 | true=>rfl
 | false=>rw [h3 j hj hd];rfl
theorem pck_none {dn:Nat→Bool}(h:∀ i,i < N→dn i=true∨fre r N dn i=false):pck r N dn=none:=by
 unfold pck
 rw [List.find?_eq_none]
 intro i hi
 rcases h i (List.mem_range.1 hi) with h | h <;> rw [h] <;> simp
theorem bld_none {dn:Nat→Bool}(h:pck r N dn=none):∀ k,bld r N k dn = []
 | 0=>rfl
 | k+1=>by unfold bld;rw [h]
theorem bld_some {dn:Nat→Bool}{i k:Nat}(h:pck r N dn=some i):bld r N (k+1) dn=cls r N i::bld r N k (dnx r dn i):=by
 show (match pck r N dn with
  | none=>[]
  | some i=>cls r N i::bld r N k (dnx r dn i))=_
 rw [h]
theorem fre_iff {dn:Nat→Bool}{i:Nat}:fre r N dn i=true↔∀ j,j < N→r i j=true→r j i=false→dn j=true:=by
 unfold fre
 rw [List.all_eq_true]
 constructor
 ·intro h j hj h1 h2
  have:=h j (List.mem_range.2 hj)
  rw [h1,h2] at this
  simpa using this
 ·intro h j hj
  have hj':=List.mem_range.1 hj
  cases h1:r i j with
  | false=>simp
  | true=>
   cases h2:r j i with
   | true=>simp
   | false=>rw [h j hj' h1 h2];simp
structure PtOk (r:Nat→Nat→Bool) (N P:Nat) (pt:Nat→Nat) (g:Nat→List Nat):Prop where
 eqv:∀ u v,u < N→v < N→(pt u=pt v↔r u v=true∧r v u=true)
 lt:∀ v,v < N→pt v < P
 full:∀ p,p < P→∃ v,v < N∧pt v=p
 le:P≤N
 ord:∀ u v,u < N→v∈g u→pt v≤pt u
 glt:∀ u v,v∈g u→v < N
 reach:∀ u v,u < N→v < N→(r u v=true↔Rch (Eg g) u v)
def mem (pt:Nat→Nat) (N p:Nat):List Nat:=(List.range N).filter fun v=>pt v == p
section
variable {P:Nat}{pt:Nat→Nat}{g:Nat→List Nat}
theorem mem_iff {p v:Nat}:v∈mem pt N p↔v < N∧pt v=p:=by simp [mem]
theorem PtOk.cls (h:PtOk r N P pt g) {i:Nat}(hi:i < N):cls r N i=mem pt N (pt i):=by
 unfold Tar.cls mem
 refine List.filter_congr fun j hj=>?_
 have hj':=List.mem_range.1 hj
 have:=h.eqv j i hj' hi
 by_cases hc:pt j=pt i
 ·obtain ⟨a,b⟩:=this.1 hc
  rw [a,b,beq_iff_eq.2 hc]
  rfl
 ·have hb:(pt j == pt i)=false:=by simpa using hc
  rw [hb]
  cases h1:r i j with
  | false=>rfl
  | true=>
   cases h2:r j i with
   | false=>rfl
   | true=>exact absurd (this.2 ⟨h2,h1⟩) hc
theorem mem_pos (h:PtOk r N P pt g) {p:Nat}(hp:p < P):∃ v l,mem pt N p=v::l:=by
 obtain ⟨v,h1,h2⟩:=h.full p hp
 have hv:v∈mem pt N p:=mem_iff.2 ⟨h1,h2⟩
 cases hm:mem pt N p with
 | nil=>rw [hm] at hv;cases hv
 | cons a l=>exact ⟨a,l,rfl⟩
theorem mem_first {p v:Nat}{l:List Nat}(h:mem pt N p=v::l):(v < N∧pt v=p)∧∀ u,u < N→pt u=p→v≤u:=by
 have hv:v∈mem pt N p:=by rw [h];exact List.mem_cons_self
 refine ⟨mem_iff.1 hv,fun u h1 h2=>?_⟩
 have hu:u∈mem pt N p:=mem_iff.2 ⟨h1,h2⟩
 have hs:(mem pt N p).Pairwise (· < ·):=List.Pairwise.filter _ List.pairwise_lt_range
 rw [h] at hu hs
 rw [List.pairwise_cons] at hs
 rcases List.mem_cons.1 hu with rfl | hu
 ·exact Nat.le_refl _
 ·exact Nat.le_of_lt (hs.1 u hu)
def Op (N:Nat) (pt:Nat→Nat) (g:Nat→List Nat) (D:Nat→Bool) (p:Nat):Prop:=∀ u,u < N→pt u=p→∀ v∈g u,pt v=p∨D (pt v)=true
theorem Op.reach (h:PtOk r N P pt g) {D:Nat→Bool}(hD:∀ p,p < P→D p=true→Op N pt g D p) {i:Nat}(hi:i < N) (ho:Op N pt g D (pt i)):∀ j,Rch (Eg g) i j→pt j=pt i∨D (pt j)=true:=by
 intro j hj
 have:(j < N)∧(pt j=pt i∨D (pt j)=true):=by
  refine hj.closed (C:=fun v=>v < N∧(pt v=pt i∨D (pt v)=true)) ?_ ⟨hi,.inl rfl⟩
  rintro a b ⟨ha,hc⟩ hab
  have hb:=h.glt a b hab
  refine ⟨hb,?_⟩
  rcases hc with hc | hc
  ·exact ho a ha hc b hab
  ·rcases hD (pt a) (h.lt a ha) hc a ha rfl b hab with h1 | h1
   ·rw [h1];exact .inr hc
   ·exact .inr h1
 exact this.2
theorem fre_op (h:PtOk r N P pt g) {D:Nat→Bool}{dn:Nat→Bool}(hdn:∀ j,j < N→dn j=D (pt j)) (hD:∀ p,p < P→D p=true→Op N pt g D p) {i:Nat}(hi:i < N):fre r N dn i=true↔Op N pt g D (pt i):=by
 rw [fre_iff]
 constructor
 ·intro hf u hu he v hv
  by_cases hc:pt v=pt i
  ·exact .inl hc
  ·right
   have hvN:=h.glt u v hv
   have h1:r i u=true:=((h.eqv u i hu hi).1 he).2
   have h2:r i v=true:=(h.reach i v hi hvN).2 (((h.reach i u hi hu).1 h1).tail hv)
   have h3:r v i=false:=by
    cases h3:r v i with
    | false=>rfl
    | true=>exact absurd ((h.eqv v i hvN hi).2 ⟨h3,h2⟩) hc
   rw [← hdn v hvN]
   exact hf v hvN h2 h3
 ·intro ho j hj h1 h2
  rw [hdn j hj]
  rcases ho.reach h hD hi j ((h.reach i j hi hj).1 h1) with h3 | h3
  ·have:=(h.eqv j i hj hi).1 h3
   rw [h2] at this
   exact absurd this.1 (by simp)
  ·exact h3
theorem op_ex (h:PtOk r N P pt g) {D:Nat→Bool}{p:Nat}(hp:p < P) (hn:D p=false):∃ q,q < P∧D q=false∧Op N pt g D q:=by
 obtain ⟨q,h1,⟨h2,h3⟩,h4⟩:=least (Q:=fun q=>q < P∧D q=false) ⟨hp,hn⟩
 refine ⟨q,h2,h3,fun u hu he v hv=>?_⟩
 have hle:=h.ord u v hu hv
 rw [he] at hle
 rcases Nat.lt_or_eq_of_le hle with hlt | heq
 ·right
  cases hd:D (pt v) with
  | true=>rfl
  | false=>exact absurd ⟨by omega,hd⟩ (h4 _ hlt)
 ·exact .inl heq
theorem pck_op (h:PtOk r N P pt g) {D:Nat→Bool}{dn:Nat→Bool}(hdn:∀ j,j < N→dn j=D (pt j)) (hD:∀ p,p < P→D p=true→Op N pt g D p) {p v:Nat}{l:List Nat}(hp:p < P) (hn:D p=false) (ho:Op N pt g D p) (hm:mem pt N p=v::l)
  (hmin:∀ q u m,q < P→D q=false→Op N pt g D q→mem pt N q=u::m→v≤u):pck r N dn=some v:=by
 obtain ⟨⟨hv,he⟩,_⟩:=mem_first hm
 refine pck_some hv (by rw [hdn v hv,he];exact hn) ((fre_op h hdn hD hv).2 (by rw [he];exact ho)) ?_
 intro j hj hd
 have hjN:j < N:=by omega
 rw [hdn j hjN] at hd
 cases hf:fre r N dn j with
 | false=>rfl
 | true=>
  exfalso
  have hoj:=(fre_op h hdn hD hjN).1 hf
  obtain ⟨u,m,hm'⟩:=mem_pos h (h.lt j hjN)
  have h1:=hmin _ u m (h.lt j hjN) hd hoj hm'
  have h2:=(mem_first hm').2 j hjN rfl
  omega
theorem dnx_op (h:PtOk r N P pt g) {D:Nat→Bool}{dn:Nat→Bool}(hdn:∀ j,j < N→dn j=D (pt j)) {p v:Nat}(hv:v < N) (he:pt v=p):∀ j,j < N→dnx r dn v j=upd D p true (pt j):=by
 intro j hj
 unfold dnx
 rw [hdn j hj]
 have:=h.eqv j v hj hv
 by_cases hc:pt j=p
 ·rw [hc,upd_self]
  have:=this.1 (by rw [hc,he])
  rw [this.1,this.2]
  simp
 ·rw [upd_ne hc]
  cases h1:r v j with
  | false=>simp
  | true=>
   cases h2:r j v with
   | false=>simp
   | true=>exact absurd (by rw [this.2 ⟨h2,h1⟩];exact he) hc
theorem op_next (h:PtOk r N P pt g) {D:Nat→Bool}(hD:∀ p,p < P→D p=true→Op N pt g D p) {p:Nat}(ho:Op N pt g D p):∀ q,q < P→upd D p true q=true→Op N pt g (upd D p true) q:=by
 have mono:∀ q,D q=true→upd D p true q=true:=by
  intro q hq
  by_cases hc:q=p
  ·rw [hc,upd_self]
  ·rw [upd_ne hc];exact hq
 intro q hq hd u hu he v hv
 by_cases hc:q=p
 ·subst hc
  exact (ho u hu he v hv).imp id (mono _)
 ·rw [upd_ne hc] at hd
  exact (hD q hq hd u hu he v hv).imp id (mono _)
end
end
end Go.Tar
end
section
namespace Go.Proofs.YtjdhjgfmloaglaaGreatDoor.C7
open Go Go.V Go.Proofs N07 Go.Tar
attribute [local irreducible] Cvt ExtF CallF hrun App MkS
def m0 (N:Nat) (es:List (Int × Int)) (i j:Nat):Bool:=i == j || (adj N es i).contains j
def rE (N:Nat) (es:List (Int × Int)):Nat→Nat→Bool:=wrs (m0 N es) N
theorem rE_iff {N:Nat}{es:List (Int × Int)}{i j:Nat}(hi:i < N):rE N es i j=true↔Rch (Eg (adj N es)) i j:=by
 constructor
 ·intro h
  refine wrs_sound (m:=m0 N es) ?_ N h
  intro a b hab
  unfold m0 at hab
  rw [Bool.or_eq_true] at hab
  rcases hab with hab | hab
  ·rw [eq_of_beq hab];exact .refl _
  ·exact .one (by simpa using hab)
 ·intro h
  refine wrs_full (E:=Eg (adj N es)) ?_ ?_ ?_ h hi
  ·intro a b hab
   have hab':b∈adj N es a:=hab
   unfold m0
   simp [hab']
  ·intro a _
   simp [m0]
  ·intro a b hab
   have hab':b∈adj N es a:=hab
   refine ⟨?_,adj_lt hab'⟩
   unfold adj at hab'
   obtain ⟨e,_,he⟩:=List.mem_filterMap.1 hab'
   split at he
   ·rename_i hc
    simp only [inb,Bool.and_eq_true,decide_eq_true_eq,beq_iff_eq] at hc
    omega
   ·cases he
def partsOf (N:Nat) (es:List (Int × Int)):List (List Nat):=bld (rE N es) N N fun _=>false
def nOf (n:Int):Nat:=if n < 0∨n > 20000 then 0 else n.toNat
theorem nOf_le {n:Int}:nOf n≤20000:=by unfold nOf;split <;> omega
section
variable {N P:Nat}{pt:Nat→Nat}{g:Nat→List Nat}
structure LdOk (pt:Nat→Nat) (W:Nat→Nat→Prop) (ld:Nat→List Nat):Prop where
 iff:∀ p q,p∈ld q↔p≠q∧∃ u v,W u v∧pt u=p∧pt v=q
 nd:∀ q,(ld q).Nodup
theorem LdOk.congr {W W':Nat→Nat→Prop}{ld:Nat→List Nat}(h:LdOk pt W ld) (hw:∀ u v,W u v↔W' u v):LdOk pt W' ld:=
 ⟨fun p q=>(h.iff p q).trans ⟨fun ⟨a,u,v,b,c⟩=>⟨a,u,v,(hw u v).1 b,c⟩,fun ⟨a,u,v,b,c⟩=>⟨a,u,v,(hw u v).2 b,c⟩⟩,h.nd⟩
theorem LdOk.skip {W:Nat→Nat→Prop}{ld:Nat→List Nat}{a c:Nat}(h:LdOk pt W ld) (hs:pt a=pt c∨pt a∈ld (pt c)):LdOk pt (fun u v=>W u v∨(u=a∧v=c)) ld:=by
 refine ⟨fun p q=>⟨fun hp=>?_,?_⟩,h.nd⟩
 ·obtain ⟨h1,u,v,h2,h3⟩:=(h.iff p q).1 hp
  exact ⟨h1,u,v,.inl h2,h3⟩
 ·rintro ⟨h1,u,v,h2 | ⟨rfl,rfl⟩,h3,h4⟩
  ·exact (h.iff p q).2 ⟨h1,u,v,h2,h3,h4⟩
  ·rcases hs with hs | hs
   ·exact absurd (by rw [← h3,← h4,hs]) h1
   ·rw [← h3,← h4];exact hs
theorem LdOk.put {W:Nat→Nat→Prop}{ld:Nat→List Nat}{a c:Nat}(h:LdOk pt W ld) (h1:pt a≠pt c) (h2:pt a∉ld (pt c)):LdOk pt (fun u v=>W u v∨(u=a∧v=c)) (upd ld (pt c) (ld (pt c) ++ [pt a])):=by
 refine ⟨fun p q=>?_,fun q=>?_⟩
 ·by_cases hq:q=pt c
  ·subst hq
   rw [upd_self,List.mem_append,List.mem_singleton,h.iff]
   constructor
   ·rintro (⟨a1,u,v,a2,a3⟩ | rfl)
    ·exact ⟨a1,u,v,.inl a2,a3⟩
    ·exact ⟨h1,a,c,.inr ⟨rfl,rfl⟩,rfl,rfl⟩
   ·rintro ⟨a1,u,v,a2 | ⟨rfl,rfl⟩,a3,a4⟩
    ·exact .inl ⟨a1,u,v,a2,a3,a4⟩
    ·exact .inr a3.symm
  ·rw [upd_ne hq,h.iff]
   constructor
   ·rintro ⟨a1,u,v,a2,a3⟩
    exact ⟨a1,u,v,.inl a2,a3⟩
   ·rintro ⟨a1,u,v,a2 | ⟨rfl,rfl⟩,a3,a4⟩
    ·exact ⟨a1,u,v,a2,a3,a4⟩
    ·exact absurd a4.symm hq
 ·by_cases hq:q=pt c
  ·subst hq
   rw [upd_self,List.nodup_append]
   exact ⟨h.nd _,by simp,fun x hx y hy e=>by rw [List.mem_singleton.1 hy] at e;rw [e] at hx;exact h2 hx⟩
  ·rw [upd_ne hq];exact h.nd _
def opn (P:Nat) (ld:Nat→List Nat) (D:Nat→Bool) (p:Nat):Int:=if D p=true then -1 else (cnt (fun q=>!D q && decide (p∈ld q)) P:Nat)
theorem opn_put {ld:Nat→List Nat}{D:Nat→Bool}{p q:Nat}(hD:∀ p,D p=false) (hq:q < P) (h2:p∉ld q):opn P (upd ld q (ld q ++ [p])) D=upd (opn P ld D) p (opn P ld D p+1):=by
 funext x
 unfold opn
 simp only [hD,Bool.false_eq_true,if_false,Bool.not_false,Bool.true_and]
 by_cases hx:x=p
 ·subst hx
  rw [upd_self]
  have:=cnt_up (f:=fun q=>decide (x∈ld q)) (f':=fun q'=>decide (x∈upd ld q (ld q ++ [x]) q')) (v:=q) (by simpa using h2) (by simp [upd_self]) (fun u hu=>by simp [upd_ne hu]) hq
  rw [this]
  omega
 ·rw [upd_ne hx]
  congr 1
  refine cnt_congr fun v _=>?_
  by_cases hv:v=q
  ·subst hv
   simp [upd_self,hx]
  ·simp [upd_ne hv]
end
section
variable {H:Hp}{K:Value→Hp→Prop}{Z:List PanicEntry→Hp→Prop}
def pre (N:Nat) (pt:Nat→Nat) (j p:Nat):List Nat:=(List.range j).filter fun v=>pt v == p
theorem pre_succ {N j p:Nat}{pt:Nat→Nat}:pre N pt (j+1) p=if pt j=p then pre N pt j p ++ [j] else pre N pt j p:=by
 unfold pre
 rw [List.range_succ,List.filter_append]
 by_cases h:pt j=p
 ·simp [h]
 ·simp [h]
theorem pre_le {N j p:Nat}{pt:Nat→Nat}:(pre N pt j p).length≤j:=by
 have:=List.length_filter_le (fun v=>pt v == p) (List.range j)
 rw [List.length_range] at this
 exact this
theorem ld_le {N:Nat}{ld:Nat→List Nat}{W:Nat→Nat→Prop}{pt:Nat→Nat}(h:LdOk pt W ld) (hP:∀ u v,W u v→pt u < N) (q:Nat):(ld q).length≤N:=by
 have h1:∀ l:List Nat,l.Nodup→(∀ x∈l,x < N)→l.length≤N:=by
  intro l hn hl
  have hsub:l.length=cnt (fun v=>decide (v∈l)) N:=by
   clear h hP
   induction l with
   | nil=>exact (cnt_zero.2 fun v _=>by simp).symm
   | cons a l ih=>
    rw [List.nodup_cons] at hn
    rw [List.length_cons,ih hn.2 fun x hx=>hl x (List.mem_cons_of_mem _ hx)]
    exact (cnt_up (v:=a) (by simpa using hn.1) (by simp) (fun u hu=>by simp [hu]) (hl a List.mem_cons_self)).symm
  rw [hsub]
  exact cnt_le N
 refine h1 _ (h.nd q) fun p hp=>?_
 obtain ⟨_,u,v,hw,hu,_⟩:=(h.iff p q).1 hp
 rw [← hu]
 exact hP u v hw
def OrdOk (N:Nat) (pt:Nat→Nat) (g:Nat→List Nat) (ch:List Nat):Prop:=∀ a p b,ch=a++p::b→∀ u,u < N→pt u=p→∀ v∈g u,pt v=p∨pt v∈a
theorem OrdOk.snoc {N:Nat}{pt:Nat→Nat}{g:Nat→List Nat}{ch:List Nat}{p:Nat}(h:OrdOk N pt g ch) (hp:∀ u,u < N→pt u=p→∀ v∈g u,pt v=p∨pt v∈ch):OrdOk N pt g (ch ++ [p]):=by
 intro a q b e
 rcases List.eq_nil_or_concat b with rfl | ⟨b',x,rfl⟩
 ·have e':ch ++ [p]=a ++ [q]:=e
  obtain ⟨rfl,h2⟩:=List.append_inj' e' rfl
  simp only [List.cons.injEq,and_true] at h2
  subst h2
  exact hp
 ·have e':ch ++ [p]=(a++q::b') ++ [x]:=by rw [e];simp
  obtain ⟨h1,h2⟩:=List.append_inj' e' rfl
  exact h a q b' h1
def PartsFacts (N:Nat) (es:List (Int × Int)):Prop:=∃ (P:Nat) (pt:Nat→Nat) (ch:List Nat),PtOk (rE N es) N P pt (adj N es)∧ch.length=P∧(∀ p∈ch,p < P)∧ch.Nodup∧(∀ p,p < P→p∈ch)∧partsOf N es=ch.map (mem pt N)∧OrdOk N pt (adj N es) ch
end
end Go.Proofs.YtjdhjgfmloaglaaGreatDoor.C7
end
section
namespace Go.Proofs.YtjdhjgfmloaglaaGreatDoor.P21
open Go Go.V P14 C14 P15 Go.Tar C7
def nm (nodes:List L8) (i:Nat):L8:=(nodes[i]?).getD []
section
variable {χ : Type} [DecidableEq χ] {l:List χ}{z : χ}
def ixG (l:List χ) (z : χ):Nat:=l.idxOf z
theorem ixG_lt (h:z∈l):ixG l z < l.length:=List.idxOf_lt_length_iff.2 h
theorem ixG_get (h:z∈l):l[ixG l z]? = some z:=by
 unfold ixG
 rw [List.getElem?_eq_getElem (List.idxOf_lt_length_iff.2 h),List.getElem_idxOf]
theorem ixG_at (hn:l.Nodup) {i:Nat}(h:l[i]? = some z):ixG l z=i:=idx_at hn h
end
def ix (nodes:List L8) (z:L8):Nat:=ixG nodes z
def eds (nodes:List L8) (cs:List ConD):List (Int × Int):=(cs.filter fun c=>decide (c.op=2)).map fun c=>((ix nodes c.b:Int),(ix nodes c.a:Int))
theorem eds_snoc {nodes:List L8}{cs:List ConD}{c:ConD}{j:Nat}(h:cs[j]? = some c):eds nodes (cs.take (j+1))=eds nodes (cs.take j)++(if c.op=2 then [((ix nodes c.b:Int),(ix nodes c.a:Int))] else []):=by
 unfold eds
 rw [List.take_add_one,h,List.filter_append,List.map_append]
 congr 1
 show ([c].filter fun c=>decide (c.op=2)).map _=_
 by_cases e:c.op=2
 ·rw [if_pos e,List.filter_cons_of_pos (by rw [decide_eq_true e]),List.filter_nil]
  rfl
 ·rw [if_neg e,List.filter_cons_of_neg (by rw [decide_eq_false e];decide),List.filter_nil]
  rfl
theorem eds_len {nodes:List L8}{cs:List ConD}:(eds nodes cs).length≤cs.length:=by
 unfold eds
 rw [List.length_map]
 exact List.length_filter_le _ _
section
variable {nodes lt:List L8}{cs:List ConD}{hid:L8→Bool}
theorem nm_ix {z:L8}(h:z∈nodes):nm nodes (ix nodes z)=z∧ix nodes z < nodes.length:=by
 refine ⟨?_,ixG_lt h⟩
 unfold nm ix
 rw [ixG_get h]
 rfl
theorem ix_nm (hn:nodes.Nodup) {i:Nat}(h:i < nodes.length):ix nodes (nm nodes i)=i:=by
 have:nodes[i]? = some nodes[i]:=List.getElem?_eq_getElem h
 have e:nm nodes i=nodes[i]:=by
  unfold nm
  rw [this]
  rfl
 rw [e]
 exact ixG_at hn this
theorem nm_mem {i:Nat}(h:i < nodes.length):nm nodes i∈nodes:=by
 unfold nm
 rw [List.getElem?_eq_getElem h]
 exact List.getElem_mem h
theorem nm_inj (hn:nodes.Nodup) {i j:Nat}(hi:i < nodes.length) (hj:j < nodes.length) (e:nm nodes i=nm nodes j):i=j:=by
 rw [← ix_nm hn hi,← ix_nm hn hj,e]
def Cov (nodes:List L8) (cs:List ConD):Prop:=∀ c∈cs,c.op=2→c.a∈nodes∧c.b∈nodes
theorem eg_iff (hc:Cov nodes cs) {i j:Nat}:Eg (adj nodes.length (eds nodes cs)) i j↔∃ c∈cs,c.op=2∧ix nodes c.b=i∧ix nodes c.a=j:=by
 unfold Eg adj eds
 rw [List.mem_filterMap]
 constructor
 ·rintro ⟨e,he,h⟩
  obtain ⟨c,hcm,rfl⟩:=List.mem_map.1 he
  obtain ⟨h1,h2⟩:=List.mem_filter.1 hcm
  split at h
  ·rename_i hb
   simp only [inb,Bool.and_eq_true,decide_eq_true_eq,beq_iff_eq] at hb
   refine ⟨c,h1,of_decide_eq_true h2,?_,?_⟩
   ·have:=hb.2
    simpa using this
   ·have:=Option.some_inj.1 h
    simpa using this
  ·cases h
 ·rintro ⟨c,h1,h2,rfl,rfl⟩
  refine ⟨_,List.mem_map.2 ⟨c,List.mem_filter.2 ⟨h1,decide_eq_true h2⟩,rfl⟩,?_⟩
  obtain ⟨ha,hb⟩:=hc c h1 h2
  have la:=(nm_ix ha).2
  have lb:=(nm_ix hb).2
  rw [if_pos]
  ·simp
  ·simp only [inb,Bool.and_eq_true,decide_eq_true_eq,beq_iff_eq]
   refine ⟨⟨⟨⟨?_,?_⟩,?_⟩,?_⟩,?_⟩ <;> omega
theorem rch_rc (hc:Cov nodes cs) {i j:Nat}(h:Rch (Eg (adj nodes.length (eds nodes cs))) i j):Rc (Cp cs) (nm nodes i) (nm nodes j):=by
 induction h with
 | refl=>exact .refl _
 | tail _ e ih=>
  obtain ⟨c,h1,h2,rfl,rfl⟩:=(eg_iff hc).1 e
  obtain ⟨ha,hb⟩:=hc c h1 h2
  rw [(nm_ix hb).1] at ih
  rw [(nm_ix ha).1]
  exact .tail ih ⟨c,h1,h2,rfl,rfl⟩
theorem rc_rch (hc:Cov nodes cs) {a b:L8}(h:Rc (Cp cs) a b):Rch (Eg (adj nodes.length (eds nodes cs))) (ix nodes a) (ix nodes b):=by
 induction h with
 | refl=>exact .refl _
 | tail _ e ih=>
  obtain ⟨c,h1,h2,rfl,rfl⟩:=e
  exact .tail ih ((eg_iff hc).2 ⟨c,h1,h2,rfl,rfl⟩)
def bestI (hid:L8→Bool) (nodes:List L8) (p:List Nat):Nat:=match p.find? (fun i=>!hid (nm nodes i)) with
 | some i=>i
 | none=>p.headD 0
theorem best_in {p:List Nat}(h:p ≠ []):bestI hid nodes p∈p:=by
 unfold bestI
 cases hf:p.find? fun i=>!hid (nm nodes i) with
 | some i=>exact List.mem_of_find?_eq_some hf
 | none=>
  cases p with
  | nil=>exact absurd rfl h
  | cons a l=>exact List.mem_cons_self
theorem best_hid {p:List Nat}(h:p ≠ []) (hb:hid (nm nodes (bestI hid nodes p))=true):∀ i∈p,hid (nm nodes i)=true:=by
 unfold bestI at hb
 cases hf:p.find? fun i=>!hid (nm nodes i) with
 | some i=>
  rw [hf] at hb
  have:=List.find?_some hf
  simp only at hb
  rw [hb] at this
  cases this
 | none=>
  intro i hi
  have:=List.find?_eq_none.1 hf i hi
  simpa using this
def rmap (hid:L8→Bool) (nodes:List L8) (pt:Nat→Nat) (z:L8):L8:=
 if z∈nodes∧hid z=true∧ix nodes z≠bestI hid nodes (mem pt nodes.length (pt (ix nodes z))) then nm nodes (bestI hid nodes (mem pt nodes.length (pt (ix nodes z)))) else z
section
variable {P:Nat}{pt:Nat→Nat}
theorem part_in {i:Nat}(hi:i < nodes.length):i∈mem pt nodes.length (pt i):=mem_iff.2 ⟨hi,rfl⟩
theorem best_at {i:Nat}(hi:i < nodes.length):bestI hid nodes (mem pt nodes.length (pt i)) < nodes.length∧pt (bestI hid nodes (mem pt nodes.length (pt i)))=pt i:=
 mem_iff.1 (best_in (List.ne_nil_of_mem (part_in hi)))
theorem rmap_nm (hn:nodes.Nodup) {i:Nat}(hi:i < nodes.length):rmap hid nodes pt (nm nodes i)=if hid (nm nodes i)=true∧i≠bestI hid nodes (mem pt nodes.length (pt i)) then nm nodes (bestI hid nodes (mem pt nodes.length (pt i))) else nm nodes i:=by
 unfold rmap
 rw [ix_nm hn hi]
 by_cases h:hid (nm nodes i)=true∧i≠bestI hid nodes (mem pt nodes.length (pt i))
 ·rw [if_pos h,if_pos ⟨nm_mem hi,h⟩]
 ·rw [if_neg h,if_neg fun g=>h g.2]
theorem rmap_out {z:L8}(h:z∉nodes):rmap hid nodes pt z=z:=if_neg fun g=>h g.1
theorem rmap_best (hn:nodes.Nodup) {i:Nat}(hi:i < nodes.length):rmap hid nodes pt (nm nodes (bestI hid nodes (mem pt nodes.length (pt i))))=nm nodes (bestI hid nodes (mem pt nodes.length (pt i))):=by
 obtain ⟨hb,hp⟩:=best_at (hid:=hid) (pt:=pt) hi
 rw [rmap_nm hn hb,if_neg]
 rintro ⟨_,g⟩
 rw [hp] at g
 exact g rfl
theorem rmap_idem (hn:nodes.Nodup) (z:L8):rmap hid nodes pt (rmap hid nodes pt z)=rmap hid nodes pt z:=by
 by_cases h:z∈nodes
 ·obtain ⟨e,hi⟩:=nm_ix h
  rw [← e,rmap_nm hn hi]
  split
  ·exact rmap_best hn hi
  ·rename_i g
   rw [rmap_nm hn hi,if_neg g]
 ·rw [rmap_out h,rmap_out h]
theorem rnd_ok (hn:nodes.Nodup) (hc:Cov nodes cs) (h:PtOk (rE nodes.length (eds nodes cs)) nodes.length P pt (adj nodes.length (eds nodes cs))):Rnd hid cs (rmap hid nodes pt):=by
 have key:∀ {i j:Nat},i < nodes.length→j < nodes.length→(pt i=pt j↔Mut cs (nm nodes i) (nm nodes j)):=by
  intro i j hi hj
  rw [h.eqv i j hi hj,h.reach i j hi hj,h.reach j i hj hi]
  constructor
  ·rintro ⟨a,b⟩
   exact ⟨rch_rc hc a,rch_rc hc b⟩
  ·rintro ⟨a,b⟩
   have a:=rc_rch hc a
   have b:=rc_rch hc b
   rw [ix_nm hn hi,ix_nm hn hj] at a b
   exact ⟨a,b⟩
 have inn:∀ {a b:L8},Mut cs a b→a≠b→(a∈nodes∧named cs a)∧b∈nodes∧named cs b:=by
  rintro a b ⟨h1,h2⟩ hne
  obtain ⟨u,d,hd,d2,e1,rfl⟩:=h1.last hne
  obtain ⟨v,q,hq,q2,e2,rfl⟩:=h2.last fun e=>hne e.symm
  exact ⟨⟨(hc q hq q2).1,⟨q,hq,.inl rfl⟩⟩,(hc d hd d2).1,⟨d,hd,.inl rfl⟩⟩
 refine ⟨fun z hz=>?_,fun a b ha hne hm=>?_⟩
 ·by_cases hm:z∈nodes
  ·obtain ⟨e,hi⟩:=nm_ix hm
   have hz':=hz
   rw [← e,rmap_nm hn hi] at hz'
   by_cases g:hid (nm nodes (ix nodes z))=true∧ix nodes z≠bestI hid nodes (mem pt nodes.length (pt (ix nodes z)))
   ·have er:rmap hid nodes pt z=nm nodes (bestI hid nodes (mem pt nodes.length (pt (ix nodes z)))):=by
     conv=>lhs;rw [← e]
     rw [rmap_nm hn hi,if_pos g]
    obtain ⟨hb,hp⟩:=best_at (hid:=hid) (pt:=pt) hi
    have hmut:=(key hi hb).1 hp.symm
    rw [e] at hmut g
    rw [← er] at hmut
    obtain ⟨h1,h2⟩:=inn hmut fun e=>hz e.symm
    exact ⟨g.1,h1.2,h2.2,hmut,rmap_idem hn z⟩
   ·rw [if_neg g] at hz'
    exact absurd rfl hz'
  ·exact absurd (rmap_out hm) hz
 ·obtain ⟨⟨h1,_⟩,h2,_⟩:=inn hm hne
  obtain ⟨ea,hi⟩:=nm_ix h1
  obtain ⟨eb,hj⟩:=nm_ix h2
  have hij:ix nodes a≠ix nodes b:=fun e=>hne (by rw [← ea,← eb,e])
  have hp:pt (ix nodes a)=pt (ix nodes b):=(key hi hj).2 (by rw [ea,eb];exact hm)
  by_cases g:ix nodes a=bestI hid nodes (mem pt nodes.length (pt (ix nodes a)))
  ·right
   have hall:=best_hid (hid:=hid) (nodes:=nodes) (p:=mem pt nodes.length (pt (ix nodes a))) (List.ne_nil_of_mem (part_in hi)) (by rw [← g,ea];exact ha)
   have hb:=hall (ix nodes b) (mem_iff.2 ⟨hj,hp.symm⟩)
   rw [← eb,rmap_nm hn hj,if_pos ⟨hb,by rw [← hp,← g];exact fun e=>hij e.symm⟩,← hp,← g,ea,eb]
   exact hne
  ·left
   obtain ⟨hb,hpb⟩:=best_at (hid:=hid) (pt:=pt) hi
   rw [← ea,rmap_nm hn hi,if_pos ⟨by rw [ea];exact ha,g⟩]
   exact fun e=>g (nm_inj hn hi hb e.symm)
theorem nm_map:∀ (nodes:List L8),(List.range nodes.length).map (nm nodes)=nodes:=fun nodes=>by
 refine List.ext_getElem? fun i=>?_
 rw [List.getElem?_map]
 by_cases h:i < nodes.length
 ·rw [List.getElem?_range h,List.getElem?_eq_getElem h]
  show some (nm nodes i)=_
  unfold nm
  rw [List.getElem?_eq_getElem h]
  rfl
 ·have e1:(List.range nodes.length)[i]? = none:=List.getElem?_eq_none (by rw [List.length_range];omega)
  have e2:nodes[i]? = none:=List.getElem?_eq_none (by omega)
  rw [e1,e2]
  rfl
theorem rsp_ok (hn:nodes.Nodup) (hc:Cov nodes cs) (h:PtOk (rE nodes.length (eds nodes cs)) nodes.length P pt (adj nodes.length (eds nodes cs))):Rsp hid nodes cs (rmap hid nodes pt):=by
 have key:∀ {i j:Nat},i < nodes.length→j < nodes.length→(pt i=pt j↔Mut cs (nm nodes i) (nm nodes j)):=by
  intro i j hi hj
  rw [h.eqv i j hi hj,h.reach i j hi hj,h.reach j i hj hi]
  constructor
  ·rintro ⟨a,b⟩
   exact ⟨rch_rc hc a,rch_rc hc b⟩
  ·rintro ⟨a,b⟩
   have a:=rc_rch hc a
   have b:=rc_rch hc b
   rw [ix_nm hn hi,ix_nm hn hj] at a b
   exact ⟨a,b⟩
 intro z
 by_cases hz:z∈nodes∧hid z=true
 ·obtain ⟨hz1,hz2⟩:=hz
  rw [if_pos ⟨hz1,hz2⟩]
  obtain ⟨e,hi⟩:=nm_ix hz1
  have hm:(mem pt nodes.length (pt (ix nodes z))).map (nm nodes)=nodes.filter (mutB cs z):=by
   conv=>rhs;rw [← nm_map nodes,List.filter_map]
   unfold mem
   congr 1
   refine List.filter_congr fun v hv=>?_
   have hv:=List.mem_range.1 hv
   rw [Bool.eq_iff_iff,beq_iff_eq]
   show _↔mutB cs z (nm nodes v)=true
   rw [mutB_iff,eq_comm,key hi hv,e]
  have hb:nm nodes (bestI hid nodes (mem pt nodes.length (pt (ix nodes z))))=bestL hid (nodes.filter (mutB cs z)) z:=by
   rw [← hm]
   have hin:=part_in (pt:=pt) hi
   generalize mem pt nodes.length (pt (ix nodes z))=p at hin
   unfold bestI bestL
   rw [List.find?_map]
   show nm nodes (match p.find? ((fun y=>!hid y) ∘ nm nodes) with | some i=>i | none=>p.headD 0)=_
   cases p.find? ((fun y=>!hid y) ∘ nm nodes) with
   | some i=>rfl
   | none=>
    cases p with
    | nil=>cases hin
    | cons a l=>rfl
  rw [← hb]
  conv=>lhs;rw [← e]
  rw [rmap_nm hn hi]
  by_cases g:ix nodes z=bestI hid nodes (mem pt nodes.length (pt (ix nodes z)))
  ·rw [if_neg fun h=>h.2 g,← g]
  ·rw [if_pos ⟨by rw [e];exact hz2,g⟩]
 ·rw [if_neg hz]
  unfold rmap
  rw [if_neg fun h=>hz ⟨h.1,h.2.1⟩]
end
end
structure RI (R N:L8→L8) (done:L8→Prop):Prop where
 yes:∀ z,done z→N z=R z
 no:∀ z,¬ done z→N z=z
section
variable {R N:L8→L8}{done:L8→Prop}{n:L8}
theorem RI.congr {done':L8→Prop}(h:RI R N done) (hd:∀ z,done' z↔done z):RI R N done':=⟨fun z hz=>h.yes z ((hd z).1 hz),fun z hz=>h.no z fun g=>hz ((hd z).2 g)⟩
theorem RI.stay (h:RI R N done) (hn:R n=n):RI R N fun z=>done z∨z=n:=by
 refine ⟨fun z hz=>?_,fun z hz=>h.no z fun g=>hz (.inl g)⟩
 rcases hz with hz | rfl
 ·exact h.yes z hz
 ·by_cases g:done z
  ·exact h.yes z g
  ·rw [h.no z g,hn]
theorem RI.put (h:RI R N done) (hi:∀ z,R (R z)=R z) (hno:¬ done n) (hne:R n≠n):N n=n∧N (R n)=R n∧RI R (fun z=>if N z=n then R n else N z) fun z=>done z∨z=n:=by
 have h1:=h.no n hno
 have h2:N (R n)=R n:=by
  by_cases g:done (R n)
  ·rw [h.yes _ g,hi]
  ·exact h.no _ g
 refine ⟨h1,h2,fun z hz=>?_,fun z hz=>?_⟩
 ·show (if N z=n then R n else N z)=R z
  rcases hz with hz | rfl
  ·have e:=h.yes z hz
   rw [e,if_neg]
   intro g
   have:=hi z
   rw [g] at this
   exact hne this
  ·rw [if_pos h1]
 ·show (if N z=n then R n else N z)=z
  have e:=h.no z fun g=>hz (.inl g)
  rw [e,if_neg fun g=>hz (.inr g)]
end
theorem Sw.few {sw:List Swp}{N:L8→L8}{rk:L8→Nat}{nodes:List L8}(h:Sw sw N rk) (hm:∀ z,N z≠z→z∈nodes):sw.length≤nodes.length:=by
 have hn:(sw.map (·.1)).Nodup:=by
  have:=h.srt
  unfold List.Nodup
  rw [List.pairwise_map]
  exact this.imp fun hxy e=>by rw [e,linL.irr] at hxy;cases hxy
 have:=subset_len hn fun z hz=>by
  obtain ⟨x,hx,rfl⟩:=List.mem_map.1 hz
  exact hm _ (h.moved hx)
 rwa [List.length_map] at this
theorem Sw.dom {sw:List Swp}{N:L8→L8}{rk:L8→Nat}(h:Sw sw N rk) {a:L8}:(∃ x∈sw,x.1=a)↔N a≠a:=by
 constructor
 ·rintro ⟨x,hx,rfl⟩
  exact h.moved hx
 ·intro hne
  apply Classical.byContradiction
  intro hno
  exact hne (h.fix a fun x hx e=>hno ⟨x,hx,e⟩)
end Go.Proofs.YtjdhjgfmloaglaaGreatDoor.P21
end
section
namespace Go.Proofs.YtjdhjgfmloaglaaGreatDoor.C7
open Go Go.V Go.Proofs N07 Go.Tar
attribute [local irreducible] Cvt ExtF CallF hrun App MkS
section
variable {H:Hp}{K:Value→Hp→Prop}{Z:List PanicEntry→Hp→Prop}
theorem ptok {N:Nat}{es:List (Int × Int)}{s:St}(hI:Inv N (adj N es) s) (hst:s.steps = []) (hvis:∀ v,v < N→s.num v≠0):PtOk (rE N es) N s.parts s.pt (adj N es):=by
 obtain ⟨f1,f2,f3,f4,f5⟩:=hI.final hst hvis
 refine ⟨fun u v hu hv=>?_,f2,f3,f4,f5,fun u v hv=>adj_lt hv,fun u v hu hv=>rE_iff hu⟩
 rw [f1 u v hu hv,rE_iff hu,rE_iff hv]
abbrev ro (s:Sl) (ss:List Sl) (ls:List (List Nat)):It:=rows2 flN 103 3 1 none s ss ls
set_option maxRecDepth 20000 in
theorem partsS_ok {n:Int}{l:Sl}{es:List (Int × Int)}(h:Rd flE 2 H l es) (hl:es.length≤1000)
  (k:∀ s H' (a b:It) (ss:List Sl),Sym H no H' [a,b]→PartsFacts (nOf n) es→ss.length=(partsOf (nOf n) es).length→(∀ E,a.ok E→b.ok E→Rd flS 1 E s ss∧∀ (i:Nat) (si:Sl) (li:List Nat),ss[i]? = some si→(partsOf (nOf n) es)[i]? = some li→Rd flN 1 E si li)→K (.slice s.a s.n s.c) H'):CallF Tryz.prog 92 #[.int .i64 n,.slice l.a l.n l.c] H K Z:=by
 refine V92_ok ?_
 unfold V92
 refine made_ok h (by omega) fun G ssG H1 hG0 hGn=>?_
 have hG1:Sym H no H1 [ro G ssG (adjs (nOf n) es)]:=hG0
 have hGn':G.n=nOf n:=hGn
 clear hG0 hGn
 refine ⟨G,rfl,?_⟩
 have hok1:Rows2 flN 103 3 1 none H1 G ssG (adjs (nOf n) es):=hG1.get (k:=0) rfl
 refine run_ok hok1 nOf_le hl fun b q s H2 hS hI hst hvis=>?_
 have hP:=ptok hI hst hvis
 have hN:nOf n≤20000:=nOf_le
 have hPle:=hP.le
 generalize nOf n=N at *
 have hgl:ssG.length=N:=by rw [hok1.len,adjs_len]
 have h2:Sym H no H2 (SR N b G q s ++ [ro G ssG (adjs N es)]):=hG1.join hS
 refine ⟨_,rfl,?_⟩
 refine ⟨_,by rw [add_mk];exact h2.ld (k:=0) rfl 6,?_⟩
 refine h2.make tyII FlS (zt:=⟨none,0,0⟩) rfl rfl (by omega) fun mk H3 hmk _ _ h3=>?_
 have h3':=h3.none2 (fl:=flN) (sz:=1) (E2:=3)
 rw [mp_rep (N:=s.parts) (f:=pre N s.pt 0) fun _=>rfl] at h3'
 refine ⟨q.e,by rw [add_mk];exact h3'.ld (k:=1) rfl 5,?_⟩
 have e5:q.e.n=N:=by have:=RowN.len FlN (by decide) (h3'.get (k:=6) rfl);rw [this];simp [mp]
 -- the members
 refine ⟨fun t A m=>∃ (j:Nat) (ss:List Sl),t=(j:Int)∧j≤N∧m=N - j∧Sym H no A (ro mk ss (mp s.parts (pre N s.pt j))::(SR N b G q s ++ [ro G ssG (adjs N es)])),⟨_,0,_,rfl,Nat.zero_le _,rfl,h3'⟩,?_⟩
 clear h3 h3'
 rintro t A m ⟨j,ssM,rfl,hj,rfl,hA⟩ scr
 refine ⟨fun hlt=>?_,fun hge=>?_⟩
 ·have hjN:j < N:=by have:=dlt hlt;omega
  refine (hA.rd (k:=6) FlN (by decide) rfl).ixn FlN (mp_get hjN) fun ad ea=>⟨_,ea,?_⟩
  have hpj:=hP.lt j hjN
  have hok:Rows2 flN 103 3 1 none A mk ssM (mp s.parts (pre N s.pt j)):=hA.get (k:=0) rfl
  have hlen:ssM.length=s.parts:=by rw [hok.len];simp [mp]
  have hs:ssM[s.pt j]? = some (ssM[s.pt j]'(by omega)):=List.getElem?_eq_getElem _
  generalize ssM[s.pt j]'(by omega)=si at hs
  refine (hok.rd FlN (by decide)).1.ixn FlS hs fun ad2 e2=>⟨si,e2,fun b1 B hB=>?_⟩
  refine app_in hA hs (mp_get hpj) hB (by have:=@pre_le N j (s.pt j) s.pt;omega) fun ap C _ hst=>hst _ fun D ss' hD=>?_
  refine ⟨N - (j+1),by omega,j+1,ss',wi (by omega),hjN,rfl,?_⟩
  have e:(mp s.parts (pre N s.pt j)).set (s.pt j) (pre N s.pt j (s.pt j) ++ [j])=mp s.parts (pre N s.pt (j+1)):=by
   rw [mp_set]
   congr 1
   funext p
   rw [pre_succ]
   by_cases hp:p=s.pt j
   ·subst hp;rw [upd_self,if_pos rfl]
   ·rw [upd_ne hp,if_neg (Ne.symm hp)]
  rw [← e]
  exact hD
 have hge':j=N:=by have:=dge hge;omega
 subst hge'
 have em:pre j s.pt j=Tar.mem s.pt j:=rfl
 rw [em] at hA
 clear hge hj em
 -- who leads to whom
 refine ⟨_,by rw [add_mk];exact hA.ld (k:=1) rfl 6,?_⟩
 refine hA.make tyII FlS (zt:=⟨none,0,0⟩) rfl rfl (by omega) fun mk1 B hmk1 _ _ hB0=>?_
 have hB:=hB0.none2 (fl:=flN) (sz:=1) (E2:=3)
 rw [mp_rep (N:=s.parts) (f:=fun _:Nat=>([]:List Nat)) fun _=>rfl] at hB
 refine ⟨_,by rw [add_mk];exact hB.ld (k:=2) rfl 6,?_⟩
 refine hB.make tyI FlI (zt:=0) rfl rfl (by omega) fun mk2 C hmk2 _ _ hC0=>?_
 have hld0:LdOk s.pt (fun u v=>u < 0∧v∈adj j es u) fun _=>[]:=⟨fun p q=>by simp,fun q=>by simp⟩
 have hC:Sym H no C (arr flI 3 1 mk2 (mp s.parts (opn s.parts (fun _=>[]) fun _=>false))::ro mk1 (List.replicate s.parts ⟨none,0,0⟩) (mp s.parts fun _=>[])::ro mk ssM (mp s.parts (Tar.mem s.pt j))::(SR j b G q s ++ [ro G ssG (adjs j es)])):=by
  have e:(List.replicate s.parts (0:Int))=mp s.parts (opn s.parts (fun _=>[]) fun _=>false):=mp_rep fun v=>by
   unfold opn
   rw [if_neg (by simp),cnt_zero.2 fun v _=>by simp]
   rfl
  rw [← e]
  exact hC0
 clear hB hB0 hC0
 refine ⟨q.e,by rw [add_mk];exact hC.ld (k:=3) rfl 5,?_⟩
 refine ⟨fun t A m=>∃ (i:Nat) (ssL:List Sl) (ld:Nat→List Nat),t=(i:Int)∧i≤j∧m=j - i∧LdOk s.pt (fun u v=>u < i∧v∈adj j es u) ld ∧
   Sym H no A (arr flI 3 1 mk2 (mp s.parts (opn s.parts ld fun _=>false))::ro mk1 ssL (mp s.parts ld)::ro mk ssM (mp s.parts (Tar.mem s.pt j))::(SR j b G q s ++ [ro G ssG (adjs j es)])),⟨_,0,_,_,rfl,Nat.zero_le _,rfl,hld0,hC⟩,?_⟩
 clear hC hld0
 rintro t D m ⟨i,ssL,ld,rfl,hi,rfl,hld,hD⟩ scr1
 refine ⟨fun hlt=>?_,fun hge=>?_⟩
 ·have hiN:i < j:=by have:=dlt hlt;omega
  refine (hD.rd (k:=8) FlN (by decide) rfl).ixn FlN (mp_get hiN) fun ad8 e8=>⟨_,e8,?_⟩
  have hsi:ssG[i]? = some (ssG[i]'(by omega)):=List.getElem?_eq_getElem _
  generalize ssG[i]'(by omega)=si at hsi
  have hokG:Rows2 flN 103 3 1 none D G ssG (adjs j es):=hD.get (k:=10) rfl
  refine (hokG.rd FlN (by decide)).1.ixn FlS hsi fun ad9 e9=>⟨si,e9,?_⟩
  have hsil:si.n=(adj j es i).length:=((hokG.rd FlN (by decide)).2 i si _ hsi (adjs_get hiN)).len
  refine ⟨fun t A m=>∃ (c:Nat) (ssL:List Sl) (ld:Nat→List Nat),t=(c:Int)∧c≤(adj j es i).length∧m=(adj j es i).length - c∧LdOk s.pt (fun u v=>(u < i∧v∈adj j es u)∨(u=i∧v∈(adj j es i).take c)) ld ∧
    Sym H no A (arr flI 3 1 mk2 (mp s.parts (opn s.parts ld fun _=>false))::ro mk1 ssL (mp s.parts ld)::ro mk ssM (mp s.parts (Tar.mem s.pt j))::(SR j b G q s ++ [ro G ssG (adjs j es)])),⟨_,0,ssL,ld,rfl,Nat.zero_le _,rfl,hld.congr fun u v=>by simp,hD⟩,?_⟩
  clear hD hld
  clear ssL ld
  rintro t E m ⟨c,ssL,ld,rfl,hc,rfl,hld,hE⟩ scr2
  have hael:=@adj_le j i es
  refine ⟨fun hlt2=>?_,fun hge2=>?_⟩
  ·have hcl:c < (adj j es i).length:=by have:=dlt hlt2;omega
   obtain ⟨u,hu⟩:∃ u,(adj j es i)[c]? = some u:=⟨_,List.getElem?_eq_getElem hcl⟩
   have huN:u < j:=adj_lt (List.mem_of_getElem? hu)
   have htake:(adj j es i).take (c+1)=(adj j es i).take c ++ [u]:=by
    rw [List.take_succ_eq_append_getElem hcl]
    congr 2
    rw [List.getElem?_eq_getElem hcl] at hu
    exact Option.some.inj hu
   have hW:∀ a d,((a < i∧d∈adj j es a)∨(a=i∧d∈(adj j es i).take c))∨(a=i∧d=u)↔((a < i∧d∈adj j es a)∨(a=i∧d∈(adj j es i).take (c+1))):=by
    intro a d
    rw [htake,List.mem_append,List.mem_singleton]
    constructor
    ·rintro ((h | ⟨h1,h2⟩) | ⟨h1,h2⟩)
     ·exact .inl h
     ·exact .inr ⟨h1,.inl h2⟩
     ·exact .inr ⟨h1,.inr h2⟩
    ·rintro (h | ⟨h1,h2 | h2⟩)
     ·exact .inl (.inl h)
     ·exact .inl (.inr ⟨h1,h2⟩)
     ·exact .inr ⟨h1,h2⟩
   have hokG:Rows2 flN 103 3 1 none E G ssG (adjs j es):=hE.get (k:=10) rfl
   have rsi:=(hokG.rd FlN (by decide)).2 i si _ hsi (adjs_get hiN)
   refine rsi.ixn FlN hu fun ad10 e10=>⟨_,e10,q.e,by rw [add_mk];exact hE.ld (k:=3) rfl 5,?_⟩
   refine (hE.rd (k:=8) FlN (by decide) rfl).ixn FlN (mp_get huN) fun ad12 e12=>⟨_,e12,fun hne=>?_,fun heq=>?_⟩
   ·have hne':s.pt i≠s.pt u:=by
     intro hc
     rw [hc] at hne
     simp at hne
    have hpu:=hP.lt u huN
    have hpi:=hP.lt i hiN
    have hokL:Rows2 flN 103 3 1 none E mk1 ssL (mp s.parts ld):=hE.get (k:=1) rfl
    have hlenL:ssL.length=s.parts:=by rw [hokL.len];simp [mp]
    have hsL:ssL[s.pt u]? = some (ssL[s.pt u]'(by omega)):=List.getElem?_eq_getElem _
    generalize ssL[s.pt u]'(by omega)=sL at hsL
    have hldl:(ld (s.pt u)).length≤s.parts:=by
     refine ld_le (N:=s.parts) hld ?_ _
     rintro a d (⟨h1,_⟩ | ⟨h1,_⟩)
     ·exact hP.lt a (by omega)
     ·rw [h1];exact hpi
    have rL:=(hokL.rd FlN (by decide)).2 (s.pt u) sL (ld (s.pt u)) hsL (mp_get hpu)
    refine (hokL.rd FlN (by decide)).1.ixn FlS hsL fun ad13 e13=>⟨sL,e13,?_⟩
    refine contains_ok rL (by omega) ⟨_,rfl,fun hno=>?_,fun hyes=>?_⟩
    ·have hno':s.pt i∉ld (s.pt u):=by simpa using hno
     refine (hokL.rd FlN (by decide)).1.ixn FlS hsL fun ad14 e14=>⟨sL,e14,fun b1 F hF=>?_⟩
     have hE2:=hE.re [1,0,2,3,4,5,6,7,8,9,10] (by decide)
     have hE3:Sym H no E (ro mk1 ssL (mp s.parts ld)::arr flI 3 1 mk2 (mp s.parts (opn s.parts ld fun _=>false))::ro mk ssM (mp s.parts (Tar.mem s.pt j))::(SR j b G q s ++ [ro G ssG (adjs j es)])):=hE2
     refine app_in hE3 hsL (mp_get hpu) hF (by omega) fun ap I _ hst=>hst _ fun J ss' hJ=>?_
     refine (hJ.rd (k:=1) FlI (by decide) rfl).ixn FlI (mp_get hpi) fun ad16 e16=>⟨_,e16,?_⟩
     have hop:opn s.parts ld (fun _=>false) (s.pt i)≤(s.parts:Int)∧0≤opn s.parts ld (fun _=>false) (s.pt i):=by
      unfold opn
      rw [if_neg (by simp)]
      have:=cnt_le (f:=fun q=>!false && decide (s.pt i∈ld q)) s.parts
      constructor
      ·exact Int.ofNat_le.2 this
      ·omega
     rw [wid (by omega) (by omega)]
     refine hJ.stn (k:=1) (y:=opn s.parts ld (fun _=>false) (s.pt i)+1) FlI rfl (mp_get hpi) rfl fun L hL=>?_
     refine ⟨(adj j es i).length - (c+1),by omega,c+1,ss',upd ld (s.pt u) (ld (s.pt u) ++ [s.pt i]),wi (by omega),hcl,rfl,(hld.put hne' hno').congr hW,?_⟩
     rw [opn_put (fun _=>rfl) hpu hno',← mp_set,← mp_set]
     exact hL.re [1,0,2,3,4,5,6,7,8,9,10] (by decide)
    ·have hyes':s.pt i∈ld (s.pt u):=by simpa using hyes
     exact ⟨(adj j es i).length - (c+1),by omega,c+1,ssL,ld,wi (by omega),hcl,rfl,(hld.skip (.inr hyes')).congr hW,hE⟩
   ·have heq':s.pt i=s.pt u:=by
     have:((s.pt u:Nat):Int)=((s.pt i:Nat):Int):=by simpa using heq
     omega
    exact ⟨(adj j es i).length - (c+1),by omega,c+1,ssL,ld,wi (by omega),hcl,rfl,(hld.skip (.inl heq')).congr hW,hE⟩
  ·have hge2':=dge hge2
   have htk:(adj j es i).take c=adj j es i:=List.take_of_length_le (by omega)
   refine ⟨j - (i+1),by omega,i+1,ssL,ld,wi (by omega),hiN,rfl,hld.congr fun u v=>?_,hE⟩
   rw [htk]
   constructor
   ·rintro (⟨h1,h2⟩ | ⟨rfl,h2⟩)
    ·exact ⟨by omega,h2⟩
    ·exact ⟨by omega,h2⟩
   ·rintro ⟨h1,h2⟩
    by_cases hui:u=i
    ·subst hui;exact .inr ⟨rfl,h2⟩
    ·exact .inl ⟨by omega,h2⟩
 have hge':i=j:=by have:=dge hge;omega
 subst hge'
 clear hge hi
 -- one by one
 refine ⟨_,by rw [add_mk];exact hD.ld (k:=3) rfl 6,?_⟩
 have hokM:Rows2 flN 103 3 1 none D mk ssM (mp s.parts (Tar.mem s.pt i)):=hD.get (k:=2) rfl
 have hlenM:ssM.length=s.parts:=by rw [hokM.len];simp [mp]
 have hokL:Rows2 flN 103 3 1 none D mk1 ssL (mp s.parts ld):=hD.get (k:=1) rfl
 have hlenL:ssL.length=s.parts:=by rw [hokL.len];simp [mp]
 have hiff:∀ p q,p∈ld q↔p≠q∧∃ u v,(u < i∧v∈adj i es u)∧s.pt u=p∧s.pt v=q:=hld.iff
 -- nothing more that a part leads to: no other counted
 have hop0:∀ (D':Nat→Bool) p,p < s.parts→D' p=false→(opn s.parts ld D' p=0↔Tar.Op i s.pt (adj i es) D' p):=by
  intro D' p hp hd
  unfold opn
  rw [if_neg (by rw [hd];simp)]
  constructor
  ·intro hz u hu hup v hv
   have hz':cnt (fun q=>!D' q && decide (p∈ld q)) s.parts=0:=by omega
   have:=cnt_zero.1 hz' (s.pt v) (hP.lt v (adj_lt hv))
   by_cases hc:s.pt v=p
   ·exact .inl hc
   ·right
    have hin:p∈ld (s.pt v):=(hiff p (s.pt v)).2 ⟨fun e=>hc e.symm,u,v,⟨hu,hv⟩,hup,rfl⟩
    simpa [hin] using this
  ·intro ho
   rw [cnt_zero.2 fun q' hq'=>?_]
   ·rfl
   cases hd':D' q' with
   | true=>simp
   | false=>
    by_cases hin:p∈ld q'
    ·obtain ⟨hne,u,v,⟨hu,hv⟩,hup,hvq⟩:=(hiff p q').1 hin
     rcases ho u hu hup v hv with h1 | h1
     ·exact absurd (by rw [← hvq,h1]) hne
     ·rw [hvq,hd'] at h1;cases h1
    ·simp [hin]
 have hopb:∀ (D':Nat→Bool) p,-1≤opn s.parts ld D' p∧opn s.parts ld D' p≤(s.parts:Int):=by
  intro D' p
  unfold opn
  split
  ·omega
  ·have:=cnt_le (f:=fun q=>!D' q && decide (p∈ld q)) s.parts
   omega
 let ms:List Nat→List Sl:=fun ch=>ch.filterMap fun p=>ssM[p]?
 have hmsl:∀ ch:List Nat,(∀ p∈ch,p < s.parts)→(ms ch).length=ch.length:=by
  intro ch
  induction ch with
  | nil=>intro _;rfl
  | cons p ch ih=>
   intro hc
   have hp:ssM[p]? = some (ssM[p]'(by rw [hlenM];exact hc p List.mem_cons_self)):=List.getElem?_eq_getElem _
   show (List.filterMap _ (p::ch)).length=_
   rw [List.filterMap_cons,hp]
   simp only [List.length_cons]
   exact congrArg (· + 1) (ih fun x hx=>hc x (List.mem_cons_of_mem _ hx))
 have hD1:=hD.nilrow flS 103 1
 let r:=rE i es
 refine ⟨fun out t A m=>∃ (c:Nat) (ch:List Nat) (D':Nat→Bool) (dn:Nat→Bool),t=(c:Int)∧c≤s.parts∧m=s.parts - c∧ch.length=c∧(∀ p∈ch,p < s.parts)∧(∀ v,v < i→dn v=D' (s.pt v))∧(∀ p,p < s.parts→D' p=true→Tar.Op i s.pt (adj i es) D' p)∧cnt D' s.parts=c∧(∀ p,D' p=true↔p∈ch)∧ch.Nodup∧OrdOk i s.pt (adj i es) ch ∧
   (∀ k,bld r i (c+k) (fun _=>false)=ch.map (Tar.mem s.pt i)++bld r i k dn) ∧
   Sym H no A (arr flS 103 1 out (ms ch)::arr flI 3 1 mk2 (mp s.parts (opn s.parts ld D'))::ro mk1 ssL (mp s.parts ld)::ro mk ssM (mp s.parts (Tar.mem s.pt i))::(SR i b G q s ++ [ro G ssG (adjs i es)])),
  ⟨_,0,[],fun _=>false,fun _=>false,rfl,Nat.zero_le _,rfl,rfl,by simp,fun _ _=>rfl,by simp,cnt_zero.2 fun _ _=>rfl,by simp,by simp,fun a p b e=>by simp at e,fun k=>by simp,hD1⟩,?_⟩
 clear hD1 hD hokM hokL
 rintro out t A1 m ⟨c,ch,D',dn,rfl,hc,rfl,hcl,hch,hdn,hDo,hcnt,hDch,hchn,hord,hbld,hA1⟩ scr2
 refine ⟨fun hlt=>?_,fun hge=>?_⟩
 rotate_left
 ·-- all told
  have hge':c=s.parts:=by have:=dge hge;omega
  have hall:=cnt_all (f:=D') (n:=s.parts) (by omega)
  have hnone:pck r i dn=none:=pck_none fun v hv=>.inl (by rw [hdn v hv];exact hall _ (hP.lt v hv))
  have hfin:partsOf i es=ch.map (Tar.mem s.pt i):=by
   have:=hbld (i - s.parts)
   rw [bld_none hnone,List.append_nil,hge',show s.parts+(i - s.parts)=i by omega] at this
   exact this
  refine k out A1 (arr flS 103 1 out (ms ch)) (ro mk ssM (mp s.parts (Tar.mem s.pt i))) (ms ch) (hA1.re [0,3] (by decide)) ⟨s.parts,s.pt,ch,hP,by omega,hch,hchn,fun p hp=>(hDch p).1 (hall p hp),hfin,hord⟩ (by rw [hfin,hmsl ch hch,List.length_map]) fun E hE1 hE2=>?_
  rw [hfin]
  have hE1:RowN flS 103 1 E out (ms ch):=hE1
  have hokM:Rows2 flN 103 3 1 none E mk ssM (mp s.parts (Tar.mem s.pt i)):=hE2
  refine ⟨hE1.rd FlS (by decide),?_⟩
  have key:∀ (ch:List Nat),(∀ p∈ch,p < s.parts)→∀ (a:Nat) (si:Sl) (li:List Nat),(ms ch)[a]? = some si→(ch.map (Tar.mem s.pt i))[a]? = some li→Rd flN 1 E si li:=by
   intro ch
   induction ch with
   | nil=>intro _ a si li h1 _;simp [ms] at h1
   | cons p ch ih=>
    intro hc a si li h1 h2
    have hpl:=hc p List.mem_cons_self
    have hp:ssM[p]? = some (ssM[p]'(by rw [hlenM];exact hpl)):=List.getElem?_eq_getElem _
    have hms:ms (p::ch)=ssM[p]'(by rw [hlenM];exact hpl)::ms ch:=by
     show List.filterMap _ (p::ch)=_
     rw [List.filterMap_cons,hp]
    rw [hms] at h1
    cases a with
    | zero=>
     simp only [List.getElem?_cons_zero,Option.some.injEq,List.map_cons] at h1 h2
     rw [← h1,← h2]
     exact (hokM.rd FlN (by decide)).2 p _ _ hp (mp_get hpl)
    | succ a=>
     rw [List.getElem?_cons_succ] at h1
     rw [List.map_cons,List.getElem?_cons_succ] at h2
     exact ih (fun x hx=>hc x (List.mem_cons_of_mem _ hx)) a si li h1 h2
  exact key ch hch
 have hclt:=dlt hlt
 refine ⟨_,by rw [add_mk];exact hA1.ld (k:=4) rfl 6,?_⟩
 -- a part's first member
 have hfirst:∀ p,p < s.parts→∃ v l,Tar.mem s.pt i p=v::l:=fun p hp=>mem_pos hP hp
 let fs:Nat→Nat:=fun p=>(Tar.mem s.pt i p).headD 0
 have hfs:∀ p v l,Tar.mem s.pt i p=v::l→fs p=v:=fun p v l hm=>by show (Tar.mem s.pt i p).headD 0=v;rw [hm];rfl
 let cand:Nat→Prop:=fun p=>D' p=false∧opn s.parts ld D' p=0
 have hcand:∀ p,p < s.parts→(opn s.parts ld D' p=0↔cand p):=by
  intro p hp
  constructor
  ·intro hz
   refine ⟨?_,hz⟩
   cases hd:D' p with
   | false=>rfl
   | true=>
    unfold opn at hz
    rw [if_pos hd] at hz
    cases hz
  ·exact fun h=>h.2
 refine ⟨fun best t B m=>∃ a:Nat,B=A1∧t=(a:Int)∧a≤s.parts∧m=s.parts - a∧((best = -1∧∀ p,p < a→¬ cand p)∨∃ p:Nat,best=(p:Int)∧p < a∧cand p∧∀ q,q < a→cand q→fs p≤fs q),⟨_,0,rfl,rfl,Nat.zero_le _,rfl,.inl ⟨rfl,fun p hp=>by omega⟩⟩,?_⟩
 rintro best t B m ⟨a,rfl,rfl,ha,rfl,hbest⟩ scr3
 have hokM:Rows2 flN 103 3 1 none B mk ssM (mp s.parts (Tar.mem s.pt i)):=hA1.get (k:=3) rfl
 have hokL:Rows2 flN 103 3 1 none B mk1 ssL (mp s.parts ld):=hA1.get (k:=2) rfl
 have ixM:∀ (p:Nat) (K':Addr→Prop),p < s.parts→(∀ (ad:Addr) (si:Sl),ssM[p]? = some si→Rd flN 1 B si (Tar.mem s.pt i p)→hcell B ad=some (.slice si.a si.n si.c)→K' ad)→IxA mk.a mk.n (p:Int) 1 K':=by
  intro p K' hp hK
  have hs:ssM[p]? = some (ssM[p]'(by omega)):=List.getElem?_eq_getElem _
  exact (hokM.rd FlN (by decide)).1.ixn FlS hs fun ad e=>hK ad _ hs ((hokM.rd FlN (by decide)).2 p _ _ hs (mp_get hp)) e
 have ixF:∀ (p:Nat) (K':Addr→Prop),p < s.parts→(∀ (ad:Addr) (si:Sl),hcell B ad=some (.slice si.a si.n si.c)→(∀ K2:Addr→Prop,(∀ ad2,hcell B ad2=some (.int .i64 (fs p:Int))→K2 ad2)→IxA si.a si.n 0 1 K2)→K' ad)→IxA mk.a mk.n (p:Int) 1 K':=by
  intro p K' hp hK
  obtain ⟨v,l,hm⟩:=hfirst p hp
  refine ixM p K' hp fun ad si _ hr e=>hK ad si e fun K2 hK2=>?_
  rw [hm] at hr
  exact hr.ixn (i:=0) FlN rfl fun ad2 e2=>hK2 ad2 (by rw [hfs p v l hm];exact e2)
 refine ⟨fun hlt2=>?_,fun hge2=>?_⟩
 ·have halt:=dlt hlt2
  refine (hA1.rd (k:=1) FlI (by decide) rfl).ixn FlI (mp_get halt) fun ad20 e20=>⟨_,e20,fun hz=>?_,fun hz=>?_⟩
  ·have hz':cand a:=(hcand a halt).1 (by simpa using hz)
   have new:(∀ q,q < a→cand q→fs a≤fs q)→∃ m2,m2 < s.parts - a∧∃ a':Nat,B=B∧w64 ((a:Int)+1)=(a':Int)∧a'≤s.parts∧m2=s.parts - a'∧((((a:Nat):Int) = -1∧∀ p,p < a'→¬ cand p)∨∃ p:Nat,((a:Nat):Int)=(p:Int)∧p < a'∧cand p∧∀ q,q < a'→cand q→fs p≤fs q):=by
    intro hmin
    refine ⟨s.parts - (a+1),by omega,a+1,rfl,wi (by omega),halt,rfl,.inr ⟨a,rfl,by omega,hz',fun q hq hcq=>?_⟩⟩
    by_cases hqa:q=a
    ·subst hqa;exact Nat.le_refl _
    ·exact hmin q (by omega) hcq
   refine ⟨fun hneg=>?_,fun hpos=>?_⟩
   ·have hneg':best < 0:=of_decide_eq_true hneg
    refine new fun q hq hcq=>?_
    rcases hbest with ⟨_,hno⟩ | ⟨p,hp,_⟩
    ·exact absurd hcq (hno q hq)
    ·omega
   ·have hpos':¬ best < 0:=of_decide_eq_false hpos
    rcases hbest with ⟨hb,_⟩ | ⟨p,rfl,hpa,hcp,hmin⟩
    ·omega
    refine ixF a _ halt fun ad21 si e21 h21=>⟨si,e21,h21 _ fun ad22 e22=>⟨_,e22,ixF p _ (by omega) fun ad23 sj e23 h23=>⟨sj,e23,h23 _ fun ad24 e24=>⟨_,e24,fun hless=>?_,fun hless=>?_⟩⟩⟩⟩
    ·have hless':=dlt hless
     exact new fun q hq hcq=>Nat.le_trans (Nat.le_of_lt hless') (hmin q hq hcq)
    ·have hless':=dge hless
     refine ⟨s.parts - (a+1),by omega,a+1,rfl,wi (by omega),halt,rfl,.inr ⟨p,rfl,by omega,hcp,fun q hq hcq=>?_⟩⟩
     by_cases hqa:q=a
     ·subst hqa;exact hless'
     ·exact hmin q (by omega) hcq
  ·have hz':¬ cand a:=fun hc=>by
    have:opn s.parts ld D' a=0:=hc.2
    rw [this] at hz
    simp at hz
   refine ⟨s.parts - (a+1),by omega,a+1,rfl,wi (by omega),halt,rfl,?_⟩
   rcases hbest with ⟨hb,hno⟩ | ⟨p,hb,hpa,hcp,hmin⟩
   ·refine .inl ⟨hb,fun p hp=>?_⟩
    by_cases hpa:p=a
    ·subst hpa;exact hz'
    ·exact hno p (by omega)
   ·refine .inr ⟨p,hb,by omega,hcp,fun q hq hcq=>?_⟩
    by_cases hqa:q=a
    ·subst hqa;exact absurd hcq hz'
    ·exact hmin q (by omega) hcq
 have hge2':a=s.parts:=by have:=dge hge2;omega
 subst hge2'
 obtain ⟨p,rfl,hpP,hcp,hmin⟩:∃ p:Nat,best=((p:Nat):Int)∧p < s.parts∧cand p∧∀ q,q < s.parts→cand q→fs p≤fs q:=by
  rcases hbest with ⟨_,hno⟩ | h
  ·exfalso
   obtain ⟨u,hu,hdu⟩:=cnt_lt (f:=D') (n:=s.parts) (by omega)
   obtain ⟨q',h1,h2,h3⟩:=op_ex hP hu hdu
   exact hno q' h1 ⟨h2,(hop0 D' q' h1 h2).2 h3⟩
  ·exact h
 have hoP:Tar.Op i s.pt (adj i es) D' p:=(hop0 D' p hpP hcp.1).1 hcp.2
 obtain ⟨v,lv,hmv⟩:=hfirst p hpP
 have hpick:pck r i dn=some v:=by
  refine pck_op hP hdn hDo hpP hcp.1 hoP hmv fun q u m hq hdq hoq hmq=>?_
  have:=hmin q hq ⟨hdq,(hop0 D' q hq hdq).2 hoq⟩
  rw [hfs p v lv hmv,hfs q u m hmq] at this
  exact this
 obtain ⟨⟨hvi,hvp⟩,_⟩:=mem_first hmv
 have hclsv:cls r i v=Tar.mem s.pt i p:=by rw [hP.cls hvi,hvp]
 have hDnext:=op_next hP hDo hoP
 have hdnx:=dnx_op hP hdn hvi hvp
 have hcnt':cnt (upd D' p true) s.parts=c+1:=by rw [cnt_up (f:=D') hcp.1 upd_self (fun u hu=>upd_ne hu) hpP,hcnt]
 have hbld':∀ k,bld r i (c+1+k) (fun _=>false)=(ch ++ [p]).map (Tar.mem s.pt i)++bld r i k (dnx r dn v):=by
  intro k
  rw [show c+1+k=c+(k+1) by omega,hbld (k+1),bld_some hpick,hclsv]
  simp
 -- what is counted of those that lead to it
 have hopn:∀ x,opn s.parts ld (upd D' p true) x=if x=p then -1 else if x∈ld p then opn s.parts ld D' x - 1 else opn s.parts ld D' x:=by
  intro x
  by_cases hx:x=p
  ·subst hx
   rw [if_pos rfl]
   unfold opn
   rw [if_pos upd_self]
  ·rw [if_neg hx]
   unfold opn
   rw [upd_ne hx]
   by_cases hd:D' x=true
   ·rw [if_pos hd,if_pos hd]
    by_cases hin:x∈ld p
    ·exfalso
     obtain ⟨hne,u,w,⟨hu,hw⟩,hux,hwp⟩:=(hiff x p).1 hin
     rcases hDo x (by rw [← hux];exact hP.lt u hu) hd u hu hux w hw with h1 | h1
     ·exact hne (by rw [← hwp,h1])
     ·rw [hwp,hcp.1] at h1;cases h1
    ·rw [if_neg hin]
   ·rw [if_neg hd,if_neg hd]
    by_cases hin:x∈ld p
    ·rw [if_pos hin]
     have:=cnt_up (f:=fun q=>!(upd D' p true q) && decide (x∈ld q)) (f':=fun q=>!D' q && decide (x∈ld q)) (v:=p) (by simp [upd_self]) (by simp [hcp.1,hin]) (fun u hu=>by simp [upd_ne hu]) hpP
     omega
    ·rw [if_neg hin]
     congr 1
     refine cnt_congr fun q' _=>?_
     by_cases hq':q'=p
     ·subst hq';simp [hin]
     ·simp [upd_ne hq']
 have hpld:p∉ld p:=fun hin=>((hiff p p).1 hin).1 rfl
 refine ixM p _ hpP fun ad25 sp hsp _ e25=>⟨sp,e25,fun b2 C hC=>?_⟩
 have eo:out.n=c:=by
  have:=RowN.len FlS (by decide) (hA1.get (k:=0) rfl)
  rw [this,hmsl ch hch,hcl]
 refine hA1.app1 (k:=0) (x:=sp) tyII FlS (by decide) hC rfl (by omega) fun ap E1 hap hE1=>?_
 have hms2:ms ch ++ [sp]=ms (ch ++ [p]):=by
  show _=List.filterMap _ (ch ++ [p])
  rw [List.filterMap_append]
  congr 1
  rw [List.filterMap_cons,hsp]
  rfl
 rw [hms2] at hE1
 refine hE1.stn (k:=1) (y:=(-1:Int)) FlI rfl (mp_get hpP) rfl fun F hF0=>?_
 have hF:Sym H no F (arr flS 103 1 ap (ms (ch ++ [p]))::arr flI 3 1 mk2 ((mp s.parts (opn s.parts ld D')).set p (-1))::ro mk1 ssL (mp s.parts ld)::ro mk ssM (mp s.parts (Tar.mem s.pt i))::(SR i b G q s ++ [ro G ssG (adjs i es)])):=hF0
 rw [mp_set] at hF
 have hokL2:Rows2 flN 103 3 1 none F mk1 ssL (mp s.parts ld):=hF.get (k:=2) rfl
 have hsL:ssL[p]? = some (ssL[p]'(by omega)):=List.getElem?_eq_getElem _
 generalize ssL[p]'(by omega)=sL at hsL
 refine (hokL2.rd FlN (by decide)).1.ixn FlS hsL fun ad27 e27=>⟨sL,e27,?_⟩
 have hsLn:sL.n=(ld p).length:=((hokL2.rd FlN (by decide)).2 p sL _ hsL (mp_get hpP)).len
 have hldl:(ld p).length≤s.parts:=ld_le (N:=s.parts) hld (fun u v h=>hP.lt u h.1) p
 have hnd:=hld.nd p
 let opj:Nat→Nat→Int:=fun e x=>if x=p then -1 else if x∈(ld p).take e then opn s.parts ld D' x - 1 else opn s.parts ld D' x
 have hopj0:upd (opn s.parts ld D') p (-1)=opj 0:=by
  funext x
  show _=if x=p then -1 else if x∈(ld p).take 0 then _ else _
  by_cases hx:x=p
  ·subst hx;rw [upd_self,if_pos rfl]
  ·rw [upd_ne hx,if_neg hx,List.take_zero,if_neg (by simp)]
 rw [hopj0] at hF
 refine ⟨fun t A m=>∃ e:Nat,t=(e:Int)∧e≤(ld p).length∧m=(ld p).length - e∧Sym H no A (arr flS 103 1 ap (ms (ch ++ [p]))::arr flI 3 1 mk2 (mp s.parts (opj e))::ro mk1 ssL (mp s.parts ld)::ro mk ssM (mp s.parts (Tar.mem s.pt i))::(SR i b G q s ++ [ro G ssG (adjs i es)])),⟨_,0,rfl,Nat.zero_le _,rfl,hF⟩,?_⟩
 clear hF hF0 hokL2 hE1
 rintro t I m ⟨e,rfl,he,rfl,hI2⟩ scr4
 refine ⟨fun hlt3=>?_,fun hge3=>?_⟩
 ·have hel:e < (ld p).length:=by have:=dlt hlt3;omega
  obtain ⟨x,hx⟩:∃ x,(ld p)[e]? = some x:=⟨_,List.getElem?_eq_getElem hel⟩
  have hxin:x∈ld p:=List.mem_of_getElem? hx
  have hxp:x≠p:=fun e=>hpld (e ▸ hxin)
  have hxP:x < s.parts:=by
   obtain ⟨_,u,w,⟨hu,_⟩,hux,_⟩:=(hiff x p).1 hxin
   rw [← hux];exact hP.lt u hu
  have htake:(ld p).take (e+1)=(ld p).take e ++ [x]:=by
   rw [List.take_succ_eq_append_getElem hel]
   congr 2
   rw [List.getElem?_eq_getElem hel] at hx
   exact Option.some.inj hx
  have hxnt:x∉(ld p).take e:=by
   intro hc
   have hnd2:((ld p).take (e+1)).Nodup:=hnd.sublist (List.take_sublist _ _)
   rw [htake,List.nodup_append] at hnd2
   exact hnd2.2.2 x hc x List.mem_cons_self rfl
  have hokL3:Rows2 flN 103 3 1 none I mk1 ssL (mp s.parts ld):=hI2.get (k:=2) rfl
  have rL:=(hokL3.rd FlN (by decide)).2 p sL _ hsL (mp_get hpP)
  refine rL.ixn FlN hx fun ad28 e28=>⟨_,e28,?_⟩
  refine (hI2.rd (k:=1) FlI (by decide) rfl).ixn FlI (mp_get hxP) fun ad29 e29=>⟨_,e29,?_⟩
  have hox:opj e x=opn s.parts ld D' x:=by
   show (if x=p then -1 else if x∈(ld p).take e then _ else _)=_
   rw [if_neg hxp,if_neg hxnt]
  have hb:=hopb D' x
  rw [hox,wid (by omega) (by omega)]
  refine hI2.stn (k:=1) (y:=opn s.parts ld D' x - 1) FlI rfl (mp_get hxP) rfl fun J hJ0=>?_
  have hJ:Sym H no J (arr flS 103 1 ap (ms (ch ++ [p]))::arr flI 3 1 mk2 ((mp s.parts (opj e)).set x (opn s.parts ld D' x - 1))::ro mk1 ssL (mp s.parts ld)::ro mk ssM (mp s.parts (Tar.mem s.pt i))::(SR i b G q s ++ [ro G ssG (adjs i es)])):=hJ0
  rw [mp_set] at hJ
  have hn:upd (opj e) x (opn s.parts ld D' x - 1)=opj (e+1):=by
   funext y
   show _=if y=p then -1 else if y∈(ld p).take (e+1) then _ else _
   by_cases hy:y=x
   ·subst hy
    rw [upd_self,if_neg hxp,htake,if_pos (by simp)]
   ·rw [upd_ne hy]
    show (if y=p then -1 else if y∈(ld p).take e then _ else _)=_
    rw [htake]
    simp [hy]
  rw [hn] at hJ
  exact ⟨(ld p).length - (e+1),by omega,e+1,wi (by omega),hel,rfl,hJ⟩
 ·have hge3':=dge hge3
  have hfin:opj e=opn s.parts ld (upd D' p true):=by
   funext x
   rw [hopn x]
   show (if x=p then -1 else if x∈(ld p).take e then _ else _)=_
   rw [List.take_of_length_le (by omega)]
  rw [hfin] at hI2
  refine ⟨s.parts - (c+1),by omega,c+1,ch ++ [p],upd D' p true,dnx r dn v,wi (by omega),hclt,rfl,by rw [List.length_append,hcl];rfl,?_,hdnx,hDnext,hcnt',?_,?_,?_,hbld',hI2⟩
  ·intro x hx
   rcases List.mem_append.1 hx with hx | hx
   ·exact hch x hx
   ·rw [List.mem_singleton.1 hx];exact hpP
  ·intro x
   rw [List.mem_append,List.mem_singleton,← hDch]
   by_cases hx:x=p
   ·subst hx;simp [upd_self]
   ·rw [upd_ne hx];simp [hx]
  ·rw [List.nodup_append]
   refine ⟨hchn,by simp,fun x hx y hy e=>?_⟩
   rw [List.mem_singleton.1 hy] at e
   rw [e,← hDch,hcp.1] at hx
   cases hx
  ·refine hord.snoc fun u hu hup v hv=>(hoP u hu hup v hv).imp id fun h=>(hDch _).1 h
end
end Go.Proofs.YtjdhjgfmloaglaaGreatDoor.C7
end
section
namespace Go.Proofs.YtjdhjgfmloaglaaGreatDoor.C21
open Go Go.V Go.Proofs N21 P14 C14 P15 C15 C18 P21
attribute [local irreducible] Cvt ExtF CallF hrun App MkS callV Lkp MUp
theorem tyEd:TyS Tryz.prog 141 144 2 16 (.agg #[.int .i64 0,.int .i64 0]):=⟨by kernel_rfl,by kernel_rfl,rfl,by decide⟩
theorem okR1:fnOk Tryz.prog 94=true:=by kernel_rfl
theorem call_cap {H:Hp}{K:Value→Hp→Prop}{Z:List PanicEntry→Hp→Prop}{f:Nat}{v c:Value}(hf:fnOk Tryz.prog f=true) (h:CallF Tryz.prog f #[v,c] H K Z):callV Tryz.prog (.func (.func f) #[] #[c]) [v] H K Z:=by
 unfold callV
 have e:((#[]:Array Value).toList ++ [v]++(#[c]:Array Value).toList).toArray=#[v,c]:=by simp
 simp only [hf,if_true]
 rw [e]
 exact h
theorem perm5 {α : Type}(a b D d w : α) (T:List α):(a::b::D::d::w::T).Perm (d::w::D::a::b::T):=by
 have h1:([a,b,D] ++ [d,w]).Perm ([d,w] ++ [a,b,D]):=List.perm_append_comm
 have h2:([a,b] ++ [D]).Perm ([D] ++ [a,b]):=List.perm_append_comm
 have h3:([d,w]++([a,b] ++ [D])).Perm ([d,w]++([D] ++ [a,b])):=h2.append_left _
 exact (h1.trans h3).append_right T
section
variable {A:Hp}{K:Value→Hp→Prop}{Z:List PanicEntry→Hp→Prop}{sn sh:Sl}{nodes lt:List L8}{bd bD:Nat}
theorem ixI_ok {s:Sl}{L:List Nat}{f:Value}{D:Nat→Bool}(h:Rd flN 1 A s L) (hl:L.length≤2000000) (hd:∀ {n:Nat}{K':Value→Hp→Prop},n∈L→K' (.bool (D n)) A→callV Tryz.prog f [.int .i64 (n:Int)] A K' Z)
  (k1:∀ (i:Nat) n,L[i]? = some n→L.find? D=some n→K (.int .i64 (i:Int)) A) (k2:L.find? D=none→K (.int .i64 (-1)) A):CallF Tryz.prog 93 #[.slice s.a s.n s.c,f] A K Z:=by
 refine V93_ok ?_
 unfold V93
 have ln:=h.len
 refine ⟨fun i B m=>∃ j:Nat,B=A∧i=(j:Int)∧j≤L.length∧m=L.length - j∧(∀ y∈L.take j,D y=false),⟨_,0,rfl,rfl,Nat.zero_le _,rfl,by simp⟩,?_⟩
 rintro i B m ⟨j,rfl,rfl,hj,rfl,hno⟩ scr
 refine ⟨fun hlt=>?_,fun hge=>?_⟩
 ·have hj':j < L.length:=by have:=dlt hlt;omega
  obtain ⟨x,hx,hxm⟩:=getN hj'
  refine h.ixn FlN hx fun ad e=>⟨_,e,hd hxm ⟨_,rfl,fun ht=>k1 j x hx ?_,fun hf=>⟨L.length - (j+1),by omega,j+1,rfl,wi (by omega),hj',rfl,fun y hy=>?_⟩⟩⟩
  ·obtain ⟨g,e⟩:=List.getElem?_eq_some_iff.1 hx
   have hs:L=L.take j++x::L.drop (j+1):=by rw [← e,← List.drop_eq_getElem_cons g,List.take_append_drop]
   rw [hs,List.find?_append,List.find?_eq_none.2 fun y hy=>by rw [hno y hy];decide,List.find?_cons_of_pos ht]
   rfl
  ·rw [List.take_add_one,hx] at hy
   rcases List.mem_append.1 hy with hy | hy
   ·exact hno y hy
   ·rw [List.mem_singleton.1 hy];exact hf
 ·have hje:j=L.length:=by have:=dge hge;omega
  rw [hje,List.take_length] at hno
  exact k2 (List.find?_eq_none.2 fun y hy=>by rw [hno y hy];decide)
theorem rounds1_ok {i:Nat}(hD:hcell A ⟨bD,0,none⟩=some (.pointer (some ⟨bd,0,none⟩))) (h3:hcell A ⟨bd,3,none⟩=some (.slice sn.a sn.n sn.c)) (h4:hcell A ⟨bd,4,none⟩=some (.slice sh.a sh.n sh.c)) (rn:Rd flL 1 A sn nodes) (rl:Rd flL 1 A sh lt) (hlt:Rising ltL lt) (hll:lt.length≤100000) (hi:i < nodes.length)
  (k:K (.bool (!hidL lt (nm nodes i))) A):CallF Tryz.prog 94 #[.int .i64 (i:Int),.pointer (some ⟨bD,0,none⟩)] A K Z:=by
 refine V94_ok ?_
 unfold V94
 refine ⟨_,hD,_,hD,?_⟩
 show ∃ x2:Sl,_
 have hn:nodes[i]? = some (nm nodes i):=by
  unfold nm
  rw [List.getElem?_eq_getElem hi]
  rfl
 exact ⟨sn,by rw [add_mk,Nat.zero_add];exact h3,atL rn hn fun ad e=>⟨_,e,hidden_ok h4 rl hlt (by omega) ⟨_,rfl,k⟩⟩⟩
end
section
variable {H0 A:Hp}{K:Value→Hp→Prop}{Z:List PanicEntry→Hp→Prop}{c1 c2 c3 sn sh ss:Sl}{bd:Nat}{R:List It}{x:SysD}{qs:List HC}{nodes lt:List L8}{rk0:L8→Nat}
theorem nm_at {i:Nat}(hi:i < nodes.length):nodes[i]? = some (nm nodes i):=by
 unfold nm
 rw [List.getElem?_eq_getElem hi]
 rfl
set_option maxRecDepth 10000 in
theorem rounds_ok (h:Sym H0 no A (blk bd (dkL c1 c2 c3 sn sh ss) 91::arr flW 48 2 ss []::DR sn sh nodes lt R)) (hr:∀ B,(∀ a∈R,a.ok B)→Fr no H0 B→RdF B c1 c2 c3 qs x) (hx:LenSys x) (hc6:x.cons.length≤1000)
  (hnr:Rising ltL nodes) (hnl:nodes.length≤20000) (hcov:Cov nodes x.cons) (hlt:Rising ltL lt) (hll:lt.length≤100000)
  (k:∀ sw ss' rk (R1:L8→L8) (cs:CanS) t B,Rnd (hidL lt) x.cons R1→Rsp (hidL lt) nodes x.cons R1→(∀ z,R1 z≠z→z∈nodes∧R1 z∈nodes)→Sw sw R1 rk→Sym H0 no B (blk bd (dkL cs.y cs.y1 cs.y2 sn sh ss') 91::arr flW 48 2 ss' sw::(cs.its++DR sn sh nodes lt R))→cs.good t→IsCanS ⟨x.objs,x.fns,ren R1 x.cons⟩ t→K (.tuple #[]) B) :
  CallF Tryz.prog 48 #[.pointer (some ⟨bd,0,none⟩)] A K Z:=by
 refine V48_ok ?_
 unfold V48
 have hnn:nodes.Nodup:=rising_nodup hnr
 intro bD B hB
 have sB:=h.newb (cs:=[.pointer (some ⟨bd,0,none⟩)]) hB
 refine ⟨_,sB.ld (k:=0) rfl 0,?_⟩
 show ∃ x1:Sl,_
 have rdE:∀ {E:Hp}{L:List It},Sym H0 no E (L++R)→RdF E c1 c2 c3 qs x:=fun {E L} s=>hr E (fun a ha=>s.ok a (List.mem_append.2 (.inr ha))) s.fr
 have rdA:=rdE (L:=[_,_,_,_]) h
 have n3:=rdA.c.len
 have nq:=rdA.len
 have s0:=sB.nilrow C7.flE 144 2
 replace s0:Sym H0 no B (arr C7.flE 144 2 ⟨none,0,0⟩ []::blk bD [.pointer (some ⟨bd,0,none⟩)] 89::blk bd (dkL c1 c2 c3 sn sh ss) 91::arr flW 48 2 ss []::DR sn sh nodes lt R):=s0
 refine ⟨c3,by rw [add_mk,Nat.zero_add];exact sB.ld (k:=1) rfl 2,fun l i E m=>∃ j:Nat,i=(j:Int)∧j≤x.cons.length∧m=x.cons.length - j∧Sym H0 no E (arr C7.flE 144 2 l (eds nodes (x.cons.take j))::blk bD [.pointer (some ⟨bd,0,none⟩)] 89::blk bd (dkL c1 c2 c3 sn sh ss) 91::arr flW 48 2 ss []::DR sn sh nodes lt R),⟨_,0,rfl,Nat.zero_le _,rfl,s0⟩,?_⟩
 rintro l i E m ⟨j,rfl,hj,rfl,sE⟩ scr
 refine ⟨fun hlt'=>?_,fun hge=>?_⟩
 ·have hj':j < x.cons.length:=by have:=dlt hlt';omega
  obtain ⟨c,hcj,hcm⟩:=getN hj'
  obtain ⟨q,hqj,_⟩:=getN (xs:=qs) (i:=j) (by omega)
  have rdx:=rdE (L:=[_,_,_,_,_,_]) sE
  obtain ⟨eq,_⟩:=rdx.l j q c hqj hcj
  generalize q.2.2.2.2.2=t at eq
  subst eq
  have hsn:=eds_snoc (nodes:=nodes) hcj
  have hel:=eds_len (nodes:=nodes) (cs:=x.cons.take j)
  rw [List.length_take] at hel
  generalize eds nodes (x.cons.take j)=es at sE hsn hel
  refine rdx.c.ix (by decide) FlHC (by omega) (by simpa using hqj) fun ad g1 g2=>⟨_,_,_,_,_,t,⟨g2,g1 1 _ rfl,g1 2 _ rfl,g1 3 _ rfl,g1 4 _ rfl,g1 5 _ rfl,trivial⟩,fun bC F hF=>?_⟩
  have sF:=sE.newb (cs:=[.int .i64 0,.string ⟨#[]⟩,.string ⟨#[]⟩,.int .i64 0,.string ⟨#[]⟩,.slice none 0 0]) hF
  refine sF.stbs (k:=0) (i:=0) (vs:=cL c t) rfl (by simp) (FlHC.2 (HC.of c t)) fun G sG=>?_
  replace sG:Sym H0 no G (blk bC (cL c t) 36::arr C7.flE 144 2 l es::blk bD [.pointer (some ⟨bd,0,none⟩)] 89::blk bd (dkL c1 c2 c3 sn sh ss) 91::arr flW 48 2 ss []::DR sn sh nodes lt R):=sG
  refine ⟨c.op,sG.ld (k:=0) rfl 0,fun h2=>⟨_,sG.ld (k:=2) rfl 0,?_⟩,fun h2=>⟨x.cons.length - (j+1),by omega,j+1,wi (by omega),hj',rfl,?_⟩⟩
  ·have o2:=eqI.1 h2
   obtain ⟨ha,hb⟩:=hcov c hcm o2
   show ∃ x4:Sl,_
   have rn:Rd flL 1 G sn nodes:=Sym.rd (k:=5) sG FlL (by decide) rfl
   refine ⟨sn,by rw [add_mk,Nat.zero_add];exact sG.ld (k:=3) rfl 3,_,sG.ld (k:=0) rfl 2,bsT_ok rn hnr (by omega) fun p hp=>⟨_,_,rfl,_,sG.ld (k:=2) rfl 0,?_⟩⟩
   show ∃ x7:Sl,_
   refine ⟨sn,by rw [add_mk,Nat.zero_add];exact sG.ld (k:=3) rfl 3,_,sG.ld (k:=0) rfl 1,bsT_ok rn hnr (by omega) fun p' hp'=>⟨_,_,rfl,fun b M hM=>?_⟩⟩
   have e1:p=ix nodes c.b:=(ixG_at hnn ((hp.mem hnr).1 hb)).symm
   have e2:p'=ix nodes c.a:=(ixG_at hnn ((hp'.mem hnr).1 ha)).symm
   have lr:=(Sym.rd (k:=1) sG C7.FlE (by decide) rfl).len
   refine Sym.app1 (k:=1) (x:=((p:Int),(p':Int))) tyEd sG C7.FlE (by decide) hM rfl (by omega) fun ap M' _ sM=>⟨x.cons.length - (j+1),by omega,j+1,wi (by omega),hj',rfl,?_⟩
   rw [hsn,if_pos o2,← e1,← e2]
   exact Sym.drop sM
  ·rw [hsn,if_neg (neI.1 h2),List.append_nil]
   exact Sym.drop sG
 have hje:j=x.cons.length:=by have:=dge hge;omega
 rw [hje,List.take_length] at sE
 clear hje hge hj scr j
 have hel:=eds_len (nodes:=nodes) (cs:=x.cons)
 have rnE:Rd flL 1 E sn nodes:=Sym.rd (k:=4) sE FlL (by decide) rfl
 have lnn:=rnE.len
 refine ⟨_,sE.ld (k:=1) rfl 0,?_⟩
 show ∃ x10:Sl,_
 refine ⟨sn,by rw [add_mk,Nat.zero_add];exact sE.ld (k:=2) rfl 3,C7.partsS_ok (Sym.rd (k:=0) sE C7.FlE (by decide) rfl) (by omega) fun s F a b ss0 sy pf hl0 rr=>⟨s,rfl,?_⟩⟩
 have enO:C7.nOf (sn.n:Int)=nodes.length:=by
  unfold C7.nOf
  rw [if_neg (by omega),lnn]
  simp
 rw [enO] at pf rr hl0
 obtain ⟨P,pt,ch,hP,hcl,hch,hchn,hall,hfin,_⟩:=pf
 rw [hfin] at rr hl0
 have sj:=sE.join sy
 have sj2:Sym H0 no F (a::b::blk bD [.pointer (some ⟨bd,0,none⟩)] 89::blk bd (dkL c1 c2 c3 sn sh ss) 91::arr flW 48 2 ss []::DR sn sh nodes lt R):=sj.sub (((List.sublist_cons_self _ _).cons_cons _).cons_cons _)
 have sF:=sj2.perm (perm5 a b _ _ _ _)
 clear sj sj2
 have hrnd:=rnd_ok (hid:=hidL lt) hnn hcov hP
 have hrsp:=rsp_ok (hid:=hidL lt) hnn hcov hP
 have hid:=@rmap_idem nodes (hidL lt) pt hnn
 have hRn:∀ {i:Nat},i < nodes.length→_:=fun {i} hi=>@rmap_nm nodes (hidL lt) pt hnn i hi
 have hRo:∀ {z:L8},z∉nodes→rmap (hidL lt) nodes pt z=z:=fun hz=>rmap_out hz
 have hbest:∀ {i:Nat},i < nodes.length→_:=fun {i} hi=>@best_at nodes (hidL lt) pt i hi
 generalize hR1:rmap (hidL lt) nodes pt=R1 at hrnd hrsp hid hRn hRo
 have ls:=(rr F (sF.ok a (by simp)) (sF.ok b (by simp))).1.len
 rw [List.length_map] at hl0
 have lch:ch.length≤nodes.length:=by rw [hcl];exact hP.le
 refine ⟨fun i E m=>∃ (j:Nat) (sw:List Swp) (ss:Sl) (N:L8→L8) (rk:L8→Nat),i=(j:Int)∧j≤ch.length∧m=ch.length - j∧Sym H0 no E (blk bd (dkL c1 c2 c3 sn sh ss) 91::arr flW 48 2 ss sw::(blk bD [.pointer (some ⟨bd,0,none⟩)] 89::a::b::DR sn sh nodes lt R))∧Sw sw N rk∧RI R1 N fun z=>∃ i,i < nodes.length∧nm nodes i=z∧pt i∈ch.take j,
  ⟨_,0,[],ss,fun z=>z,fun _=>0,rfl,Nat.zero_le _,rfl,sF,Sw.nil,⟨by simp,fun _ _=>rfl⟩⟩,?_⟩
 rintro i E1 m ⟨j,sw,ss1,N,rk,rfl,hj,rfl,s1,hw,hri⟩ scr
 refine ⟨fun hlt1=>?_,fun hge1=>?_⟩
 ·have hj':j < ch.length:=by have:=dlt hlt1;omega
  obtain ⟨q,hq,hqm⟩:=getN hj'
  have hqP:=hch q hqm
  have hli:(ch.map (Tar.mem pt nodes.length))[j]? = some (Tar.mem pt nodes.length q):=by rw [List.getElem?_map,hq];rfl
  obtain ⟨si,hsi,_⟩:=getN (xs:=ss0) (i:=j) (by omega)
  have rdP:∀ {E:Hp}{ss:Sl}{sw:List Swp},Sym H0 no E (blk bd (dkL c1 c2 c3 sn sh ss) 91::arr flW 48 2 ss sw::(blk bD [.pointer (some ⟨bd,0,none⟩)] 89::a::b::DR sn sh nodes lt R))→Rd flN 1 E si (Tar.mem pt nodes.length q):=fun s=>(rr _ (s.ok a (by simp)) (s.ok b (by simp))).2 j si _ hsi hli
  have hmi:∀ {i:Nat},i∈Tar.mem pt nodes.length q→i < nodes.length∧pt i=q:=fun hi=>Tar.mem_iff.1 hi
  have hmn:(Tar.mem pt nodes.length q).Nodup:=(List.Pairwise.filter _ List.pairwise_lt_range).imp fun h e=>by omega
  obtain ⟨v0,l0,hv0⟩:=Tar.mem_pos hP hqP
  have hbi:bestI (hidL lt) nodes (Tar.mem pt nodes.length q)∈Tar.mem pt nodes.length q:=best_in (by rw [hv0];simp)
  obtain ⟨hbl,hbp⟩:=hmi hbi
  have lmem:(Tar.mem pt nodes.length q).length≤nodes.length:=by
   have:=List.length_filter_le (fun v=>pt v == q) (List.range nodes.length)
   rw [List.length_range] at this
   exact this
  refine (rr _ (s1.ok a (by simp)) (s1.ok b (by simp))).1.ixn FlS hsi fun ad5 e5=>⟨si,e5,?_⟩
  have r1:=rdP s1
  have hv:(Tar.mem pt nodes.length q)[0]? = some v0:=by rw [hv0];rfl
  have rn1:Rd flL 1 E1 sn nodes:=Sym.rd (k:=5) s1 FlL (by decide) rfl
  have rl1:Rd flL 1 E1 sh lt:=Sym.rd (k:=6) s1 FlL (by decide) rfl
  refine r1.ixn (i:=0) FlN hv fun ad6 e6=>⟨_,e6,fun w E'=>E'=E1∧w=((bestI (hidL lt) nodes (Tar.mem pt nodes.length q):Nat):Int),?_,?_⟩
  ·rintro w E' ⟨rfl,rfl⟩ scr1
   have lsi:=r1.len
   generalize hbest0:bestI (hidL lt) nodes (Tar.mem pt nodes.length q)=bi at hbi hbl hbp
   have hRi:∀ {i:Nat},i∈Tar.mem pt nodes.length q→R1 (nm nodes i)=if hidL lt (nm nodes i)=true∧i≠bi then nm nodes bi else nm nodes i:=fun {i} hi=>by
    obtain ⟨h1,h2⟩:=hmi hi
    have:=hRn h1
    rw [h2,hbest0] at this
    exact this
   generalize hML:Tar.mem pt nodes.length q=ML at rdP hmi hmn r1 lsi lmem hRi hbi hv hv0 hli hbest0
   refine ⟨fun i E m=>∃ (j':Nat) (sw:List Swp) (ss:Sl) (N:L8→L8) (rk:L8→Nat),i=(j':Int)∧j'≤ML.length∧m=ML.length - j'∧Sym H0 no E (blk bd (dkL c1 c2 c3 sn sh ss) 91::arr flW 48 2 ss sw::(blk bD [.pointer (some ⟨bd,0,none⟩)] 89::a::b::DR sn sh nodes lt R))∧Sw sw N rk∧RI R1 N fun z=>(∃ i,i < nodes.length∧nm nodes i=z∧pt i∈ch.take j)∨∃ i∈ML.take j',nm nodes i=z,
    ⟨_,0,sw,ss1,N,rk,rfl,Nat.zero_le _,rfl,s1,hw,hri.congr fun z=>by simp⟩,?_⟩
   rintro i' E2 m' ⟨j',sw2,ss2,N2,rk2,rfl,hj1,rfl,s2,hw2,hri2⟩ scr2
   refine ⟨fun hlt2=>?_,fun hge2=>?_⟩
   ·have hj2:j' < ML.length:=by have:=dlt hlt2;omega
    obtain ⟨u,hu,hum⟩:=getN hj2
    obtain ⟨hul,hup⟩:=hmi hum
    have rn2:Rd flL 1 E2 sn nodes:=Sym.rd (k:=5) s2 FlL (by decide) rfl
    have rl2:Rd flL 1 E2 sh lt:=Sym.rd (k:=6) s2 FlL (by decide) rfl
    have hdone:∀ z,((∃ i,i < nodes.length∧nm nodes i=z∧pt i∈ch.take j)∨∃ i∈ML.take (j'+1),nm nodes i=z)↔((∃ i,i < nodes.length∧nm nodes i=z∧pt i∈ch.take j)∨∃ i∈ML.take j',nm nodes i=z)∨z=nm nodes u:=fun z=>by
     rw [List.take_add_one,hu]
     constructor
     ·rintro (g | ⟨i,hi,e⟩)
      ·exact .inl (.inl g)
      ·rcases List.mem_append.1 hi with hi | hi
       ·exact .inl (.inr ⟨i,hi,e⟩)
       ·rw [List.mem_singleton.1 hi] at e
        exact .inr e.symm
     ·rintro ((g | ⟨i,hi,e⟩) | e)
      ·exact .inl g
      ·exact .inr ⟨i,List.mem_append.2 (.inl hi),e⟩
      ·exact .inr ⟨u,List.mem_append.2 (.inr (List.mem_singleton.2 rfl)),e.symm⟩
    have hnot:¬ ((∃ i,i < nodes.length∧nm nodes i=nm nodes u∧pt i∈ch.take j)∨∃ i∈ML.take j',nm nodes i=nm nodes u):=by
     rintro (⟨i,hi,e,hp⟩ | ⟨i,hi,e⟩)
     ·have:=nm_inj hnn hi hul e
      subst this
      rw [hup] at hp
      obtain ⟨a',ha'⟩:=List.mem_iff_getElem?.1 hp
      rw [List.getElem?_take] at ha'
      split at ha'
      ·rename_i hlt3
       have:=(List.getElem?_inj (by omega) hchn).1 (ha'.trans hq.symm)
       omega
      ·cases ha'
     ·have hiM:=List.mem_of_mem_take hi
      have:=nm_inj hnn (hmi hiM).1 hul e
      subst this
      obtain ⟨a',ha'⟩:=List.mem_iff_getElem?.1 hi
      rw [List.getElem?_take] at ha'
      split at ha'
      ·rename_i hlt3
       have:=(List.getElem?_inj (by omega) hmn).1 (ha'.trans hu.symm)
       omega
      ·cases ha'
    have hsl:sw2.length≤nodes.length:=hw2.few fun z hz=>by
     apply Classical.byContradiction
     intro hno
     refine hz (hri2.no z ?_)
     rintro (⟨i,hi,e,_⟩ | ⟨i,hi,e⟩)
     ·exact hno (by rw [← e];exact nm_mem hi)
     ·exact hno (by rw [← e];exact nm_mem (hmi (List.mem_of_mem_take hi)).1)
    have stay:R1 (nm nodes u)=nm nodes u→∃ m2,m2 < ML.length - j'∧∃ (j'':Nat) (sw:List Swp) (ss:Sl) (N:L8→L8) (rk:L8→Nat),w64 ((j':Int)+1)=(j'':Int)∧j''≤ML.length∧m2=ML.length - j''∧Sym H0 no E2 (blk bd (dkL c1 c2 c3 sn sh ss) 91::arr flW 48 2 ss sw::(blk bD [.pointer (some ⟨bd,0,none⟩)] 89::a::b::DR sn sh nodes lt R))∧Sw sw N rk∧RI R1 N fun z=>(∃ i,i < nodes.length∧nm nodes i=z∧pt i∈ch.take j)∨∃ i∈ML.take j'',nm nodes i=z:=
     fun e=>⟨_,by omega,j'+1,sw2,ss2,N2,rk2,wi (by omega),hj2,rfl,s2,hw2,(hri2.stay e).congr hdone⟩
    refine (rdP s2).ixn FlN hu fun ad7 e7=>⟨_,e7,fun w E3=>E3=E2∧(w=true↔u≠bi∧hidL lt (nm nodes u)=true),?_,fun hne=>⟨_,s2.ld (k:=2) rfl 0,_,s2.ld (k:=2) rfl 0,?_⟩,fun heq=>⟨rfl,?_⟩⟩
    ·rintro w E3 ⟨rfl,hwb⟩ scr3
     refine ⟨fun hwt=>⟨_,s2.ld (k:=2) rfl 0,_,s2.ld (k:=2) rfl 0,?_⟩,fun hwf=>stay ?_⟩
     ·obtain ⟨hub,huh⟩:=hwb.1 hwt
      have er:=hRi hum
      rw [if_pos ⟨huh,hub⟩] at er
      have hne:R1 (nm nodes u)≠nm nodes u:=fun e=>by
       rw [er] at e
       exact hub (nm_inj hnn hbl hul e).symm
      obtain ⟨p1,p2,p3⟩:=hri2.put hid hnot hne
      rw [er] at p2 p3 hne
      show ∃ x16:Sl,_
      refine ⟨sn,by rw [add_mk,Nat.zero_add];exact s2.ld (k:=0) rfl 3,atL rn2 (nm_at hul) fun ad9 e9=>⟨_,e9,_,s2.ld (k:=2) rfl 0,?_⟩⟩
      show ∃ x19:Sl,_
      refine ⟨sn,by rw [add_mk,Nat.zero_add];exact s2.ld (k:=0) rfl 3,atL rn2 (nm_at hbl) fun ad11 e11=>⟨_,e11,swap_ok s2 hw2 p1 p2 (fun e=>hne e.symm) (by omega) fun ss' p rk' E4 s4 hw4=>⟨rfl,ML.length - (j'+1),by omega,j'+1,_,ss',_,rk',wi (by omega),hj2,rfl,s4,hw4,p3.congr hdone⟩⟩⟩
     ·rw [hRi hum]
      split
      ·rename_i g
       have:=hwb.2 ⟨g.2,g.1⟩
       rw [hwf] at this
       cases this
      ·rfl
    ·show ∃ x23:Sl,_
     have hub:u≠bi:=fun e=>by
      rw [e] at hne
      simp at hne
     refine ⟨sn,by rw [add_mk,Nat.zero_add];exact s2.ld (k:=0) rfl 3,atL rn2 (nm_at hul) fun ad13 e13=>⟨_,e13,hidden_ok (s2.ld (k:=0) rfl 4) rl2 hlt (by omega) ⟨_,rfl,rfl,?_⟩⟩⟩
     exact ⟨fun g=>⟨hub,g⟩,fun g=>g.2⟩
    ·have hub:u=bi:=by
      have:=bne_eq_false_iff_eq.1 heq
      omega
     exact ⟨(fun h=>by cases h),fun g=>absurd hub g.1⟩
   ·have hje:j'=ML.length:=by have:=dge hge2;omega
    rw [hje,List.take_length] at hri2
    refine ⟨ch.length - (j+1),by omega,j+1,sw2,ss2,N2,rk2,wi (by omega),hj',rfl,s2,hw2,hri2.congr fun z=>?_⟩
    rw [List.take_add_one,hq]
    constructor
    ·rintro ⟨i,hi,e,hp⟩
     rcases List.mem_append.1 hp with hp | hp
     ·exact .inl ⟨i,hi,e,hp⟩
     ·refine .inr ⟨i,?_,e⟩
      rw [← hML]
      exact Tar.mem_iff.2 ⟨hi,List.mem_singleton.1 hp⟩
    ·rintro (⟨i,hi,e,hp⟩ | ⟨i,hi,e⟩)
     ·exact ⟨i,hi,e,List.mem_append.2 (.inl hp)⟩
     ·obtain ⟨h1,h2⟩:=hmi hi
      exact ⟨i,h1,e,List.mem_append.2 (.inr (List.mem_singleton.2 h2))⟩
  ·refine ixI_ok (D:=fun i=>!hidL lt (nm nodes i)) r1 (by omega) (fun {n K'} hn kk=>call_cap okR1 (rounds1_ok (s1.ld (k:=2) rfl 0) (s1.ld (k:=0) rfl 3) (s1.ld (k:=0) rfl 4) rn1 rl1 hlt hll (hmi hn).1 kk)) (fun i n hn hf=>⟨_,rfl,fun _=>?_,fun h=>?_⟩) fun hf=>⟨_,rfl,fun h=>absurd h (by decide),fun _=>⟨rfl,?_⟩⟩
   ·refine r1.ixn FlN hn fun ad14 e14=>⟨_,e14,rfl,?_⟩
    unfold bestI
    rw [hf]
   ·have:=of_decide_eq_false h
    omega
   ·unfold bestI
    rw [hf,hv0]
    rfl
 ·have hje:j=ch.length:=by have:=dge hge1;omega
  rw [hje,List.take_length] at hri
  have eN:N=R1:=by
   funext z
   by_cases hz:z∈nodes
   ·obtain ⟨e,hi⟩:=nm_ix hz
    exact hri.yes z ⟨ix nodes z,hi,e,hall _ (hP.lt _ hi)⟩
   ·rw [hRo hz]
    refine hri.no z ?_
    rintro ⟨i,hi,e,_⟩
    exact hz (by rw [← e];exact nm_mem hi)
  subst eN
  have hmv:∀ z,N z≠z→z∈nodes∧N z∈nodes:=fun z hz=>by
   have hzn:z∈nodes:=Classical.byContradiction fun g=>hz (hRo g)
   refine ⟨hzn,?_⟩
   obtain ⟨e,hi⟩:=nm_ix hzn
   have:=hRn hi
   rw [e] at this
   rw [this]
   split
   ·exact nm_mem (hbest hi).1
   ·exact hzn
  have hsl:sw.length≤nodes.length:=hw.few fun z hz=>(hmv z hz).1
  refine ⟨_,s1.ld (k:=2) rfl 0,renew_ok (x:=x) (qs:=qs) s1 hw (by omega) (fun E hE fE=>hr E (fun a ha=>hE a (by simp [ha])) fE) hx (by omega) fun cs t E sE g hcan=>⟨rfl,k sw ss1 rk N cs t E hrnd hrsp hmv hw ?_ g hcan⟩⟩
  refine sE.sub (((List.Sublist.refl cs.its).append ?_).cons_cons _ |>.cons_cons _)
  exact ((List.sublist_cons_self _ _).trans (List.sublist_cons_self _ _)).trans (List.sublist_cons_self _ _)
end
end Go.Proofs.YtjdhjgfmloaglaaGreatDoor.C21
end
