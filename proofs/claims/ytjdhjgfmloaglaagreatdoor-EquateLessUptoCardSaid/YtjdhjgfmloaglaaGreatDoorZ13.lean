import Derived.Test.YtjdhjgfmloaglaaGreatDoorZ12
import Derived.Test.YtjdhjgfmloaglaaGreatDoorProg
set_option linter.unusedVariables false
set_option linter.unusedSimpArgs false
section
namespace Go.V
attribute [local irreducible] Lkp MUp
section
variable {τ : Type}{fl : τ→List Value}{sz:Nat}
abbrev slV (s:Sl):Value:=.slice s.a s.n s.c
def rowsI (fl : τ→List Value) (E:TypeId) (sz:Nat) (kvl:List ((L8 × Sl) × List τ)):List It:=kvl.map fun p=>arr fl E sz p.1.2 p.2
def keysL (kvl:List ((L8 × Sl) × List τ)):List (L8 × Sl):=kvl.map fun p=>p.1
def lookL:List ((L8 × Sl) × List τ)→L8→List τ
 | [],_=>[]
 | p::r,q=>if p.1.1=q then p.2 else lookL r q
theorem look_find:∀ {kvl:List ((L8 × Sl) × List τ)}{q:L8}{i j:Nat}{y:Sl},findI (keysL kvl) q j=some (i,y)→j≤i∧∃ l,kvl[i - j]? = some ((q,y),l)∧lookL kvl q=l
 | [],_,_,_,_,h=>by cases h
 | p::r,q,i,j,y,h=>by
  unfold keysL at h
  rw [List.map_cons] at h
  unfold findI at h
  unfold lookL
  split at h
  ·rename_i e
   have h:=Option.some_inj.1 h
   rw [Prod.mk.injEq] at h
   obtain ⟨rfl,rfl⟩:=h
   rw [if_pos e]
   refine ⟨Nat.le_refl _,p.2,?_,rfl⟩
   rw [Nat.sub_self,← e]
   rfl
  ·rename_i e
   rw [if_neg e]
   obtain ⟨h1,l,h2,h3⟩:=look_find (kvl:=r) h
   refine ⟨by omega,l,?_,h3⟩
   rw [show i - j=(i - (j+1))+1 by omega]
   exact h2
theorem look_none:∀ {kvl:List ((L8 × Sl) × List τ)}{q:L8}{j:Nat},findI (keysL kvl) q j=none→lookL kvl q = []∧∀ p∈kvl,p.1.1≠q
 | [],_,_,_=>⟨rfl,by simp⟩
 | p::r,q,j,h=>by
  unfold keysL at h
  rw [List.map_cons] at h
  unfold findI at h
  unfold lookL
  split at h
  ·cases h
  ·rename_i e
   obtain ⟨h1,h2⟩:=look_none (kvl:=r) h
   rw [if_neg e]
   refine ⟨h1,fun x hx=>?_⟩
   rcases List.mem_cons.1 hx with rfl | hx
   ·exact e
   ·exact h2 x hx
theorem look_set:∀ {kvl:List ((L8 × Sl) × List τ)}{q:L8}{i j:Nat}{y v:Sl}{l':List τ},findI (keysL kvl) q j=some (i,y)→∀ z,lookL (kvl.set (i - j) ((q,v),l')) z=if z=q then l' else lookL kvl z
 | [],_,_,_,_,_,_,h,_=>by cases h
 | p::r,q,i,j,y,v,l',h,z=>by
  unfold keysL at h
  rw [List.map_cons] at h
  unfold findI at h
  split at h
  ·rename_i e
   have h:=Option.some_inj.1 h
   rw [Prod.mk.injEq] at h
   obtain ⟨rfl,rfl⟩:=h
   rw [Nat.sub_self,List.set_cons_zero]
   unfold lookL
   by_cases hz:z=q
   ·rw [if_pos hz.symm,if_pos hz]
   ·rw [if_neg (fun h=>hz h.symm),if_neg hz,if_neg (by rw [e];exact fun h=>hz h.symm)]
  ·rename_i e
   obtain ⟨h1,_⟩:=look_find (kvl:=r) h
   rw [show i - j=(i - (j+1))+1 by omega,List.set_cons_succ]
   have ih:=look_set (kvl:=r) (v:=v) (l':=l') h z
   unfold lookL
   by_cases hp:p.1.1=z
   ·rw [if_pos hp,if_pos hp,if_neg (by rw [← hp];exact e)]
   ·rw [if_neg hp,if_neg hp]
    exact ih
theorem look_push:∀ {kvl:List ((L8 × Sl) × List τ)}{q:L8}{v:Sl}{l':List τ},(∀ p∈kvl,p.1.1≠q)→∀ z,lookL (kvl ++ [((q,v),l')]) z=if z=q then l' else lookL kvl z
 | [],q,v,l',_,z=>by
  show (if q=z then l' else [])=_
  by_cases hz:z=q
  ·rw [if_pos hz.symm,if_pos hz]
  ·rw [if_neg (fun h=>hz h.symm),if_neg hz]
   rfl
 | p::r,q,v,l',h,z=>by
  rw [List.cons_append]
  unfold lookL
  by_cases hp:p.1.1=z
  ·rw [if_pos hp,if_pos hp,if_neg (by rw [← hp];exact h p List.mem_cons_self)]
  ·rw [if_neg hp,if_neg hp]
   exact look_push (fun x hx=>h x (List.mem_cons_of_mem _ hx)) z
def AtK (kvl:List ((L8 × Sl) × List τ)) (q:L8) (y:Sl):Prop:=(∃ i l,findI (keysL kvl) q 0=some (i,y)∧kvl[i]? = some ((q,y),l)∧lookL kvl q=l)∨(findI (keysL kvl) q 0=none∧y=⟨none,0,0⟩∧lookL kvl q = []∧∀ p∈kvl,p.1.1≠q)
variable {H0 H H':Hp}{S:Nat→Prop}{Pre:List It}{P:Program}{t kt et T E:TypeId}{r:Nat}{kvl:List ((L8 × Sl) × List τ)}{q:L8}{y:Sl}
theorem pre_at {Pre:List It}{a:It}{R:List It}:(Pre++a::R)[Pre.length]? = some a:=by simp
theorem pre_row {a:It}{i:Nat}{l:List τ}(h:kvl[i]? = some ((q,y),l)):(Pre++a::rowsI fl E sz kvl)[Pre.length+1+i]? = some (arr fl E sz y l):=by
 rw [List.getElem?_append_right (by omega),show Pre.length+1+i - Pre.length=i+1 by omega,List.getElem?_cons_succ]
 unfold rowsI
 rw [List.getElem?_map,h]
 rfl
theorem Sym.ask {inf:TypeInfo}{K:Value→Hp→Prop}(h:Sym H0 S H (Pre++mapI slV r (keysL kvl)::rowsI fl E sz kvl)) (hu:P.underlying t=some (.map kt et)) (hk:P.underlying kt=some .string) (hi:P.info? et=some inf) (hz:inf.zero=some (.slice none 0 0))
  (kk:∀ y,AtK kvl q y→K (.slice y.a y.n y.c) H):Lkp P t H (.map (some r)) (.string (str q)) false K:=by
 refine Sym.lkp (k:=Pre.length) (vl:=slV) (kvs:=keysL kvl) h pre_at hu hk hi hz ?_
 rw [if_neg (by decide)]
 cases hf:findI (keysL kvl) q 0 with
 | none=>
  obtain ⟨h1,h2⟩:=look_none hf
  rw [Option.map_none,Option.getD_none]
  exact kk ⟨none,0,0⟩ (.inr ⟨hf,rfl,h1,h2⟩)
 | some x=>
  obtain ⟨i,y⟩:=x
  obtain ⟨_,l,h1,h2⟩:=look_find hf
  rw [Option.map_some,Option.getD_some]
  exact kk y (.inl ⟨i,l,hf,h1,h2⟩)
theorem Sym.asked (h:Sym H0 S H (Pre++mapI slV r (keysL kvl)::rowsI fl E sz kvl)) (hf:Fl fl sz) (hsz:0 < sz) (hy:AtK kvl q y):Rd fl sz H y (lookL kvl q):=by
 rcases hy with ⟨i,l,h1,h2,h3⟩ | ⟨h1,h2,h3,h4⟩
 ·rw [h3]
  exact h.rd hf hsz (pre_row h2)
 ·rw [h2,h3]
  exact Rd.nil
end
end Go.V
end
section
namespace Go.V
theorem zero_flat {τ : Type}{fl : τ→List Value}{sz:Nat}(hf:Fl fl sz) (hsz:0 < sz) {z:Array Value}{z0 : τ}(hz:z.toList=fl z0):∀ n:Nat,(Builtin.zeroCells z n).toList=flat fl (List.replicate n z0):=by
 have hs:z.size=sz:=by
  rw [← Array.length_toList,hz]
  exact hf.len z0
 intro n
 apply List.ext_getElem?
 intro i
 unfold Builtin.zeroCells
 rw [Array.toList_map,List.getElem?_map,hs]
 by_cases hi:i < n*sz
 ·have hq:i / sz < n:=Nat.div_lt_of_lt_mul (by rw [Nat.mul_comm];exact hi)
  have hr:=Nat.mod_lt i hsz
  have e:i / sz*sz+i % sz=i:=by rw [Nat.mul_comm];exact Nat.div_add_mod i sz
  have hx:(List.replicate n z0)[i / sz]? = some z0:=by rw [List.getElem?_replicate,if_pos hq]
  have hg:=flat_get hf hx hr
  rw [e] at hg
  rw [hg,← hz]
  have h1:(Array.range (n*sz)).toList[i]? = some i:=by simp [hi]
  rw [h1]
  have hzr:i % sz < z.size:=by omega
  simp [hzr]
 ·have h1:(Array.range (n*sz)).toList[i]? = none:=by simp;omega
  have h2:(flat fl (List.replicate n z0))[i]? = none:=by
   rw [List.getElem?_eq_none_iff,flat_len hf,List.length_replicate]
   omega
  rw [h1,h2]
  rfl
section
variable {τ : Type}{fl : τ→List Value}{sz:Nat}{H0 H:Hp}{S:Nat→Prop}{L:List It}{P:Program}{T E ty:TypeId}{by':Nat}{z:Value}{s:Sl}{l:List τ}{z0 : τ}
theorem Sym.clr {k i:Nat}{cs:Array Bool}{K:Value→Hp→Prop}(ht:TyS P T E sz by' z) (hzc:z.cells.toList=fl z0) (h:Sym H0 S H L) (hf:Fl fl sz) (hsz:0 < sz) (hk:L[k]? = some (arr fl E sz s l)) (hi:i≤l.length)
  (kk:∀ H',Sym H0 S H' (L.set k (arr fl E sz s (l.take i++List.replicate (l.length - i) z0)))→K (.tuple #[]) H'):s.n≤s.c∧SlX s.a s.c (i:Int) (s.n:Int) sz fun cut=>Blt P .clear #[T] ty cs H [.slice cut.a cut.n cut.c] K:=by
 have hok:RowN fl E sz H s l:=h.get hk
 have hn:=hok.len hf hsz
 have hle:=hok.row.le
 obtain ⟨inf,i1,i2,i3,i4⟩:=info_of ht.i
 refine ⟨hle,⟨by omega,by omega,by omega⟩,?_⟩
 rw [Int.toNat_natCast,Int.toNat_natCast]
 have red:∀ {v:Value},hrun P (Builtin.clear_ #[T] ty #[v]) H K (fun _ _=>False)→Blt P .clear #[T] ty cs H [v] K:=by
  intro v hv
  unfold Blt
  show hrun P (Builtin.clear_ #[T] ty #[v] >>= fun v=>pure (Next.value v)) H _ _
  exact hrun_bind _ (hrun.mono _ (K:=K) (Z:=fun _ _=>False) hv (fun v H' h=>by simpa only [pure,hrun] using h) fun _ _ h=>h)
 refine red ?_
 have hcn:(cut s.a s.c i s.n sz).n=s.n - i:=rfl
 by_cases h0:s.n - i=0
 ·have hil:i=l.length:=by omega
  have e:l.take i++List.replicate (l.length - i) z0=l:=by
   rw [hil,List.take_length,Nat.sub_self,List.replicate_zero,List.append_nil]
  rw [e] at kk
  have e2:L.set k (arr fl E sz s l)=L:=by
   apply List.ext_getElem?
   intro j
   rw [List.getElem?_set]
   split
   ·rename_i hj
    subst hj
    rw [hk]
    simp [(List.getElem?_eq_some_iff.1 hk).1]
   ·rfl
  rw [e2] at kk
  unfold Builtin.clear_
  simp only [List.getElem?_toArray,List.getElem?_cons_zero]
  refine hrun_pv (pv_underlying ht.u) ?_
  rw [hcn,h0]
  cases (cut s.a s.c i s.n sz).a <;> exact kk H h
 ·obtain ⟨g,hg⟩:=hok.row.some (by omega)
  rcases hok.row.2 with ⟨h1,_⟩ | ⟨g',cs',fr,h1,h2,h3,h4,h5,h6⟩
  ·rw [hg] at h1;cases h1
  have hgg:g'=g:=by
   rw [hg] at h1
   cases h1
   rfl
  subst hgg
  have hfr0:fr=(0,0):=by
   obtain ⟨c',T',hb'⟩:=hok.nf g' 0 h1
   rw [h2] at hb'
   simp only [Option.some.injEq,Obj.cells.injEq] at hb'
   exact hb'.2.2
  subst hfr0
  have hca:(cut s.a s.c i s.n sz).a=some ⟨g',i*sz,none⟩:=by
   unfold cut
   show (if s.c=i then s.a else s.a.map (·.add (i*sz)))=_
   rw [if_neg (by omega),hg]
   show some (Addr.add ⟨g',0,none⟩ (i*sz))=_
   rw [add_mk,Nat.zero_add]
  unfold Builtin.clear_
  simp only [List.getElem?_toArray,List.getElem?_cons_zero]
  refine hrun_pv (pv_underlying ht.u) ?_
  rw [hca,hcn]
  obtain ⟨m,hm⟩:∃ m,s.n - i=m+1:=⟨s.n - i - 1,by omega⟩
  rw [hm]
  simp only
  refine hrun_pv (pv_zero i1 i2) ?_
  rw [zero_flat hf hsz hzc]
  have hvl:(flat fl (List.replicate (m+1) z0)).length=(m+1)*sz:=by rw [flat_len hf,List.length_replicate]
  have hms:i*sz+(m+1)*sz=s.n*sz:=by rw [← Nat.add_mul];congr 1;omega
  have hnc:s.n*sz≤s.c*sz:=Nat.mul_le_mul_right _ hle
  refine hrun_bind _ (hrun_storeCells _ 0 ?_)
  refine stL_cells (flat fl (List.replicate (m+1) z0)) 0 h2 (by rw [hvl,h4];omega) (flat_one hf) (.inl (Nat.zero_le _)) fun H2 hg2 hf2 _=>?_
  simp only [pure,hrun]
  have hlm:l.length - i=m+1:=by omega
  rw [hlm] at kk
  refine kk H2 (h.setk hk (hf2.mono fun j _ hj=>⟨0,by rw [hj];exact hg⟩) ⟨⟨?_,.inr ⟨g',_,(0,0),h1,hg2,h3,by rw [setsL_length];exact h4,?_,Nat.zero_le _⟩⟩,fun g2 o e=>?_⟩ fun j hj=>.inl hj)
  ·rw [flat_len hf,List.length_append,List.length_take,List.length_replicate,Nat.min_eq_left hi,hn]
   congr 1
   omega
  ·rw [Nat.add_zero,flat_app]
   have e1:=setsL_take2 (flat fl (List.replicate (m+1) z0)) cs' (i*sz) (by rw [hvl,h4];omega)
   rw [hvl,hms] at e1
   rw [e1]
   congr 1
   rw [← flat_take hf,← h5,List.take_take,Nat.min_eq_left (by omega)]
  ·rw [h1] at e
   simp only [Option.some.injEq,Addr.mk.injEq] at e
   rw [← e.1]
   exact ⟨_,_,hg2⟩
end
end Go.V
end
section
set_option maxRecDepth 100000
namespace Go.Proofs.YtjdhjgfmloaglaaGreatDoor.N21
open Go Go.V Go.Proofs
def V5 (H:Hp) (s_a s_b s_c hide:Sl) (K:Value→Hp→Prop) (Z:List PanicEntry→Hp→Prop):Prop:=
 ∀ bS H1,Newb H (.cells #[.slice s_a.a s_a.n s_a.c,.slice s_b.a s_b.n s_b.c,.slice s_c.a s_c.n s_c.c] 26) bS H1 →
  CallF Tryz.prog 15 #[] H1 (fun r H2=>∃ y:Bool,r = .bool y∧(((!y)=true→K (.bool false) H2) ∧
  ((!y)=false→∃ J:Hp→Prop,(∀ H3,J  H3→∀ scr:Nat→Value,∃ x_a x_b x_c:Sl,(hcell H3 ⟨bS,0,none⟩=some (.slice x_a.a x_a.n x_a.c) ∧
  hcell H3 ⟨bS,1,none⟩=some (.slice x_b.a x_b.n x_b.c)∧hcell H3 ⟨bS,2,none⟩=some (.slice x_c.a x_c.n x_c.c) ∧
  True)∧CallF Tryz.prog 16 #[.agg #[.slice x_a.a x_a.n x_a.c,.slice x_b.a x_b.n x_b.c,.slice x_c.a x_c.n x_c.c],.slice hide.a hide.n hide.c] H3 (fun r1 H4=>
  ∃ (y_0_a y_0_b y_0_c y_1:Sl) (y_2:Int),r1 = .tuple #[.agg #[.slice y_0_a.a y_0_a.n y_0_a.c,.slice y_0_b.a y_0_b.n y_0_b.c,.slice y_0_c.a y_0_c.n y_0_c.c],.slice y_1.a y_1.n y_1.c,.int .i64 y_2] ∧
  ∀ bT H5,Newb H4 (.cells #[.slice none 0 0,.slice none 0 0,.slice none 0 0] 26) bT H5→StL ⟨bT,0,none⟩ 0 [.slice y_0_a.a y_0_a.n y_0_a.c,.slice y_0_b.a y_0_b.n y_0_b.c,.slice y_0_c.a y_0_c.n y_0_c.c] H5 fun H6=>
  (((y_2 != 0)=true→K (.bool true) H6)∧((y_2 != 0)=false→∃ x:Sl,hcell H6 ⟨bT,2,none⟩=some (.slice x.a x.n x.c) ∧
  ∃ x1:Sl,hcell H6 ⟨bS,2,none⟩=some (.slice x1.a x1.n x1.c)∧(((decide ((x.n:Int) > (x1.n:Int)))=true →
  K (.bool false) H6)∧((decide ((x.n:Int) > (x1.n:Int)))=false→∃ I:Int→Hp→Nat→Prop,(∃ m,I 0 H6 m) ∧
  ∀ (i:Int),∀ H7 m1,I i H7 m1→∀ scr1:Nat→Value,(((decide (i < (y_1.n:Int)))=true→∃ J1:Hp →
  Prop,(∀ H8,J1  H8→∀ scr2:Nat→Value,∃ I1:Int→Hp→Nat→Prop,(∃ m3,I1 0 H8 m3)∧∀ (k:Int),∀ H9 m4,I1 k H9 m4 →
  ∀ scr3:Nat→Value,∃ x2:Sl,hcell H9 ⟨bT,2,none⟩=some (.slice x2.a x2.n x2.c)∧(((decide (k < (x2.n:Int)))=true →
  ∃ x3:Sl,hcell H9 ⟨bT,2,none⟩=some (.slice x3.a x3.n x3.c)∧IxA x3.a x3.n k 6 fun ad=>(∃ (x_a1:Int) (x_b1 x_c1:ByteArray) (x_d:Int) (x_e:ByteArray) (x_f:Sl),(hcell H9 ad=some (.int .i64 x_a1) ∧
  hcell H9 (Addr.add ad 1)=some (.string x_b1)∧hcell H9 (Addr.add ad 2)=some (.string x_c1) ∧
  hcell H9 (Addr.add ad 3)=some (.int .i64 x_d)∧hcell H9 (Addr.add ad 4)=some (.string x_e) ∧
  hcell H9 (Addr.add ad 5)=some (.slice x_f.a x_f.n x_f.c)∧True)∧∀ bX H10,Newb H9 (.cells #[.int .i64 0,.string ⟨#[]⟩,.string ⟨#[]⟩,.int .i64 0,.string ⟨#[]⟩,.slice none 0 0] 36) bX H10 →
  StL ⟨bX,0,none⟩ 0 [.int .i64 x_a1,.string x_b1,.string x_c1,.int .i64 x_d,.string x_e,.slice x_f.a x_f.n x_f.c] H10 fun H11=>
  (∃ x4:ByteArray,hcell H11 ⟨bX,1,none⟩=some (.string x4)∧IxA y_1.a y_1.n i 2 fun ad1=>(∃ x5:ByteArray,hcell H11 ad1=some (.string x5) ∧
  (((beqS x4 x5)=true→K (.bool false) H11)∧((beqS x4 x5)=false→∃ x6:Int,hcell H11 ⟨bX,0,none⟩=some (.int .i64 x6) ∧
  (((x6 != 1)=true→∃ x7:ByteArray,hcell H11 ⟨bX,2,none⟩=some (.string x7)∧IxA y_1.a y_1.n i 2 fun ad2=>
  (∃ x8:ByteArray,hcell H11 ad2=some (.string x8)∧(((beqS x7 x8)=true→K (.bool false) H11) ∧
  ((beqS x7 x8)=false→∃ x9:Sl,hcell H11 ⟨bX,5,none⟩=some (.slice x9.a x9.n x9.c)∧IxA y_1.a y_1.n i 2 fun ad3=>
  (∃ x10:ByteArray,hcell H11 ad3=some (.string x10)∧CallF Tryz.prog 10 #[.slice x9.a x9.n x9.c,.string x10] H11 (fun r2 H12=>
  ∃ y1:Int,r2 = .int .i64 y1∧(((decide (y1≥0))=true→K (.bool false) H12)∧((decide (y1≥0))=false →
  (∃ m5,m5 < m4∧I1 (w64 (k+1)) H12 m5)))) Z)))))∧((x6 != 1)=false→∃ x11:Sl,hcell H11 ⟨bX,5,none⟩=some (.slice x11.a x11.n x11.c) ∧
  IxA y_1.a y_1.n i 2 fun ad4=>(∃ x12:ByteArray,hcell H11 ad4=some (.string x12)∧CallF Tryz.prog 10 #[.slice x11.a x11.n x11.c,.string x12] H11 (fun r3 H13=>
  ∃ y2:Int,r3 = .int .i64 y2∧(((decide (y2≥0))=true→K (.bool false) H13)∧((decide (y2≥0))=false →
  (∃ m5,m5 < m4∧I1 (w64 (k+1)) H13 m5)))) Z)))))))))∧((decide (k < (x2.n:Int)))=false →
  (∃ m2,m2 < m1∧I (w64 (i+1)) H9 m2))))∧IxA y_1.a y_1.n i 2 fun ad5=>(∃ x13:ByteArray,hcell H7 ad5=some (.string x13) ∧
  CallF Tryz.prog 10 #[.slice hide.a hide.n hide.c,.string x13] H7 (fun r4 H14=>∃ y3:Int,r4 = .int .i64 y3 ∧
  (((decide (y3 < 0))=true→K (.bool false) H14)∧((decide (y3 < 0))=false→IxA y_1.a y_1.n i 2 fun ad6=>
  (∃ x14:ByteArray,hcell H14 (Addr.add ad6 1)=some (.string x14)∧IxA y_1.a y_1.n i 2 fun ad7=>
  (∃ x15:ByteArray,hcell H14 ad7=some (.string x15)∧(((beqS x14 x15)=true→K (.bool false) H14) ∧
  ((beqS x14 x15)=false→(J1  H14)))))))) Z))∧((decide (i < (y_1.n:Int)))=false→∃ x_a2 x_b2 x_c2:Sl,(hcell H7 ⟨bT,0,none⟩=some (.slice x_a2.a x_a2.n x_a2.c) ∧
  hcell H7 ⟨bT,1,none⟩=some (.slice x_b2.a x_b2.n x_b2.c)∧hcell H7 ⟨bT,2,none⟩=some (.slice x_c2.a x_c2.n x_c2.c) ∧
  True)∧CallF Tryz.prog 16 #[.agg #[.slice x_a2.a x_a2.n x_a2.c,.slice x_b2.a x_b2.n x_b2.c,.slice x_c2.a x_c2.n x_c2.c],.slice hide.a hide.n hide.c] H7 (fun r5 H15=>
  ∃ (y_0_a1 y_0_b1 y_0_c1 y_11:Sl) (y_21:Int),r5 = .tuple #[.agg #[.slice y_0_a1.a y_0_a1.n y_0_a1.c,.slice y_0_b1.a y_0_b1.n y_0_b1.c,.slice y_0_c1.a y_0_c1.n y_0_c1.c],.slice y_11.a y_11.n y_11.c,.int .i64 y_21] ∧
  ∀ b H16,Newb H15 (.cells #[.slice none 0 0,.slice none 0 0,.slice none 0 0] 26) b H16→StL ⟨b,0,none⟩ 0 [.slice y_0_a1.a y_0_a1.n y_0_a1.c,.slice y_0_b1.a y_0_b1.n y_0_b1.c,.slice y_0_c1.a y_0_c1.n y_0_c1.c] H16 fun H17=>
  (((y_21 == 0)=true→K (.bool ((y_11.n:Int) == 0)) H17)∧((y_21 == 0)=false→K (.bool false) H17))) Z))))))) Z) ∧
  ∃ x_a3 x_b3 x_c3:Sl,(hcell H2 ⟨bS,0,none⟩=some (.slice x_a3.a x_a3.n x_a3.c) ∧
  hcell H2 ⟨bS,1,none⟩=some (.slice x_b3.a x_b3.n x_b3.c)∧hcell H2 ⟨bS,2,none⟩=some (.slice x_c3.a x_c3.n x_c3.c) ∧
  True)∧CallF Tryz.prog 7 #[.agg #[.slice x_a3.a x_a3.n x_a3.c,.slice x_b3.a x_b3.n x_b3.c,.slice x_c3.a x_c3.n x_c3.c],.int .i64 40] H2 (fun r6 H18=>
  ∃ y4:Bool,r6 = .bool y4∧((y4=true→K (.bool true) H18)∧(y4=false→CallF Tryz.prog 8 #[.slice hide.a hide.n hide.c] H18 (fun r7 H19=>
  ∃ y5:Bool,r7 = .bool y5∧((y5=true→K (.bool true) H19)∧(y5=false→(J  H19)))) Z))) Z))) Z
def aJ5:Ann:=(fun k=>if k=5 then some [] else if k=15 then some [] else none)
def aL5:Ann:=(fun k=>if k=11 then some [(8,(.sc (.int .i64)))] else if k=16 then some [(9,(.sc (.int .i64)))] else none)
theorem V5_ok {H s_a s_b s_c hide K Z} (h:V5 H s_a s_b s_c hide K Z):CallF Tryz.prog 5 #[.agg #[.slice s_a.a s_a.n s_a.c,.slice s_b.a s_b.n s_b.c,.slice s_c.a s_c.n s_c.c],.slice hide.a hide.n hide.c] H K Z:=
 fnC_sound (aJ:=aJ5) (aL:=aL5) (Eq.mp (by kernel_rfl) h)
def V15 (H:Hp)  (K:Value→Hp→Prop) (Z:List PanicEntry→Hp→Prop):Prop:=
 ∀ b H1,Newb H (.cells #[.int .i64 2,.string ⟨#[102,46,113]⟩,.string ⟨#[102,46,112]⟩,.int .i64 0,.string ⟨#[]⟩,.slice none 0 0,.int .i64 2,.string ⟨#[102,46,114]⟩,.string ⟨#[102,46,113]⟩,.int .i64 0,.string ⟨#[]⟩,.slice none 0 0] 36) b H1 →
  ∀ bS H2,Newb H1 (.cells #[.slice none 0 0,.slice none 0 0,.slice none 0 0] 26) bS H2→StL ⟨bS,0,none⟩ 0 [.slice none 0 0,.slice none 0 0,.slice (some ⟨b,0,none⟩) 2 2] H2 fun H3=>
  (∃ x_a x_b x_c:Sl,(hcell H3 ⟨bS,0,none⟩=some (.slice x_a.a x_a.n x_a.c) ∧
  hcell H3 ⟨bS,1,none⟩=some (.slice x_b.a x_b.n x_b.c)∧hcell H3 ⟨bS,2,none⟩=some (.slice x_c.a x_c.n x_c.c) ∧
  True)∧∀ b1 H4,Newb H3 (.cells #[.string ⟨#[102,46,114]⟩,.string ⟨#[102,46,113]⟩] 9) b1 H4 →
  CallF Tryz.prog 16 #[.agg #[.slice x_a.a x_a.n x_a.c,.slice x_b.a x_b.n x_b.c,.slice x_c.a x_c.n x_c.c],.slice (some ⟨b1,0,none⟩) 2 2] H4 (fun r H5=>
  ∃ (y_0_a y_0_b y_0_c y_1:Sl) (y_2:Int),r = .tuple #[.agg #[.slice y_0_a.a y_0_a.n y_0_a.c,.slice y_0_b.a y_0_b.n y_0_b.c,.slice y_0_c.a y_0_c.n y_0_c.c],.slice y_1.a y_1.n y_1.c,.int .i64 y_2] ∧
  ∀ bT H6,Newb H5 (.cells #[.slice none 0 0,.slice none 0 0,.slice none 0 0] 26) bT H6→StL ⟨bT,0,none⟩ 0 [.slice y_0_a.a y_0_a.n y_0_a.c,.slice y_0_b.a y_0_b.n y_0_b.c,.slice y_0_c.a y_0_c.n y_0_c.c] H6 fun H7=>
  (((y_2 == 0)=true→∃ x:Sl,hcell H7 ⟨bT,2,none⟩=some (.slice x.a x.n x.c)∧((((x.n:Int) == 0)=true →
  ((((y_1.n:Int) == 2)=true→IxA y_1.a y_1.n 1 2 fun ad=>(∃ x_a1 x_b1:ByteArray,(hcell H7 ad=some (.string x_a1) ∧
  hcell H7 (Addr.add ad 1)=some (.string x_b1)∧True)∧K (.bool (((x_a1 == ⟨#[102,46,114]⟩) && ((x_b1 == ⟨#[102,46,112]⟩) && true)))) H7)) ∧
  (((y_1.n:Int) == 2)=false→K (.bool false) H7)))∧(((x.n:Int) == 0)=false→K (.bool false) H7))) ∧
  ((y_2 == 0)=false→K (.bool false) H7))) Z)
theorem V15_ok {H K Z} (h:V15 H  K Z):CallF Tryz.prog 15 #[] H K Z:=
 fnC_sound (aJ:=fun _=>none) (aL:=fun _=>none) (Eq.mp (by kernel_rfl) h)
def V8 (H:Hp) (l:Sl) (K:Value→Hp→Prop) (Z:List PanicEntry→Hp→Prop):Prop:=
 ∃ I:Int→Hp→Nat→Prop,(∃ m,I 0 H m)∧∀ (i:Int),∀ H1 m1,I i H1 m1→∀ scr:Nat→Value,(((decide (i < (l.n:Int)))=true →
  (((decide (i≥60))=true→K (.bool true) H1)∧((decide (i≥60))=false→IxA l.a l.n i 1 fun ad=>
  (∃ x:ByteArray,hcell H1 ad=some (.string x)∧(((decide ((x.size:Int) > 100))=true→K (.bool true) H1) ∧
  ((decide ((x.size:Int) > 100))=false→(∃ m2,m2 < m1∧I (w64 (i+1)) H1 m2)))))))∧((decide (i < (l.n:Int)))=false →
  K (.bool false) H1))
def aL8:Ann:=(fun k=>if k=2 then some [(3,(.sc (.int .i64)))] else none)
theorem V8_ok {H l K Z} (h:V8 H l K Z):CallF Tryz.prog 8 #[.slice l.a l.n l.c] H K Z:=
 fnC_sound (aJ:=fun _=>none) (aL:=aL8) (Eq.mp (by kernel_rfl) h)
def V16 (H:Hp) (s_a s_b s_c hide:Sl) (K:Value→Hp→Prop) (Z:List PanicEntry→Hp→Prop):Prop:=
 ∀ bS H1,Newb H (.cells #[.slice s_a.a s_a.n s_a.c,.slice s_b.a s_b.n s_b.c,.slice s_c.a s_c.n s_c.c] 26) bS H1 →
  ∀ b H2,Newb H1 (.cells #[.slice none 0 0,.slice none 0 0,.slice none 0 0] 26) b H2→∃ x_a x_b x_c:Sl,(hcell H2 ⟨bS,0,none⟩=some (.slice x_a.a x_a.n x_a.c) ∧
  hcell H2 ⟨bS,1,none⟩=some (.slice x_b.a x_b.n x_b.c)∧hcell H2 ⟨bS,2,none⟩=some (.slice x_c.a x_c.n x_c.c) ∧
  True)∧CallF Tryz.prog 18 #[.agg #[.slice x_a.a x_a.n x_a.c,.slice x_b.a x_b.n x_b.c,.slice x_c.a x_c.n x_c.c]] H2 (fun r H3=>
  ∃ y:Int,r = .int .i64 y∧(((y != 0)=true→StL ⟨b,0,none⟩ 0 [.slice none 0 0,.slice none 0 0,.slice none 0 0] H3 fun H4=>
  (∃ res_a res_b res_c:Sl,(hcell H4 ⟨b,0,none⟩=some (.slice res_a.a res_a.n res_a.c) ∧
  hcell H4 ⟨b,1,none⟩=some (.slice res_b.a res_b.n res_b.c)∧hcell H4 ⟨b,2,none⟩=some (.slice res_c.a res_c.n res_c.c) ∧
  True)∧K (.tuple #[.agg #[.slice res_a.a res_a.n res_a.c,.slice res_b.a res_b.n res_b.c,.slice res_c.a res_c.n res_c.c],.slice none 0 0,.int .i64 y]) H4)) ∧
  ((y != 0)=false→∃ x_a1 x_b1 x_c1:Sl,(hcell H3 ⟨bS,0,none⟩=some (.slice x_a1.a x_a1.n x_a1.c) ∧
  hcell H3 ⟨bS,1,none⟩=some (.slice x_b1.a x_b1.n x_b1.c)∧hcell H3 ⟨bS,2,none⟩=some (.slice x_c1.a x_c1.n x_c1.c) ∧
  True)∧∀ b1 H5,Newb H3 (.cells #[.slice x_a1.a x_a1.n x_a1.c,.slice x_b1.a x_b1.n x_b1.c,.slice x_c1.a x_c1.n x_c1.c,.slice none 0 0,.slice none 0 0,.slice none 0 0] 91) b1 H5 →
  CallF Tryz.prog 20 #[.slice hide.a hide.n hide.c] H5 (fun r1 H6=>∃ y1:Sl,r1 = .slice y1.a y1.n y1.c ∧
  CallF Tryz.prog 19 #[.slice y1.a y1.n y1.c,.func (.func 45) #[] #[]] H6 (fun r2 H7=>∃ y2:Sl,r2 = .slice y2.a y2.n y2.c ∧
  StL ⟨b1,4,none⟩ 0 [.slice y2.a y2.n y2.c] H7 fun H8=>(CallF Tryz.prog 46 #[.pointer (some ⟨b1,0,none⟩)] H8 (fun r3 H9=>
  r3 = .tuple #[]∧∃ x_a2 x_b2 x_c2:Sl,(hcell H9 ⟨b1,0,none⟩=some (.slice x_a2.a x_a2.n x_a2.c) ∧
  hcell H9 ⟨b1,1,none⟩=some (.slice x_b2.a x_b2.n x_b2.c)∧hcell H9 ⟨b1,2,none⟩=some (.slice x_c2.a x_c2.n x_c2.c) ∧
  True)∧CallF Tryz.prog 47 #[.agg #[.slice x_a2.a x_a2.n x_a2.c,.slice x_b2.a x_b2.n x_b2.c,.slice x_c2.a x_c2.n x_c2.c]] H9 (fun r4 H10=>
  ∃ y3:Sl,r4 = .slice y3.a y3.n y3.c∧StL ⟨b1,3,none⟩ 0 [.slice y3.a y3.n y3.c] H10 fun H11=>
  (CallF Tryz.prog 48 #[.pointer (some ⟨b1,0,none⟩)] H11 (fun r5 H12=>r5 = .tuple #[]∧∃ I:Hp →
  Nat→Prop,(∃ m,I  H12 m)∧∀ H13 m1,I  H13 m1→∀ scr:Nat→Value,CallF Tryz.prog 49 #[.pointer (some ⟨b1,0,none⟩)] H13 (fun r6 H14=>
  ∃ y4:Bool,r6 = .bool y4∧((y4=true→(∃ m2,m2 < m1∧I  H14 m2))∧(y4=false→∃ x:Sl,hcell H14 ⟨b1,5,none⟩=some (.slice x.a x.n x.c) ∧
  ∃ I1:Sl→Int→Hp→Nat→Prop,(∃ m3,I1 (⟨none,0,0⟩:Sl) 0 H14 m3)∧∀ (l:Sl) (t46:Int),∀ H15 m4,I1 l t46 H15 m4 →
  ∀ scr1:Nat→Value,(((decide (t46 < (x.n:Int)))=true→IxA x.a x.n t46 2 fun ad=>(∃ x_a3 x_b3:ByteArray,(hcell H15 ad=some (.string x_a3) ∧
  hcell H15 (Addr.add ad 1)=some (.string x_b3)∧True)∧∀ bX H16,Newb H15 (.cells #[.string ⟨#[]⟩,.string ⟨#[]⟩] 48) bX H16 →
  StL ⟨bX,0,none⟩ 0 [.string x_a3,.string x_b3] H16 fun H17=>(∃ x1:ByteArray,hcell H17 ⟨bX,0,none⟩=some (.string x1) ∧
  ∃ x2:ByteArray,hcell H17 ⟨bX,0,none⟩=some (.string x2)∧CallF Tryz.prog 50 #[.pointer (some ⟨b1,0,none⟩),.string x2] H17 (fun r7 H18=>
  ∃ y5:ByteArray,r7 = .string y5∧(hcell H18 ⟨bX,0,none⟩=some (.string x1)∧∀ b2 H19,Newb H18 (.cells #[.string x1,.string y5] 48) b2 H19 →
  App Tryz.prog #[44,44] 44 H19 [.slice l.a l.n l.c,.slice (some ⟨b2,0,none⟩) 1 1] fun ap H20=>
  (∃ m5,m5 < m4∧I1 ap (w64 (t46+1)) H20 m5))) Z)))∧((decide (t46 < (x.n:Int)))=false→∃ x_a4 x_b4 x_c3:Sl,(hcell H15 ⟨b1,0,none⟩=some (.slice x_a4.a x_a4.n x_a4.c) ∧
  hcell H15 ⟨b1,1,none⟩=some (.slice x_b4.a x_b4.n x_b4.c)∧hcell H15 ⟨b1,2,none⟩=some (.slice x_c3.a x_c3.n x_c3.c) ∧
  True)∧StL ⟨b,0,none⟩ 0 [.slice x_a4.a x_a4.n x_a4.c,.slice x_b4.a x_b4.n x_b4.c,.slice x_c3.a x_c3.n x_c3.c] H15 fun H21=>
  (∃ res_a1 res_b1 res_c1:Sl,(hcell H21 ⟨b,0,none⟩=some (.slice res_a1.a res_a1.n res_a1.c) ∧
  hcell H21 ⟨b,1,none⟩=some (.slice res_b1.a res_b1.n res_b1.c)∧hcell H21 ⟨b,2,none⟩=some (.slice res_c1.a res_c1.n res_c1.c) ∧
  True)∧K (.tuple #[.agg #[.slice res_a1.a res_a1.n res_a1.c,.slice res_b1.a res_b1.n res_b1.c,.slice res_c1.a res_c1.n res_c1.c],.slice l.a l.n l.c,.int .i64 0]) H21)))))) Z) Z)) Z) Z)) Z) Z))) Z
def aJ16:Ann:=(fun k=>if k=2000014 then some [] else none)
def aL16:Ann:=(fun k=>if k=9 then some [] else if k=12 then some [(9,(.sc .sl)),(46,(.sc (.int .i64)))] else none)
theorem V16_ok {H s_a s_b s_c hide K Z} (h:V16 H s_a s_b s_c hide K Z):CallF Tryz.prog 16 #[.agg #[.slice s_a.a s_a.n s_a.c,.slice s_b.a s_b.n s_b.c,.slice s_c.a s_c.n s_c.c],.slice hide.a hide.n hide.c] H K Z:=
 fnC_sound (aJ:=aJ16) (aL:=aL16) (Eq.mp (by kernel_rfl) h)
def V45 (H:Hp) (s:ByteArray) (K:Value→Hp→Prop) (Z:List PanicEntry→Hp→Prop):Prop:=
 CallF Tryz.prog 22 #[.string s] H (fun r H1=>∃ (y_0_a:Int) (y_0_b:ByteArray) (y_0_c:Int) (y_0_d:ByteArray) (y_0_e y_0_f y_1:Int),r = .tuple #[.agg #[.int .i64 y_0_a,.string y_0_b,.int .i64 y_0_c,.string y_0_d,.int .i64 y_0_e,.int .i64 y_0_f],.int .i64 y_1] ∧
  ∀ bN H2,Newb H1 (.cells #[.int .i64 0,.string ⟨#[]⟩,.int .i64 0,.string ⟨#[]⟩,.int .i64 0,.int .i64 0] 61) bN H2 →
  StL ⟨bN,0,none⟩ 0 [.int .i64 y_0_a,.string y_0_b,.int .i64 y_0_c,.string y_0_d,.int .i64 y_0_e,.int .i64 y_0_f] H2 fun H3=>
  (((y_1 == 0)=true→∃ x:Int,hcell H3 ⟨bN,0,none⟩=some (.int .i64 x)∧K (.bool (x == 3)) H3) ∧
  ((y_1 == 0)=false→K (.bool false) H3))) Z
theorem V45_ok {H s K Z} (h:V45 H s K Z):CallF Tryz.prog 45 #[.string s] H K Z:=
 fnC_sound (aJ:=fun _=>none) (aL:=fun _=>none) (Eq.mp (by kernel_rfl) h)
def V46 (H:Hp) (d:Addr) (K:Value→Hp→Prop) (Z:List PanicEntry→Hp→Prop):Prop:=
 ∃ x:Sl,hcell H (Addr.add d 2)=some (.slice x.a x.n x.c)∧∃ I:Sl→Int→Hp→Nat→Prop,(∃ m,I (⟨none,0,0⟩:Sl) 0 H m) ∧
  ∀ (l:Sl) (t13:Int),∀ H1 m1,I l t13 H1 m1→∀ scr:Nat→Value,(((decide (t13 < (x.n:Int)))=true →
  IxA x.a x.n t13 6 fun ad=>(∃ (x_a:Int) (x_b x_c:ByteArray) (x_d:Int) (x_e:ByteArray) (x_f:Sl),(hcell H1 ad=some (.int .i64 x_a) ∧
  hcell H1 (Addr.add ad 1)=some (.string x_b)∧hcell H1 (Addr.add ad 2)=some (.string x_c)∧hcell H1 (Addr.add ad 3)=some (.int .i64 x_d) ∧
  hcell H1 (Addr.add ad 4)=some (.string x_e)∧hcell H1 (Addr.add ad 5)=some (.slice x_f.a x_f.n x_f.c) ∧
  True)∧∀ bC H2,Newb H1 (.cells #[.int .i64 0,.string ⟨#[]⟩,.string ⟨#[]⟩,.int .i64 0,.string ⟨#[]⟩,.slice none 0 0] 36) bC H2 →
  StL ⟨bC,0,none⟩ 0 [.int .i64 x_a,.string x_b,.string x_c,.int .i64 x_d,.string x_e,.slice x_f.a x_f.n x_f.c] H2 fun H3=>
  (∃ x1:ByteArray,hcell H3 ⟨bC,1,none⟩=some (.string x1)∧CallF Tryz.prog 50 #[.pointer (some d),.string x1] H3 (fun r H4=>
  ∃ y:ByteArray,r = .string y∧StL ⟨bC,1,none⟩ 0 [.string y] H4 fun H5=>(∃ J:Hp→Prop,(∀ H6,J  H6 →
  ∀ scr1:Nat→Value,∃ x2:Sl,hcell H6 ⟨bC,5,none⟩=some (.slice x2.a x2.n x2.c)∧CallF Tryz.prog 31 #[.slice x2.a x2.n x2.c] H6 (fun r1 H7=>
  ∃ y1:Sl,r1 = .slice y1.a y1.n y1.c∧StL ⟨bC,5,none⟩ 0 [.slice y1.a y1.n y1.c] H7 fun H8=>
  (∃ x3:Sl,hcell H8 ⟨bC,5,none⟩=some (.slice x3.a x3.n x3.c)∧∃ I1:Int→Hp→Nat→Prop,(∃ m3,I1 0 H8 m3) ∧
  ∀ (t37:Int),∀ H9 m4,I1 t37 H9 m4→∀ scr2:Nat→Value,(((decide (t37 < (x3.n:Int)))=true →
  IxA x3.a x3.n t37 1 fun ad1=>(∃ x4:ByteArray,hcell H9 ad1=some (.string x4)∧∃ x5:Sl,hcell H9 ⟨bC,5,none⟩=some (.slice x5.a x5.n x5.c) ∧
  CallF Tryz.prog 50 #[.pointer (some d),.string x4] H9 (fun r2 H10=>∃ y2:ByteArray,r2 = .string y2 ∧
  (hcell H10 ⟨bC,5,none⟩=some (.slice x5.a x5.n x5.c)∧IxA x5.a x5.n t37 1 fun ad2=>(StL ad2 0 [.string y2] H10 fun H11=>
  (∃ m5,m5 < m4∧I1 (w64 (t37+1)) H11 m5)))) Z))∧((decide (t37 < (x3.n:Int)))=false→∃ x6:Int,hcell H9 ⟨bC,0,none⟩=some (.int .i64 x6) ∧
  (((x6 != 2)=true→∃ (x_a1:Int) (x_b1 x_c1:ByteArray) (x_d1:Int) (x_e1:ByteArray) (x_f1:Sl),(hcell H9 ⟨bC,0,none⟩=some (.int .i64 x_a1) ∧
  hcell H9 ⟨bC,1,none⟩=some (.string x_b1)∧hcell H9 ⟨bC,2,none⟩=some (.string x_c1)∧hcell H9 ⟨bC,3,none⟩=some (.int .i64 x_d1) ∧
  hcell H9 ⟨bC,4,none⟩=some (.string x_e1)∧hcell H9 ⟨bC,5,none⟩=some (.slice x_f1.a x_f1.n x_f1.c) ∧
  True)∧∀ b H12,Newb H9 (.cells #[.int .i64 x_a1,.string x_b1,.string x_c1,.int .i64 x_d1,.string x_e1,.slice x_f1.a x_f1.n x_f1.c] 36) b H12 →
  App Tryz.prog #[24,24] 24 H12 [.slice l.a l.n l.c,.slice (some ⟨b,0,none⟩) 1 1] fun ap H13=>
  (∃ m2,m2 < m1∧I ap (w64 (t13+1)) H13 m2))∧((x6 != 2)=false→∃ x7:ByteArray,hcell H9 ⟨bC,1,none⟩=some (.string x7) ∧
  ∃ x8:ByteArray,hcell H9 ⟨bC,2,none⟩=some (.string x8)∧(((!(beqS x7 x8))=true→∃ (x_a2:Int) (x_b2 x_c2:ByteArray) (x_d2:Int) (x_e2:ByteArray) (x_f2:Sl),(hcell H9 ⟨bC,0,none⟩=some (.int .i64 x_a2) ∧
  hcell H9 ⟨bC,1,none⟩=some (.string x_b2)∧hcell H9 ⟨bC,2,none⟩=some (.string x_c2)∧hcell H9 ⟨bC,3,none⟩=some (.int .i64 x_d2) ∧
  hcell H9 ⟨bC,4,none⟩=some (.string x_e2)∧hcell H9 ⟨bC,5,none⟩=some (.slice x_f2.a x_f2.n x_f2.c) ∧
  True)∧∀ b1 H14,Newb H9 (.cells #[.int .i64 x_a2,.string x_b2,.string x_c2,.int .i64 x_d2,.string x_e2,.slice x_f2.a x_f2.n x_f2.c] 36) b1 H14 →
  App Tryz.prog #[24,24] 24 H14 [.slice l.a l.n l.c,.slice (some ⟨b1,0,none⟩) 1 1] fun ap1 H15=>
  (∃ m2,m2 < m1∧I ap1 (w64 (t13+1)) H15 m2))∧((!(beqS x7 x8))=false→(∃ m2,m2 < m1∧I l (w64 (t13+1)) H9 m2))))))))) Z) ∧
  ∃ x9:Int,hcell H5 ⟨bC,0,none⟩=some (.int .i64 x9)∧(((x9 != 1)=true→∃ x10:ByteArray,hcell H5 ⟨bC,2,none⟩=some (.string x10) ∧
  CallF Tryz.prog 50 #[.pointer (some d),.string x10] H5 (fun r3 H16=>∃ y3:ByteArray,r3 = .string y3 ∧
  StL ⟨bC,2,none⟩ 0 [.string y3] H16 fun H17=>(J  H17)) Z)∧((x9 != 1)=false→(J  H5))))) Z))) ∧
  ((decide (t13 < (x.n:Int)))=false→∃ x11:Sl,hcell H1 d=some (.slice x11.a x11.n x11.c) ∧
  ∃ x12:Sl,hcell H1 (Addr.add d 1)=some (.slice x12.a x12.n x12.c)∧CallF Tryz.prog 23 #[.agg #[.slice x11.a x11.n x11.c,.slice x12.a x12.n x12.c,.slice l.a l.n l.c]] H1 (fun r4 H18=>
  ∃ y_a y_b y_c:Sl,r4 = .agg #[.slice y_a.a y_a.n y_a.c,.slice y_b.a y_b.n y_b.c,.slice y_c.a y_c.n y_c.c] ∧
  StL d 0 [.slice y_a.a y_a.n y_a.c,.slice y_b.a y_b.n y_b.c,.slice y_c.a y_c.n y_c.c] H18 fun H19=>
  (K (.tuple #[]) H19)) Z))
def aJ46:Ann:=(fun k=>if k=7 then some [] else if k=2000011 then some [] else none)
def aL46:Ann:=(fun k=>if k=2 then some [(2,(.sc .sl)),(13,(.sc (.int .i64)))] else if k=9 then some [(37,(.sc (.int .i64)))] else none)
theorem V46_ok {H d K Z} (h:V46 H d K Z):CallF Tryz.prog 46 #[.pointer (some d)] H K Z:=
 fnC_sound (aJ:=aJ46) (aL:=aL46) (Eq.mp (by kernel_rfl) h)
def V48 (H:Hp) (d:Addr) (K:Value→Hp→Prop) (Z:List PanicEntry→Hp→Prop):Prop:=
 ∀ bD H1,Newb H (.cells #[.pointer (some d)] 89) bD H1→∃ x:Option Addr,hcell H1 ⟨bD,0,none⟩=some (.pointer x) ∧
  nilck x fun ad=>(∃ x1:Sl,hcell H1 (Addr.add ad 2)=some (.slice x1.a x1.n x1.c)∧∃ I:Sl →
  Int→Hp→Nat→Prop,(∃ m,I (⟨none,0,0⟩:Sl) 0 H1 m)∧∀ (l:Sl) (t21:Int),∀ H2 m1,I l t21 H2 m1 →
  ∀ scr:Nat→Value,(((decide (t21 < (x1.n:Int)))=true→IxA x1.a x1.n t21 6 fun ad1=>(∃ (x_a:Int) (x_b x_c:ByteArray) (x_d:Int) (x_e:ByteArray) (x_f:Sl),(hcell H2 ad1=some (.int .i64 x_a) ∧
  hcell H2 (Addr.add ad1 1)=some (.string x_b)∧hcell H2 (Addr.add ad1 2)=some (.string x_c) ∧
  hcell H2 (Addr.add ad1 3)=some (.int .i64 x_d)∧hcell H2 (Addr.add ad1 4)=some (.string x_e) ∧
  hcell H2 (Addr.add ad1 5)=some (.slice x_f.a x_f.n x_f.c)∧True)∧∀ bC H3,Newb H2 (.cells #[.int .i64 0,.string ⟨#[]⟩,.string ⟨#[]⟩,.int .i64 0,.string ⟨#[]⟩,.slice none 0 0] 36) bC H3 →
  StL ⟨bC,0,none⟩ 0 [.int .i64 x_a,.string x_b,.string x_c,.int .i64 x_d,.string x_e,.slice x_f.a x_f.n x_f.c] H3 fun H4=>
  (∃ x2:Int,hcell H4 ⟨bC,0,none⟩=some (.int .i64 x2)∧(((x2 == 2)=true→∃ x3:Option Addr,hcell H4 ⟨bD,0,none⟩=some (.pointer x3) ∧
  nilck x3 fun ad2=>(∃ x4:Sl,hcell H4 (Addr.add ad2 3)=some (.slice x4.a x4.n x4.c)∧∃ x5:ByteArray,hcell H4 ⟨bC,2,none⟩=some (.string x5) ∧
  CallF Tryz.prog 91 #[.slice x4.a x4.n x4.c,.string x5] H4 (fun r H5=>∃ (y_0:Int) (y_1:Bool),r = .tuple #[.int .i64 y_0,.bool y_1] ∧
  ∃ x6:Option Addr,hcell H5 ⟨bD,0,none⟩=some (.pointer x6)∧nilck x6 fun ad3=>(∃ x7:Sl,hcell H5 (Addr.add ad3 3)=some (.slice x7.a x7.n x7.c) ∧
  ∃ x8:ByteArray,hcell H5 ⟨bC,1,none⟩=some (.string x8)∧CallF Tryz.prog 91 #[.slice x7.a x7.n x7.c,.string x8] H5 (fun r1 H6=>
  ∃ (y_01:Int) (y_11:Bool),r1 = .tuple #[.int .i64 y_01,.bool y_11]∧∀ b H7,Newb H6 (.cells #[.int .i64 y_0,.int .i64 y_01] 144) b H7 →
  App Tryz.prog #[141,141] 141 H7 [.slice l.a l.n l.c,.slice (some ⟨b,0,none⟩) 1 1] fun ap H8=>
  (∃ m2,m2 < m1∧I ap (w64 (t21+1)) H8 m2)) Z)) Z))∧((x2 == 2)=false→(∃ m2,m2 < m1∧I l (w64 (t21+1)) H4 m2)))))) ∧
  ((decide (t21 < (x1.n:Int)))=false→∃ x9:Option Addr,hcell H2 ⟨bD,0,none⟩=some (.pointer x9) ∧
  nilck x9 fun ad4=>(∃ x10:Sl,hcell H2 (Addr.add ad4 3)=some (.slice x10.a x10.n x10.c)∧CallF Tryz.prog 92 #[.int .i64 (x10.n:Int),.slice l.a l.n l.c] H2 (fun r2 H9=>
  ∃ y:Sl,r2 = .slice y.a y.n y.c∧∃ I1:Int→Hp→Nat→Prop,(∃ m3,I1 0 H9 m3)∧∀ (t63:Int),∀ H10 m4,I1 t63 H10 m4 →
  ∀ scr1:Nat→Value,(((decide (t63 < (y.n:Int)))=true→IxA y.a y.n t63 1 fun ad5=>(∃ x11:Sl,hcell H10 ad5=some (.slice x11.a x11.n x11.c) ∧
  IxA x11.a x11.n 0 1 fun ad6=>(∃ x12:Int,hcell H10 ad6=some (.int .i64 x12)∧∃ J:Int→Hp →
  Prop,(∀ (best:Int),∀ H11,J best H11→∀ scr2:Nat→Value,∃ I2:Int→Hp→Nat→Prop,(∃ m6,I2 0 H11 m6) ∧
  ∀ (t81:Int),∀ H12 m7,I2 t81 H12 m7→∀ scr3:Nat→Value,(((decide (t81 < (x11.n:Int)))=true →
  IxA x11.a x11.n t81 1 fun ad7=>(∃ x13:Int,hcell H12 ad7=some (.int .i64 x13)∧∃ J1:Bool →
  Hp→Prop,(∀ (t98:Bool),∀ H13,J1 t98 H13→∀ scr4:Nat→Value,((t98=true→∃ x14:Option Addr,hcell H13 ⟨bD,0,none⟩=some (.pointer x14) ∧
  ∃ x15:Option Addr,hcell H13 ⟨bD,0,none⟩=some (.pointer x15)∧nilck x15 fun ad8=>(∃ x16:Sl,hcell H13 (Addr.add ad8 3)=some (.slice x16.a x16.n x16.c) ∧
  IxA x16.a x16.n x13 1 fun ad9=>(∃ x17:ByteArray,hcell H13 ad9=some (.string x17)∧∃ x18:Option Addr,hcell H13 ⟨bD,0,none⟩=some (.pointer x18) ∧
  nilck x18 fun ad10=>(∃ x19:Sl,hcell H13 (Addr.add ad10 3)=some (.slice x19.a x19.n x19.c) ∧
  IxA x19.a x19.n best 1 fun ad11=>(∃ x20:ByteArray,hcell H13 ad11=some (.string x20)∧CallF Tryz.prog 96 #[.pointer x14,.string x17,.string x20] H13 (fun r3 H14=>
  r3 = .tuple #[]∧(∃ m8,m8 < m7∧I2 (w64 (t81+1)) H14 m8)) Z)))))∧(t98=false→(∃ m8,m8 < m7 ∧
  I2 (w64 (t81+1)) H13 m8))))∧(((x13 != best)=true→∃ x21:Option Addr,hcell H12 ⟨bD,0,none⟩=some (.pointer x21) ∧
  ∃ x22:Option Addr,hcell H12 ⟨bD,0,none⟩=some (.pointer x22)∧nilck x22 fun ad12=>(∃ x23:Sl,hcell H12 (Addr.add ad12 3)=some (.slice x23.a x23.n x23.c) ∧
  IxA x23.a x23.n x13 1 fun ad13=>(∃ x24:ByteArray,hcell H12 ad13=some (.string x24)∧CallF Tryz.prog 95 #[.pointer x21,.string x24] H12 (fun r4 H15=>
  ∃ y1:Bool,r4 = .bool y1∧(J1 y1 H15)) Z)))∧((x13 != best)=false→(J1 false H12)))))∧((decide (t81 < (x11.n:Int)))=false →
  (∃ m5,m5 < m4∧I1 (w64 (t63+1)) H12 m5))))∧CallF Tryz.prog 93 #[.slice x11.a x11.n x11.c,.func (.func 94) #[] #[.pointer (some ⟨bD,0,none⟩)]] H10 (fun r5 H16=>
  ∃ y2:Int,r5 = .int .i64 y2∧(((decide (y2≥0))=true→IxA x11.a x11.n y2 1 fun ad14=>(∃ x25:Int,hcell H16 ad14=some (.int .i64 x25) ∧
  (J x25 H16)))∧((decide (y2≥0))=false→(J x12 H16)))) Z)))∧((decide (t63 < (y.n:Int)))=false →
  ∃ x26:Option Addr,hcell H10 ⟨bD,0,none⟩=some (.pointer x26)∧CallF Tryz.prog 46 #[.pointer x26] H10 (fun r6 H17=>
  r6 = .tuple #[]∧K (.tuple #[]) H17) Z))) Z))))
def aJ48:Ann:=(fun k=>if k=17 then some [(11,(.sc (.int .i64)))] else if k=21 then some [(98,(.sc .bool))] else none)
def aL48:Ann:=(fun k=>if k=3 then some [(2,(.sc .sl)),(21,(.sc (.int .i64)))] else if k=11 then some [(63,(.sc (.int .i64)))] else if k=18 then some [(81,(.sc (.int .i64)))] else none)
theorem V48_ok {H d K Z} (h:V48 H d K Z):CallF Tryz.prog 48 #[.pointer (some d)] H K Z:=
 fnC_sound (aJ:=aJ48) (aL:=aL48) (Eq.mp (by kernel_rfl) h)
def V94 (H:Hp) (n:Int) (cap0:Addr) (K:Value→Hp→Prop) (Z:List PanicEntry→Hp→Prop):Prop:=
 ∃ x:Option Addr,hcell H cap0=some (.pointer x)∧∃ x1:Option Addr,hcell H cap0=some (.pointer x1) ∧
  nilck x1 fun ad=>(∃ x2:Sl,hcell H (Addr.add ad 3)=some (.slice x2.a x2.n x2.c)∧IxA x2.a x2.n n 1 fun ad1=>
  (∃ x3:ByteArray,hcell H ad1=some (.string x3)∧CallF Tryz.prog 95 #[.pointer x,.string x3] H (fun r H1=>
  ∃ y:Bool,r = .bool y∧K (.bool (!y)) H1) Z))
theorem V94_ok {H n cap0 K Z} (h:V94 H n cap0 K Z):CallF Tryz.prog 94 #[.int .i64 n,.pointer (some cap0)] H K Z:=
 fnC_sound (aJ:=fun _=>none) (aL:=fun _=>none) (Eq.mp (by kernel_rfl) h)
def V49 (H:Hp) (d:Addr) (K:Value→Hp→Prop) (Z:List PanicEntry→Hp→Prop):Prop:=
 CallF Tryz.prog 97 #[.pointer (some d)] H (fun r H1=>∃ y:Option Nat,r = .map y∧∃ x:Sl,hcell H1 (Addr.add d 3)=some (.slice x.a x.n x.c) ∧
  ∃ I:Int→Hp→Nat→Prop,(∃ m,I 0 H1 m)∧∀ (t14:Int),∀ H2 m1,I t14 H2 m1→∀ scr:Nat →
  Value,(((decide (t14 < (x.n:Int)))=true→IxA x.a x.n t14 1 fun ad=>(∃ x1:ByteArray,hcell H2 ad=some (.string x1) ∧
  Lkp Tryz.prog 130 H2 (.map y) (.string x1) false fun r1 H3=>∃ y1:Sl,r1 = .slice y1.a y1.n y1.c ∧
  CallF Tryz.prog 95 #[.pointer (some d),.string x1] H3 (fun r2 H4=>∃ y2:Bool,r2 = .bool y2 ∧
  ((y2=true→((((y1.n:Int) == 1)=true→IxA y1.a y1.n 0 6 fun ad1=>(∃ x2:Int,hcell H4 ad1=some (.int .i64 x2) ∧
  (((x2 == 2)=true→IxA y1.a y1.n 0 6 fun ad2=>(∃ x3:ByteArray,hcell H4 (Addr.add ad2 2)=some (.string x3) ∧
  CallF Tryz.prog 96 #[.pointer (some d),.string x1,.string x3] H4 (fun r3 H5=>r3 = .tuple #[] ∧
  CallF Tryz.prog 46 #[.pointer (some d)] H5 (fun r4 H6=>r4 = .tuple #[]∧K (.bool true) H6) Z) Z)) ∧
  ((x2 == 2)=false→(∃ m2,m2 < m1∧I (w64 (t14+1)) H4 m2)))))∧(((y1.n:Int) == 1)=false →
  (∃ m2,m2 < m1∧I (w64 (t14+1)) H4 m2))))∧(y2=false→(∃ m2,m2 < m1∧I (w64 (t14+1)) H4 m2)))) Z)) ∧
  ((decide (t14 < (x.n:Int)))=false→K (.bool false) H2))) Z
def aL49:Ann:=(fun k=>if k=3 then some [(14,(.sc (.int .i64)))] else none)
theorem V49_ok {H d K Z} (h:V49 H d K Z):CallF Tryz.prog 49 #[.pointer (some d)] H K Z:=
 fnC_sound (aJ:=fun _=>none) (aL:=aL49) (Eq.mp (by kernel_rfl) h)
def V50 (H:Hp) (d:Addr) (s:ByteArray) (K:Value→Hp→Prop) (Z:List PanicEntry→Hp→Prop):Prop:=
 CallF Tryz.prog 98 #[.pointer (some d),.string s] H (fun r H1=>∃ (y_0:Int) (y_1:Bool),r = .tuple #[.int .i64 y_0,.bool y_1] ∧
  ∃ I:ByteArray→Int→Bool→Hp→Nat→Prop,(∃ m,I s y_0 y_1 H1 m)∧∀ (s1:ByteArray) (i:Int) (swapped:Bool),∀ H2 m1,I s1 i swapped H2 m1 →
  ∀ scr:Nat→Value,((swapped=true→∃ x:Sl,hcell H2 (Addr.add d 5)=some (.slice x.a x.n x.c) ∧
  IxA x.a x.n i 2 fun ad=>(∃ x1:ByteArray,hcell H2 (Addr.add ad 1)=some (.string x1)∧CallF Tryz.prog 98 #[.pointer (some d),.string x1] H2 (fun r1 H3=>
  ∃ (y_01:Int) (y_11:Bool),r1 = .tuple #[.int .i64 y_01,.bool y_11]∧(∃ m2,m2 < m1∧I x1 y_01 y_11 H3 m2)) Z)) ∧
  (swapped=false→K (.string s1) H2))) Z
def aL50:Ann:=(fun k=>if k=2 then some [(1,(.sc .str)),(5,(.sc (.int .i64))),(6,(.sc .bool))] else none)
theorem V50_ok {H d s K Z} (h:V50 H d s K Z):CallF Tryz.prog 50 #[.pointer (some d),.string s] H K Z:=
 fnC_sound (aJ:=fun _=>none) (aL:=aL50) (Eq.mp (by kernel_rfl) h)
def V95 (H:Hp) (d:Addr) (s:ByteArray) (K:Value→Hp→Prop) (Z:List PanicEntry→Hp→Prop):Prop:=
 ∃ x:Sl,hcell H (Addr.add d 4)=some (.slice x.a x.n x.c)∧CallF Tryz.prog 91 #[.slice x.a x.n x.c,.string s] H (fun r H1=>
  ∃ (y_0:Int) (y_1:Bool),r = .tuple #[.int .i64 y_0,.bool y_1]∧K (.bool y_1) H1) Z
theorem V95_ok {H d s K Z} (h:V95 H d s K Z):CallF Tryz.prog 95 #[.pointer (some d),.string s] H K Z:=
 fnC_sound (aJ:=fun _=>none) (aL:=fun _=>none) (Eq.mp (by kernel_rfl) h)
def V96 (H:Hp) (d:Addr) (t1 t2:ByteArray) (K:Value→Hp→Prop) (Z:List PanicEntry→Hp→Prop):Prop:=
 CallF Tryz.prog 98 #[.pointer (some d),.string t1] H (fun r H1=>∃ (y_0:Int) (y_1:Bool),r = .tuple #[.int .i64 y_0,.bool y_1] ∧
  ∃ x:Sl,hcell H1 (Addr.add d 5)=some (.slice x.a x.n x.c)∧∀ b H2,Newb H1 (.cells #[.string t1,.string t2] 48) b H2 →
  CallF Tryz.prog 144 #[.slice x.a x.n x.c,.int .i64 y_0,.slice (some ⟨b,0,none⟩) 1 1] H2 (fun r1 H3=>
  ∃ y:Sl,r1 = .slice y.a y.n y.c∧StL (Addr.add d 5) 0 [.slice y.a y.n y.c] H3 fun H4=>(K (.tuple #[]) H4)) Z) Z
theorem V96_ok {H d t1 t2 K Z} (h:V96 H d t1 t2 K Z):CallF Tryz.prog 96 #[.pointer (some d),.string t1,.string t2] H K Z:=
 fnC_sound (aJ:=fun _=>none) (aL:=fun _=>none) (Eq.mp (by kernel_rfl) h)
def V97 (H:Hp) (d:Addr) (K:Value→Hp→Prop) (Z:List PanicEntry→Hp→Prop):Prop:=
 ∀ b H1,Newb H (.map #[] 0) b H1→∃ x:Sl,hcell H1 (Addr.add d 2)=some (.slice x.a x.n x.c) ∧
  ∃ I:Int→Hp→Nat→Prop,(∃ m,I 0 H1 m)∧∀ (t13:Int),∀ H2 m1,I t13 H2 m1→∀ scr:Nat →
  Value,(((decide (t13 < (x.n:Int)))=true→IxA x.a x.n t13 6 fun ad=>(∃ (x_a:Int) (x_b x_c:ByteArray) (x_d:Int) (x_e:ByteArray) (x_f:Sl),(hcell H2 ad=some (.int .i64 x_a) ∧
  hcell H2 (Addr.add ad 1)=some (.string x_b)∧hcell H2 (Addr.add ad 2)=some (.string x_c)∧hcell H2 (Addr.add ad 3)=some (.int .i64 x_d) ∧
  hcell H2 (Addr.add ad 4)=some (.string x_e)∧hcell H2 (Addr.add ad 5)=some (.slice x_f.a x_f.n x_f.c) ∧
  True)∧∀ bC H3,Newb H2 (.cells #[.int .i64 0,.string ⟨#[]⟩,.string ⟨#[]⟩,.int .i64 0,.string ⟨#[]⟩,.slice none 0 0] 36) bC H3 →
  StL ⟨bC,0,none⟩ 0 [.int .i64 x_a,.string x_b,.string x_c,.int .i64 x_d,.string x_e,.slice x_f.a x_f.n x_f.c] H3 fun H4=>
  (∃ J:Hp→Prop,(∀ H5,J  H5→∀ scr1:Nat→Value,∃ J1:Bool→Hp→Prop,(∀ (t39:Bool),∀ H6,J1 t39 H6 →
  ∀ scr2:Nat→Value,((t39=true→∃ x1:Sl,hcell H6 ⟨bC,5,none⟩=some (.slice x1.a x1.n x1.c) ∧
  IxA x1.a x1.n 0 1 fun ad1=>(∃ x2:ByteArray,hcell H6 ad1=some (.string x2)∧∃ x3:Sl,hcell H6 ⟨bC,5,none⟩=some (.slice x3.a x3.n x3.c) ∧
  IxA x3.a x3.n 0 1 fun ad2=>(∃ x4:ByteArray,hcell H6 ad2=some (.string x4)∧∃ (x_a1:Int) (x_b1 x_c1:ByteArray) (x_d1:Int) (x_e1:ByteArray) (x_f1:Sl),(hcell H6 ⟨bC,0,none⟩=some (.int .i64 x_a1) ∧
  hcell H6 ⟨bC,1,none⟩=some (.string x_b1)∧hcell H6 ⟨bC,2,none⟩=some (.string x_c1)∧hcell H6 ⟨bC,3,none⟩=some (.int .i64 x_d1) ∧
  hcell H6 ⟨bC,4,none⟩=some (.string x_e1)∧hcell H6 ⟨bC,5,none⟩=some (.slice x_f1.a x_f1.n x_f1.c) ∧
  True)∧((Lkp Tryz.prog 130 H6 (.map (some b)) (.string x4) false fun r H7=>∃ y:Sl,r = .slice y.a y.n y.c ∧
  ((hcell H7 ⟨bC,0,none⟩=some (.int .i64 x_a1)∧hcell H7 ⟨bC,1,none⟩=some (.string x_b1) ∧
  hcell H7 ⟨bC,2,none⟩=some (.string x_c1)∧hcell H7 ⟨bC,3,none⟩=some (.int .i64 x_d1)∧hcell H7 ⟨bC,4,none⟩=some (.string x_e1) ∧
  hcell H7 ⟨bC,5,none⟩=some (.slice x_f1.a x_f1.n x_f1.c)∧True)∧(hcell H7 ad1=some (.string x2) ∧
  (hcell H7 ⟨bC,5,none⟩=some (.slice x1.a x1.n x1.c)∧∀ b1 H8,Newb H7 (.cells #[.int .i64 x_a1,.string x_b1,.string x_c1,.int .i64 x_d1,.string x_e1,.slice x_f1.a x_f1.n x_f1.c] 36) b1 H8 →
  (hcell H8 ad1=some (.string x2)∧(hcell H8 ⟨bC,5,none⟩=some (.slice x1.a x1.n x1.c)∧App Tryz.prog #[24,24] 24 H8 [.slice y.a y.n y.c,.slice (some ⟨b1,0,none⟩) 1 1] fun ap H9=>
  (hcell H9 ad1=some (.string x2)∧(hcell H9 ⟨bC,5,none⟩=some (.slice x1.a x1.n x1.c)∧MUp Tryz.prog 130 H9 (.map (some b)) (.string x2) (.slice ap.a ap.n ap.c) fun H10=>
  (∃ m2,m2 < m1∧I (w64 (t13+1)) H10 m2)))))))))∧(∀ b2 H11,Newb H6 (.cells #[.int .i64 x_a1,.string x_b1,.string x_c1,.int .i64 x_d1,.string x_e1,.slice x_f1.a x_f1.n x_f1.c] 36) b2 H11 →
  (hcell H11 ad2=some (.string x4)∧(hcell H11 ⟨bC,5,none⟩=some (.slice x3.a x3.n x3.c)∧(hcell H11 ad1=some (.string x2) ∧
  (hcell H11 ⟨bC,5,none⟩=some (.slice x1.a x1.n x1.c)∧Lkp Tryz.prog 130 H11 (.map (some b)) (.string x4) false fun r1 H12=>
  ∃ y1:Sl,r1 = .slice y1.a y1.n y1.c∧(hcell H12 ad1=some (.string x2)∧(hcell H12 ⟨bC,5,none⟩=some (.slice x1.a x1.n x1.c) ∧
  App Tryz.prog #[24,24] 24 H12 [.slice y1.a y1.n y1.c,.slice (some ⟨b2,0,none⟩) 1 1] fun ap1 H13=>
  (hcell H13 ad1=some (.string x2)∧(hcell H13 ⟨bC,5,none⟩=some (.slice x1.a x1.n x1.c)∧MUp Tryz.prog 130 H13 (.map (some b)) (.string x2) (.slice ap1.a ap1.n ap1.c) fun H14=>
  (∃ m2,m2 < m1∧I (w64 (t13+1)) H14 m2))))))))))))))∧(t39=false→(∃ m2,m2 < m1∧I (w64 (t13+1)) H6 m2)))) ∧
  ∃ x5:Int,hcell H5 ⟨bC,0,none⟩=some (.int .i64 x5)∧(((x5 == 6)=true→∃ x6:Sl,hcell H5 ⟨bC,5,none⟩=some (.slice x6.a x6.n x6.c) ∧
  IxA x6.a x6.n 0 1 fun ad3=>(∃ x7:ByteArray,hcell H5 ad3=some (.string x7)∧(J1 (!(beqS x7 ⟨#[]⟩)) H5))) ∧
  ((x5 == 6)=false→(J1 false H5))))∧∃ x8:Int,hcell H4 ⟨bC,0,none⟩=some (.int .i64 x8) ∧
  (((x8 != 4)=true→∃ x9:ByteArray,hcell H4 ⟨bC,1,none⟩=some (.string x9)∧∃ x10:ByteArray,hcell H4 ⟨bC,1,none⟩=some (.string x10) ∧
  ∃ (x_a2:Int) (x_b2 x_c2:ByteArray) (x_d2:Int) (x_e2:ByteArray) (x_f2:Sl),(hcell H4 ⟨bC,0,none⟩=some (.int .i64 x_a2) ∧
  hcell H4 ⟨bC,1,none⟩=some (.string x_b2)∧hcell H4 ⟨bC,2,none⟩=some (.string x_c2)∧hcell H4 ⟨bC,3,none⟩=some (.int .i64 x_d2) ∧
  hcell H4 ⟨bC,4,none⟩=some (.string x_e2)∧hcell H4 ⟨bC,5,none⟩=some (.slice x_f2.a x_f2.n x_f2.c) ∧
  True)∧((Lkp Tryz.prog 130 H4 (.map (some b)) (.string x10) false fun r2 H15=>∃ y2:Sl,r2 = .slice y2.a y2.n y2.c ∧
  ((hcell H15 ⟨bC,0,none⟩=some (.int .i64 x_a2)∧hcell H15 ⟨bC,1,none⟩=some (.string x_b2) ∧
  hcell H15 ⟨bC,2,none⟩=some (.string x_c2)∧hcell H15 ⟨bC,3,none⟩=some (.int .i64 x_d2) ∧
  hcell H15 ⟨bC,4,none⟩=some (.string x_e2)∧hcell H15 ⟨bC,5,none⟩=some (.slice x_f2.a x_f2.n x_f2.c) ∧
  True)∧(hcell H15 ⟨bC,1,none⟩=some (.string x9)∧∀ b3 H16,Newb H15 (.cells #[.int .i64 x_a2,.string x_b2,.string x_c2,.int .i64 x_d2,.string x_e2,.slice x_f2.a x_f2.n x_f2.c] 36) b3 H16 →
  (hcell H16 ⟨bC,1,none⟩=some (.string x9)∧App Tryz.prog #[24,24] 24 H16 [.slice y2.a y2.n y2.c,.slice (some ⟨b3,0,none⟩) 1 1] fun ap2 H17=>
  (hcell H17 ⟨bC,1,none⟩=some (.string x9)∧MUp Tryz.prog 130 H17 (.map (some b)) (.string x9) (.slice ap2.a ap2.n ap2.c) fun H18=>
  (J  H18))))))∧(∀ b4 H19,Newb H4 (.cells #[.int .i64 x_a2,.string x_b2,.string x_c2,.int .i64 x_d2,.string x_e2,.slice x_f2.a x_f2.n x_f2.c] 36) b4 H19 →
  (hcell H19 ⟨bC,1,none⟩=some (.string x10)∧(hcell H19 ⟨bC,1,none⟩=some (.string x9)∧Lkp Tryz.prog 130 H19 (.map (some b)) (.string x10) false fun r3 H20=>
  ∃ y3:Sl,r3 = .slice y3.a y3.n y3.c∧(hcell H20 ⟨bC,1,none⟩=some (.string x9)∧App Tryz.prog #[24,24] 24 H20 [.slice y3.a y3.n y3.c,.slice (some ⟨b4,0,none⟩) 1 1] fun ap3 H21=>
  (hcell H21 ⟨bC,1,none⟩=some (.string x9)∧MUp Tryz.prog 130 H21 (.map (some b)) (.string x9) (.slice ap3.a ap3.n ap3.c) fun H22=>
  (J  H22))))))))∧((x8 != 4)=false→(J  H4))))))∧((decide (t13 < (x.n:Int)))=false→K (.map (some b)) H2))
def aJ97:Ann:=(fun k=>if k=7 then some [] else if k=8 then some [(39,(.sc .bool))] else if k=2000006 then some [] else if k=2000008 then some [] else none)
def aL97:Ann:=(fun k=>if k=3 then some [(13,(.sc (.int .i64)))] else none)
theorem V97_ok {H d K Z} (h:V97 H d K Z):CallF Tryz.prog 97 #[.pointer (some d)] H K Z:=
 fnC_sound (aJ:=aJ97) (aL:=aL97) (Eq.mp (by kernel_rfl) h)
def V98 (H:Hp) (d:Addr) (s:ByteArray) (K:Value→Hp→Prop) (Z:List PanicEntry→Hp→Prop):Prop:=
 ∃ x:Sl,hcell H (Addr.add d 5)=some (.slice x.a x.n x.c)∧CallF Tryz.prog 145 #[.slice x.a x.n x.c,.string s,.func (.func 146) #[] #[]] H (fun r H1=>
  ∃ (y_0:Int) (y_1:Bool),r = .tuple #[.int .i64 y_0,.bool y_1]∧K (.tuple #[.int .i64 y_0,.bool y_1]) H1) Z
theorem V98_ok {H d s K Z} (h:V98 H d s K Z):CallF Tryz.prog 98 #[.pointer (some d),.string s] H K Z:=
 fnC_sound (aJ:=fun _=>none) (aL:=fun _=>none) (Eq.mp (by kernel_rfl) h)
def V146 (H:Hp) (x_a x_b s:ByteArray) (K:Value→Hp→Prop) (Z:List PanicEntry→Hp→Prop):Prop:=
 ∀ bX H1,Newb H (.cells #[.string x_a,.string x_b] 48) bX H1→∃ x:ByteArray,hcell H1 ⟨bX,0,none⟩=some (.string x) ∧
  CallF Tryz.prog 102 #[.string x,.string s] H1 (fun r H2=>∃ y:Int,r = .int .i64 y∧K (.int .i64 y) H2) Z
theorem V146_ok {H x_a x_b s K Z} (h:V146 H x_a x_b s K Z):CallF Tryz.prog 146 #[.agg #[.string x_a,.string x_b],.string s] H K Z:=
 fnC_sound (aJ:=fun _=>none) (aL:=fun _=>none) (Eq.mp (by kernel_rfl) h)
def V144 (H:Hp) (s:Sl) (i:Int) (v:Sl) (K:Value→Hp→Prop) (Z:List PanicEntry→Hp→Prop):Prop:=
 (s.n≤s.c∧SlX s.a s.c i (s.n:Int) 2 fun cut=>((((v.n:Int) == 0)=true→K (.slice s.a s.n s.c) H) ∧
  (((v.n:Int) == 0)=false→(((i == (s.n:Int))=true→App Tryz.prog #[44,44] 44 H [.slice s.a s.n s.c,.slice v.a v.n v.c] fun ap H1=>
  (K (.slice ap.a ap.n ap.c) H1))∧((i == (s.n:Int))=false→(((decide ((w64 ((s.n:Int)+(v.n:Int))) > (s.c:Int)))=true →
  (s.n≤s.c∧SlX s.a s.c 0 i 2 fun cut1=>(App Tryz.prog #[44,3] 44 H [.slice cut1.a cut1.n cut1.c,.int .i64 (w64 ((w64 ((s.n:Int)+(v.n:Int))) - i))] fun ap1 H2=>
  (ap1.n≤ap1.c∧SlX ap1.a ap1.c i (ap1.n:Int) 2 fun cut2=>(Cpy Tryz.prog #[44,44] 3 H2 [.slice cut2.a cut2.n cut2.c,.slice v.a v.n v.c] fun cp H3=>
  (ap1.n≤ap1.c∧SlX ap1.a ap1.c (w64 (i+(v.n:Int))) (ap1.n:Int) 2 fun cut3=>(s.n≤s.c ∧
  SlX s.a s.c i (s.n:Int) 2 fun cut4=>(Cpy Tryz.prog #[44,44] 3 H3 [.slice cut3.a cut3.n cut3.c,.slice cut4.a cut4.n cut4.c] fun cp1 H4=>
  (K (.slice ap1.a ap1.n ap1.c) H4)))))))))∧((decide ((w64 ((s.n:Int)+(v.n:Int))) > (s.c:Int)))=false →
  (s.n≤s.c∧SlX s.a s.c 0 (w64 ((s.n:Int)+(v.n:Int))) 2 fun cut5=>(cut5.n≤cut5.c∧SlX cut5.a cut5.c (w64 (i+(v.n:Int))) (cut5.n:Int) 2 fun cut6=>
  (ExtF Tryz.prog 173 [.slice v.a v.n v.c,.slice cut6.a cut6.n cut6.c] H fun r H5=>∃ y:Bool,r = .bool y ∧
  (((!y)=true→(cut5.n≤cut5.c∧SlX cut5.a cut5.c (w64 (i+(v.n:Int))) (cut5.n:Int) 2 fun cut7=>
  (cut5.n≤cut5.c∧SlX cut5.a cut5.c i (cut5.n:Int) 2 fun cut8=>(Cpy Tryz.prog #[44,44] 3 H5 [.slice cut7.a cut7.n cut7.c,.slice cut8.a cut8.n cut8.c] fun cp2 H6=>
  (cut5.n≤cut5.c∧SlX cut5.a cut5.c i (cut5.n:Int) 2 fun cut9=>(Cpy Tryz.prog #[44,44] 3 H6 [.slice cut9.a cut9.n cut9.c,.slice v.a v.n v.c] fun cp3 H7=>
  (K (.slice cut5.a cut5.n cut5.c) H7)))))))∧((!y)=false→(cut5.n≤cut5.c∧SlX cut5.a cut5.c (s.n:Int) (cut5.n:Int) 2 fun cut10=>
  (Cpy Tryz.prog #[44,44] 3 H5 [.slice cut10.a cut10.n cut10.c,.slice v.a v.n v.c] fun cp4 H8=>
  (cut5.n≤cut5.c∧SlX cut5.a cut5.c i (cut5.n:Int) 2 fun cut11=>(CallF Tryz.prog 174 #[.slice cut11.a cut11.n cut11.c,.int .i64 (v.n:Int)] H8 (fun r1 H9=>
  r1 = .tuple #[]∧K (.slice cut5.a cut5.n cut5.c) H9) Z))))))))))))))))
theorem V144_ok {H s i v K Z} (h:V144 H s i v K Z):CallF Tryz.prog 144 #[.slice s.a s.n s.c,.int .i64 i,.slice v.a v.n v.c] H K Z:=
 fnC_sound (aJ:=fun _=>none) (aL:=fun _=>none) (Eq.mp (by kernel_rfl) h)
def V145 (H:Hp) (x:Sl) (target:ByteArray) (cmp:Value) (K:Value→Hp→Prop) (Z:List PanicEntry→Hp→Prop):Prop:=
 ∃ I:Int→Int→Hp→Nat→Prop,(∃ m,I 0 (x.n:Int) H m)∧∀ (i:Int) (j:Int),∀ H1 m1,I i j H1 m1 →
  ∀ scr:Nat→Value,(((decide (i < j))=true→IxA x.a x.n (w64 (Int.fdiv (IntKind.wrap .u64 (w64 (i+j))) (2 ^ 1))) 2 fun ad=>
  (∃ x_a x_b:ByteArray,(hcell H1 ad=some (.string x_a)∧hcell H1 (Addr.add ad 1)=some (.string x_b) ∧
  True)∧callV Tryz.prog cmp [.agg #[.string x_a,.string x_b],.string target] H1 (fun r H2=>∃ y:Int,r = .int .i64 y ∧
  (((decide (y < 0))=true→(∃ m2,m2 < m1∧I (w64 ((w64 (Int.fdiv (IntKind.wrap .u64 (w64 (i+j))) (2 ^ 1)))+1)) j H2 m2)) ∧
  ((decide (y < 0))=false→(∃ m2,m2 < m1∧I i (w64 (Int.fdiv (IntKind.wrap .u64 (w64 (i+j))) (2 ^ 1))) H2 m2)))) Z)) ∧
  ((decide (i < j))=false→(((decide (i < (x.n:Int)))=true→IxA x.a x.n i 2 fun ad1=>(∃ x_a1 x_b1:ByteArray,(hcell H1 ad1=some (.string x_a1) ∧
  hcell H1 (Addr.add ad1 1)=some (.string x_b1)∧True)∧callV Tryz.prog cmp [.agg #[.string x_a1,.string x_b1],.string target] H1 (fun r1 H3=>
  ∃ y1:Int,r1 = .int .i64 y1∧K (.tuple #[.int .i64 i,.bool (y1 == 0)]) H3) Z))∧((decide (i < (x.n:Int)))=false →
  K (.tuple #[.int .i64 i,.bool false]) H1))))
def aL145:Ann:=(fun k=>if k=3 then some [(9,(.sc (.int .i64))),(10,(.sc (.int .i64)))] else none)
theorem V145_ok {H x target cmp K Z} (h:V145 H x target cmp K Z):CallF Tryz.prog 145 #[.slice x.a x.n x.c,.string target,cmp] H K Z:=
 fnC_sound (aJ:=fun _=>none) (aL:=aL145) (Eq.mp (by kernel_rfl) h)
def V91 (H:Hp) (x:Sl) (target:ByteArray) (K:Value→Hp→Prop) (Z:List PanicEntry→Hp→Prop):Prop:=
 ∃ I:Int→Int→Hp→Nat→Prop,(∃ m,I 0 (x.n:Int) H m)∧∀ (i:Int) (j:Int),∀ H1 m1,I i j H1 m1 →
  ∀ scr:Nat→Value,(((decide (i < j))=true→IxA x.a x.n (w64 (Int.fdiv (IntKind.wrap .u64 (w64 (i+j))) (2 ^ 1))) 1 fun ad=>
  (∃ x1:ByteArray,hcell H1 ad=some (.string x1)∧CallF Tryz.prog 139 #[.string x1,.string target] H1 (fun r H2=>
  ∃ y:Bool,r = .bool y∧((y=true→(∃ m2,m2 < m1∧I (w64 ((w64 (Int.fdiv (IntKind.wrap .u64 (w64 (i+j))) (2 ^ 1)))+1)) j H2 m2)) ∧
  (y=false→(∃ m2,m2 < m1∧I i (w64 (Int.fdiv (IntKind.wrap .u64 (w64 (i+j))) (2 ^ 1))) H2 m2)))) Z)) ∧
  ((decide (i < j))=false→(((decide (i < (x.n:Int)))=true→IxA x.a x.n i 1 fun ad1=>(∃ x2:ByteArray,hcell H1 ad1=some (.string x2) ∧
  (((beqS x2 target)=true→K (.tuple #[.int .i64 i,.bool true]) H1)∧((beqS x2 target)=false →
  IxA x.a x.n i 1 fun ad2=>(∃ x3:ByteArray,hcell H1 ad2=some (.string x3)∧CallF Tryz.prog 140 #[.string x3] H1 (fun r1 H3=>
  ∃ y1:Bool,r1 = .bool y1∧((y1=true→CallF Tryz.prog 140 #[.string target] H3 (fun r2 H4=>
  ∃ y2:Bool,r2 = .bool y2∧K (.tuple #[.int .i64 i,.bool y2]) H4) Z)∧(y1=false→K (.tuple #[.int .i64 i,.bool false]) H3))) Z))))) ∧
  ((decide (i < (x.n:Int)))=false→K (.tuple #[.int .i64 i,.bool false]) H1))))
def aL91:Ann:=(fun k=>if k=3 then some [(7,(.sc (.int .i64))),(8,(.sc (.int .i64)))] else none)
theorem V91_ok {H x target K Z} (h:V91 H x target K Z):CallF Tryz.prog 91 #[.slice x.a x.n x.c,.string target] H K Z:=
 fnC_sound (aJ:=fun _=>none) (aL:=aL91) (Eq.mp (by kernel_rfl) h)
def V139 (H:Hp) (x y:ByteArray) (K:Value→Hp→Prop) (Z:List PanicEntry→Hp→Prop):Prop:=
 CallF Tryz.prog 149 #[.string x] H (fun r H1=>∃ y1:Bool,r = .bool y1∧((y1=true→CallF Tryz.prog 149 #[.string y] H1 (fun r1 H2=>
  ∃ y2:Bool,r1 = .bool y2∧(((!y2)=true→K (.bool true) H2)∧((!y2)=false→K (.bool (ltS x y)) H2))) Z) ∧
  (y1=false→K (.bool (ltS x y)) H1))) Z
theorem V139_ok {H x y K Z} (h:V139 H x y K Z):CallF Tryz.prog 139 #[.string x,.string y] H K Z:=
 fnC_sound (aJ:=fun _=>none) (aL:=fun _=>none) (Eq.mp (by kernel_rfl) h)
def V140 (H:Hp) (x:ByteArray) (K:Value→Hp→Prop) (Z:List PanicEntry→Hp→Prop):Prop:=
 K (.bool (!(beqS x x))) H
theorem V140_ok {H x K Z} (h:V140 H x K Z):CallF Tryz.prog 140 #[.string x] H K Z:=
 fnC_sound (aJ:=fun _=>none) (aL:=fun _=>none) (Eq.mp (by kernel_rfl) h)
def V93 (H:Hp) (s:Sl) (f:Value) (K:Value→Hp→Prop) (Z:List PanicEntry→Hp→Prop):Prop:=
 ∃ I:Int→Hp→Nat→Prop,(∃ m,I 0 H m)∧∀ (t8:Int),∀ H1 m1,I t8 H1 m1→∀ scr:Nat→Value,(((decide (t8 < (s.n:Int)))=true →
  IxA s.a s.n t8 1 fun ad=>(∃ x:Int,hcell H1 ad=some (.int .i64 x)∧callV Tryz.prog f [.int .i64 x] H1 (fun r H2=>
  ∃ y:Bool,r = .bool y∧((y=true→K (.int .i64 t8) H2)∧(y=false→(∃ m2,m2 < m1∧I (w64 (t8+1)) H2 m2)))) Z)) ∧
  ((decide (t8 < (s.n:Int)))=false→K (.int .i64 (-1)) H1))
def aL93:Ann:=(fun k=>if k=2 then some [(8,(.sc (.int .i64)))] else none)
theorem V93_ok {H s f K Z} (h:V93 H s f K Z):CallF Tryz.prog 93 #[.slice s.a s.n s.c,f] H K Z:=
 fnC_sound (aJ:=fun _=>none) (aL:=aL93) (Eq.mp (by kernel_rfl) h)
end Go.Proofs.YtjdhjgfmloaglaaGreatDoor.N21
end
section
namespace Go.Proofs.YtjdhjgfmloaglaaGreatDoor.C21
open Go Go.V Go.Proofs N21 P14 C14 P15 C15 P21
attribute [local irreducible] Cvt ExtF CallF hrun App MkS callV Lkp MUp
theorem tyW:TyS Tryz.prog 44 48 2 32 (.agg #[.string ⟨#[]⟩,.string ⟨#[]⟩]):=⟨by kernel_rfl,by kernel_rfl,rfl,by decide⟩
def flW (x:Swp):List Value:=[.string (str x.1),.string (str x.2)]
theorem FlW:Fl flW 2:=⟨fun _=>rfl,fun x v hv=>by
 unfold flW at hv
 simp only [List.mem_cons,List.not_mem_nil,or_false] at hv
 rcases hv with rfl | rfl <;> rfl⟩
theorem okA1:fnOk Tryz.prog 146=true:=by kernel_rfl
section
variable {H0 A B:Hp}{K:Value→Hp→Prop}{Z:List PanicEntry→Hp→Prop}{ss:Sl}{sw:List Swp}{n t:L8}{N:L8→L8}{rk:L8→Nat}{bd:Nat}
theorem snan_ok {x:ByteArray}(k:K (.bool false) A):CallF Tryz.prog 140 #[.string x] A K Z:=by
 refine V140_ok ?_
 unfold V140
 rw [beqS_iff.2 rfl]
 exact k
theorem less_ok {x y:ByteArray}(k:K (.bool (ltS x y)) A):CallF Tryz.prog 139 #[.string x,.string y] A K Z:=by
 refine V139_ok ?_
 unfold V139
 exact C05S.nan_ok ⟨_,rfl,(fun h=>by cases h),fun _=>k⟩
theorem bsT_ok {s:Sl}{xs:List L8}(h:Rd flL 1 A s xs) (hr:Rising ltL xs) (hbig:xs.length≤1000000000000)
  (k:∀ p:Nat,PartAt xs n p→K (.tuple #[.int .i64 (p:Int),.bool (decide (n∈xs))]) A):CallF Tryz.prog 91 #[.slice s.a s.n s.c,.string (str n)] A K Z:=by
 have hb:BinV Tryz.prog 139 140 A s (str n) K Z:=binv_ok h hr hbig (fun _ _ _ k=>less_ok k) (fun _ _ k=>snan_ok k) k
 refine V91_ok ?_
 unfold BinV at hb
 unfold V91
 exact hb
theorem hidden_ok {s:Sl}{xs:List L8}(hd:hcell A ⟨bd,4,none⟩=some (.slice s.a s.n s.c)) (h:Rd flL 1 A s xs) (hr:Rising ltL xs) (hbig:xs.length≤1000000000000)
  (k:K (.bool (decide (n∈xs))) A):CallF Tryz.prog 95 #[.pointer (some ⟨bd,0,none⟩),.string (str n)] A K Z:=by
 refine V95_ok ?_
 unfold V95
 exact ⟨s,by rw [add_mk,Nat.zero_add];exact hd,bsT_ok h hr hbig fun p _=>⟨_,_,rfl,k⟩⟩
theorem at1_ok {x:Swp}(k:∀ B,Fr no A B→K (.int .i64 (cmpT C05S.lt (str x.1) (str n))) B):callV Tryz.prog (.func (.func 146) #[] #[]) [.agg #[.string (str x.1),.string (str x.2)],.string (str n)] A K Z:=by
 have h:CallF Tryz.prog 146 #[.agg #[.string (str x.1),.string (str x.2)],.string (str n)] A K Z:=by
  refine V146_ok ?_
  unfold V146
  intro bX B hB
  have sB:=(Sym.start A).newb (cs:=flW x) hB
  exact ⟨_,sB.ld (k:=0) rfl 0,C05S.cmp_ok ⟨_,rfl,k B sB.fr⟩⟩
 unfold callV
 simp only [okA1,if_true]
 exact h
theorem cmp_lt {a b:L8}:(decide (cmpT C05S.lt (str a) (str b) < 0)=true)↔ltL a b=true:=by
 have e:C05S.lt (str a) (str b)=ltL a b:=lt_strL a b
 unfold cmpT
 rw [e,decide_eq_true_eq]
 split
 ·rename_i h
  rw [h]
  simp
 ·rename_i h
  constructor
  ·intro g
   split at g <;> omega
  ·intro g
   exact absurd g h
theorem cmp_eq {a b:L8}:((cmpT C05S.lt (str a) (str b) == 0)=true)↔a=b:=by
 have e1:C05S.lt (str a) (str b)=ltL a b:=lt_strL a b
 have e2:C05S.lt (str b) (str a)=ltL b a:=lt_strL b a
 unfold cmpT
 rw [e1,e2,beq_iff_eq]
 constructor
 ·intro h
  split at h
  ·omega
  ·split at h
   ·omega
   ·rename_i g1 g2
    rcases linL.tot a b with g | g | g
    ·exact absurd g g1
    ·exact g
    ·exact absurd g g2
 ·rintro rfl
  have:=linL.irr a
  rw [this]
  rfl
theorem mid_lo {a b:Nat}{x:Swp}(hs:sw.Pairwise fun x y=>ltL x.1 y.1=true) (hx:sw[a]? = some x) (hlt:ltL x.1 n=true):∀ y∈sw.take (a+1),ltL y.1 n=true:=by
 intro y hy
 rw [List.take_add_one,hx] at hy
 rcases List.mem_append.1 hy with hy | hy
 ·obtain ⟨i,hi⟩:=List.mem_iff_getElem?.1 hy
  rw [List.getElem?_take] at hi
  split at hi
  ·rename_i hia
   obtain ⟨h1,e1⟩:=List.getElem?_eq_some_iff.1 hi
   obtain ⟨h2,e2⟩:=List.getElem?_eq_some_iff.1 hx
   have:=List.pairwise_iff_getElem.1 hs i a h1 h2 hia
   rw [e1,e2] at this
   exact linL.tr _ _ _ this hlt
  ·cases hi
 ·rw [List.mem_singleton.1 hy]
  exact hlt
theorem mid_hi {a:Nat}{x:Swp}(hs:sw.Pairwise fun x y=>ltL x.1 y.1=true) (hx:sw[a]? = some x) (hlt:ltL x.1 n=false):∀ y∈sw.drop a,ltL y.1 n=false:=by
 intro y hy
 obtain ⟨i,hi⟩:=List.mem_iff_getElem?.1 hy
 rw [List.getElem?_drop] at hi
 rcases Nat.eq_or_lt_of_le (Nat.le_add_right a i) with h | h
 ·rw [← h,hx] at hi
  rw [← Option.some_inj.1 hi]
  exact hlt
 ·obtain ⟨h1,e1⟩:=List.getElem?_eq_some_iff.1 hi
  obtain ⟨h2,e2⟩:=List.getElem?_eq_some_iff.1 hx
  have:=List.pairwise_iff_getElem.1 hs a (a+i) h2 h1 h
  rw [e1,e2] at this
  cases g:ltL y.1 n with
  | false=>rfl
  | true=>rw [linL.tr _ _ _ this g] at hlt;cases hlt
theorem at_ok (hd:hcell A ⟨bd,5,none⟩=some (.slice ss.a ss.n ss.c)) (h:Rd flW 2 A ss sw) (hs:sw.Pairwise fun x y=>ltL x.1 y.1=true) (hl:sw.length≤100000)
  (k:∀ (p:Nat) (y:Bool) B,Fr no A B→p≤sw.length→(∀ x∈sw.take p,ltL x.1 n=true)→(∀ x∈sw.drop p,ltL x.1 n=false)→(y=true→∃ t,sw[p]? = some (n,t))→(y=false→∀ x∈sw,x.1≠n)→K (.tuple #[.int .i64 (p:Int),.bool y]) B) :
  CallF Tryz.prog 98 #[.pointer (some ⟨bd,0,none⟩),.string (str n)] A K Z:=by
 refine V98_ok ?_
 unfold V98
 refine ⟨ss,by rw [add_mk,Nat.zero_add];exact hd,V145_ok ?_⟩
 unfold V145
 have ln:=h.len
 refine ⟨fun i j B m=>∃ a b:Nat,Fr no A B∧i=(a:Int)∧j=(b:Int)∧a≤b∧b≤sw.length∧m=b - a∧(∀ x∈sw.take a,ltL x.1 n=true)∧(∀ x∈sw.drop b,ltL x.1 n=false),
  ⟨_,0,sw.length,Fr.refl _ _,rfl,by rw [ln],Nat.zero_le _,Nat.le_refl _,rfl,by simp,by simp⟩,?_⟩
 rintro i j B m ⟨a,b,fB,rfl,rfl,hab,hb,rfl,hlo,hhi⟩ scr
 refine ⟨fun hlt=>?_,fun hge=>?_⟩
 ·have hlt':a < b:=dlt hlt
  rw [mid_eq (by omega)]
  have hm1:a≤(a+b) / 2:=by omega
  have hm2:(a+b) / 2 < b:=by omega
  generalize (a+b) / 2=c at *
  obtain ⟨x,hx,hxm⟩:=getN (xs:=sw) (i:=c) (by omega)
  refine (h.more fB).ix (by decide) FlW (by omega) (by simpa using hx) fun ad g1 g2=>⟨_,_,⟨g2,g1 1 _ rfl,trivial⟩,at1_ok fun C fC=>⟨_,rfl,fun hy=>?_,fun hy=>?_⟩⟩
  ·have hy:=cmp_lt.1 hy
   exact ⟨b - (c+1),by omega,c+1,b,fB.trans fC,wi (by omega),rfl,by omega,hb,rfl,mid_lo (b:=b) hs hx hy,hhi⟩
  ·have hy:ltL x.1 n=false:=by
    cases e:ltL x.1 n with
    | false=>rfl
    | true=>rw [cmp_lt.2 e] at hy;cases hy
   exact ⟨c - a,by omega,a,c,fB.trans fC,rfl,rfl,by omega,by omega,rfl,hlo,mid_hi hs hx hy⟩
 ·have hab':a=b:=by have:=dge hge;omega
  subst hab'
  refine ⟨fun hin=>?_,fun hin=>?_⟩
  ·have hin':a < sw.length:=by have:=dlt hin;omega
   obtain ⟨x,hx,hxm⟩:=getN hin'
   refine (h.more fB).ix (by decide) FlW (by omega) (by simpa using hx) fun ad g1 g2=>⟨_,_,⟨g2,g1 1 _ rfl,trivial⟩,at1_ok fun C fC=>⟨_,rfl,_,_,rfl,k a _ C (fB.trans fC) hb hlo hhi (fun e=>⟨x.2,?_⟩) fun e y hy hyn=>?_⟩⟩
   ·rw [hx,← cmp_eq.1 e]
   ·have hne:x.1≠n:=fun e'=>by rw [cmp_eq.2 e'] at e;cases e
    rw [← List.take_append_drop a sw] at hy
    rcases List.mem_append.1 hy with hy | hy
    ·have:=hlo y hy
     rw [hyn,linL.irr] at this
     cases this
    ·rw [List.drop_eq_getElem_cons hin'] at hy
     have ex:sw[a]=x:=by
      have:=(List.getElem?_eq_some_iff.1 hx).2
      exact this
     rw [ex] at hy
     rcases List.mem_cons.1 hy with rfl | hy
     ·exact hne hyn
     ·obtain ⟨i,hi⟩:=List.mem_iff_getElem?.1 hy
      rw [List.getElem?_drop] at hi
      obtain ⟨h1,e1⟩:=List.getElem?_eq_some_iff.1 hi
      have h3:=List.pairwise_iff_getElem.1 hs a (a+1+i) hin' h1 (by omega)
      rw [ex,e1,hyn] at h3
      have h4:=hhi x (by rw [List.drop_eq_getElem_cons hin',ex];exact List.mem_cons_self)
      rw [h3] at h4
      cases h4
  ·have hin':¬ a < sw.length:=by have:=dge hin;omega
   have e:a=sw.length:=by omega
   refine ⟨_,_,rfl,k a false B fB hb hlo hhi (fun h=>by cases h) fun _ y hy hyn=>?_⟩
   rw [e,List.take_length] at hlo
   have:=hlo y hy
   rw [hyn,linL.irr] at this
   cases this
theorem now_ok (hd:hcell A ⟨bd,5,none⟩=some (.slice ss.a ss.n ss.c)) (h:Rd flW 2 A ss sw) (hw:Sw sw N rk) (hl:sw.length≤100000)
  (k:∀ B,Fr no A B→K (.string (str (N n))) B):CallF Tryz.prog 50 #[.pointer (some ⟨bd,0,none⟩),.string (str n)] A K Z:=by
 refine V50_ok ?_
 unfold V50
 refine at_ok hd h hw.srt hl fun p y B fB hp hlo hhi hyes hno=>⟨_,_,rfl,fun s i w C m=>∃ (z:L8) (p:Nat),s=str z∧i=(p:Int)∧m=rk z∧Fr no A C∧N z=N n∧(w=true→∃ t,sw[p]? = some (z,t))∧(w=false→∀ x∈sw,x.1≠z),⟨_,n,p,rfl,rfl,rfl,fB,rfl,hyes,hno⟩,?_⟩
 rintro s i w C m ⟨z,q,rfl,rfl,rfl,fC,hz,hy,hn⟩ scr
 refine ⟨fun hw'=>?_,fun hw'=>?_⟩
 ·obtain ⟨t,ht⟩:=hy hw'
  obtain ⟨v1,v2⟩:=hw.val _ (List.mem_of_getElem? ht)
  have hd':=lf fC hd
  refine ⟨ss,by rw [add_mk,Nat.zero_add];exact hd',?_⟩
  refine (h.more fC).ix (by decide) FlW (by omega) (by simpa using ht) fun ad g1 g2=>⟨_,g1 1 _ rfl,at_ok hd' (h.more fC) hw.srt hl fun p' y' D fD hp' hlo' hhi' hyes' hno'=>⟨_,_,rfl,rk t,v2,t,p',rfl,rfl,rfl,fC.trans fD,by rw [← v1,hz],hyes',hno'⟩⟩
 ·have:=hw.fix z (hn hw')
  rw [← this,hz]
  exact k C fC
theorem insW_ok {L:List It}{kk b p:Nat}(s:Sym H0 no A L) (hk:L[kk]? = some (arr flW 48 2 ss sw)) (hb:Newb A (.cells #[.string (str n),.string (str t)] 48) b B) (hp:p≤sw.length) (hl:sw.length≤100000)
  (k:∀ s' C,Sym H0 no C (L.set kk (arr flW 48 2 s' (sw.take p ++ [(n,t)]++sw.drop p)))→K (.slice s'.a s'.n s'.c) C):CallF Tryz.prog 144 #[.slice ss.a ss.n ss.c,.int .i64 (p:Int),.slice (some ⟨b,0,none⟩) 1 1] B K Z:=by
 have sB:=s.more hb.fr
 have hok:RowN flW 48 2 B ss sw:=sB.get hk
 have hoA:RowN flW 48 2 A ss sw:=s.get hk
 obtain ⟨inf,i1,i2,i3,i4⟩:=info_of tyW.i
 have ln:=hok.len FlW (by decide)
 have hins:InsV Tryz.prog 44 3 173 174 2 B ss (p:Int) ⟨some ⟨b,0,none⟩,1,1⟩ K Z:=by
  refine ins_ok (f:=Tryz.f173) (inf:=inf) (ps:=#[44,44]) (rs:=#[4]) (z:=.agg #[.string ⟨#[]⟩,.string ⟨#[]⟩]) (vs:=flW (n,t)) (by kernel_rfl) (by kernel_rfl) (by kernel_rfl) (by kernel_rfl) (by kernel_rfl) rfl tyW.u (k2:=.i64) (by kernel_rfl) i1 i2 (by rw [i3];rfl) (by rw [i4];decide) i3 (by decide) hok.row hok.nf (flat_one FlW) hb.blk rfl (FlW.2 (n,t)) ?_ (by rw [ln];exact hp) (by rw [i4,ln];omega) ?_
  ·intro ho
   have:=(arr flW 48 2 ss sw).lt hoA ho
   have:=hb.eq
   omega
  ·intro s' C h1 h2 h3 h4 h5
   refine k s' C (sB.setk (b:=arr flW 48 2 s' (sw.take p ++ [(n,t)]++sw.drop p)) hk h4 ⟨?_,h2⟩ h5)
   rw [flat_take FlW,flat_drop FlW] at h1
   rw [flat_app,flat_app,flat_sing]
   exact h1
 refine V144_ok (s:=ss) (i:=(p:Int)) (v:=⟨some ⟨b,0,none⟩,1,1⟩) ?_
 unfold InsV at hins
 unfold V144
 exact hins
end
abbrev dkL (c1 c2 c3 sn sh ss:Sl):List Value:=[.slice c1.a c1.n c1.c,.slice c2.a c2.n c2.c,.slice c3.a c3.n c3.c,.slice sn.a sn.n sn.c,.slice sh.a sh.n sh.c,.slice ss.a ss.n ss.c]
section
variable {H0 A B:Hp}{K:Value→Hp→Prop}{Z:List PanicEntry→Hp→Prop}{c1 c2 c3 sn sh ss:Sl}{sw:List Swp}{n t:L8}{N:L8→L8}{rk:L8→Nat}{bd:Nat}{R:List It}
theorem swap_ok (h:Sym H0 no A (blk bd (dkL c1 c2 c3 sn sh ss) 91::arr flW 48 2 ss sw::R)) (hw:Sw sw N rk) (hn:N n=n) (ht:N t=t) (hne:n≠t) (hl:sw.length≤90000)
  (k:∀ ss' p rk' B,Sym H0 no B (blk bd (dkL c1 c2 c3 sn sh ss') 91::arr flW 48 2 ss' (sw.take p ++ [(n,t)]++sw.drop p)::R)→Sw (sw.take p ++ [(n,t)]++sw.drop p) (fun z=>if N z=n then t else N z) rk'→K (.tuple #[]) B) :
  CallF Tryz.prog 96 #[.pointer (some ⟨bd,0,none⟩),.string (str n),.string (str t)] A K Z:=by
 refine V96_ok ?_
 unfold V96
 refine at_ok (h.ld (k:=0) rfl 5) (Sym.rd (k:=1) h FlW (by decide) rfl) hw.srt (by omega) fun p y B fB hp hlo hhi _ _=>⟨_,_,rfl,ss,by rw [add_mk,Nat.zero_add];exact (h.more fB).ld (k:=0) rfl 5,fun b C hC=>?_⟩
 have sB:=h.more fB
 refine insW_ok (kk:=1) sB rfl hC hp (by omega) fun s' D sD=>⟨s',rfl,?_⟩
 obtain ⟨rk',hw'⟩:=hw.put hn ht hne hlo hhi
 rw [add_mk,Nat.zero_add]
 exact Sym.stb (k:=0) (i:=5) sD rfl (by simp) rfl fun E sE=>k s' p rk' E sE hw'
end
end Go.Proofs.YtjdhjgfmloaglaaGreatDoor.C21
end
