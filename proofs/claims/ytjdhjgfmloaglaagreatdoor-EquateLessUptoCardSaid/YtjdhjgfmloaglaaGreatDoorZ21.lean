import Derived.Test.YtjdhjgfmloaglaaGreatDoorZ20
import Derived.Test.YtjdhjgfmloaglaaGreatDoorProg
set_option linter.unusedVariables false
set_option linter.unusedSimpArgs false
section
set_option maxRecDepth 100000
namespace Go.Proofs.YtjdhjgfmloaglaaGreatDoor.N22
open Go Go.V Go.Proofs
def V19 (H:Hp) (s:Sl) (del:Value) (K:Value→Hp→Prop) (Z:List PanicEntry→Hp→Prop):Prop:=
 CallF Tryz.prog 25 #[.slice s.a s.n s.c,del] H (fun r H1=>∃ y:Int,r = .int .i64 y∧(((y == (-1))=true →
  K (.slice s.a s.n s.c) H1)∧((y == (-1))=false→∃ I:Int→Int→Hp→Nat→Prop,(∃ m,I y (w64 (y+1)) H1 m) ∧
  ∀ (i:Int) (j:Int),∀ H2 m1,I i j H2 m1→∀ scr:Nat→Value,(((decide (j < (s.n:Int)))=true →
  IxA s.a s.n j 1 fun ad=>(∃ x:ByteArray,hcell H2 ad=some (.string x)∧callV Tryz.prog del [.string x] H2 (fun r1 H3=>
  ∃ y1:Bool,r1 = .bool y1∧(((!y1)=true→IxA s.a s.n i 1 fun ad1=>(StL ad1 0 [.string x] H3 fun H4=>
  (∃ m2,m2 < m1∧I (w64 (i+1)) (w64 (j+1)) H4 m2)))∧((!y1)=false→(∃ m2,m2 < m1∧I i (w64 (j+1)) H3 m2)))) Z)) ∧
  ((decide (j < (s.n:Int)))=false→(s.n≤s.c∧SlX s.a s.c i (s.n:Int) 1 fun cut=>(Blt Tryz.prog .clear #[27] 0 #[false] H2 [.slice cut.a cut.n cut.c] fun r2 H5=>
  r2 = .tuple #[]∧(s.n≤s.c∧SlX s.a s.c 0 i 1 fun cut1=>(K (.slice cut1.a cut1.n cut1.c) H5))))))))) Z
def aL19:Ann:=(fun k=>if k=5 then some [(5,(.sc (.int .i64))),(6,(.sc (.int .i64)))] else none)
theorem V19_ok {H s del K Z} (h:V19 H s del K Z):CallF Tryz.prog 19 #[.slice s.a s.n s.c,del] H K Z:=
 fnC_sound (aJ:=fun _=>none) (aL:=aL19) (Eq.mp (by kernel_rfl) h)
def V25 (H:Hp) (s:Sl) (f:Value) (K:Value→Hp→Prop) (Z:List PanicEntry→Hp→Prop):Prop:=
 ∃ I:Int→Hp→Nat→Prop,(∃ m,I 0 H m)∧∀ (t8:Int),∀ H1 m1,I t8 H1 m1→∀ scr:Nat→Value,(((decide (t8 < (s.n:Int)))=true →
  IxA s.a s.n t8 1 fun ad=>(∃ x:ByteArray,hcell H1 ad=some (.string x)∧callV Tryz.prog f [.string x] H1 (fun r H2=>
  ∃ y:Bool,r = .bool y∧((y=true→K (.int .i64 t8) H2)∧(y=false→(∃ m2,m2 < m1∧I (w64 (t8+1)) H2 m2)))) Z)) ∧
  ((decide (t8 < (s.n:Int)))=false→K (.int .i64 (-1)) H1))
def aL25:Ann:=(fun k=>if k=2 then some [(8,(.sc (.int .i64)))] else none)
theorem V25_ok {H s f K Z} (h:V25 H s f K Z):CallF Tryz.prog 25 #[.slice s.a s.n s.c,f] H K Z:=
 fnC_sound (aJ:=fun _=>none) (aL:=aL25) (Eq.mp (by kernel_rfl) h)
end Go.Proofs.YtjdhjgfmloaglaaGreatDoor.N22
end
section
namespace Go.Proofs.YtjdhjgfmloaglaaGreatDoor.C22S
open Go Go.V Go.Proofs N22 P14 C15
attribute [local irreducible] Cvt ExtF CallF hrun App MkS callV Blt
theorem tyE:TyS Tryz.prog 27 9 1 16 (.string ⟨#[]⟩):=⟨by kernel_rfl,by kernel_rfl,rfl,by decide⟩
abbrev AR (H0 A:Hp) (s:Sl) (l:List L8) (R:List It):Prop:=Sym H0 no A (arr flL 9 1 s l::R)
theorem AR.rd {H0 A:Hp}{s:Sl}{l:List L8}{R:List It}(h:AR H0 A s l R):Rd flL 1 A s l:=Sym.rd (k:=0) h FlL (by decide) rfl
theorem call_one {H:Hp}{K:Value→Hp→Prop}{Z:List PanicEntry→Hp→Prop}{f:Nat}{v:Value}(hf:fnOk Tryz.prog f=true) (h:CallF Tryz.prog f #[v] H K Z):callV Tryz.prog (.func (.func f) #[] #[]) [v] H K Z:=by
 unfold callV
 have e:((#[]:Array Value).toList ++ [v]++(#[]:Array Value).toList).toArray=#[v]:=by simp
 simp only [hf,if_true]
 rw [e]
 exact h
def DelV (del:Value) (D:L8→Bool) (L:List L8) (H0:Hp) (R:List It):Prop:=
 ∀ {x:L8}{A:Hp}{K':Value→Hp→Prop}{Z':List PanicEntry→Hp→Prop},x∈L→Sym H0 no A R→(∀ B,Fr no A B→K' (.bool (D x)) B)→callV Tryz.prog del [.string (str x)] A K' Z'
section
variable {H0:Hp}{R:List It}{s:Sl}{K:Value→Hp→Prop}{Z:List PanicEntry→Hp→Prop}{A:Hp}{del:Value}{D:L8→Bool}{L:List L8}
theorem first_ok (h:AR H0 A s L R) (hl:L.length≤2000000) (hd:DelV del D L H0 R) (k1:∀ (i:Nat) x B,L[i]? = some x→D x=true→(∀ y∈L.take i,D y=false)→AR H0 B s L R→K (.int .i64 (i:Int)) B) (k2:∀ B,(∀ y∈L,D y=false)→AR H0 B s L R→K (.int .i64 (-1)) B) :
  CallF Tryz.prog 25 #[.slice s.a s.n s.c,del] A K Z:=by
 refine V25_ok ?_
 unfold V25
 have ln:=h.rd.len
 refine ⟨fun i B m=>∃ j:Nat,i=(j:Int)∧j≤L.length∧m=L.length - j∧(∀ y∈L.take j,D y=false)∧AR H0 B s L R,⟨_,0,rfl,Nat.zero_le _,rfl,by simp,h⟩,?_⟩
 rintro i B m ⟨j,rfl,hj,rfl,hno,hB⟩ scr
 refine ⟨fun hlt=>?_,fun hge=>?_⟩
 ·have hj':j < L.length:=by have:=dlt hlt;omega
  obtain ⟨x,hx,hxm⟩:=getN hj'
  refine atL hB.rd hx fun ad e=>⟨_,e,hd hxm (Sym.drop hB) fun C fC=>⟨_,rfl,fun ht=>k1 j x C hx ht hno (Sym.more hB fC),fun hf=>⟨L.length - (j+1),by omega,j+1,wi (by omega),hj',rfl,fun y hy=>?_,Sym.more hB fC⟩⟩⟩
  rw [List.take_add_one,hx] at hy
  rcases List.mem_append.1 hy with hy | hy
  ·exact hno y hy
  ·rw [List.mem_singleton.1 hy];exact hf
 ·have hje:j=L.length:=by have:=dge hge;omega
  rw [hje,List.take_length] at hno
  exact k2 B hno hB
def mid (L:List L8) (D:L8→Bool) (M:List L8) (j:Nat):List L8:=(L.take j).filter (fun x=>!D x)++(M++L.drop j)
theorem mid_go {M:List L8}{j:Nat}{x:L8}(hx:L[j]? = some x) (hd:D x=true):mid L D M j=mid L D (M ++ [x]) (j+1):=by
 unfold mid
 obtain ⟨hj,e⟩:=List.getElem?_eq_some_iff.1 hx
 rw [List.take_add_one,hx,List.drop_eq_getElem_cons hj,e,List.filter_append]
 have:(Option.some x).toList.filter (fun x=>!D x) = []:=by
  show [x].filter _ = []
  rw [List.filter_cons_of_neg (by simp [hd])]
  rfl
 rw [this,List.append_nil,List.append_assoc]
 rfl
theorem mid_stay {M:List L8}{m0:L8}{j:Nat}{x:L8}(hx:L[j]? = some x) (hd:D x=false):(mid L D (m0::M) j).set ((L.take j).filter fun x=>!D x).length x=mid L D (M ++ [x]) (j+1):=by
 unfold mid
 obtain ⟨hj,e⟩:=List.getElem?_eq_some_iff.1 hx
 rw [List.set_append_right _ _ (Nat.le_refl _),Nat.sub_self,List.cons_append,List.set_cons_zero,List.take_add_one,hx,List.drop_eq_getElem_cons hj,e,List.filter_append]
 have:(Option.some x).toList.filter (fun x=>!D x) = [x]:=by
  show [x].filter _ = [x]
  rw [List.filter_cons_of_pos (by simp [hd])]
  rfl
 rw [this]
 simp
theorem mid_at {M:List L8}{j:Nat}{x:L8}(hx:L[j]? = some x) (hl:((L.take j).filter fun x=>!D x).length+M.length=j):(mid L D M j)[j]? = some x:=by
 unfold mid
 rw [← List.append_assoc,List.getElem?_append_right (by rw [List.length_append];omega),List.length_append,hl,Nat.sub_self,List.getElem?_drop,Nat.add_zero]
 exact hx
theorem mid_old {M:List L8}{m0:L8}{j:Nat}:(mid L D (m0::M) j)[((L.take j).filter fun x=>!D x).length]? = some m0:=by
 unfold mid
 rw [List.getElem?_append_right (Nat.le_refl _),Nat.sub_self]
 rfl
theorem delete_ok (h:AR H0 A s L R) (hl:L.length≤2000000) (hd:DelV del D L H0 R) (k:∀ s' B,AR H0 B s' (L.filter fun x=>!D x) R→K (.slice s'.a s'.n s'.c) B):CallF Tryz.prog 19 #[.slice s.a s.n s.c,del] A K Z:=by
 refine V19_ok ?_
 unfold V19
 have ln:=h.rd.len
 refine first_ok h hl hd (fun i x B hx hdx hno hB=>?_) fun B hno hB=>?_
 ·refine ⟨_,rfl,fun he=>by have:=eq_of_beq he;omega,fun _=>?_⟩
  have hi:=(List.getElem?_eq_some_iff.1 hx).1
  have hF:(L.take i).filter (fun x=>!D x)=L.take i:=List.filter_eq_self.2 fun y hy=>by rw [hno y hy];rfl
  have hF1:(L.take (i+1)).filter (fun x=>!D x)=L.take i:=by
   rw [List.take_add_one,hx,List.filter_append,hF]
   show L.take i ++ [x].filter _=_
   rw [List.filter_cons_of_neg (by simp [hdx])]
   simp
  have hW:mid L D [x] (i+1)=L:=by
   obtain ⟨_,e⟩:=List.getElem?_eq_some_iff.1 hx
   unfold mid
   rw [hF1,List.singleton_append,← e,← List.drop_eq_getElem_cons hi,List.take_append_drop]
  refine ⟨fun a b C m=>∃ (j:Nat) (M:List L8),a=((((L.take j).filter fun x=>!D x).length:Nat):Int)∧b=(j:Int)∧j≤L.length∧m=L.length - j∧M ≠ []∧((L.take j).filter fun x=>!D x).length+M.length=j∧AR H0 C s (mid L D M j) R,⟨_,i+1,[x],by rw [hF1,List.length_take];congr 1;omega,wi (by omega),by omega,rfl,by simp,by rw [hF1,List.length_take,List.length_singleton];omega,by rw [hW];exact hB⟩,?_⟩
  rintro a b C m ⟨j,M,rfl,rfl,hj,rfl,hM,hlen,hC⟩ scr
  have lW:=hC.rd.len
  rw [ln] at lW
  refine ⟨fun hlt=>?_,fun hge=>?_⟩
  ·have hj':j < L.length:=by have:=dlt hlt;omega
   obtain ⟨y,hy,hym⟩:=getN hj'
   refine atL hC.rd (mid_at hy hlen) fun ad e=>⟨_,e,hd hym (Sym.drop hC) fun G fG=>?_⟩
   have sG:AR H0 G s (mid L D M j) R:=Sym.more hC fG
   refine ⟨_,rfl,fun hs=>?_,fun hg=>⟨L.length - (j+1),by omega,j+1,M ++ [y],?_,wi (by omega),hj',rfl,by simp,?_,?_⟩⟩
   ·have hdy:D y=false:=by simpa using hs
    have e1:((L.take (j+1)).filter fun x=>!D x).length=((L.take j).filter fun x=>!D x).length+1:=by
     rw [List.take_add_one,hy,List.filter_append,List.length_append]
     congr 1
     show ([y].filter _).length=1
     rw [List.filter_cons_of_pos (by simp [hdy])]
     rfl
    cases M with
    | nil=>exact absurd rfl hM
    | cons m0 M'=>
     rw [List.length_cons] at hlen
     refine Sym.stw (k:=0) (x:=m0) (y:=y) sG FlL (by decide) rfl mid_old fun I sI=>⟨L.length - (j+1),by omega,j+1,M' ++ [y],?_,wi (by omega),hj',rfl,by simp,?_,?_⟩
     ·rw [e1];exact wi (by omega)
     ·rw [e1,List.length_append,List.length_singleton];omega
     ·rw [← mid_stay hy hdy]
      exact sI
   ·have hdy:D y=true:=by simpa using hg
    have e1:((L.take (j+1)).filter fun x=>!D x)=((L.take j).filter fun x=>!D x):=by
     rw [List.take_add_one,hy,List.filter_append]
     have:(Option.some y).toList.filter (fun x=>!D x) = []:=by
      show [y].filter _ = []
      rw [List.filter_cons_of_neg (by simp [hdy])]
      rfl
     rw [this,List.append_nil]
    rw [e1]
   ·have hdy:D y=true:=by simpa using hg
    have e1:((L.take (j+1)).filter fun x=>!D x)=((L.take j).filter fun x=>!D x):=by
     rw [List.take_add_one,hy,List.filter_append]
     have:(Option.some y).toList.filter (fun x=>!D x) = []:=by
      show [y].filter _ = []
      rw [List.filter_cons_of_neg (by simp [hdy])]
      rfl
     rw [this,List.append_nil]
    rw [e1,List.length_append,List.length_singleton]
    omega
   ·have hdy:D y=true:=by simpa using hg
    rw [← mid_go hy hdy]
    exact sG
  ·have hje:j=L.length:=by have:=dge hge;omega
   have hW2:mid L D M j=L.filter (fun x=>!D x)++M:=by
    unfold mid
    rw [hje,List.take_length,List.drop_length,List.append_nil]
   rw [hje,List.take_length] at hlen
   rw [hje,List.take_length]
   rw [hW2] at hC lW
   refine Sym.clr (k:=0) (z0:=([]:L8)) tyE rfl hC FlL (by decide) rfl (by rw [List.length_append];omega) fun E sE=>⟨rfl,?_⟩
   rw [List.set_cons_zero,List.take_left'] at sE
   rotate_left
   ·rfl
   refine Sym.trunc (k:=0) sE FlL (by decide) rfl (by rw [List.length_append];omega) fun sF=>?_
   rw [List.set_cons_zero,List.take_left'] at sF
   rotate_left
   ·rfl
   exact k _ E sF
 ·refine ⟨_,rfl,fun _=>?_,fun he=>by cases he⟩
  have hF:L.filter (fun x=>!D x)=L:=List.filter_eq_self.2 fun y hy=>by rw [hno y hy];rfl
  have kk:=k s B
  rw [hF] at kk
  exact kk hB
end
end Go.Proofs.YtjdhjgfmloaglaaGreatDoor.C22S
end
section
namespace Go.Proofs.YtjdhjgfmloaglaaGreatDoor.C21
open Go Go.V Go.Proofs N21 P14 C14 P15 C15 C18 P21
attribute [local irreducible] Cvt ExtF CallF hrun App MkS callV Lkp MUp
def siteB (n:L8):Bool:=(rres (readN n)).2 == 0 && (rres (readN n)).1.kind == 3
theorem okE1:fnOk Tryz.prog 45=true:=by kernel_rfl
abbrev nS:Sl:=⟨none,0,0⟩
theorem es1_ok {H:Hp}{n:L8}{K:Value→Hp→Prop}{Z:List PanicEntry→Hp→Prop}(hl:n.length≤1048576) (ht:Pw H) (k:∀ B,Fr no H B→K (.bool (siteB n)) B):CallF Tryz.prog 45 #[.string (str n)] H K Z:=by
 refine V45_ok ?_
 unfold V45
 refine readX_ok hl ht fun B fB=>⟨_,_,_,_,_,_,_,rfl,fun bN C hC=>?_⟩
 have sC:=(Sym.start B).newb (cs:=[.int .i64 0,.string ⟨#[]⟩,.int .i64 0,.string ⟨#[]⟩,.int .i64 0,.int .i64 0]) hC
 refine sC.stbs (k:=0) (i:=0) (vs:=ndV (rres (readN n)).1) rfl (by simp [ndV]) (ndV_one _) fun D sD=>?_
 replace sD:Sym B no D [blk bN (ndV (rres (readN n)).1) 61]:=sD
 have kk:=k D (fB.trans sD.fr)
 unfold siteB at kk
 refine ⟨fun h=>⟨_,sD.ld (k:=0) rfl 0,?_⟩,fun h=>?_⟩
 ·rw [h,Bool.true_and] at kk
  exact kk
 ·rw [h,Bool.false_and] at kk
  exact kk
theorem hid_hs {lt:List L8}(h:∀ n∈lt,siteB n=false):Hs (hidL lt):=fun z hz ⟨h1,h2⟩=>by
 have:=h z (of_decide_eq_true hz)
 unfold siteB at this
 have e1:((rres (readN z)).2 == 0)=true:=beq_iff_eq.2 h1
 have e2:((rres (readN z)).1.kind == 3)=true:=beq_iff_eq.2 h2
 rw [e1,e2] at this
 cases this
theorem filt_less {p q:L8→Bool}{n:L8}(h:∀ z,p z=true→q z=true) (h1:q n=true) (h2:p n=false):∀ {l:List L8},n∈l→(l.filter p).length < (l.filter q).length:=by
 have le:∀ l:List L8,(l.filter p).length≤(l.filter q).length:=by
  intro l
  induction l with
  | nil=>exact Nat.le_refl _
  | cons m l ih=>
   cases g:p m
   ·rw [List.filter_cons_of_neg (by rw [g];decide)]
    cases g2:q m
    ·rw [List.filter_cons_of_neg (by rw [g2];decide)]
     exact ih
    ·rw [List.filter_cons_of_pos g2,List.length_cons]
     omega
   ·rw [List.filter_cons_of_pos g,List.filter_cons_of_pos (h m g),List.length_cons,List.length_cons]
    omega
 intro l hn
 induction l with
 | nil=>cases hn
 | cons m l ih=>
  have hl:=le l
  rcases List.mem_cons.1 hn with rfl | hn
  ·rw [List.filter_cons_of_neg (by rw [h2];decide),List.filter_cons_of_pos h1,List.length_cons]
   omega
  ·have ih:=ih hn
   cases g:p m
   ·rw [List.filter_cons_of_neg (by rw [g];decide)]
    cases g2:q m
    ·rw [List.filter_cons_of_neg (by rw [g2];decide)]
     exact ih
    ·rw [List.filter_cons_of_pos g2,List.length_cons]
     omega
   ·rw [List.filter_cons_of_pos g,List.filter_cons_of_pos (h m g),List.length_cons,List.length_cons]
    omega
def fuelE (nodes:List L8) (N:L8→L8):Nat:=(nodes.filter fun z=>decide (N z=z)).length
theorem fuelE_less {nodes:List L8}{N M:L8→L8}{n:L8}(hn:n∈nodes) (h1:N n=n) (h2:M n≠n) (h:∀ z,M z=z→N z=z):fuelE nodes M < fuelE nodes N:=
 filt_less (p:=fun z=>decide (M z=z)) (q:=fun z=>decide (N z=z)) (fun z hz=>decide_eq_true (h z (of_decide_eq_true hz))) (decide_eq_true h1) (decide_eq_false h2) hn
theorem canon_fns {x t:SysD}{cs:List ConD}(h0:checkE x=0) (h:IsCanS ⟨x.objs,x.fns,cs⟩ t):t=⟨x.objs,x.fns,t.cons⟩:=by
 obtain ⟨h1,h2,h3,h4⟩:=checkE_0.1 h0
 have eo:t.objs=x.objs:=h.o.uniq linCL (IsCan.of_rising h3.1 fun _=>Iff.rfl)
 have ef:t.fns=x.fns:=h.f.uniq linCL (IsCan.of_rising h3.2 fun _=>Iff.rfl)
 cases t
 simp only at eo ef
 rw [eo,ef]
theorem named_can {cs ys:List ConD}(hm:∀ c,c∈ys↔c∈cs) {z:L8}:named ys z↔named cs z:=⟨fun ⟨c,hc,h⟩=>⟨c,(hm c).1 hc,h⟩,fun ⟨c,hc,h⟩=>⟨c,(hm c).2 hc,h⟩⟩
theorem nodes_few {x:SysD}{ys:List L8}(h0:checkE x=0) (hc:x.cons.length≤1000) (ho:x.objs.length≤150) (hr:Rising ltL ys) (hm:∀ z,z∈ys↔z∈nodesL x):ys.length≤20000:=by
 have hR:=check_right h0
 have h1:=subset_len (rising_nodup hr) fun z hz=>(hm z).1 hz
 have h2:(x.cons.flatMap conN).length≤x.cons.length*9:=flat_le fun c hc=>by
  have:=hR.c.2 c hc
  have:=List.length_filter_le (fun a=>decide (a ≠ [])) c.args
  unfold conN
  rw [List.length_append,List.length_append,List.length_singleton]
  split <;> simp only [List.length_nil,List.length_singleton] <;> omega
 have h3:(x.objs.flatMap objN).length≤x.objs.length*64:=flat_le fun o ho=>by
  have:=hR.o.2 o ho
  unfold objN
  have h4:((List.range o.kinds.length).flatMap fun (i:Nat)=>if o.kinds[i]? = some 112 then [cellL o.name (i:Int)] else []).length≤(List.range o.kinds.length).length*1:=flat_le fun i _=>by split <;> simp
  rw [List.length_range] at h4
  omega
 unfold nodesL at h1
 rw [List.length_append] at h1
 omega
theorem nodes_named {x:SysD}(h0:checkE x=0) {z:L8}:(named x.cons z→z ≠ []→z∈nodesL x)∧(∀ c∈x.cons,c.op=2→c.a∈nodesL x∧c.b∈nodesL x):=by
 refine ⟨fun ⟨c,hc,h⟩ hz=>List.mem_append.2 (.inl (List.mem_flatMap.2 ⟨c,hc,?_⟩)),fun c hc h2=>⟨List.mem_append.2 (.inl (List.mem_flatMap.2 ⟨c,hc,?_⟩)),List.mem_append.2 (.inl (List.mem_flatMap.2 ⟨c,hc,?_⟩))⟩⟩
 ·unfold conN
  rcases h with rfl | ⟨h1,rfl⟩ | h
  ·simp
  ·rw [if_neg h1];simp
  ·exact List.mem_append.2 (.inr (List.mem_append.2 (.inr (List.mem_filter.2 ⟨h,decide_eq_true hz⟩))))
 ·unfold conN;simp
 ·unfold conN
  rw [if_neg (by omega)]
  simp
end Go.Proofs.YtjdhjgfmloaglaaGreatDoor.C21
end
section
namespace Go.Proofs.YtjdhjgfmloaglaaGreatDoor.C21
open Go Go.V Go.Proofs N21 P14 C14 P15 C15 C18 P21
attribute [local irreducible] Cvt ExtF CallF hrun App MkS callV Lkp MUp
theorem RdF.more {A B:Hp}{c1 c2 c3:Sl}{hs:List HC}{x:SysD}(h:RdF A c1 c2 c3 hs x) (f:Fr no A B):RdF B c1 c2 c3 hs x:=⟨h.o.more f,h.f.more f,h.c.more f,h.len,fun i a c ha hc=>(h.l i a c ha hc).more f⟩
section
variable {H:Hp}{s1 s2 s3 sh:Sl}{x:SysD}{hide:List L8}{K:Value→Hp→Prop}{Z:List PanicEntry→Hp→Prop}
structure LoopI (H E:Hp) (bd b bS:Nat) (s1 s2 s3 sn sh:Sl) (nodes lt:List L8) (R1:L8→L8) (x:SysD) (cs2:List ConD) (c:CanS) (t:SysD) (sw:List Swp) (ss:Sl) (rk:L8→Nat) (M:L8→L8) (Lq:List L8):Prop where
 s:Sym H no E (blk bd (dkL c.y c.y1 c.y2 sn sh ss) 91::arr flW 48 2 ss sw::DR sn sh nodes lt (c.its ++ [blk b zS 26,blk bS (sL s1 s2 s3) 26]))
 g:c.good t
 ok:OkSys t
 ck:checkE t=0
 le:t.cons.length≤x.cons.length
 ob:t.objs=x.objs
 sw:Sw sw (fun z=>M (R1 z)) rk
 st:∀ c∈t.cons,stayC c=true
 fx:∀ z,named t.cons z→M (R1 z)=z
 mv:∀ z,M (R1 z)≠z→hidL lt z=true∧z∈nodes
 run:∀ l N' ts,Onces (hidL lt) nodes t.cons l N' ts→Onces (hidL lt) nodes cs2 (Lq++l) (fun z=>N' (M z)) ts
set_option maxRecDepth 10000 in
theorem esys_ok (hr:RdSys H s1 s2 s3 x) (hx:OkSys x) (hh:Rd flL 1 H sh hide) (hhs:∀ n∈hide,n.length≤1048576) (hhn:hide.length≤1000) (hc:x.cons.length≤1000) (ho:x.objs.length≤150) (ht:Pw H)
  (k1:∀ B,Fr no H B→checkE x≠0→K (.tuple #[sAg nS nS nS,.slice none 0 0,.int .i64 (checkE x)]) B)
  (k2:∀ (c:CanS) (t:SysD) (out:List Swp) (so:Sl) (lt:List L8) B,checkE x=0→Sym H no B c.its→c.good t→OkSys t→checkE t=0→t.cons.length≤x.cons.length→t.objs=x.objs→(∀ n,n∈lt↔n∈hide∧siteB n=false)→Rd flW 2 B so out→EqR (hidL lt) x.cons t.cons out→K (.tuple #[sAg c.y c.y1 c.y2,.slice so.a so.n so.c,.int .i64 0]) B) :
  CallF Tryz.prog 16 #[sAg s1 s2 s3,.slice sh.a sh.n sh.c] H K Z:=by
 refine V16_ok ?_
 unfold V16
 intro bS A hA b B hB
 have sB:=((Sym.start H).newb (cs:=sL s1 s2 s3) hA).newb (cs:=zS) hB
 refine ⟨s1,s2,s3,⟨sB.ld (k:=1) rfl 0,sB.ld (k:=1) rfl 1,sB.ld (k:=1) rfl 2,trivial⟩,check_ok (hr.more sB.fr) hx (TabH.more ht sB.fr) fun C fC=>⟨_,rfl,fun hne=>?_,fun heq=>?_⟩⟩
 ·have sC:=sB.more fC
  refine sC.stbs (k:=0) (i:=0) (vs:=zS) rfl (by simp) (one3 nS nS nS) fun E sE=>⟨nS,nS,nS,⟨sE.ld (k:=0) (cs:=zS) rfl 0,sE.ld (k:=0) (cs:=zS) rfl 1,sE.ld (k:=0) (cs:=zS) rfl 2,trivial⟩,k1 E sE.fr (bne_iff_ne.1 hne)⟩
 have h0:=bne_eq_false_iff_eq.1 heq
 have sC:=sB.more fC
 refine ⟨s1,s2,s3,⟨sC.ld (k:=1) rfl 0,sC.ld (k:=1) rfl 1,sC.ld (k:=1) rfl 2,trivial⟩,fun bd D0 hD0=>?_⟩
 have sD0:=sC.newb (cs:=dkL s1 s2 s3 nS nS nS) hD0
 refine sortedA_ok (hh.more sD0.fr) (by omega) fun y1 ys D sD hris hmem=>⟨y1,rfl,?_⟩
 have sD':=sD0.join sD
 replace sD':Sym H no D (arr flL 9 1 y1 ys :: [blk bd (dkL s1 s2 s3 nS nS nS) 91,blk b zS 26,blk bS (sL s1 s2 s3) 26]):=sD'
 have hyl:ys.length≤hide.length:=subset_len (rising_nodup hris) fun z hz=>(hmem z).1 hz
 have hdS:C22S.DelV (.func (.func 45) #[] #[]) siteB ys H [blk bd (dkL s1 s2 s3 nS nS nS) 91,blk b zS 26,blk bS (sL s1 s2 s3) 26]:=by
  intro z A' K' Z' hz sA kk
  exact C22S.call_one okE1 (es1_ok (hhs z ((hmem z).1 hz)) (TabH.more ht sA.fr) kk)
 refine C22S.delete_ok sD' (by omega) hdS fun y2 E sE=>⟨y2,rfl,?_⟩
 have hlt:∀ n,n∈ys.filter (fun x=>!siteB x)↔n∈hide∧siteB n=false:=fun n=>by
  rw [List.mem_filter,hmem n]
  simp
 have hll:=List.length_filter_le (fun x=>!siteB x) ys
 have hltr:Rising ltL (ys.filter fun x=>!siteB x):=List.Pairwise.filter _ hris
 generalize ys.filter (fun x=>!siteB x)=lt at sE hlt hll hltr
 have hHs:Hs (hidL lt):=hid_hs fun n hn=>((hlt n).1 hn).2
 refine Sym.stb (k:=1) (i:=4) sE rfl (by simp) rfl fun F sF0=>?_
 have sF:Sym H no F (blk bd (dkL s1 s2 s3 nS y2 nS) 91::arr flW 48 2 nS [] :: [arr flL 9 1 y2 lt,blk b zS 26,blk bS (sL s1 s2 s3) 26]):=(sF0.nilrow flW 48 2).re [2,0,1,3,4] (by decide)
 obtain ⟨qs,hrd,hlen,hin⟩:=hr.c
 have rd0:RdF H s1 s2 s3 qs x:=⟨hr.o,hr.f,hrd,hlen,hin⟩
 refine renew_ok (x:=x) (qs:=qs) (N:=fun z=>z) sF Sw.nil (by simp) (fun B' _ fB'=>rd0.more fB') hx.len (by omega) fun c1 t1 G sG g1 hcan1=>⟨rfl,?_⟩
 have hc1:IsCan cmpC (fun c=>c) (ren (fun z=>z) x.cons) t1.cons:=hcan1.c
 have q4:=(checkE_0.1 h0).2.2.2
 have ec1:t1.cons=x.cons.filter stayC:=by
  refine hc1.uniq linC ?_
  rw [ren_id]
  exact IsCan.of_rising (List.Pairwise.filter _ q4) fun _=>Iff.rfl
 have et1:=canon_fns h0 hcan1
 obtain ⟨ck1,le1⟩:=ren_check (hid:=hidL lt) h0 id_ok hHs hc1
 have ok1:=ren_ok (hid:=hidL lt) hx id_ok hc1
 rw [← et1] at ck1 ok1
 have ob1:t1.objs=x.objs:=by rw [et1]
 have rd1:=CanS.rd (c:=c1) (fun a ha=>sG.ok a (by simp [ha])) g1
 refine ⟨c1.y,c1.y1,c1.y2,⟨sG.ld (k:=0) rfl 0,sG.ld (k:=0) rfl 1,sG.ld (k:=0) rfl 2,trivial⟩,nodesA_ok rd1 ok1 (TabH.more ht sG.fr) fun sn nodes I sI hN=>⟨sn,rfl,?_⟩⟩
 have hN:Rising ltL nodes∧∀ z,z∈nodes↔z∈nodesL t1:=by
  rcases hN with h | h
  ·exact absurd ck1 h.1
  ·exact h.2
 obtain ⟨hnr,hnm⟩:=hN
 have hnl:=nodes_few ck1 (by omega) (by rw [ob1];exact ho) hnr hnm
 have hcov:Cov nodes t1.cons:=fun c hc h2=>by
  obtain ⟨a,b⟩:=(nodes_named ck1 (z:=[])).2 c hc h2
  exact ⟨(hnm _).2 a,(hnm _).2 b⟩
 have hcn:∀ z,named t1.cons z→z ≠ []→z∈nodes:=fun z h1 h2=>(hnm z).2 ((nodes_named ck1).1 h1 h2)
 have con1:=(checkE_0.1 ck1).2.1.c
 have sGI:=sG.join sI
 refine Sym.stb (k:=1) (i:=3) sGI rfl (by simp) rfl fun J sJ0=>?_
 have sJ:Sym H no J (blk bd (dkL c1.y c1.y1 c1.y2 sn y2 nS) 91::arr flW 48 2 nS []::DR sn y2 nodes lt (c1.its ++ [blk b zS 26,blk bS (sL s1 s2 s3) 26])):=sJ0.re [1,2,0,8,3,4,5,6,7,9,10] (by decide)
 refine rounds_ok (x:=t1) sJ (fun B' hB' fB'=>canF (c:=c1) (fun a ha=>hB' a (by simp [ha])) g1) ok1.len (by omega) hnr hnl hcov hltr (by omega) fun sw ss rk R1 c2 t2 L hrnd hrsp hmv hw sL2 g2 hcan2=>⟨rfl,?_⟩
 have hok1:NOk (hidL lt) t1.cons R1:=hrnd.ok con1
 have hc2:IsCan cmpC (fun c=>c) (ren R1 t1.cons) t2.cons:=hcan2.c
 obtain ⟨ck2,le2⟩:=ren_check ck1 hok1 hHs hc2
 have ok2:=ren_ok ok1 hok1 hc2
 have et2:=canon_fns ck1 hcan2
 rw [← et2] at ck2 ok2
 have sX2:Sym H no L (blk bd (dkL c2.y c2.y1 c2.y2 sn y2 ss) 91::arr flW 48 2 ss sw::DR sn y2 nodes lt (c2.its ++ [blk b zS 26,blk bS (sL s1 s2 s3) 26])):=sL2.re [0,1,7,8,2,3,4,5,6,14,15] (by decide)
 refine ⟨fun E m=>∃ (c:CanS) (t:SysD) (sw:List Swp) (ss:Sl) (rk:L8→Nat) (M:L8→L8) (Lq:List L8),m=fuelE nodes (fun z=>M (R1 z))∧LoopI H E bd b bS s1 s2 s3 sn y2 nodes lt R1 x t2.cons c t sw ss rk M Lq,⟨_,c2,t2,sw,ss,rk,fun z=>z,[],rfl,⟨sX2,g2,ok2,ck2,by omega,by rw [et2];exact ob1,hw,ren_stay hc2.mem,fun z hz=>?_,fun z hz=>⟨(hrnd.mv z hz).1,(hmv z hz).1⟩,fun l N' ts h=>h⟩⟩,?_⟩
 ·obtain ⟨w,_,rfl⟩:=ren_named ((named_can hc2.mem).1 hz)
  exact hrnd.fix w
 rintro E1 m ⟨c,t,sw,ss,rk,M,Lq,rfl,⟨sE,gt,okt,ckt,let',obt,hwt,stt,fxt,mvt,runt⟩⟩ scr
 have cont:=(checkE_0.1 ckt).2.1.c
 have hsl:sw.length≤nodes.length:=hwt.few fun z hz=>(mvt z hz).2
 refine once_ok (x:=t) (qs:=c.lc.map fun x=>x.1.1) sE hwt (by omega) (fun B' hB' _=>canF (c:=c) (fun a ha=>hB' a (by simp [ha])) gt) okt.len ckt (by omega) stt fxt (by omega) hltr (by omega) (fun jn n q ss3 sw3 rk3 c3 t3 B3 hnj hfst hhn' hf h2 hw3 hm3 hl3 s3 g3 hcan3=>⟨true,rfl,fun _=>?_,fun h=>by cases h⟩) (fun B3 fB3 hno=>⟨false,rfl,(fun h=>by cases h),fun _=>?_⟩)
 ·have hn:=List.mem_of_getElem? hnj
  obtain ⟨hq,hqa⟩:=fed_in hf h2
  have hqn:named t.cons n:=⟨q,hq,.inl hqa⟩
  have hqb:named t.cons q.b:=⟨q,hq,.inr (.inl ⟨by omega,rfl⟩)⟩
  have hne:q.b≠n:=fun e=>by
   have:=of_decide_eq_true (stt q hq)
   rcases this with g | g
   ·exact g h2
   ·exact g (by rw [hqa,e])
  have eNn:=fxt n hqn
  have eNb:=fxt q.b hqb
  have eren:ren (fun z=>if M (R1 z)=n then q.b else M (R1 z)) t.cons=ren (one n q.b) t.cons:=ren_congr fun z hz=>by
   unfold one
   rw [fxt z hz]
  have hcan3':IsCan cmpC (fun c=>c) (ren (one n q.b) t.cons) t3.cons:=by
   rw [← eren]
   exact hcan3.c
  have hok:NOk (hidL lt) t.cons (one n q.b):=one_ok cont hhn' hf h2
  obtain ⟨ck3,le3⟩:=ren_check ckt hok hHs hcan3'
  have ok3:=ren_ok okt hok hcan3'
  have et3:=canon_fns ckt hcan3
  rw [← et3] at ck3 ok3
  refine ⟨fuelE nodes fun z=>one n q.b (M (R1 z)),fuelE_less (n:=n) hn eNn ?_ fun z hz=>?_,c3,t3,sw3,ss3,rk3,fun z=>one n q.b (M z),Lq ++ [n],rfl,⟨s3.re [0,1,7,8,2,3,4,5,6,14,15] (by decide),g3,ok3,ck3,by omega,by rw [et3];exact obt,hw3,ren_stay hcan3'.mem,fun z hz=>?_,fun z hz=>?_,fun l N' ts h=>?_⟩⟩
  ·unfold one
   rw [if_pos eNn]
   exact hne
  ·unfold one at hz
   by_cases g:M (R1 z)=n
   ·rw [if_pos g] at hz
    rw [← hz,eNb] at g
    exact absurd g hne
   ·rw [if_neg g] at hz
    exact hz
  ·obtain ⟨w,hw',rfl⟩:=ren_named ((named_can hcan3'.mem).1 hz)
   have e1:one n q.b (M (R1 w))=one n q.b w:=by rw [fxt w hw']
   have:=hw3.idem w
   have e2:one n q.b (M (R1 (one n q.b (M (R1 w)))))=one n q.b (M (R1 w)):=this
   rw [e1] at e2
   exact e2
  ·by_cases g:M (R1 z)=z
   ·have hz:one n q.b (M (R1 z))≠z:=hz
    rw [g] at hz
    unfold one at hz
    by_cases e:z=n
    ·rw [e]
     exact ⟨hhn',hn⟩
    ·rw [if_neg e] at hz
     exact absurd rfl hz
   ·exact mvt z g
  ·rw [List.append_assoc]
   exact runt (n::l) (fun z=>N' (one n q.b z)) ts (Onces.step hnj hfst hhn' hf h2 hcan3' h)
 ·have s4:=sE.more fB3
  have hd5:=s4.ld (k:=0) rfl 5
  have rw4:Rd flW 2 B3 ss sw:=Sym.rd (k:=1) s4 FlW (by decide) rfl
  have lsw:=rw4.len
  have s5:=s4.nilrow flW 48 2
  refine ⟨ss,hd5,fun l i E m=>∃ j:Nat,i=(j:Int)∧j≤sw.length∧m=sw.length - j∧Sym H no E (arr flW 48 2 l ((sw.take j).map fun w=>(w.1,M (R1 w.1)))::blk bd (dkL c.y c.y1 c.y2 sn y2 ss) 91::arr flW 48 2 ss sw::DR sn y2 nodes lt (c.its ++ [blk b zS 26,blk bS (sL s1 s2 s3) 26])),⟨_,0,rfl,Nat.zero_le _,rfl,s5⟩,?_⟩
  rintro l i E2 m ⟨j,rfl,hj,rfl,sE2⟩ scr1
  have rw5:Rd flW 2 E2 ss sw:=Sym.rd (k:=2) sE2 FlW (by decide) rfl
  refine ⟨fun hlt'=>?_,fun hge=>?_⟩
  ·have hj':j < sw.length:=by have:=dlt hlt';omega
   obtain ⟨w,hwj,hwm⟩:=getN hj'
   refine rw5.ix (by decide) FlW (by omega) (by simpa using hwj) fun ad e1 e2=>⟨_,_,⟨e2,e1 1 _ rfl,trivial⟩,fun bX G3 hG3=>?_⟩
   have s6:=sE2.newb (cs:=[.string ⟨#[]⟩,.string ⟨#[]⟩]) hG3
   refine s6.stbs (k:=0) (i:=0) (vs:=flW w) rfl (by simp [flW]) (FlW.2 w) fun G4 s7=>?_
   replace s7:Sym H no G4 (blk bX (flW w) 48::arr flW 48 2 l ((sw.take j).map fun w=>(w.1,M (R1 w.1)))::blk bd (dkL c.y c.y1 c.y2 sn y2 ss) 91::arr flW 48 2 ss sw::DR sn y2 nodes lt (c.its ++ [blk b zS 26,blk bS (sL s1 s2 s3) 26])):=s7
   refine ⟨_,s7.ld (k:=0) rfl 0,_,s7.ld (k:=0) rfl 0,now_ok (s7.ld (k:=2) rfl 5) (Sym.rd (k:=3) s7 FlW (by decide) rfl) hwt (by omega) fun G5 f5=>⟨_,rfl,(s7.more f5).ld (k:=0) rfl 0,fun b2 G6 h6=>?_⟩⟩
   have s8:=s7.more f5
   have lr:=(Sym.rd (k:=1) s8 FlW (by decide) rfl).len
   rw [List.length_map,List.length_take] at lr
   refine Sym.app1 (k:=1) (x:=(w.1,M (R1 w.1))) tyW s8 FlW (by decide) h6 rfl (by omega) fun ap G7 _ s9=>⟨sw.length - (j+1),by omega,j+1,wi (by omega),hj',rfl,?_⟩
   rw [List.take_add_one,hwj,List.map_append]
   exact Sym.drop s9
  ·have hje:j=sw.length:=by have:=dge hge;omega
   rw [hje,List.take_length] at sE2
   refine ⟨c.y,c.y1,c.y2,⟨sE2.ld (k:=1) rfl 0,sE2.ld (k:=1) rfl 1,sE2.ld (k:=1) rfl 2,trivial⟩,?_⟩
   refine Sym.stbs (k:=10) (i:=0) (vs:=sL c.y c.y1 c.y2) sE2 rfl (by simp) (one3 _ _ _) fun G3 s6=>?_
   have hrun:=runt [] (fun z=>z) t.cons (Onces.done hno)
   rw [List.append_nil] at hrun
   have hmov:∀ v∈sw,M (R1 v.1)≠v.1:=fun v hv=>hwt.moved hv
   refine ⟨c.y,c.y1,c.y2,⟨s6.ld (k:=10) (cs:=sL c.y c.y1 c.y2) rfl 0,s6.ld (k:=10) (cs:=sL c.y c.y1 c.y2) rfl 1,s6.ld (k:=10) (cs:=sL c.y c.y1 c.y2) rfl 2,trivial⟩,k2 c t (sw.map fun w=>(w.1,M (R1 w.1))) l lt G3 h0 (s6.re [5,6,7,8,9] (by decide)) gt okt ckt let' obt hlt (Sym.rd (k:=0) (s:=l) s6 FlW (by decide) rfl) ⟨⟨nodes,R1,t2.cons,Lq,M,?_,?_,hmv,⟨hnr,?_⟩,?_,hrun,fun a=>?_,fun w hw'=>?_⟩,?_,fun w hw'=>?_⟩⟩
   ·rw [← ec1]
    exact hcn
   ·rw [← ec1]
    exact hrnd
   ·rw [← ec1]
    exact hrsp
   ·rw [← ec1]
    exact hc2
   ·rw [← hwt.dom (a:=a)]
    constructor
    ·rintro ⟨w,hw',rfl⟩
     obtain ⟨v,hv,rfl⟩:=List.mem_map.1 hw'
     exact ⟨v,hv,rfl⟩
    ·rintro ⟨v,hv,rfl⟩
     exact ⟨_,List.mem_map.2 ⟨v,hv,rfl⟩,rfl⟩
   ·obtain ⟨v,hv,rfl⟩:=List.mem_map.1 hw'
    rfl
   ·rw [List.pairwise_map]
    exact hwt.srt
   ·obtain ⟨v,hv,rfl⟩:=List.mem_map.1 hw'
    exact ⟨(mvt _ (hmov v hv)).1,hmov v hv,fun h=>hmov v hv (fxt _ h)⟩
end
end Go.Proofs.YtjdhjgfmloaglaaGreatDoor.C21
end
section
namespace Go.Proofs.YtjdhjgfmloaglaaGreatDoor.P21
open Go Go.V P14 C14 P15
abbrev fp:L8:=[102,46,112]
abbrev fq:L8:=[102,46,113]
abbrev fr:L8:=[102,46,114]
abbrev c1:ConD:=⟨2,fq,fp,0,[],[]⟩
abbrev c2:ConD:=⟨2,fr,fq,0,[],[]⟩
def wE:SysD:=⟨[],[],[c1,c2]⟩
theorem w_check:checkE wE=0:=by kernel_rfl
def rkW (z:L8):Nat:=if z=fp then 0 else if z=fq then 1 else if z=fr then 2 else 3
theorem w_rk {a b:L8}(h:Cp wE.cons a b):rkW a < rkW b:=by
 obtain ⟨c,hc,_,rfl,rfl⟩:=h
 unfold wE at hc
 simp only [List.mem_cons,List.not_mem_nil,or_false] at hc
 rcases hc with rfl | rfl <;> decide
theorem w_rc {a b:L8}(h:Rc (Cp wE.cons) a b):rkW a≤rkW b:=by
 induction h with
 | refl=>exact Nat.le_refl _
 | tail _ e ih=>exact Nat.le_of_lt (Nat.lt_of_le_of_lt ih (w_rk e))
theorem w_mut {a b:L8}(h:Mut wE.cons a b):a=b:=by
 obtain ⟨h1,h2⟩:=h
 cases h1 with
 | refl=>rfl
 | tail g e=>
  have:=w_rc g
  have:=w_rk e
  have:=w_rc h2
  omega
theorem one_list {cs:List ConD}{c d:ConD}(h:cs = [c]) (h2:cs = [d]):c=d:=by
 rw [h] at h2
 exact (List.cons.inj h2).1
theorem can_nil {ys:List ConD}{cs:List ConD}(h:IsCan cmpC (fun c=>c) cs ys) (e:cs = []):ys = []:=by
 subst e
 exact h.uniq linC IsCan.nil
theorem can_one {ys:List ConD}{cs:List ConD}{c:ConD}(h:IsCan cmpC (fun c=>c) cs ys) (e:cs = [c]):ys = [c]:=by
 subst e
 exact h.uniq linC (IsCan.of_rising (List.pairwise_singleton _ _) fun _=>Iff.rfl)
theorem fed_none {n:L8}{c:ConD}(h:fed [] n = [c]):False:=by
 have:fed [] n = []:=rfl
 rw [this] at h
 cases h
section
variable {hid:L8→Bool}{nodes l:List L8}{M:L8→L8}{ts:List ConD}
theorem ons_nil (h:Onces hid nodes [] l M ts):ts = []∧∀ z,M z=z:=by
 cases h with
 | done _=>exact ⟨rfl,fun _=>rfl⟩
 | step _ _ _ hf _ _ _=>exact (fed_none hf).elim
theorem ons_one {n m:L8}(hm:m=n) (hh:∀ z,hid z=true↔z=fq∨z=fr) (hn:n∈nodes) (hnh:hid n=true) (hne:n≠fp) (hno:∀ z,hid z=true→z≠n→fed [⟨2,n,fp,0,[],[]⟩] z = []) (hyes:fed [⟨2,n,fp,0,[],[]⟩] n = [⟨2,n,fp,0,[],[]⟩]) (hr:ren (one n fp) [⟨2,n,fp,0,[],[]⟩] = []) (h:Onces hid nodes [⟨2,n,fp,0,[],[]⟩] l M ts):ts = []∧∀ z,M z=one n fp z:=by
 cases h with
 | done h=>exact absurd rfl (h n hn hnh _ hyes)
 | @step _ ys _ z c _ N j hz _ hzh hf h2 hy hr'=>
  have ez:z=n:=Classical.byContradiction fun e=>by
   rw [hno z hzh e] at hf
   cases hf
  subst ez
  have ec:=one_list hyes hf
  subst ec
  have ey:=can_nil hy hr
  subst ey
  obtain ⟨e1,e2⟩:=ons_nil hr'
  exact ⟨e1,fun z=>e2 _⟩
theorem w_ons (hh:∀ z,hid z=true↔z=fq∨z=fr) (hq:fq∈nodes) (hr:fr∈nodes) (h:Onces hid nodes wE.cons l M ts):ts = []∧M fq=fp∧M fr=fp∧∀ z,z≠fq→z≠fr→M z=z:=by
 have f1:fed wE.cons fq = [c1]:=by decide
 have f2:fed wE.cons fr = [c2]:=by decide
 cases h with
 | done h=>exact absurd rfl (h fq hq ((hh _).2 (.inl rfl)) _ f1)
 | @step _ ys _ n c _ N j hn _ hnh hf h2 hy hr'=>
  rcases (hh n).1 hnh with rfl | rfl
  ·have ec:=one_list f1 hf
   subst ec
   have ey:=can_one (c:=⟨2,fr,fp,0,[],[]⟩) hy (by decide)
   subst ey
   obtain ⟨e1,e2⟩:=ons_one (n:=fr) rfl hh hr ((hh _).2 (.inr rfl)) (by decide) (fun z hz hne=>by
    rcases (hh z).1 hz with rfl | rfl
    ·decide
    ·exact absurd rfl hne) (by decide) (by decide) hr'
   refine ⟨e1,?_,?_,fun z z1 z2=>?_⟩
   ·show N (one fq fp fq)=fp
    rw [e2]
    decide
   ·show N (one fq fp fr)=fp
    rw [e2]
    decide
   ·show N (one fq fp z)=z
    rw [e2]
    unfold one
    rw [if_neg z1,if_neg z2]
  ·have ec:=one_list f2 hf
   subst ec
   have ey:=can_one (c:=⟨2,fq,fp,0,[],[]⟩) hy (by decide)
   subst ey
   obtain ⟨e1,e2⟩:=ons_one (n:=fq) rfl hh hq ((hh _).2 (.inl rfl)) (by decide) (fun z hz hne=>by
    rcases (hh z).1 hz with rfl | rfl
    ·exact absurd rfl hne
    ·decide) (by decide) (by decide) hr'
   refine ⟨e1,?_,?_,fun z z1 z2=>?_⟩
   ·show N (one fr fq fq)=fp
    rw [e2]
    decide
   ·show N (one fr fq fr)=fp
    rw [e2]
    decide
   ·show N (one fr fq z)=z
    rw [e2]
    unfold one
    rw [if_neg z2,if_neg z1]
theorem two_swaps {out:List Swp}(hs:out.Pairwise fun x y=>ltL x.1 y.1=true) (hm:∀ a,(∃ w∈out,w.1=a)↔a=fq∨a=fr) (h2:∀ w∈out,w.2=fp):out = [(fq,fp),(fr,fp)]:=by
 have key:out.map (·.1) = [fq,fr]:=by
  have h1:Rising ltL (out.map (·.1)):=by
   unfold Rising
   rw [List.pairwise_map]
   exact hs
  have h3:Rising ltL [fq,fr]:=by unfold Rising;decide
  refine pw_same (R:=fun x y:L8=>ltL x y=true) (fun x=>by rw [linL.irr];decide) (fun a b=>linL.tr _ _ _ a b) h1 h3 fun z=>?_
  rw [List.mem_map]
  simp only [List.mem_cons,List.not_mem_nil,or_false]
  exact hm z
 cases out with
 | nil=>cases key
 | cons a l=>
  cases l with
  | nil=>
   have:=(List.cons.inj key).2
   cases this
  | cons b l=>
   cases l with
   | nil=>
    have e1:a.1=fq:=(List.cons.inj key).1
    have e2:b.1=fr:=(List.cons.inj (List.cons.inj key).2).1
    have e3:=h2 a (by simp)
    have e4:=h2 b (by simp)
    cases a
    cases b
    simp only at e1 e2 e3 e4
    rw [e1,e2,e3,e4]
   | cons d l=>
    have:=(List.cons.inj (List.cons.inj key).2).2
    cases this
theorem w_run {out:List Swp}(hh:∀ z,hid z=true↔z=fq∨z=fr) (h:EqR hid wE.cons ts out):ts = []∧out = [(fq,fp),(fr,fp)]:=by
 obtain ⟨nodes,R,ys,l,M,a2,a3,a4,_,a5,a6,a7,a8⟩:=h.run
 have e0:wE.cons.filter stayC=wE.cons:=by decide
 rw [e0] at a2 a3 a5
 have hR:∀ z,R z=z:=fun z=>Classical.byContradiction fun e=>by
  obtain ⟨_,_,_,d,_⟩:=a3.mv z e
  exact e (w_mut d).symm
 have eR:ren R wE.cons=wE.cons:=by
  have:R=fun z=>z:=funext hR
  rw [this,ren_id,e0]
 rw [eR] at a5
 have ey:ys=wE.cons:=a5.uniq linC (IsCan.of_rising (checkE_0.1 w_check).2.2.2 fun _=>Iff.rfl)
 rw [ey] at a6
 have hq:fq∈nodes:=a2 fq ⟨c1,by simp [wE],.inl rfl⟩ (by decide)
 have hr:fr∈nodes:=a2 fr ⟨c2,by simp [wE],.inl rfl⟩ (by decide)
 obtain ⟨e1,e2,e3,e4⟩:=w_ons hh hq hr a6
 refine ⟨e1,two_swaps h.srt (fun a=>?_) fun w hw=>?_⟩
 ·rw [a7 a,hR]
  constructor
  ·intro g
   apply Classical.byContradiction
   intro hno
   exact g (e4 a (fun e=>hno (.inl e)) fun e=>hno (.inr e))
  ·rintro (rfl | rfl)
   ·rw [e2];decide
   ·rw [e3];decide
 ·rw [a8 w hw,hR]
  rcases (hh w.1).1 (h.ok w hw).1 with e | e
  ·rw [e,e2]
  ·rw [e,e3]
end
end Go.Proofs.YtjdhjgfmloaglaaGreatDoor.P21
end
section
namespace Go.Proofs.YtjdhjgfmloaglaaGreatDoor.C21
open Go Go.V Go.Proofs N21 P14 C14 P15 C15 C18 P21
attribute [local irreducible] Cvt ExtF CallF hrun App MkS callV Lkp MUp
abbrev At3 (E:Hp) (b:Nat) (s1 s2 s3:Sl):Prop:=hcell E ⟨b,0,none⟩=some (.slice s1.a s1.n s1.c)∧hcell E ⟨b,1,none⟩=some (.slice s2.a s2.n s2.c)∧hcell E ⟨b,2,none⟩=some (.slice s3.a s3.n s3.c)∧True
theorem At3.more {E F:Hp}{b:Nat}{s1 s2 s3:Sl}(h:At3 E b s1 s2 s3) (f:Fr no E F):At3 F b s1 s2 s3:=⟨lf f h.1,lf f h.2.1,lf f h.2.2.1,trivial⟩
section
variable {H:Hp}{K:Value→Hp→Prop}{Z:List PanicEntry→Hp→Prop}
theorem greatT_ok {l:Sl}{ns:List L8}(h:Rd flL 1 H l ns) (k:∀ y,(y=false→ns.length≤60∧∀ n∈ns,n.length≤100)→K (.bool y) H):CallF Tryz.prog 8 #[.slice l.a l.n l.c] H K Z:=by
 refine V8_ok ?_
 unfold V8
 have ln:=h.len
 refine ⟨fun i B m=>∃ j:Nat,B=H∧i=(j:Int)∧j≤ns.length∧j≤60∧m=ns.length - j∧∀ n∈ns.take j,n.length≤100,⟨_,0,rfl,rfl,Nat.zero_le _,by decide,rfl,by simp⟩,?_⟩
 rintro i B m ⟨j,rfl,rfl,hj,hj6,rfl,hno⟩ scr
 refine ⟨fun hlt=>⟨fun _=>k true (fun h=>by cases h),fun h6=>?_⟩,fun hge=>?_⟩
 ·have hj':j < ns.length:=by have:=dlt hlt;omega
  have h6:=of_decide_eq_false h6
  obtain ⟨n,hn,hnm⟩:=getN hj'
  refine atL h hn fun ad e=>⟨_,e,fun _=>k true (fun h=>by cases h),fun hs=>⟨ns.length - (j+1),by omega,j+1,rfl,wi (by omega),hj',by omega,rfl,fun z hz=>?_⟩⟩
  rw [str_size] at hs
  have hs:=of_decide_eq_false hs
  rw [List.take_add_one,hn] at hz
  rcases List.mem_append.1 hz with hz | hz
  ·exact hno z hz
  ·rw [List.mem_singleton.1 hz];omega
 ·have hje:j=ns.length:=by have:=dge hge;omega
  rw [hje,List.take_length] at hno
  exact k false fun _=>⟨by omega,hno⟩
theorem w_sites:siteB fq=false∧siteB fr=false:=⟨by kernel_rfl,by kernel_rfl⟩
theorem wE_ok:OkSys wE:=by
 refine ⟨⟨by decide,fun o ho=>by cases ho⟩,⟨by decide,fun f hf=>by cases hf⟩,⟨by decide,fun c hc=>?_⟩⟩
 simp only [wE,List.mem_cons,List.not_mem_nil,or_false] at hc
 rcases hc with rfl | rfl
 ·exact ⟨by decide,by decide,by decide,by decide,by intro m hm;cases hm⟩
 ·exact ⟨by decide,by decide,by decide,by decide,by intro m hm;cases hm⟩
abbrev hsE:List HC:=[(2,fq,fp,0,[],nS),(2,fr,fq,0,[],nS)]
theorem works21_ok (ht:Pw H) (k:∀ H',Fr no H H'→K (.bool true) H'):CallF Tryz.prog 15 #[] H K Z:=by
 refine V15_ok ?_
 unfold V15
 intro b A hA bS B hB
 have sA:=(Sym.start H).lit (l:=hsE) FlHC (by decide) hA (show 2=_ from rfl)
 have sB:=sA.newb (cs:=zS) hB
 refine sB.stbs (k:=0) (i:=0) (vs:=sL nS nS ⟨some ⟨b,0,none⟩,2,2⟩) rfl (by simp) (one3 _ _ _) fun D sD=>?_
 have hrd:RdSys D nS nS ⟨some ⟨b,0,none⟩,2,2⟩ wE:=by
  refine ⟨RdX.nil,Rd.nil,rdX_lit (sD.rd (k:=1) FlHC (by decide) rfl) rfl ?_⟩
  intro i h x hh hx
  match i,hh,hx with
  | 0,hh,hx=>rw [← Option.some_inj.1 hh,← Option.some_inj.1 hx];exact ⟨rfl,Rd.nil⟩
  | 1,hh,hx=>rw [← Option.some_inj.1 hh,← Option.some_inj.1 hx];exact ⟨rfl,Rd.nil⟩
  | i+2,hh,hx=>cases hx
 replace sD:Sym H no D [blk bS (sL nS nS ⟨some ⟨b,0,none⟩,2,2⟩) 26,_]:=sD
 have ks:∀ n ∈ [fr,fq],List.length n≤1048576:=fun n hn=>by
  simp only [List.mem_cons,List.not_mem_nil,or_false] at hn
  rcases hn with rfl | rfl <;> decide
 refine ⟨_,_,_,⟨sD.ld (k:=0) rfl 0,sD.ld (k:=0) rfl 1,sD.ld (k:=0) rfl 2,trivial⟩,fun b2 E hE=>?_⟩
 have sE:=(Sym.start D).lit (l:=[fr,fq]) FlL (by decide) hE (show 2=_ from rfl)
 have fE:=sE.fr
 refine esys_ok (sh:=⟨some ⟨b2,0,none⟩,2,2⟩) (hide:=[fr,fq]) (hrd.more fE) wE_ok (sE.rd (k:=0) FlL (by decide) rfl) ks (by decide) (by decide) (by decide) (TabH.more ht (sD.fr.trans fE)) (fun _ _ h=>absurd P21.w_check h) fun c t out so lt F _ sF gd _ _ _ _ hlt hso hq=>⟨c.y,c.y1,c.y2,so,0,rfl,fun bT G hG=>?_⟩
 obtain ⟨et,eo⟩:=w_run (fun z=>by
  unfold hidL
  rw [decide_eq_true_eq,hlt z]
  simp only [List.mem_cons,List.not_mem_nil,or_false]
  constructor
  ·rintro ⟨h | h,_⟩
   ·exact .inr h
   ·exact .inl h
  ·rintro (rfl | rfl)
   ·exact ⟨.inr rfl,w_sites.1⟩
   ·exact ⟨.inl rfl,w_sites.2⟩) hq
 subst eo
 have hc0:=CanS.rd sF.ok gd
 have sG:=(Sym.start F).newb (cs:=zS) hG
 refine sG.stbs (k:=0) (i:=0) (vs:=sL c.y c.y1 c.y2) rfl (by simp) (one3 _ _ _) fun I sI=>⟨fun _=>?_,fun h=>by cases h⟩
 replace sI:Sym F no I [blk bT (sL c.y c.y1 c.y2) 26]:=sI
 have hc:=hc0.more sI.fr
 have fDI:Fr no D I:=fE.trans (sF.fr.trans sI.fr)
 have e3:=RdX.len hc.c
 rw [et] at e3
 have e3':c.y2.n=0:=e3
 have lo:=hso.len
 have lo':so.n=2:=lo
 refine ⟨c.y2,sI.ld (k:=0) rfl 2,fun _=>⟨fun _=>?_,fun h=>by rw [lo'] at h;cases h⟩,fun h=>by rw [e3'] at h;cases h⟩
 refine (hso.more sI.fr).ix (i:=1) (x:=(fr,fp)) (by decide) FlW (by omega) rfl fun ad g1 g2=>⟨_,_,⟨g2,g1 1 _ rfl,trivial⟩,?_⟩
 have e:((str fr == (⟨#[102,46,114]⟩:ByteArray)) && ((str fp == (⟨#[102,46,112]⟩:ByteArray)) && true))=true:=by
  have a:(str fr == str fr)=true:=by rw [beq_str',decide_eq_true rfl]
  have b:(str fp == str fp)=true:=by rw [beq_str',decide_eq_true rfl]
  show ((str fr == str fr) && ((str fp == str fp) && true))=true
  rw [a,b]
  rfl
 show K (.bool ((str fr == (⟨#[102,46,114]⟩:ByteArray)) && ((str fp == (⟨#[102,46,112]⟩:ByteArray)) && true))) I
 rw [e]
 exact k I (sD.fr.trans fDI)
end
end Go.Proofs.YtjdhjgfmloaglaaGreatDoor.C21
end
