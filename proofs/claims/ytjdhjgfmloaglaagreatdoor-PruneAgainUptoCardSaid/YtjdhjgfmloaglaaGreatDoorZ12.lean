import Derived.Test.YtjdhjgfmloaglaaGreatDoorZ11
set_option linter.unusedVariables false
set_option linter.unusedSimpArgs false
section
namespace Go.Proofs.YtjdhjgfmloaglaaGreatDoor.P15
open Go Go.V
theorem linN:CmpLin cmpN:=by
 refine ⟨fun {x y}=>?_,fun {x y}=>?_,fun {x y z} h1 h2=>?_⟩
 ·unfold cmpN;split
  ·simp;omega
  ·split <;> simp <;> omega
 ·unfold cmpN;split <;> split <;> (try split) <;> omega
 ·unfold cmpN at *
  by_cases a:x < y
  ·by_cases b:y < z
   ·rw [if_pos (by omega)];omega
   ·rw [if_neg b] at h2;split at h2 <;> omega
  ·rw [if_neg a] at h1;split at h1 <;> omega
theorem cmpL_neg {a b:L8}:cmpL a b < 0↔ltL a b=true:=by
 unfold cmpL
 cases ltL a b
 ·simp only [Bool.false_eq_true,if_false,iff_false]
  split <;> omega
 ·simp
theorem cmpL_pos {a b:L8}:cmpL a b > 0↔ltL b a=true:=by
 unfold cmpL
 cases h:ltL a b
 ·simp only [Bool.false_eq_true,if_false]
  cases ltL b a <;> simp
 ·simp only [if_true]
  constructor
  ·intro h;omega
  ·intro h2
   have:=linL.tr _ _ _ h h2
   rw [linL.irr] at this
   cases this
theorem cmpL_0 {a b:L8}:cmpL a b=0↔a=b:=by
 constructor
 ·intro h
  rcases linL.tot a b with h1 | h1 | h1
  ·have:=cmpL_neg.2 h1;omega
  ·exact h1
  ·have:=cmpL_pos.2 h1;omega
 ·rintro rfl;exact cmpL_self a
theorem linCL:CmpLin cmpL:=⟨cmpL_0,cmpL_neg.trans cmpL_pos.symm,fun h1 h2=>cmpL_neg.2 (linL.tr _ _ _ (cmpL_neg.1 h1) (cmpL_neg.1 h2))⟩
theorem orI_neg {a b:Int}:orI a b < 0↔a < 0∨(a=0∧b < 0):=by unfold orI;split <;> omega
theorem orI_pos {a b:Int}:orI a b > 0↔a > 0∨(a=0∧b > 0):=by unfold orI;split <;> omega
theorem orI_zero {a b:Int}:orI a b=0↔a=0∧b=0:=by unfold orI;split <;> omega
theorem lin_lex {α β : Type}{c : α→α→Int}{d : β→β→Int}(hc:CmpLin c) (hd:CmpLin d):CmpLin fun (p q : α × β)=>orI (c p.1 q.1) (d p.2 q.2):=by
 refine ⟨fun {x y}=>?_,fun {x y}=>?_,fun {x y z} h1 h2=>?_⟩
 ·rw [orI_zero,hc.eq,hd.eq]
  exact ⟨fun h=>Prod.ext h.1 h.2,fun h=>by rw [h];exact ⟨rfl,rfl⟩⟩
 ·rw [orI_neg,orI_pos,hc.neg,hd.neg,hc.eq,hc.eq]
  exact ⟨fun h=>h.imp id fun h=>⟨h.1.symm,h.2⟩,fun h=>h.imp id fun h=>⟨h.1.symm,h.2⟩⟩
 ·rw [orI_neg] at *
  rcases h1 with h1 | ⟨h1,h1'⟩ <;> rcases h2 with h2 | ⟨h2,h2'⟩
  ·exact .inl (hc.tr h1 h2)
  ·exact .inl (hc.eq.1 h2 ▸ h1)
  ·exact .inl ((hc.eq.1 h1).symm ▸ h2)
  ·exact .inr ⟨hc.eq.2 ((hc.eq.1 h1).trans (hc.eq.1 h2)),hd.tr h1' h2'⟩
theorem lin_by {α β : Type}{c : α→α→Int}(hc:CmpLin c) {f : β→α}(hf:∀ x y,f x=f y→x=y):CmpLin fun x y=>c (f x) (f y):=
 ⟨fun {x y}=>hc.eq.trans ⟨hf x y,fun h=>by rw [h]⟩,hc.neg,hc.tr⟩
theorem cmpA_cons {a b:L8}{x y:List L8}:cmpA (a::x) (b::y)=orI (cmpL a b) (cmpA x y):=rfl
theorem cmpA_0:∀ {x y:List L8},cmpA x y=0↔x=y
 | [],[]=>by simp [cmpA]
 | [],_::_=>by simp [cmpA]
 | _::_,[]=>by simp [cmpA]
 | a::x,b::y=>by rw [cmpA_cons,orI_zero,cmpL_0,cmpA_0,List.cons.injEq]
theorem cmpA_neg:∀ {x y:List L8},cmpA x y < 0↔cmpA y x > 0
 | [],[]=>by simp [cmpA]
 | [],_::_=>by simp [cmpA]
 | _::_,[]=>by simp [cmpA]
 | a::x,b::y=>by
  rw [cmpA_cons,cmpA_cons,orI_neg,orI_pos,linCL.neg,cmpA_neg,cmpL_0,cmpL_0]
  exact ⟨fun h=>h.imp id fun h=>⟨h.1.symm,h.2⟩,fun h=>h.imp id fun h=>⟨h.1.symm,h.2⟩⟩
theorem cmpA_tr:∀ {x y z:List L8},cmpA x y < 0→cmpA y z < 0→cmpA x z < 0
 | [],[],_,h,_=>by simp [cmpA] at h
 | _,_::_,[],_,h=>by simp [cmpA] at h
 | _::_,[],_,h,_=>by simp [cmpA] at h
 | [],_::_,_::_,_,_=>by simp [cmpA]
 | a::x,b::y,d::z,h1,h2=>by
  rw [cmpA_cons,orI_neg] at *
  rcases h1 with h1 | ⟨h1,h1'⟩ <;> rcases h2 with h2 | ⟨h2,h2'⟩
  ·exact .inl (linCL.tr h1 h2)
  ·exact .inl (cmpL_0.1 h2 ▸ h1)
  ·exact .inl ((cmpL_0.1 h1).symm ▸ h2)
  ·exact .inr ⟨cmpL_0.2 ((cmpL_0.1 h1).trans (cmpL_0.1 h2)),cmpA_tr h1' h2'⟩
theorem linA:CmpLin cmpA:=⟨cmpA_0,cmpA_neg,cmpA_tr⟩
theorem linC:CmpLin cmpC:=
 lin_by (lin_lex linN (lin_lex linCL (lin_lex linCL (lin_lex linN (lin_lex linCL linA))))) (f:=fun (c:ConD)=>(c.op,c.a,c.b,c.k,c.tag,c.args)) (by
  intro x y h
  cases x;cases y
  simp only [Prod.mk.injEq] at h
  obtain ⟨rfl,rfl,rfl,rfl,rfl,rfl⟩:=h
  rfl)
end Go.Proofs.YtjdhjgfmloaglaaGreatDoor.P15
namespace Go.Proofs.YtjdhjgfmloaglaaGreatDoor.P15
open Go Go.V
section
variable {χ κ : Type} [DecidableEq χ] {c : κ→κ→Int}{ky : χ→κ}{l l' a b acc p:List χ}{o : χ}
def Bef (c : κ→κ→Int) (ky : χ→κ) (l:List χ) (x y : χ):Prop:=c (ky x) (ky y) < 0∨(ky x=ky y∧l.idxOf x < l.idxOf y)
structure IsCan (c : κ→κ→Int) (ky : χ→κ) (l out:List χ):Prop where
 srt:out.Pairwise (Bef c ky l)
 mem:∀ z,z∈out↔z∈l
theorem Bef.irr (hc:CmpLin c) (x : χ):¬ Bef c ky l x x:=by
 rintro (h | ⟨_,h⟩)
 ·rw [hc.eq.2 rfl] at h;omega
 ·omega
theorem Bef.tr (hc:CmpLin c) {x y z : χ}(h1:Bef c ky l x y) (h2:Bef c ky l y z):Bef c ky l x z:=by
 rcases h1 with h1 | ⟨h1,t1⟩ <;> rcases h2 with h2 | ⟨h2,t2⟩
 ·exact .inl (hc.tr h1 h2)
 ·exact .inl (h2 ▸ h1)
 ·exact .inl (h1 ▸ h2)
 ·exact .inr ⟨h1.trans h2,Nat.lt_trans t1 t2⟩
theorem IsCan.uniq (hc:CmpLin c) (h1:IsCan c ky l a) (h2:IsCan c ky l b):a=b:=pw_same (Bef.irr hc) (Bef.tr hc) h1.srt h2.srt fun z=>(h1.mem z).trans (h2.mem z).symm
theorem IsCan.nodup (hc:CmpLin c) (h:IsCan c ky l a):a.Nodup:=h.srt.imp fun hxy e=>by subst e;exact Bef.irr hc _ hxy
theorem IsCan.len (hc:CmpLin c) (h:IsCan c ky l a):a.length≤l.length:=subset_len (h.nodup hc) fun z hz=>(h.mem z).1 hz
theorem IsCan.le (hc:CmpLin c) (h:IsCan c ky l a):a.Pairwise fun x y=>c (ky x) (ky y)≤0:=h.srt.imp fun hxy=>by
 rcases hxy with hxy | ⟨e,_⟩
 ·omega
 ·rw [e,hc.eq.2 rfl];decide
theorem IsCan.nil:IsCan c ky ([]:List χ) []:=⟨List.Pairwise.nil,fun _=>Iff.rfl⟩
def OneK (ky : χ→κ) (l:List χ):Prop:=∀ x∈l,∀ y∈l,ky x=ky y→x=y
theorem IsCan.rising (hc:CmpLin c) (hk:OneK ky l) (h:IsCan c ky l a):a.Pairwise fun x y=>c (ky x) (ky y) < 0:=by
 refine List.Pairwise.imp_of_mem (fun {x y} hx hy hxy=>?_) h.srt
 rcases hxy with hxy | ⟨e,t⟩
 ·exact hxy
 ·have:=hk x ((h.mem x).1 hx) y ((h.mem y).1 hy) e
  subst this
  omega
theorem IsCan.of_rising (h1:a.Pairwise fun x y=>c (ky x) (ky y) < 0) (hm:∀ z,z∈a↔z∈l):IsCan c ky l a:=⟨h1.imp fun h=>.inl h,hm⟩
theorem IsCan.swap (hc:CmpLin c) (hk:OneK ky l) (hm:∀ z,z∈l↔z∈l') (h1:IsCan c ky l a) (h2:IsCan c ky l' b):a=b:=by
 have h3:IsCan c ky l' a:=IsCan.of_rising (h1.rising hc hk) fun z=>(h1.mem z).trans (hm z)
 exact h3.uniq hc h2
def intoK (c : κ→κ→Int) (ky : χ→κ):List χ→χ→List χ
 | [],o=>[o]
 | x::r,o=>if c (ky x) (ky o)≤0 then (if x=o then x::r else x::intoK c ky r o) else o::x::r
theorem into_mem:∀ {l:List χ}{z : χ},z∈intoK c ky l o↔z∈l∨z=o
 | [],z=>by simp [intoK]
 | x::r,z=>by
  rw [intoK]
  split
  ·split
   ·rename_i h;subst h
    rw [List.mem_cons]
    exact ⟨.inl,fun h=>h.elim id fun h=>.inl h⟩
   ·rw [List.mem_cons,List.mem_cons,into_mem,or_assoc]
  ·rw [List.mem_cons,or_comm]
theorem into_in (hc:CmpLin c):∀ {l:List χ},o∈l→l.Pairwise (fun x y=>c (ky x) (ky y)≤0)→intoK c ky l o=l
 | x::r,hm,hp=>by
  rw [List.pairwise_cons] at hp
  rw [intoK]
  rcases List.mem_cons.1 hm with rfl | hm
  ·rw [if_pos (by rw [hc.eq.2 rfl];decide),if_pos rfl]
  ·rw [if_pos (hp.1 o hm)]
   split
   ·rfl
   ·rw [into_in hc hm hp.2]
theorem into_srt {R : χ→χ→Prop}(hR:∀ {x y},R x y→c (ky x) (ky y)≤0) (hc:CmpLin c) (h1:∀ x,c (ky x) (ky o) < 0→R x o) (h0:∀ x∈p,ky x=ky o→R x o) (h2:∀ x,c (ky o) (ky x) < 0→R o x) :
  ∀ {l:List χ},(∀ x∈l,x∈p)→o∉l→l.Pairwise R→(intoK c ky l o).Pairwise R
 | [],_,_,_=>by simp [intoK]
 | x::r,hp,hn,hs=>by
  have hs':=List.pairwise_cons.1 hs
  rw [intoK]
  split
  ·rename_i hle
   rw [if_neg (fun e=>hn (by rw [e];exact List.mem_cons_self)),List.pairwise_cons]
   refine ⟨fun y hy=>?_,into_srt hR hc h1 h0 h2 (fun y hy=>hp y (List.mem_cons_of_mem _ hy)) (fun h=>hn (List.mem_cons_of_mem _ h)) hs'.2⟩
   rcases into_mem.1 hy with hy | rfl
   ·exact hs'.1 y hy
   ·by_cases e:c (ky x) (ky y)=0
    ·exact h0 x (hp x List.mem_cons_self) (hc.eq.1 e)
    ·exact h1 x (by omega)
  ·rename_i hgt
   have hox:c (ky o) (ky x) < 0:=hc.neg.2 (by omega)
   rw [List.pairwise_cons]
   refine ⟨fun y hy=>?_,hs⟩
   rcases List.mem_cons.1 hy with rfl | hy
   ·exact h2 _ hox
   ·refine h2 y ?_
    have:=hR (hs'.1 y hy)
    by_cases e:c (ky x) (ky y)=0
    ·rw [← hc.eq.1 e];exact hox
    ·exact hc.tr hox (by omega)
theorem idx_app {x : χ}{r:List χ}(h:x∈p):(p++r).idxOf x=p.idxOf x:=by rw [List.idxOf_append,if_pos h]
theorem IsCan.step (hc:CmpLin c) (h:IsCan c ky p acc):IsCan c ky (p ++ [o]) (intoK c ky acc o):=by
 have up:∀ {x y},x∈p→y∈p→Bef c ky p x y→Bef c ky (p ++ [o]) x y:=fun hx hy hxy=>hxy.imp id fun ⟨e,t⟩=>⟨e,by rw [idx_app hx,idx_app hy];exact t⟩
 have hup:acc.Pairwise (Bef c ky (p ++ [o])):=List.Pairwise.imp_of_mem (fun hx hy hxy=>up ((h.mem _).1 hx) ((h.mem _).1 hy) hxy) h.srt
 refine ⟨?_,fun z=>by rw [into_mem,h.mem,List.mem_append,List.mem_singleton]⟩
 by_cases ho:o∈acc
 ·rw [into_in hc ho (h.le hc)]
  exact hup
 ·have hop:o∉p:=fun hp=>ho ((h.mem o).2 hp)
  refine into_srt (p:=p) (fun {x y} hxy=>?_) hc (fun x h=>.inl h) (fun x hx e=>.inr ⟨e,?_⟩) (fun x h=>.inl h) (fun x hx=>(h.mem x).1 hx) ho hup
  ·rcases hxy with hxy | ⟨e,_⟩
   ·omega
   ·rw [e,hc.eq.2 rfl];decide
  ·rw [idx_app hx,List.idxOf_append,if_neg hop,List.idxOf_cons_self]
   have:=List.idxOf_lt_length_of_mem hx
   omega
structure Dd (c : κ→κ→Int) (ky : χ→κ) (l pre out:List χ) (first:Nat):Prop where
 srt:out.Pairwise (Bef c ky l)
 mem:∀ z,z∈out↔z∈pre
 le:first≤out.length
 last:∀ x,out.getLast? = some x→(∀ y∈out.drop first,ky y=ky x)∧∀ y∈out.take first,c (ky y) (ky x) < 0
theorem Dd.start (l:List χ):Dd c ky l [] [] 0:=⟨List.Pairwise.nil,fun _=>Iff.rfl,Nat.le_refl _,by simp⟩
def firstD (c : κ→κ→Int) (ky : χ→κ) (out:List χ) (first:Nat) (x : χ):Nat:=match out.getLast? with
 | some z=>if c (ky z) (ky x)≠0 then out.length else first
 | none=>first
omit [DecidableEq χ] in
theorem mem_cut {x : χ}{n:Nat}{l:List χ}:x∈l↔x∈l.take n∨x∈l.drop n:=by
 conv=>lhs;rw [← List.take_append_drop n l]
 exact List.mem_append
theorem Dd.step {pre out:List χ}{first:Nat}{x : χ}(hc:CmpLin c) (h:Dd c ky l pre out first) (hge:∀ y∈pre,c (ky y) (ky x)≤0) (hnew:x∉pre→∀ y∈pre,ky y=ky x→l.idxOf y < l.idxOf x) :
  Dd c ky l (pre ++ [x]) (if x∈out.drop (firstD c ky out first x) then out else out ++ [x]) (firstD c ky out first x):=by
 have hmem:∀ {o2:List χ},(∀ z,z∈o2↔z∈out∨z=x)→∀ z,z∈o2↔z∈pre ++ [x]:=fun h2 z=>by rw [h2,h.mem,List.mem_append,List.mem_singleton]
 have happ:∀ z,z∈out ++ [x]↔z∈out∨z=x:=fun z=>by rw [List.mem_append,List.mem_singleton]
 have hsrt:(∀ y∈out,Bef c ky l y x)→(out ++ [x]).Pairwise (Bef c ky l):=fun h2=>by
  rw [List.pairwise_append]
  exact ⟨h.srt,List.pairwise_singleton _ _,fun y hy z hz=>by rw [List.mem_singleton.1 hz];exact h2 y hy⟩
 unfold firstD
 cases hl:out.getLast? with
 | none=>
  have ho:out = []:=by simpa using hl
  subst ho
  have hf:first=0:=by have:=h.le;simpa using this
  subst hf
  simp only [List.drop_nil,List.not_mem_nil,if_false]
  refine ⟨hsrt (by simp),hmem happ,Nat.zero_le _,fun z hz=>?_⟩
  have:z=x:=by simpa using hz.symm
  subst this
  simp
 | some z=>
  obtain ⟨h1,h2⟩:=h.last z hl
  have hzo:z∈out:=List.mem_of_getLast? hl
  have hzp:c (ky z) (ky x)≤0:=hge z ((h.mem z).1 hzo)
  by_cases h0:c (ky z) (ky x)=0
  ·have ek:=hc.eq.1 h0
   simp only [h0,ne_eq,not_true_eq_false,if_false]
   by_cases hx:x∈out.drop first
   ·rw [if_pos hx]
    have hxo:x∈out:=mem_cut.2 (.inr hx)
    refine ⟨h.srt,hmem fun w=>⟨.inl,fun hw=>hw.elim id fun e=>e ▸ hxo⟩,h.le,h.last⟩
   ·rw [if_neg hx]
    have hxo:x∉out:=fun hm=>(mem_cut.1 hm).elim (fun ht=>by have:=h2 x ht;rw [ek,hc.eq.2 rfl] at this;omega) hx
    have hxp:x∉pre:=fun hp=>hxo ((h.mem x).2 hp)
    refine ⟨hsrt fun y hy=>?_,hmem happ,by rw [List.length_append];have:=h.le;omega,fun w hw=>?_⟩
    ·rcases mem_cut.1 hy with ht | ht
     ·exact .inl (ek ▸ h2 y ht)
     ·exact .inr ⟨(h1 y ht).trans ek,hnew hxp y ((h.mem y).1 hy) ((h1 y ht).trans ek)⟩
    ·have:w=x:=by simpa using hw.symm
     subst this
     have hle:=h.le
     refine ⟨fun y hy=>?_,fun y hy=>?_⟩
     ·rw [List.drop_append_of_le_length hle,List.mem_append,List.mem_singleton] at hy
      rcases hy with hy | rfl
      ·exact (h1 y hy).trans ek
      ·rfl
     ·rw [List.take_append_of_le_length hle] at hy
      exact ek ▸ h2 y hy
  ·have hlt:c (ky z) (ky x) < 0:=by omega
   simp only [ne_eq,h0,not_false_eq_true,if_true,List.drop_length,List.not_mem_nil,if_false]
   have hall:∀ y∈out,c (ky y) (ky x) < 0:=fun y hy=>by
    rcases mem_cut.1 hy with ht | ht
    ·exact hc.tr (h2 y ht) hlt
    ·rw [h1 y ht];exact hlt
   refine ⟨hsrt fun y hy=>.inl (hall y hy),hmem happ,by rw [List.length_append];omega,fun w hw=>?_⟩
   have:w=x:=by simpa using hw.symm
   subst this
   refine ⟨fun y hy=>?_,fun y hy=>?_⟩
   ·rw [List.drop_append_of_le_length (Nat.le_refl _),List.drop_length] at hy
    have:y=w:=by simpa using hy
    rw [this]
   ·rw [List.take_append_of_le_length (Nat.le_refl _),List.take_length] at hy
    exact hall y hy
theorem Dd.done {pre out:List χ}{first:Nat}(h:Dd c ky l pre out first) (hm:∀ z,z∈pre↔z∈l):IsCan c ky l out:=⟨h.srt,fun z=>(h.mem z).trans (hm z)⟩
theorem stable_next {T:List (χ × Nat)}{j:Nat}{x : χ}{t:Nat}(hc:CmpLin c) (hp:T.Perm l.zipIdx) (hs:Srt c (fun q=>ky q.1) (·.2) T) (hx:T[j]? = some (x,t)) :
  (∀ y∈(T.take j).map (·.1),c (ky y) (ky x)≤0)∧(x∉(T.take j).map (·.1)→∀ y∈(T.take j).map (·.1),ky y=ky x→l.idxOf y < l.idxOf x):=by
 have at':∀ {q : χ × Nat},q∈T.take j→Ahead c (fun q=>ky q.1) (·.2) q (x,t):=fun hq=>by
  obtain ⟨s,h1,h2⟩:=mem_take.1 hq
  exact pw_at hs h2 hx h1
 refine ⟨fun y hy=>?_,fun hn y hy e=>?_⟩
 ·obtain ⟨q,hq,rfl⟩:=List.mem_map.1 hy
  rcases at' hq with h | ⟨h,_⟩
  ·exact Int.le_of_lt h
  ·have h:ky q.1=ky x:=h
   rw [h,hc.eq.2 rfl];decide
 ·have hxt:(x,t)∈l.zipIdx:=hp.subset (List.mem_of_getElem? hx)
  have hlx:l[t]? = some x:=List.mk_mem_zipIdx_iff_getElem?.1 hxt
  have htl:=(List.getElem?_eq_some_iff.1 hlx).1
  have hxl:x∈l:=List.mem_of_getElem? hlx
  -- the first meeting of x is its place here
  have hi:l.idxOf x=t:=by
   have h1:l.idxOf x < l.length:=List.idxOf_lt_length_of_mem hxl
   have h2:l[l.idxOf x]? = some x:=by rw [List.getElem?_eq_getElem h1,List.getElem_idxOf h1]
   have hle:l.idxOf x≤t:=by
    rcases Nat.lt_or_ge t (l.idxOf x) with h | h
    ·exfalso
     have:=List.not_of_lt_findIdx (p:=fun y=>y == x) (xs:=l) (i:=t) h
     obtain ⟨_,e⟩:=List.getElem?_eq_some_iff.1 hlx
     rw [e] at this
     simp at this
    ·exact h
   rcases Nat.lt_or_eq_of_le hle with h | h
   ·exfalso
    have hm:(x,l.idxOf x)∈T:=hp.symm.subset (List.mk_mem_zipIdx_iff_getElem?.2 h2)
    obtain ⟨s,hs'⟩:=List.mem_iff_getElem?.1 hm
    rcases Nat.lt_trichotomy s j with h3 | h3 | h3
    ·exact hn (List.mem_map.2 ⟨_,mem_take.2 ⟨s,h3,hs'⟩,rfl⟩)
    ·subst h3
     rw [hx] at hs'
     have:=congrArg Prod.snd (Option.some_inj.1 hs')
     simp only at this
     omega
    ·rcases pw_at hs hx hs' h3 with h4 | ⟨_,h4⟩
     ·have h4:c (ky x) (ky x) < 0:=h4
      rw [hc.eq.2 rfl] at h4;omega
     ·have h4:t < l.idxOf x:=h4
      omega
   ·exact h
  obtain ⟨q,hq,rfl⟩:=List.mem_map.1 hy
  rcases at' hq with h | ⟨_,h⟩
  ·have h:c (ky q.1) (ky x) < 0:=h
   rw [e,hc.eq.2 rfl] at h;omega
  ·have h:q.2 < t:=h
   have hq':l[q.2]? = some q.1:=List.mk_mem_zipIdx_iff_getElem?.1 (hp.subset (List.mem_of_mem_take hq))
   have:l.idxOf q.1≤q.2:=by
    rcases Nat.lt_or_ge q.2 (l.idxOf q.1) with h5 | h5
    ·exfalso
     have:=List.not_of_lt_findIdx (p:=fun y=>y == q.1) (xs:=l) (i:=q.2) h5
     obtain ⟨_,e⟩:=List.getElem?_eq_some_iff.1 hq'
     rw [e] at this
     simp at this
    ·exact h5
   omega
end
def nilS:SysD:=⟨[],[],[]⟩
def catS (l:List SysD):SysD:=⟨l.flatMap (·.objs),l.flatMap (·.fns),l.flatMap (·.cons)⟩
structure IsCanS (s t:SysD):Prop where
 o:IsCan cmpL ObjD.name s.objs t.objs
 f:IsCan cmpL FnD.name s.fns t.fns
 c:IsCan cmpC (fun x=>x) s.cons t.cons
theorem IsCanS.uniq {s a b:SysD}(h1:IsCanS s a) (h2:IsCanS s b):a=b:=by
 have e1:=h1.o.uniq linCL h2.o
 have e2:=h1.f.uniq linCL h2.f
 have e3:=h1.c.uniq linC h2.c
 cases a;cases b
 simp only at e1 e2 e3
 rw [e1,e2,e3]
def once (t:SysD):Prop:=t.objs.Pairwise (fun x y=>cmpO x y < 0)∧t.fns.Pairwise (fun x y=>cmpF x y < 0)
structure OkPart (s:SysD):Prop where
 o:∀ o∈s.objs,objE o=0
 f:∀ f∈s.fns,fnE f=0
 c:∀ c∈s.cons,conE c=0
def bigS (s:SysD):Prop:=s.objs.length > 600∨s.fns.length > 600∨s.cons.length > 6000
instance (s:SysD):Decidable (bigS s):=by unfold bigS;infer_instance
theorem eachE_cons {α : Type}{ask : α→Int}{cmp : α→α→Int}{p:Option α}{x : α}{l:List α}:eachE ask cmp p (x::l)=if ask x≠0 then ask x else if (match p with | some q=>decide (cmp q x≥0) | none=>false) then 13 else eachE ask cmp (some x) l:=rfl
theorem each_rise {α : Type}{ask : α→Int}{cmp : α→α→Int}(tr:∀ x y z,cmp x y < 0→cmp y z < 0→cmp x z < 0):∀ {l:List α}{p:Option α},eachE ask cmp p l=0↔(∀ x∈l,ask x=0)∧(p.toList++l).Pairwise (fun x y=>cmp x y < 0)
 | [],none=>by simp [eachE]
 | [],some q=>by simp [eachE]
 | x::l,none=>by
  rw [eachE_cons]
  by_cases h:ask x=0
  ·rw [if_neg (fun h'=>h' h),if_neg (show ¬ (false=true) by decide),each_rise tr]
   simp [h]
  ·rw [if_pos h]
   simp [h]
 | x::l,some q=>by
  rw [eachE_cons]
  by_cases h:ask x=0
  ·rw [if_neg (fun h'=>h' h)]
   by_cases h2:cmp q x≥0
   ·rw [if_pos (decide_eq_true h2)]
    simp only [Option.toList_some,List.cons_append,List.nil_append,List.pairwise_cons]
    constructor
    ·intro e;cases e
    ·rintro ⟨_,e,_⟩
     have:=e x List.mem_cons_self
     omega
   ·rw [if_neg (fun h3=>h2 (of_decide_eq_true h3)),each_rise tr]
    simp only [Option.toList_some,List.cons_append,List.nil_append,List.pairwise_cons,List.forall_mem_cons]
    exact ⟨fun ⟨a,b,d⟩=>⟨⟨h,a⟩,⟨by omega,fun y hy=>tr _ _ _ (by omega) (b y hy)⟩,b,d⟩,fun ⟨⟨_,a⟩,_,b,d⟩=>⟨a,b,d⟩⟩
  ·rw [if_pos h]
   simp [h]
theorem trO (x y z:ObjD):cmpO x y < 0→cmpO y z < 0→cmpO x z < 0:=linCL.tr
theorem trF (x y z:FnD):cmpF x y < 0→cmpF y z < 0→cmpF x z < 0:=linCL.tr
theorem trC (x y z:ConD):cmpC x y < 0→cmpC y z < 0→cmpC x z < 0:=linC.tr
theorem checkE_0 {s:SysD}:checkE s=0↔¬ bigS s∧OkPart s∧once s∧s.cons.Pairwise (fun x y=>cmpC x y < 0):=by
 unfold checkE
 by_cases h0:s.objs.length > 600∨s.fns.length > 600∨s.cons.length > 6000
 ·rw [if_pos h0]
  exact ⟨fun h=>(by cases h),fun h=>absurd h0 h.1⟩
 ·rw [if_neg h0]
  by_cases h1:eachE objE cmpO none s.objs=0
  ·rw [if_neg (fun h=>h h1)]
   by_cases h2:eachE fnE cmpF none s.fns=0
   ·rw [if_neg (fun h=>h h2)]
    have r1:=(each_rise trO).1 h1
    have r2:=(each_rise trF).1 h2
    rw [each_rise trC]
    exact ⟨fun h=>⟨h0,⟨r1.1,r2.1,h.1⟩,⟨r1.2,r2.2⟩,h.2⟩,fun h=>⟨h.2.1.c,h.2.2.2⟩⟩
   ·rw [if_pos h2]
    exact ⟨fun h=>absurd h h2,fun h=>absurd ((each_rise trF (p:=none)).2 ⟨h.2.1.f,h.2.2.1.2⟩) h2⟩
  ·rw [if_pos h1]
   exact ⟨fun h=>absurd h h1,fun h=>absurd ((each_rise trO (p:=none)).2 ⟨h.2.1.o,h.2.2.1.1⟩) h1⟩
theorem oneK_c (l:List ConD):OneK (fun x:ConD=>x) l:=fun _ _ _ _ e=>e
theorem can_part {s t:SysD}(h:IsCanS s t) (hp:OkPart s):OkPart t:=⟨fun o ho=>hp.o o ((h.o.mem o).1 ho),fun o ho=>hp.f o ((h.f.mem o).1 ho),fun o ho=>hp.c o ((h.c.mem o).1 ho)⟩
theorem can_check {s t:SysD}(h:IsCanS s t) (hp:OkPart s):checkE t=0↔once t∧¬ bigS t:=by
 rw [checkE_0]
 exact ⟨fun h'=>⟨h'.2.2.1,h'.1⟩,fun h'=>⟨h'.2,can_part h hp,h'.1,h.c.rising linC (oneK_c _)⟩⟩
theorem once_oneK {χ : Type}{ky : χ→L8}{l:List χ}(h:l.Pairwise fun x y=>cmpL (ky x) (ky y) < 0):OneK ky l:=by
 intro x hx y hy e
 obtain ⟨i,hi⟩:=List.mem_iff_getElem?.1 hx
 obtain ⟨j,hj⟩:=List.mem_iff_getElem?.1 hy
 rcases Nat.lt_trichotomy i j with h1 | h1 | h1
 ·have:=pw_at h hi hj h1
  rw [e,linCL.eq.2 rfl] at this;omega
 ·subst h1
  rw [hi] at hj
  exact Option.some_inj.1 hj
 ·have:=pw_at h hj hi h1
  rw [e,linCL.eq.2 rfl] at this;omega
def firstE:List Int→Int
 | []=>0
 | x::l=>if x≠0 then x else firstE l
theorem firstE_0 {l:List Int}:firstE l=0↔∀ x∈l,x=0:=by
 induction l with
 | nil=>simp [firstE]
 | cons x l ih=>
  rw [firstE]
  by_cases h:x=0
  ·rw [if_neg (fun h'=>h' h),ih];simp [h]
  ·rw [if_pos h];simp [h]
def UniR (l:List SysD) (r:SysD) (e:Int):Prop:=
 (firstE (l.map checkE)≠0∧e=firstE (l.map checkE)∧r=nilS) ∨
 (firstE (l.map checkE)=0∧∃ t,IsCanS (catS l) t∧((¬ once t∧e=8∧r=nilS)∨(once t∧bigS t∧e=4∧r=nilS)∨(once t∧¬ bigS t∧e=0∧r=t)))
theorem UniR.zero {l:List SysD}{r:SysD}(h:UniR l r 0):(∀ s∈l,checkE s=0)∧IsCanS (catS l) r∧once r∧¬ bigS r:=by
 rcases h with ⟨a,b,d⟩ | ⟨a,t,ht,h⟩
 ·exact absurd b.symm a
 ·rcases h with ⟨o,h1,h2⟩ | ⟨o,o2,h1,h2⟩ | ⟨o,o2,h1,h2⟩
  ·cases h1
  ·cases h1
  ·subst h2
   exact ⟨fun s hs=>firstE_0.1 a _ (List.mem_map_of_mem hs),ht,o,o2⟩
theorem cat_part {l:List SysD}(h:∀ s∈l,checkE s=0):OkPart (catS l):=by
 refine ⟨fun o ho=>?_,fun o ho=>?_,fun o ho=>?_⟩
 ·obtain ⟨s,hs,ho⟩:=List.mem_flatMap.1 ho
  exact (checkE_0.1 (h s hs)).2.1.o o ho
 ·obtain ⟨s,hs,ho⟩:=List.mem_flatMap.1 ho
  exact (checkE_0.1 (h s hs)).2.1.f o ho
 ·obtain ⟨s,hs,ho⟩:=List.mem_flatMap.1 ho
  exact (checkE_0.1 (h s hs)).2.1.c o ho
structure SubS (a b:SysD):Prop where
 o:∀ z∈a.objs,z∈b.objs
 f:∀ z∈a.fns,z∈b.fns
 c:∀ z∈a.cons,z∈b.cons
theorem IsCanS.sub {s t:SysD}(h:IsCanS s t):SubS t s∧SubS s t:=⟨⟨fun z=>(h.o.mem z).1,fun z=>(h.f.mem z).1,fun z=>(h.c.mem z).1⟩,⟨fun z=>(h.o.mem z).2,fun z=>(h.f.mem z).2,fun z=>(h.c.mem z).2⟩⟩
theorem SubS.trans {a b d:SysD}(h1:SubS a b) (h2:SubS b d):SubS a d:=⟨fun z hz=>h2.o z (h1.o z hz),fun z hz=>h2.f z (h1.f z hz),fun z hz=>h2.c z (h1.c z hz)⟩
theorem oneK_sub {χ : Type}{ky : χ→L8}{a b:List χ}(h:∀ z∈a,z∈b) (hb:OneK ky b):OneK ky a:=fun x hx y hy e=>hb x (h x hx) y (h y hy) e
theorem UniR.less {l l':List SysD}{u v:SysD}{f:Int}(h:UniR l u 0) (hv:UniR l' v f) (hc:∀ s∈l',checkE s=0) (hs:SubS (catS l') u):f=0:=by
 obtain ⟨h1,h2,h3,h4⟩:=h.zero
 rcases hv with ⟨a,b,d⟩ | ⟨a,t,ht,hv⟩
 ·exact absurd (firstE_0.2 fun x hx=>by obtain ⟨s,hs',rfl⟩:=List.mem_map.1 hx;exact hc s hs') a
 have st:=ht.sub.1.trans hs
 have k1:OneK ObjD.name (catS l').objs:=oneK_sub hs.o (once_oneK h3.1)
 have k2:OneK FnD.name (catS l').fns:=oneK_sub hs.f (once_oneK h3.2)
 have ho:once t:=⟨IsCan.rising (c:=cmpL) linCL k1 ht.o,IsCan.rising (c:=cmpL) linCL k2 ht.f⟩
 have hb:¬ bigS t:=by
  have e1:=subset_len (ht.o.nodup linCL) st.o
  have e2:=subset_len (ht.f.nodup linCL) st.f
  have e3:=subset_len (ht.c.nodup linC) st.c
  unfold bigS at *
  omega
 rcases hv with ⟨o,h1,h2⟩ | ⟨o,o2,h1,h2⟩ | ⟨o,o2,h1,h2⟩
 ·exact absurd ho o
 ·exact absurd o2 hb
 ·exact h1
theorem UniR.alike {l l':List SysD}{u v:SysD}(h:UniR l u 0) (hv:UniR l' v 0) (h1:SubS (catS l) (catS l')) (h2:SubS (catS l') (catS l)):u=v:=by
 obtain ⟨a1,a2,a3,a4⟩:=h.zero
 obtain ⟨b1,b2,b3,b4⟩:=hv.zero
 have e1:=a2.o.swap linCL (oneK_sub a2.sub.2.o (once_oneK a3.1)) (fun z=>⟨h1.o z,h2.o z⟩) b2.o
 have e2:=a2.f.swap linCL (oneK_sub a2.sub.2.f (once_oneK a3.2)) (fun z=>⟨h1.f z,h2.f z⟩) b2.f
 have e3:=a2.c.swap linC (oneK_c _) (fun z=>⟨h1.c z,h2.c z⟩) b2.c
 cases u;cases v
 simp only at e1 e2 e3
 rw [e1,e2,e3]
theorem cat_sub {l:List SysD}{d:SysD}(h:∀ s∈l,SubS s d):SubS (catS l) d:=
 ⟨fun z hz=>by obtain ⟨s,hs,hz⟩:=List.mem_flatMap.1 hz;exact (h s hs).o z hz,fun z hz=>by obtain ⟨s,hs,hz⟩:=List.mem_flatMap.1 hz;exact (h s hs).f z hz,fun z hz=>by obtain ⟨s,hs,hz⟩:=List.mem_flatMap.1 hz;exact (h s hs).c z hz⟩
theorem in_cat {l:List SysD}{s:SysD}(h:s∈l):SubS s (catS l):=⟨fun z hz=>List.mem_flatMap.2 ⟨s,h,hz⟩,fun z hz=>List.mem_flatMap.2 ⟨s,h,hz⟩,fun z hz=>List.mem_flatMap.2 ⟨s,h,hz⟩⟩
end Go.Proofs.YtjdhjgfmloaglaaGreatDoor.P15
end
section
namespace Go.Proofs.YtjdhjgfmloaglaaGreatDoor.P23
open Go Go.V P14 C14 P15
def f0L (f:L8):L8:=ofL { (rd f).1 with kind:=2,n:=0 }
inductive Need (s:SysD) (keep:List L8):L8→Prop
 | keep {n:L8}:n∈keep→nodeB n=true→Need s keep n
 | stA {c:ConD}:c∈s.cons→c.op=4→nodeB c.a=true→Need s keep c.a
 | stB {c:ConD}:c∈s.cons→c.op=4→nodeB c.b=true→Need s keep c.b
 | callB {c:ConD}:c∈s.cons→c.op=6→nodeB c.b=true→Need s keep c.b
 | callA {c:ConD}{n:L8}:c∈s.cons→c.op=6→n∈c.args.tail→nodeB n=true→Need s keep n
 | feed {c:ConD}:Need s keep c.a→c∈s.cons→(c.op=2∨c.op=3∨c.op=5)→nodeB c.b=true→Need s keep c.b
 | load {c:ConD}{o:ObjD}{n:L8}:Need s keep c.a→c∈s.cons→c.op=3→o∈s.objs→n∈objN o→nodeB n=true→Need s keep n
 | ret {c:ConD}{m:L8}{f:FnD}:Need s keep m→c∈s.cons→c.op=6→c.args.head? = some m→f∈s.fns→nodeB (f0L f.name)=true→Need s keep (f0L f.name)
def nmO (t:L8):Option L8:=if (rd t).2≠0 then none else if (rd t).1.cell≥0 then some (objL t).1 else none
def nmF (t:L8):Option L8:=if (rd t).2≠0 then none else if (rd t).1.cell≥0 then none else if (rd t).1.kind=2 then some (ofL { (rd t).1 with kind:=4,n:=0 }) else if (rd t).1.kind=4 then some t else none
def Stays (s:SysD) (keep:List L8) (c:ConD):Prop:=c.op=4∨c.op=6∨Need s keep c.a
def Named (s:SysD) (keep:List L8) (x:L8):Prop:=(x∈keep∧nodeB x=true)∨∃ c∈s.cons,Stays s keep c∧(x=c.a∨x=c.b∨x∈c.args)
open Classical in
noncomputable def left (s:SysD) (keep:List L8):SysD:=
 ⟨s.objs.filter fun o=>decide (∃ x,Named s keep x∧nmO x=some o.name),s.fns.filter fun f=>decide (∃ x,Named s keep x∧nmF x=some f.name),s.cons.filter fun c=>decide (Stays s keep c)⟩
section
variable {s:SysD}{keep keep':List L8}{n x:L8}
theorem left_c {c:ConD}:c∈(left s keep).cons↔c∈s.cons∧Stays s keep c:=by
 unfold left
 rw [List.mem_filter,@decide_eq_true_eq _ (Classical.propDecidable _)]
theorem left_o {o:ObjD}:o∈(left s keep).objs↔o∈s.objs∧∃ x,Named s keep x∧nmO x=some o.name:=by
 unfold left
 rw [List.mem_filter,@decide_eq_true_eq _ (Classical.propDecidable _)]
theorem left_f {f:FnD}:f∈(left s keep).fns↔f∈s.fns∧∃ x,Named s keep x∧nmF x=some f.name:=by
 unfold left
 rw [List.mem_filter,@decide_eq_true_eq _ (Classical.propDecidable _)]
theorem Need.mono (hk:∀ z∈keep,z∈keep') (h:Need s keep n):Need s keep' n:=by
 induction h with
 | keep h1 h2=>exact .keep (hk _ h1) h2
 | stA h1 h2 h3=>exact .stA h1 h2 h3
 | stB h1 h2 h3=>exact .stB h1 h2 h3
 | callB h1 h2 h3=>exact .callB h1 h2 h3
 | callA h1 h2 h3 h4=>exact .callA h1 h2 h3 h4
 | feed _ h2 h3 h4 ih=>exact .feed ih h2 h3 h4
 | load _ h2 h3 h4 h5 h6 ih=>exact .load ih h2 h3 h4 h5 h6
 | ret _ h2 h3 h4 h5 h6 ih=>exact .ret ih h2 h3 h4 h5 h6
theorem Stays.mono (hk:∀ z∈keep,z∈keep') {c:ConD}(h:Stays s keep c):Stays s keep' c:=h.imp id fun h=>h.imp id fun h=>h.mono hk
theorem Named.mono (hk:∀ z∈keep,z∈keep') (h:Named s keep x):Named s keep' x:=
 h.imp (fun h=>⟨hk _ h.1,h.2⟩) fun ⟨c,h1,h2,h3⟩=>⟨c,h1,h2.mono hk,h3⟩
theorem left_mono (hk:∀ z∈keep,z∈keep'):SubS (left s keep) (left s keep'):=
 ⟨fun o ho=>by rw [left_o] at *;exact ⟨ho.1,ho.2.imp fun x hx=>⟨hx.1.mono hk,hx.2⟩⟩,fun o ho=>by rw [left_f] at *;exact ⟨ho.1,ho.2.imp fun x hx=>⟨hx.1.mono hk,hx.2⟩⟩,fun c hc=>by rw [left_c] at *;exact ⟨hc.1,hc.2.mono hk⟩⟩
theorem left_sub:SubS (left s keep) s:=⟨fun o ho=>(left_o.1 ho).1,fun o ho=>(left_f.1 ho).1,fun c hc=>(left_c.1 hc).1⟩
theorem rd_some {t:L8}(h:(rd t).2=0):∃ a,readN t=some a∧rd t=(a,0)∧RightP a∧textL a=t:=by
 unfold rd at *
 cases e:readN t with
 | none=>rw [e] at h;cases h
 | some a=>exact ⟨a,rfl,rfl,readN_iff.1 e⟩
theorem rd_text {a:Nd}(h:RightP a):rd (textL a)=(a,0):=by
 unfold rd
 rw [readN_iff.2 ⟨h,rfl⟩]
 rfl
theorem obj_cell {o:ObjD}{i:Nat}(ho:objE o=0) (hi:i < o.kinds.length):nmO (cellL o.name (i:Int))=some o.name:=by
 unfold objE at ho
 split at ho
 ·cases ho
 rename_i h1
 split at ho
 ·cases ho
 rename_i h2
 have hk:o.kinds.length≤64:=by
  have h3:kindsB o.kinds 64=true:=by
   cases e:kindsB o.kinds 64
   ·exact absurd (.inr e) h2
   ·rfl
  unfold kindsB at h3
  rw [Bool.and_eq_true,decide_eq_true_eq] at h3
  exact h3.2
 have h0:(rd o.name).2=0:=Classical.byContradiction fun h=>h1 (.inl h)
 obtain ⟨a,e1,e2,hr,ht⟩:=rd_some h0
 rw [e2] at h1
 have hk5:¬ a.kind < 5:=fun h=>h1 (.inr (.inl h))
 have hc:a.cell = -1:=by
  rcases hr.2.2 with h | h
  ·exact h
  ·exact absurd h.2.1 fun h=>h1 (.inr (.inr h))
 have hb:RightP { a with cell:=(i:Int) }:=by
  refine ⟨hr.1,hr.2.1,.inr ⟨?_,by show 0≤(i:Int);omega,by show (i:Int)≤268435456;omega⟩⟩
  rcases hr.2.1 with ⟨h,_⟩ | ⟨h,_⟩ | ⟨h,_⟩ <;> show a.kind=5∨a.kind=6∨a.kind=7 <;> omega
 have e3:cellL o.name (i:Int)=textL { a with cell:=(i:Int) }:=by
  unfold cellL
  rw [e1]
  show (if a.kind < 5∨a.cell ≠ -1∨(i:Int) < 0 then [] else ofL { a with cell:=(i:Int) })=_
  rw [if_neg (by omega)]
  unfold ofL
  rw [if_pos hb]
 unfold nmO
 rw [e3,rd_text hb]
 rw [if_neg (fun h=>h rfl),if_pos (show (i:Int)≥0 by omega)]
 unfold objL
 rw [readN_iff.2 ⟨hb,rfl⟩]
 show some (if (i:Int) = -1 then (([]:L8),(0:Int),false) else (textL { a with cell:=-1 },(i:Int),true)).1=_
 rw [if_neg (by omega)]
 have:({ a with cell:=-1 }:Nd)=a:=by cases a;simp only at hc;rw [hc]
 rw [this,ht]
theorem fn_ret {f:FnD}(hf:fnE f=0):nmF (f0L f.name)=some f.name:=by
 unfold fnE at hf
 split at hf
 ·cases hf
 rename_i h1
 have h0:(rd f.name).2=0:=Classical.byContradiction fun h=>h1 (.inl h)
 obtain ⟨a,e1,e2,hr,ht⟩:=rd_some h0
 rw [e2] at h1
 have hk:a.kind=4:=Classical.byContradiction fun h=>h1 (.inr h)
 have hn:a.name = []∧a.n=0:=by
  rcases hr.2.1 with ⟨h,_⟩ | ⟨h,_⟩ | ⟨_,h⟩
  ·omega
  ·omega
  ·exact h
 have hc:a.cell = -1:=by
  rcases hr.2.2 with h | ⟨h,_⟩
  ·exact h
  ·omega
 have hfn:=hr.1.resolve_left (fun h=>by have:=h.1;omega)
 have hb:RightP { a with kind:=2,n:=0 }:=⟨.inr ⟨by show (2:Int)≠5;decide,hfn.2⟩,.inr (.inl ⟨.inl rfl,hn.1,⟨by show (0:Int)≤0;decide,by show (0:Int)≤268435456;decide⟩,.inl rfl⟩),.inl hc⟩
 have e3:f0L f.name=textL { a with kind:=2,n:=0 }:=by
  unfold f0L ofL
  rw [e2,if_pos hb]
 unfold nmF
 rw [e3,rd_text hb]
 rw [if_neg (fun h=>h rfl),if_neg (show ¬ a.cell≥0 by omega),if_pos rfl]
 have:({ ({ a with kind:=2,n:=0 }:Nd) with kind:=4,n:=0 }:Nd)=a:=by
  obtain ⟨k,f',c,m,n,e⟩:=a
  simp only at hk hn hc
  rw [hk,hn.2]
 rw [this]
 unfold ofL
 rw [if_pos hr,ht]
theorem key (hp:OkPart s) (h:Need s keep n):Need (left s keep) keep n∨∀ c∈(left s keep).cons,c.a≠n∧n∉c.args:=by
 induction h with
 | keep h1 h2=>exact .inl (.keep h1 h2)
 | stA h1 h2 h3=>exact .inl (.stA (left_c.2 ⟨h1,.inl h2⟩) h2 h3)
 | stB h1 h2 h3=>exact .inl (.stB (left_c.2 ⟨h1,.inl h2⟩) h2 h3)
 | callB h1 h2 h3=>exact .inl (.callB (left_c.2 ⟨h1,.inr (.inl h2)⟩) h2 h3)
 | callA h1 h2 h3 h4=>exact .inl (.callA (left_c.2 ⟨h1,.inr (.inl h2)⟩) h2 h3 h4)
 | @feed c h1 h2 h3 h4 ih=>
  have hc:c∈(left s keep).cons:=left_c.2 ⟨h2,.inr (.inr h1)⟩
  rcases ih with ih | ih
  ·exact .inl (.feed ih hc h3 h4)
  ·exact absurd rfl (ih c hc).1
 | @load c o n h1 h2 h3 h4 h5 h6 ih=>
  have hc:c∈(left s keep).cons:=left_c.2 ⟨h2,.inr (.inr h1)⟩
  rcases ih with ih | ih
  ·by_cases ho:o∈(left s keep).objs
   ·exact .inl (.load ih hc h3 ho h5 h6)
   ·right
    have hno:nmO n=some o.name:=by
     unfold objN at h5
     obtain ⟨i,hi,hx⟩:=List.mem_flatMap.1 h5
     split at hx
     ·rw [List.mem_singleton.1 hx]
      exact obj_cell (hp.o o h4) (List.mem_range.1 hi)
     ·cases hx
    intro c' hc'
    obtain ⟨q1,q2⟩:=left_c.1 hc'
    exact ⟨fun e=>ho (left_o.2 ⟨h4,n,.inr ⟨c',q1,q2,.inl e.symm⟩,hno⟩),fun e=>ho (left_o.2 ⟨h4,n,.inr ⟨c',q1,q2,.inr (.inr e)⟩,hno⟩)⟩
  ·exact absurd rfl (ih c hc).1
 | @ret c m f h1 h2 h3 h4 h5 h6 ih=>
  have hc:c∈(left s keep).cons:=left_c.2 ⟨h2,.inr (.inl h3)⟩
  rcases ih with ih | ih
  ·by_cases ho:f∈(left s keep).fns
   ·exact .inl (.ret ih hc h3 h4 ho h6)
   ·right
    have hno:=fn_ret (hp.f f h5)
    intro c' hc'
    obtain ⟨q1,q2⟩:=left_c.1 hc'
    exact ⟨fun e=>ho (left_f.2 ⟨h5,_,.inr ⟨c',q1,q2,.inl e.symm⟩,hno⟩),fun e=>ho (left_f.2 ⟨h5,_,.inr ⟨c',q1,q2,.inr (.inr e)⟩,hno⟩)⟩
  ·exact absurd (List.mem_of_mem_head? h4) (ih c hc).2
theorem stays_again (hp:OkPart s) {c:ConD}(hc:c∈(left s keep).cons):Stays (left s keep) keep c:=by
 obtain ⟨h1,h2⟩:=left_c.1 hc
 rcases h2 with h2 | h2 | h2
 ·exact .inl h2
 ·exact .inr (.inl h2)
 ·rcases key hp h2 with h3 | h3
  ·exact .inr (.inr h3)
  ·exact absurd rfl (h3 c hc).1
theorem named_again (hp:OkPart s) (h:Named s keep x):Named (left s keep) keep x:=by
 rcases h with h | ⟨c,h1,h2,h3⟩
 ·exact .inl h
 ·have hc:c∈(left s keep).cons:=left_c.2 ⟨h1,h2⟩
  exact .inr ⟨c,hc,stays_again hp hc,h3⟩
theorem left_again (hp:OkPart s):left (left s keep) keep=left s keep:=by
 have e1:(left (left s keep) keep).objs=(left s keep).objs:=by
  conv=>lhs;unfold left
  refine List.filter_eq_self.2 fun o ho=>?_
  rw [@decide_eq_true_eq _ (Classical.propDecidable _)]
  obtain ⟨_,x,h1,h2⟩:=left_o.1 ho
  exact ⟨x,named_again hp h1,h2⟩
 have e2:(left (left s keep) keep).fns=(left s keep).fns:=by
  conv=>lhs;unfold left
  refine List.filter_eq_self.2 fun o ho=>?_
  rw [@decide_eq_true_eq _ (Classical.propDecidable _)]
  obtain ⟨_,x,h1,h2⟩:=left_f.1 ho
  exact ⟨x,named_again hp h1,h2⟩
 have e3:(left (left s keep) keep).cons=(left s keep).cons:=by
  conv=>lhs;unfold left
  refine List.filter_eq_self.2 fun c hc=>?_
  rw [@decide_eq_true_eq _ (Classical.propDecidable _)]
  exact stays_again hp hc
 cases h:left (left s keep) keep
 rw [h] at e1 e2 e3
 simp only at e1 e2 e3
 rw [e1,e2,e3]
theorem left_check (h:checkE s=0):checkE (left s keep)=0:=by
 obtain ⟨h1,h2,h3,h4⟩:=checkE_0.1 h
 refine checkE_0.2 ⟨?_,⟨fun o ho=>h2.o o (left_sub.o o ho),fun o ho=>h2.f o (left_sub.f o ho),fun o ho=>h2.c o (left_sub.c o ho)⟩,⟨h3.1.sublist List.filter_sublist,h3.2.sublist List.filter_sublist⟩,h4.sublist List.filter_sublist⟩
 have a:=List.length_filter_le (fun o:ObjD=>@decide _ (Classical.propDecidable (∃ x,Named s keep x∧nmO x=some o.name))) s.objs
 have b:=List.length_filter_le (fun o:FnD=>@decide _ (Classical.propDecidable (∃ x,Named s keep x∧nmF x=some o.name))) s.fns
 have c:=List.length_filter_le (fun o:ConD=>@decide _ (Classical.propDecidable (Stays s keep o))) s.cons
 have a':(left s keep).objs.length≤s.objs.length:=a
 have b':(left s keep).fns.length≤s.fns.length:=b
 have c':(left s keep).cons.length≤s.cons.length:=c
 unfold bigS at *
 omega
end
theorem can_self {b:SysD}(h:checkE b=0):IsCanS (catS [b]) b:=by
 obtain ⟨h1,h2,h3,h4⟩:=checkE_0.1 h
 exact ⟨IsCan.of_rising h3.1 (by simp [catS]),IsCan.of_rising h3.2 (by simp [catS]),IsCan.of_rising h4 (by simp [catS])⟩
theorem uni_self {b:SysD}(h:checkE b=0):UniR [b] b 0:=by
 obtain ⟨h1,h2,h3,h4⟩:=checkE_0.1 h
 exact .inr ⟨firstE_0.2 (by simp [h]),b,can_self h,.inr (.inr ⟨h3,h1,rfl,rfl⟩)⟩
theorem uni_part {a b v:SysD}{f:Int}(ha:checkE a=0) (hb:checkE b=0) (hs:SubS a b) (hv:UniR [a,b] v f):f=0∧v=b:=by
 have h:=uni_self hb
 have hsub:SubS (catS [a,b]) b:=cat_sub fun s hm=>by
  simp only [List.mem_cons,List.not_mem_nil,or_false] at hm
  rcases hm with rfl | rfl
  ·exact hs
  ·exact ⟨fun _ h=>h,fun _ h=>h,fun _ h=>h⟩
 have hf:f=0:=h.less hv (fun s hm=>by
  simp only [List.mem_cons,List.not_mem_nil,or_false] at hm
  rcases hm with rfl | rfl
  ·exact ha
  ·exact hb) hsub
 subst hf
 exact ⟨rfl,(h.alike hv (cat_sub fun s hm=>in_cat (by simp only [List.mem_cons,List.not_mem_nil,or_false] at hm ⊢;exact .inr hm)) (hsub.trans (in_cat (by simp)))).symm⟩
end Go.Proofs.YtjdhjgfmloaglaaGreatDoor.P23
end
section
namespace Go.Proofs.YtjdhjgfmloaglaaGreatDoor.P23
open Go Go.V P14 C14 P15
def putN (T:List L8) (n:L8):List L8:=if nodeB n=true∧n∉T then T ++ [n] else T
def putAll (T l:List L8):List L8:=l.foldl putN T
theorem putAll_app (T l m:List L8):putAll T (l++m)=putAll (putAll T l) m:=List.foldl_append
theorem putAll_nil (T:List L8):putAll T []=T:=rfl
theorem putAll_cons (T l:List L8) (n:L8):putAll T (n::l)=putAll (putN T n) l:=rfl
theorem putN_mem {T:List L8}{n z:L8}:z∈putN T n↔z∈T∨(z=n∧nodeB n=true):=by
 unfold putN
 split
 ·rename_i h
  rw [List.mem_append,List.mem_singleton]
  exact ⟨fun h'=>h'.imp id fun e=>⟨e,h.1⟩,fun h'=>h'.imp id fun e=>e.1⟩
 ·rename_i h
  refine ⟨.inl,fun h'=>h'.elim id fun ⟨e,hn⟩=>?_⟩
  subst e
  exact Classical.byContradiction fun hz=>h ⟨hn,hz⟩
theorem putAll_mem:∀ {l T:List L8}{z:L8},z∈putAll T l↔z∈T∨(z∈l∧nodeB z=true)
 | [],T,z=>by simp [putAll_nil]
 | n::l,T,z=>by
  rw [putAll_cons,putAll_mem,putN_mem,List.mem_cons]
  constructor
  ·rintro ((h | ⟨rfl,h⟩) | ⟨h,h2⟩)
   ·exact .inl h
   ·exact .inr ⟨.inl rfl,h⟩
   ·exact .inr ⟨.inr h,h2⟩
  ·rintro (h | ⟨rfl | h,h2⟩)
   ·exact .inl (.inl h)
   ·exact .inl (.inr ⟨rfl,h2⟩)
   ·exact .inr ⟨h,h2⟩
theorem putN_pre (T:List L8) (n:L8):∃ w,putN T n=T++w:=by
 unfold putN
 split
 ·exact ⟨_,rfl⟩
 ·exact ⟨[],by simp⟩
theorem putAll_pre:∀ (l T:List L8),∃ w,putAll T l=T++w
 | [],T=>⟨[],by simp [putAll_nil]⟩
 | n::l,T=>by
  obtain ⟨w,h⟩:=putN_pre T n
  obtain ⟨v,h2⟩:=putAll_pre l (putN T n)
  exact ⟨w++v,by rw [putAll_cons,h2,h,List.append_assoc]⟩
theorem putN_nodup {T:List L8}{n:L8}(h:T.Nodup):(putN T n).Nodup:=by
 unfold putN
 split
 ·rename_i hn
  rw [List.nodup_append]
  exact ⟨h,by simp,fun a ha b hb e=>hn.2 (by rw [← List.mem_singleton.1 hb,← e];exact ha)⟩
 ·exact h
theorem putAll_nodup:∀ {l T:List L8},T.Nodup→(putAll T l).Nodup
 | [],T,h=>h
 | n::l,T,h=>by rw [putAll_cons];exact putAll_nodup (putN_nodup h)
def seedC (c:ConD):List L8:=if c.op=4 then [c.a,c.b] else if c.op=6 then c.b::c.args.tail else []
def seeds (s:SysD) (keep:List L8):List L8:=keep++s.cons.flatMap seedC
def feedsB (n:L8) (c:ConD):Bool:=decide ((c.op=2∨c.op=3∨c.op=5)∧c.a=n∨c.op=6∧c.args.head? = some n)
def outC (s:SysD) (c:ConD):List L8:=if c.op=6 then s.fns.map fun f=>f0L f.name else if c.op=3 then s.objs.flatMap objN ++ [c.b] else [c.b]
def outs (s:SysD) (n:L8):List L8:=(s.cons.filter (feedsB n)).flatMap (outC s)
def univ (s:SysD) (keep:List L8):List L8:=seeds s keep++(s.cons.map (·.b)++(s.objs.flatMap objN++s.fns.map fun f=>f0L f.name))
section
variable {s:SysD}{keep T:List L8}{n m:L8}{d:Nat}
theorem seed_need (h:n∈seeds s keep) (hn:nodeB n=true):Need s keep n:=by
 unfold seeds at h
 rcases List.mem_append.1 h with h | h
 ·exact .keep h hn
 ·obtain ⟨c,hc,h⟩:=List.mem_flatMap.1 h
  unfold seedC at h
  split at h
  ·rename_i h4
   simp only [List.mem_cons,List.not_mem_nil,or_false] at h
   rcases h with rfl | rfl
   ·exact .stA hc h4 hn
   ·exact .stB hc h4 hn
  ·split at h
   ·rename_i h6
    rcases List.mem_cons.1 h with rfl | h
    ·exact .callB hc h6 hn
    ·exact .callA hc h6 h hn
   ·cases h
theorem out_need (hm:Need s keep m) (h:n∈outs s m) (hn:nodeB n=true):Need s keep n:=by
 obtain ⟨c,hc,hx⟩:=List.mem_flatMap.1 h
 rw [List.mem_filter] at hc
 obtain ⟨hc,hf⟩:=hc
 have hg:=of_decide_eq_true hf
 unfold outC at hx
 split at hx
 ·rename_i h6
  rcases hg with ⟨hg,_⟩ | ⟨_,hg⟩
  ·omega
  ·obtain ⟨f,hf',rfl⟩:=List.mem_map.1 hx
   exact .ret hm hc h6 hg hf' hn
 ·rename_i h6
  rcases hg with ⟨hg,rfl⟩ | ⟨hg,_⟩
  ·split at hx
   ·rename_i h3
    rcases List.mem_append.1 hx with hx | hx
    ·obtain ⟨o,ho,hy⟩:=List.mem_flatMap.1 hx
     exact .load hm hc h3 ho hy hn
    ·rw [List.mem_singleton.1 hx] at hn ⊢
     exact .feed hm hc hg hn
   ·rw [List.mem_singleton.1 hx] at hn ⊢
    exact .feed hm hc hg hn
  ·exact absurd hg h6
theorem out_univ (h:n∈outs s m):n∈univ s keep:=by
 obtain ⟨c,hc,h⟩:=List.mem_flatMap.1 h
 rw [List.mem_filter] at hc
 have hb:c.b∈s.cons.map (·.b):=List.mem_map_of_mem hc.1
 unfold univ
 rw [List.mem_append,List.mem_append,List.mem_append]
 unfold outC at h
 split at h
 ·exact .inr (.inr (.inr h))
 ·split at h
  ·rcases List.mem_append.1 h with h | h
   ·exact .inr (.inr (.inl h))
   ·rw [List.mem_singleton.1 h];exact .inr (.inl hb)
  ·rw [List.mem_singleton.1 h];exact .inr (.inl hb)
structure Run (s:SysD) (keep T:List L8) (d:Nat):Prop where
 nd:T.Nodup
 need:∀ n∈T,Need s keep n
 sd:∀ n∈seeds s keep,nodeB n=true→n∈T
 done:∀ (i:Nat) m,i < d→T[i]? = some m→∀ n∈outs s m,nodeB n=true→n∈T
 sub:∀ n∈T,n∈univ s keep
 le:d≤T.length
theorem Run.start:Run s keep (putAll [] (seeds s keep)) 0:=by
 refine ⟨putAll_nodup List.nodup_nil,fun n h=>?_,fun n h hn=>putAll_mem.2 (.inr ⟨h,hn⟩),by intro i m h;omega,fun n h=>?_,Nat.zero_le _⟩
 ·rcases putAll_mem.1 h with h | h
  ·cases h
  ·exact seed_need h.1 h.2
 ·rcases putAll_mem.1 h with h | h
  ·cases h
  ·exact List.mem_append.2 (.inl h.1)
theorem Run.step (h:Run s keep T d) (hm:T[d]? = some m):Run s keep (putAll T (outs s m)) (d+1):=by
 obtain ⟨w,hw⟩:=putAll_pre (outs s m) T
 have hd:=(List.getElem?_eq_some_iff.1 hm).1
 refine ⟨putAll_nodup h.nd,fun n hn=>?_,fun n hn hb=>putAll_mem.2 (.inl (h.sd n hn hb)),fun i m' hi hm' n hn hb=>?_,fun n hn=>?_,by rw [hw,List.length_append];omega⟩
 ·rcases putAll_mem.1 hn with hn | hn
  ·exact h.need n hn
  ·exact out_need (h.need m (List.mem_of_getElem? hm)) hn.1 hn.2
 ·rw [hw,List.getElem?_append_left (by omega)] at hm'
  by_cases hid:i < d
  ·exact putAll_mem.2 (.inl (h.done i m' hid hm' n hn hb))
  ·have:i=d:=by omega
   subst this
   rw [hm] at hm'
   rw [← Option.some_inj.1 hm'] at hn
   exact putAll_mem.2 (.inr ⟨hn,hb⟩)
 ·rcases putAll_mem.1 hn with hn | hn
  ·exact h.sub n hn
  ·exact out_univ hn.1
theorem Run.len (h:Run s keep T d):T.length≤(univ s keep).length:=subset_len h.nd h.sub
theorem Run.end (h:Run s keep T d) (hd:T.length≤d):∀ n,n∈T↔Need s keep n:=by
 intro n
 refine ⟨h.need n,fun hn=>?_⟩
 have cl:∀ m∈T,∀ n∈outs s m,nodeB n=true→n∈T:=fun m hm=>by
  obtain ⟨i,hi⟩:=List.mem_iff_getElem?.1 hm
  exact h.done i m (by have:=(List.getElem?_eq_some_iff.1 hi).1;omega) hi
 have sdc:∀ {c:ConD}{z:L8},c∈s.cons→z∈seedC c→nodeB z=true→z∈T:=fun hc hz hb=>h.sd _ (List.mem_append.2 (.inr (List.mem_flatMap.2 ⟨_,hc,hz⟩))) hb
 have outc:∀ {c:ConD}{m z:L8},m∈T→c∈s.cons→feedsB m c=true→z∈outC s c→nodeB z=true→z∈T:=fun hm hc hf hz hb=>cl _ hm _ (List.mem_flatMap.2 ⟨_,List.mem_filter.2 ⟨hc,hf⟩,hz⟩) hb
 induction hn with
 | keep h1 h2=>exact h.sd _ (List.mem_append.2 (.inl h1)) h2
 | stA h1 h2 h3=>exact sdc h1 (by unfold seedC;rw [if_pos h2];simp) h3
 | stB h1 h2 h3=>exact sdc h1 (by unfold seedC;rw [if_pos h2];simp) h3
 | callB h1 h2 h3=>exact sdc h1 (by unfold seedC;rw [if_neg (by omega),if_pos h2];simp) h3
 | callA h1 h2 h3 h4=>exact sdc h1 (by unfold seedC;rw [if_neg (by omega),if_pos h2];exact List.mem_cons_of_mem _ h3) h4
 | @feed c h1 h2 h3 h4 ih=>
  refine outc ih h2 (decide_eq_true (.inl ⟨h3,rfl⟩)) ?_ h4
  unfold outC
  rw [if_neg (by omega)]
  split <;> simp
 | @load c o n h1 h2 h3 h4 h5 h6 ih=>
  refine outc ih h2 (decide_eq_true (.inl ⟨.inr (.inl h3),rfl⟩)) ?_ h6
  unfold outC
  rw [if_neg (by omega),if_pos h3]
  exact List.mem_append.2 (.inl (List.mem_flatMap.2 ⟨o,h4,h5⟩))
 | @ret c m f h1 h2 h3 h4 h5 h6 ih=>
  refine outc ih h2 (decide_eq_true (.inr ⟨h3,h4⟩)) ?_ h6
  unfold outC
  rw [if_pos h3]
  exact List.mem_map.2 ⟨f,h5,rfl⟩
end
end Go.Proofs.YtjdhjgfmloaglaaGreatDoor.P23
end
section
namespace Go.Proofs.YtjdhjgfmloaglaaGreatDoor.P23
open Go Go.V P14 C14 P15
abbrev fp:L8:=[102,46,112]
abbrev fq:L8:=[102,46,113]
abbrev x0:L8:=[120,43,48]
abbrev y0:L8:=[121,43,48]
def wP:SysD:=⟨[⟨[120],[112],[]⟩,⟨[121],[112],[]⟩],[],[⟨1,fp,x0,0,[],[]⟩,⟨1,fq,y0,0,[],[]⟩]⟩
theorem w_check:checkE wP=0:=by kernel_rfl
theorem w_node:nodeB fq=true:=by kernel_rfl
theorem w_op {c:ConD}(h:c∈wP.cons):c.op=1:=by
 unfold wP at h
 simp only [List.mem_cons,List.not_mem_nil,or_false] at h
 rcases h with rfl | rfl <;> rfl
theorem w_need {n:L8}:Need wP [fq] n↔n=fq:=by
 constructor
 ·intro h
  induction h with
  | keep h1 h2=>exact List.mem_singleton.1 h1
  | stA h1 h2 h3=>have:=w_op h1;omega
  | stB h1 h2 h3=>have:=w_op h1;omega
  | callB h1 h2 h3=>have:=w_op h1;omega
  | callA h1 h2 h3 h4=>have:=w_op h1;omega
  | feed h1 h2 h3 h4 ih=>have:=w_op h2;omega
  | load h1 h2 h3 h4 h5 h6 ih=>have:=w_op h2;omega
  | ret h1 h2 h3 h4 h5 h6 ih=>have:=w_op h2;omega
 ·rintro rfl
  exact .keep (List.mem_singleton.2 rfl) w_node
theorem w_stays {c:ConD}(h:c∈wP.cons):Stays wP [fq] c↔c.a=fq:=by
 unfold Stays
 rw [w_need]
 have:=w_op h
 exact ⟨fun h=>by rcases h with h | h | h <;> first | omega | exact h,fun h=>.inr (.inr h)⟩
theorem w_o1:nmO fq=none:=by kernel_rfl
theorem w_o2:nmO y0=some [121]:=by kernel_rfl
theorem w_named {x:L8}(h:Named wP [fq] x):x=fq∨x=y0:=by
 rcases h with ⟨h,_⟩ | ⟨c,h1,h2,h3⟩
 ·exact .inl (List.mem_singleton.1 h)
 ·have ha:=(w_stays h1).1 h2
  unfold wP at h1
  simp only [List.mem_cons,List.not_mem_nil,or_false] at h1
  rcases h1 with rfl | rfl
  ·exact absurd ha (by decide)
  ·rcases h3 with h3 | h3 | h3
   ·exact .inl h3
   ·exact .inr h3
   ·cases h3
theorem w_left:left wP [fq]=⟨[⟨[121],[112],[]⟩],[],[⟨1,fq,y0,0,[],[]⟩]⟩:=by
 have hc2:(⟨1,fq,y0,0,[],[]⟩:ConD)∈wP.cons:=by unfold wP;simp
 have hc1:(⟨1,fp,x0,0,[],[]⟩:ConD)∈wP.cons:=by unfold wP;simp
 have ec:(left wP [fq]).cons = [⟨1,fq,y0,0,[],[]⟩]:=by
  have e0:(left wP [fq]).cons=([⟨1,fp,x0,0,[],[]⟩,⟨1,fq,y0,0,[],[]⟩]:List ConD).filter fun c=>@decide (Stays wP [fq] c) (Classical.propDecidable _):=rfl
  rw [e0,List.filter_cons_of_neg,List.filter_cons_of_pos,List.filter_nil]
  ·exact @decide_eq_true _ (Classical.propDecidable _) ((w_stays hc2).2 rfl)
  ·intro h
   have:=(w_stays hc1).1 (@of_decide_eq_true _ (Classical.propDecidable _) h)
   exact absurd this (by decide)
 have eo:(left wP [fq]).objs = [⟨[121],[112],[]⟩]:=by
  have e0:(left wP [fq]).objs=([⟨[120],[112],[]⟩,⟨[121],[112],[]⟩]:List ObjD).filter fun o=>@decide (∃ x,Named wP [fq] x∧nmO x=some o.name) (Classical.propDecidable _):=rfl
  rw [e0,List.filter_cons_of_neg,List.filter_cons_of_pos,List.filter_nil]
  ·exact @decide_eq_true _ (Classical.propDecidable _) ⟨y0,.inr ⟨_,hc2,(w_stays hc2).2 rfl,.inr (.inl rfl)⟩,w_o2⟩
  ·intro h
   obtain ⟨x,h1,h2⟩:=@of_decide_eq_true _ (Classical.propDecidable _) h
   rcases w_named h1 with rfl | rfl
   ·rw [w_o1] at h2;cases h2
   ·rw [w_o2] at h2;exact absurd h2 (by decide)
 cases h:left wP [fq]
 have ef:(left wP [fq]).fns = []:=rfl
 rw [h] at ec eo ef
 simp only at ec eo ef
 rw [ec,eo,ef]
theorem name16 {l:List UInt8}(h:Go.Proofs.YtjdhjgfmloaglaaGreatDoor.C01.nameL l=true):l.length≤16:=by
 unfold Go.Proofs.YtjdhjgfmloaglaaGreatDoor.C01.nameL at h
 rw [Bool.and_eq_true,Bool.and_eq_true,decide_eq_true_eq] at h
 exact h.2.1
theorem text_short {a:Nd}(h:RightP a):(textL a).length≤60:=by
 have hc:∀ {x:Int},Cnt x→(dec x).length≤9:=fun h=>dec_len5 h
 have h1:(copyP a.copy).length≤10:=by
  unfold copyP
  split
  ·rw [List.length_cons]
   rcases h.1 with ⟨_,_,h⟩ | ⟨_,_,h⟩
   ·omega
   ·have:=hc h;omega
  ·simp
 have h2:(cellP a.cell).length≤10:=by
  unfold cellP
  split
  ·simp
  ·rename_i hne
   rcases h.2.2 with h | ⟨_,h⟩
   ·exact absurd h hne
   ·have:=hc h
    rw [List.length_cons]
    omega
 have h3:(tailP a).length≤16:=by
  unfold tailP
  split
  ·rename_i hk
   rcases h.2.1 with ⟨_,h,_⟩ | ⟨hk2,_⟩ | ⟨hk2,_⟩
   ·exact name16 h
   ·omega
   ·omega
  ·split
   ·simp
   ·rename_i hk hk4
    rcases h.2.1 with ⟨hk2,_,h⟩ | ⟨_,_,h,_⟩ | ⟨hk2,_⟩
    ·rw [h]
     have:=hc (show Cnt 0 from ⟨by decide,by decide⟩)
     omega
    ·have:=hc h;omega
    ·omega
 have h4:(bodyP a).length≤43:=by
  unfold bodyP
  split
  ·rename_i hk
   rcases h.2.1 with ⟨_,h,_⟩ | ⟨hk2,_⟩ | ⟨hk2,_⟩
   ·have:=name16 h;omega
   ·omega
   ·omega
  ·rename_i hk
   rcases h.1 with ⟨hk2,_⟩ | ⟨_,h,_⟩
   ·exact absurd hk2 hk
   ·have:=name16 h
    rw [List.length_append,List.length_append,List.length_cons]
    omega
 unfold textL
 rw [List.length_append]
 omega
theorem of_short (a:Nd):(ofL a).length≤60:=by
 unfold ofL
 split
 ·rename_i h
  exact text_short h
 ·simp
theorem cell_short (l:L8) (k:Int):(cellL l k).length≤60:=by
 unfold cellL
 split
 ·split
  ·simp
  ·exact of_short _
 ·simp
theorem f0_short (l:L8):(f0L l).length≤60:=of_short _
end Go.Proofs.YtjdhjgfmloaglaaGreatDoor.P23
end
section
namespace Go.V
attribute [local irreducible] Cvt ExtF CallF hrun
section
variable {σ τ : Type}{fl : τ→List Value}{f : σ→τ}{sz:Nat}{H:Hp}{s:Sl}{L:List σ}
theorem Rd.map (h:Rd fl sz H s (L.map f)):Rd (fun x=>fl (f x)) sz H s L:=
 ⟨by rw [h.len,List.length_map],h.le,fun i x k v hx hv=>h.el i (f x) k v (by rw [List.getElem?_map,hx];rfl) hv⟩
theorem Rd.unmap (h:Rd (fun x=>fl (f x)) sz H s L):Rd fl sz H s (L.map f):=by
 refine ⟨by rw [h.len,List.length_map],h.le,fun i x k v hx hv=>?_⟩
 rw [List.getElem?_map] at hx
 cases hL:L[i]? with
 | none=>rw [hL] at hx;cases hx
 | some y=>
  rw [hL] at hx
  have:f y=x:=by simpa using hx
  subst this
  exact h.el i y k v hL hv
end
def tagged {η χ : Type}(hs:List η) (xs:List χ):List ((η × χ) × Nat):=(hs.zip xs).zipIdx
section
variable {η χ : Type}{hs:List η}{xs:List χ}
theorem tagged_len (h:hs.length=xs.length):(tagged hs xs).length=xs.length:=by
 unfold tagged
 rw [List.length_zipIdx,List.length_zip,h,Nat.min_self]
theorem tagged_at (h:hs.length=xs.length) {x:(η × χ) × Nat}:x∈tagged hs xs↔hs[x.2]? = some x.1.1∧xs[x.2]? = some x.1.2:=by
 unfold tagged
 obtain ⟨⟨a,b⟩,n⟩:=x
 rw [List.mk_mem_zipIdx_iff_getElem?,List.getElem?_zip_eq_some]
theorem tagged_get {i:Nat}(h:hs.length=xs.length):(tagged hs xs)[i]? = (hs.zip xs)[i]?.map fun x=>(x,i):=by
 unfold tagged
 rw [List.getElem?_zipIdx,Nat.zero_add]
theorem tagged_fst (h:hs.length=xs.length):(tagged hs xs).map (fun x=>x.1.1)=hs:=by
 unfold tagged
 have e:(fun x:(η × χ) × Nat=>x.1.1)=Prod.fst ∘ Prod.fst:=rfl
 rw [e,← List.map_map,List.zipIdx_map_fst,List.map_fst_zip (by omega)]
theorem tagged_snd (h:hs.length=xs.length):(tagged hs xs).map (fun x=>x.1.2)=xs:=by
 unfold tagged
 have e:(fun x:(η × χ) × Nat=>x.1.2)=Prod.snd ∘ Prod.fst:=rfl
 rw [e,← List.map_map,List.zipIdx_map_fst,List.map_snd_zip (by omega)]
theorem tagged_idx (h:hs.length=xs.length):(tagged hs xs).map (fun x=>(x.1.2,x.2))=xs.zipIdx:=by
 apply List.ext_getElem?
 intro i
 rw [List.getElem?_map,tagged_get h,List.getElem?_zipIdx,Nat.zero_add]
 cases hx:xs[i]? with
 | none=>
  have:(hs.zip xs)[i]? = none:=by
   rw [List.getElem?_eq_none_iff] at hx ⊢
   rw [List.length_zip];omega
  rw [this];rfl
 | some x=>
  have hi:=(List.getElem?_eq_some_iff.1 hx).1
  have hh:hs[i]? = some (hs[i]'(by omega)):=List.getElem?_eq_getElem _
  have:(hs.zip xs)[i]? = some (hs[i]'(by omega),x):=List.getElem?_zip_eq_some.2 ⟨hh,hx⟩
  rw [this];rfl
theorem tagged_rise (h:hs.length=xs.length):(tagged hs xs).Pairwise fun x y=>x.2 < y.2:=by
 rw [List.pairwise_iff_getElem]
 intro i j hi hj hij
 have e1:=List.getElem?_eq_getElem hi
 have e2:=List.getElem?_eq_getElem hj
 rw [tagged_get h] at e1 e2
 obtain ⟨a,_,h1⟩:=Option.map_eq_some_iff.1 e1
 obtain ⟨b,_,h2⟩:=Option.map_eq_some_iff.1 e2
 rw [← h1,← h2]
 exact hij
end
end Go.V
end
section
namespace Go.V
section
variable {σ : Type}{vl : σ→Value}
def findI:List (L8 × σ)→L8→Nat→Option (Nat × σ)
 | [],_,_=>none
 | p::r,q,i=>if p.1=q then some (i,p.2) else findI r q (i+1)
def putK (kvs:List (L8 × σ)) (q:L8) (v : σ):List (L8 × σ):=match findI kvs q 0 with
 | some (i,_)=>kvs.set i (q,v)
 | none=>kvs ++ [(q,v)]
theorem findI_at:∀ {kvs:List (L8 × σ)}{q:L8}{i j:Nat}{v : σ},findI kvs q i=some (j,v)→i≤j∧kvs[j - i]? = some (q,v)
 | [],_,_,_,_,h=>by cases h
 | p::r,q,i,j,v,h=>by
  unfold findI at h
  split at h
  ·rename_i e
   have h:=Option.some_inj.1 h
   rw [Prod.mk.injEq] at h
   obtain ⟨rfl,rfl⟩:=h
   refine ⟨Nat.le_refl _,?_⟩
   rw [Nat.sub_self,← e]
   rfl
  ·obtain ⟨h1,h2⟩:=findI_at h
   refine ⟨by omega,?_⟩
   rw [show j - i=(j - (i+1))+1 by omega]
   exact h2
def EntsAre (vl : σ→Value) (es:List MapEntry) (kvs:List (L8 × σ)):Prop:=es.map (fun e=>(e.key,e.val))=kvs.map fun p=>(Value.string (str p.1),vl p.2)
theorem str_eq (a b:L8):((str a == str b)=true)↔a=b:=by
 rw [beqBA]
 exact ⟨str_inj,fun h=>by rw [h]⟩
theorem findNow_ok:∀ {es:List MapEntry}{kvs:List (L8 × σ)}{q:L8}{i:Nat},EntsAre vl es kvs→Instr.findNow .string (.string (str q)) es i=some ((findI kvs q i).map fun x=>(x.1,vl x.2))
 | [],[],_,_,_=>rfl
 | [],_::_,_,_,h=>by cases h
 | _::_,[],_,_,h=>by cases h
 | e::es,p::kvs,q,i,h=>by
  unfold EntsAre at h
  simp only [List.map_cons,List.cons.injEq,Prod.mk.injEq] at h
  obtain ⟨⟨h1,h2⟩,h3⟩:=h
  unfold Instr.findNow findI
  rw [h1]
  simp only [Instr.sameNow]
  by_cases hq:p.1=q
  ·have:(str q == str p.1)=true:=(str_eq _ _).2 hq.symm
   rw [this,if_pos hq,h2]
   rfl
  ·have:(str q == str p.1)=false:=by
    cases hh:str q == str p.1
    ·rfl
    ·exact absurd ((str_eq _ _).1 hh).symm hq
   rw [this,if_neg hq]
   exact findNow_ok h3
theorem ents_set {es:List MapEntry}{kvs:List (L8 × σ)}{q:L8}{v w : σ}{i:Nat}(h:EntsAre vl es kvs) (hi:kvs[i]? = some (q,w)) :
  EntsAre vl (es.modify i fun e=>{ e with key:=.string (str q),val:=vl v }) (kvs.set i (q,v)):=by
 unfold EntsAre at *
 apply List.ext_getElem?
 intro j
 have hj:=congrArg (fun l=>l[j]?) h
 simp only [List.getElem?_map] at hj ⊢
 rw [List.getElem?_modify,List.getElem?_set]
 have hlt:=(List.getElem?_eq_some_iff.1 hi).1
 by_cases hij:i=j
 ·subst hij
  simp only [if_true,hlt]
  cases he:es[i]? with
  | none=>
   rw [he,hi] at hj
   cases hj
  | some e=>rfl
 ·simp only [hij,if_false]
  cases he:es[j]? with
  | none=>rw [he] at hj;rw [← hj];rfl
  | some e=>rw [he] at hj;rw [← hj];rfl
theorem ents_push {es:List MapEntry}{kvs:List (L8 × σ)}{q:L8}{v : σ}{n:Nat}(h:EntsAre vl es kvs):EntsAre vl (es ++ [{ key:=.string (str q),val:=vl v,born:=n }]) (kvs ++ [(q,v)]):=by
 unfold EntsAre at *
 rw [List.map_append,List.map_append,h]
 rfl
def mapI (vl : σ→Value) (r:Nat) (kvs:List (L8 × σ)):It where
 ok H:=∃ es c,H[r]? = some (.map es c)∧EntsAre vl es.toList kvs
 fp i:=i=r
 lt h hi:=by
  obtain ⟨es,c,h,_⟩:=h
  subst hi
  exact lt_of_some h
 st h hs:=by
  obtain ⟨es,c,h,e⟩:=h
  exact ⟨es,c,(hs r rfl).trans h,e⟩
variable {H0 H H':Hp}{S:Nat→Prop}{L:List It}{P:Program}{t kt et:TypeId}{r k:Nat}{kvs:List (L8 × σ)}{q:L8}
theorem ck_str {e:Bool}{x:ByteArray}{H:Hp}{K:Unit→Hp→Prop}{Z:Value→Hp→Prop}(hk:P.underlying kt=some .string) (k:K () H):hrun P (Instr.checkKey e 10000 kt (.string x)) H K Z:=by
 show hrun P (Instr.checkKey e (9999+1) kt (.string x)) H K Z
 unfold Instr.checkKey
 exact hrun_pv (pv_underlying hk) k
theorem fk_str {es:List MapEntry}{H:Hp}{K:Option (Nat × Value)→Hp→Prop}{Z:Value→Hp→Prop}(hk:P.underlying kt=some .string) (he:EntsAre vl es kvs) (k:K ((findI kvs q 0).map fun x=>(x.1,vl x.2)) H):hrun P (Instr.findKey kt (.string (str q)) es) H K Z:=by
 unfold Instr.findKey
 refine hrun_pv (pv_underlying hk) ?_
 rw [findNow_ok he]
 exact k
theorem Sym.lkp {ok:Bool}{inf:TypeInfo}{z:Value}{K:Value→Hp→Prop}(h:Sym H0 S H L) (hL:L[k]? = some (mapI vl r kvs)) (hu:P.underlying t=some (.map kt et)) (hk:P.underlying kt=some .string) (hi:P.info? et=some inf) (hz:inf.zero=some z)
  (kk:K (if ok then .tuple #[((findI kvs q 0).map fun x=>vl x.2).getD z,.bool (findI kvs q 0).isSome] else ((findI kvs q 0).map fun x=>vl x.2).getD z) H):Lkp P t H (.map (some r)) (.string (str q)) ok K:=by
 obtain ⟨es,c,hr,he⟩:=h.get hL
 unfold Lkp Instr.lookup
 refine hrun_pv (pv_underlying hu) ?_
 simp only [getObj,bind,Sem.bind,hrun,pure]
 refine ⟨_,hr,rfl,?_⟩
 refine hrun_bind _ (ck_str hk ?_)
 refine hrun_bind _ (fk_str hk he ?_)
 cases hf:findI kvs q 0 with
 | none=>
  rw [hf] at kk
  simp only [Option.map_none]
  refine hrun_bind _ ?_
  refine hrun_pureV (zeroValue et) (pv_zero hi hz) ?_
  cases ok <;> exact kk
 | some x=>
  rw [hf] at kk
  simp only [Option.map_some]
  cases ok <;> exact kk
theorem Sym.mup {v : σ}{K:Hp→Prop}(h:Sym H0 S H L) (hL:L[k]? = some (mapI vl r kvs)) (hu:P.underlying t=some (.map kt et)) (hk:P.underlying kt=some .string)
  (kk:∀ H',Sym H0 S H' (L.set k (mapI vl r (putK kvs q v)))→K H'):MUp P t H (.map (some r)) (.string (str q)) (vl v) K:=by
 obtain ⟨es,c,hr,he⟩:=h.get hL
 have hlt:r < H.size:=lt_of_some hr
 have fin:∀ {es':Array MapEntry}{c':Nat},EntsAre vl es'.toList (putK kvs q v)→K (H.setIfInBounds r (.map es' c')):=by
  intro es' c' he'
  refine kk _ (h.setk (b:=mapI vl r (putK kvs q v)) hL ⟨by simp,fun i hi hn=>?_⟩ ⟨es',c',by rw [Array.getElem?_setIfInBounds];simp [hlt],he'⟩ fun i hi=>.inl hi)
  have hne:r≠i:=fun e=>hn e.symm
  rw [Array.getElem?_setIfInBounds,if_neg hne]
 unfold MUp Instr.mapUpdate
 refine hrun_pv (pv_underlying hu) ?_
 simp only [getObj,setObj,bind,Sem.bind,hrun,pure]
 refine ⟨_,hr,rfl,?_⟩
 refine hrun_bind _ (ck_str hk ?_)
 refine hrun_bind _ (fk_str hk he ?_)
 unfold putK at fin
 cases hf:findI kvs q 0 with
 | none=>
  rw [hf] at fin
  simp only [Option.map_none]
  refine ⟨⟨_,hr,rfl⟩,fin ?_⟩
  rw [Array.toList_push]
  exact ents_push he
 | some x=>
  obtain ⟨j,w⟩:=x
  rw [hf] at fin
  obtain ⟨_,hj⟩:=findI_at hf
  rw [Nat.sub_zero] at hj
  simp only [Option.map_some]
  have hkey:(es[j]?).map (·.key)=some (.string (str q)):=by
   have:=congrArg (fun l=>l[j]?) he
   simp only [List.getElem?_map,hj,Option.map_some] at this
   rw [Array.getElem?_toList] at this
   cases hes:es[j]? with
   | none=>rw [hes] at this;cases this
   | some e=>
    rw [hes] at this
    simp only [Option.map_some,Option.some.injEq,Prod.mk.injEq] at this
    rw [Option.map_some,this.1]
  rw [hkey]
  simp only [Option.getD_some]
  have hsame:Instr.sameBits 10000 (.string (str q)) (.string (str q))=true:=by
   show Instr.sameBits (9999+1) _ _=true
   simp only [Instr.sameBits]
   exact (str_eq q q).2 rfl
  unfold Instr.keyThatStays
  rw [if_pos hsame]
  simp only [pure,Sem.bind,hrun]
  refine ⟨⟨_,hr,rfl⟩,fin ?_⟩
  rw [Array.toList_modify]
  exact ents_set he hj
end
end Go.V
end
section
namespace Go.V
section
variable {τ : Type}{fl : τ→List Value}{sz:Nat}
def RowQ (fl : τ→List Value) (E:TypeId) (sz:Nat) (H:Hp) (s:Sl) (l:List τ):Prop:=
 s.n=l.length∧((s.a=none∧s.n=0∧s.c=0)∨∃ (g o:Nat) (cs:List Value),s.a=some ⟨g,o,none⟩∧Blk H g cs E∧s.n≤s.c∧o+s.c*sz≤cs.length∧(cs.drop o).take (s.n*sz)=flat fl l)
variable {H0 H H':Hp}{S:Nat→Prop}{L:List It}{E:TypeId}{s:Sl}{l:List τ}
theorem RowQ.rd (hf:Fl fl sz) (hsz:0 < sz) (h:RowQ fl E sz H s l):Rd fl sz H s l:=by
 refine ⟨h.1,?_,fun i x k v hx hv=>?_⟩
 ·rcases h.2 with h' | ⟨g,o,cs,ha,hg,h1,h2,h3⟩
  ·rw [h'.2.1];exact Nat.zero_le _
  ·exact h1
 have hi:=(List.getElem?_eq_some_iff.1 hx).1
 rcases h.2 with h' | ⟨g,o,cs,ha,hg,h1,h2,h3⟩
 ·have:=h.1;omega
 refine ⟨_,ha,?_⟩
 have hk:k < sz:=by have:=(List.getElem?_eq_some_iff.1 hv).1;rw [hf.len] at this;exact this
 have hj:i*sz+k < s.n*sz:=by
  have h4:(i+1)*sz≤s.n*sz:=Nat.mul_le_mul_right _ (by rw [h.1];exact hi)
  rw [Nat.succ_mul] at h4
  omega
 rw [add_mk,hg.ld]
 have e:=flat_get hf hx hk
 rw [← h3,List.getElem?_take,if_pos hj,List.getElem?_drop,hv] at e
 exact e
def qarr (fl : τ→List Value) (E:TypeId) (sz:Nat) (s:Sl) (l:List τ):It where
 ok H:=RowQ fl E sz H s l
 fp i:=own s i
 lt h hi:=by
  obtain ⟨o',hi⟩:=hi
  rcases h.2 with h' | ⟨g,o,cs,ha,hg,_⟩
  ·rw [h'.1] at hi;cases hi
  ·rw [ha] at hi
   cases hi
   exact hg.lt
 st:=by
  intro H H' h hs
  refine ⟨h.1,?_⟩
  rcases h.2 with h' | ⟨g,o,cs,ha,hg,h'⟩
  ·exact .inl h'
  ·exact .inr ⟨g,o,cs,ha,(hs g ⟨o,ha⟩).trans hg,h'⟩
theorem Sym.rdq {k:Nat}(h:Sym H0 S H L) (hf:Fl fl sz) (hsz:0 < sz) (hk:L[k]? = some (qarr fl E sz s l)):Rd fl sz H s l:=RowQ.rd hf hsz (h.get hk)
theorem Sym.nilq (h:Sym H0 S H L) (fl : τ→List Value) (E:TypeId) (sz:Nat):Sym H0 S H (qarr fl E sz ⟨none,0,0⟩ []::L):=
 h.new (Fr.refl _ _) ⟨rfl,.inl ⟨rfl,rfl,rfl⟩⟩ fun i hi=>(own_none rfl hi).elim
theorem setsL_take2:∀ (vs cs:List Value) (i:Nat),i+vs.length≤cs.length→(setsL cs i vs).take (i+vs.length)=cs.take i++vs:=by
 intro vs
 induction vs with
 | nil=>intro cs i h;simp [setsL]
 | cons v vs ih=>
  intro cs i h
  simp only [List.length_cons] at h
  rw [setsL,show i+(v::vs).length=(i+1)+vs.length by simp;omega,ih (cs.set i v) (i+1) (by simp;omega)]
  rw [List.take_set,List.take_succ_eq_append_getElem (by omega)]
  rw [List.set_append_right _ _ (by simp;omega)]
  have:i - (cs.take i).length=0:=by simp;omega
  rw [this]
  simp
theorem app_rowq {P:Program}{T:TypeId}{inf:TypeInfo}{z:Value}(hf:Fl fl sz) (hsz:0 < sz) (hu:P.underlying T=some (.slice E)) (hi:P.info? E=some inf) (hz:inf.zero=some z) (hzs:z.cells.size=inf.size) (hs:inf.size=sz) (hb:0 < inf.bytes)
  {m:List τ}{y:Value}{K:Sl→Hp→Prop}{ty:TypeId}(hr:RowQ fl E sz H s l) (hy:Src H sz y m.length (flat fl m)) (hl:(s.n+m.length)*inf.bytes≤140737488355328)
  (k:∀ s' H',RowQ fl E sz H' s' (l++m)→s'.n=s.n+m.length→Fr (own s) H H'→(∀ i,own s' i→own s i∨H.size≤i)→K s' H'):App P #[T,T] ty H [.slice s.a s.n s.c,y] K:=by
 subst hs
 have hrd:=hr.rd hf hsz
 have hn:=hr.1
 unfold App
 unfold Builtin.append_
 simp only [List.getElem?_toArray,List.getElem?_cons_zero,List.getElem?_cons_succ]
 refine hrun_pv (pv_underlying hu) ?_
 simp only
 refine hrun_pv (pv_sizeOf hi) ?_
 refine hrun_bind _ (hrun_pureV _ (pv_underlying hu) ?_)
 simp only [pure,bind,Sem.bind]
 simp only [Bool.false_eq_true,if_false,Bool.not_false,if_true,Bool.not_true]
 refine hrun_bind _ (hrun_pureV _ (hrun_lenOf hy) ?_)
 have hle:=hrd.le
 have hfl:(flat fl (l++m))=flat fl l++flat fl m:=flat_app l m
 have hlm:(flat fl m).length=m.length*inf.size:=flat_len hf m
 by_cases hc:s.n+m.length≤s.c
 ·rw [if_pos hc]
  refine hrun_bind _ (hrun_firstCells hy ?_)
  rcases hr.2 with h' | ⟨g,o,cs,ha,hg,h1,h2,h3⟩
  ·have hm0:m = []:=List.eq_nil_of_length_eq_zero (by omega)
   subst hm0
   rw [h'.1]
   simp only [hrun,pure]
   have hl0:l = []:=List.eq_nil_of_length_eq_zero (by omega)
   subst hl0
   refine ⟨⟨none,s.n+0,s.c⟩,rfl,k _ H ⟨by show s.n+0=0;omega,.inl ⟨rfl,by show s.n+0=0;omega,h'.2.2⟩⟩ rfl (Fr.refl _ _) fun i hi=>by obtain ⟨o,hi⟩:=hi;cases hi⟩
  ·rw [ha]
   simp only
   refine hrun_bind _ (hrun_storeCells _ 0 ?_)
   rw [add_mk]
   have hmul:s.n*inf.size+m.length*inf.size≤s.c*inf.size:=by rw [← Nat.add_mul];exact Nat.mul_le_mul_right _ hc
   refine stL_cells (flat fl m).toArray.toList 0 hg (by simp only [List.toList_toArray];rw [hlm];omega) (by simpa using flat_one hf) (.inr (Nat.le_refl _)) ?_
   intro H' hg' hf' hs'
   simp only [hrun,pure]
   refine ⟨⟨some ⟨g,o,none⟩,s.n+m.length,s.c⟩,rfl,k _ H' ⟨by show s.n+m.length=_;rw [List.length_append];omega,.inr ⟨g,o,_,rfl,hg',hc,?_,?_⟩⟩ rfl (hf'.mono fun i _ hi=>⟨o,by rw [hi];exact ha⟩) fun i hi=>?_⟩
   ·rw [setsL_length];exact h2
   ·rw [hfl]
    show ((setsL cs (o+s.n*inf.size+0) (flat fl m).toArray.toList).drop o).take ((s.n+m.length)*inf.size)=_
    rw [Nat.add_zero,List.toList_toArray]
    have e1:=setsL_take2 (flat fl m) cs (o+s.n*inf.size) (by rw [hlm];omega)
    have e2:((setsL cs (o+s.n*inf.size) (flat fl m)).take (o+s.n*inf.size+(flat fl m).length)).drop o=((setsL cs (o+s.n*inf.size) (flat fl m)).drop o).take ((s.n+m.length)*inf.size):=by
     rw [List.drop_take,hlm,Nat.add_mul]
     congr 1
     omega
    rw [← e2,e1,List.drop_append_of_le_length (by rw [List.length_take];omega),List.drop_take]
    have:o+s.n*inf.size - o=s.n*inf.size:=by omega
    rw [this,h3]
   ·obtain ⟨o',hi⟩:=hi
    simp only [Option.some.injEq,Addr.mk.injEq] at hi
    exact .inl ⟨o,by rw [← hi.1];exact ha⟩
 ·rw [if_neg hc]
  have hgr:=growslice_fits (need:=s.n+m.length) (old:=s.c) (bytes:=inf.bytes) (by omega) hl
  have hbig:s.n+m.length≤140737488355328:=Nat.le_trans (Nat.le_mul_of_pos_right _ hb) hl
  refine hrun_pv (pv_typeInfo hi) ?_
  have hcond:¬ (((s.n+m.length:Nat):Int) > IntKind.i64.max∧(False∨inf.bytes=0)):=by
   rintro ⟨_,h | h⟩
   ·cases h
   ·omega
  rw [if_neg hcond]
  refine hrun_bind _ (hrun_pureV _ (pv_typeInfo hi) ?_)
  have hbig2:¬ (Builtin.nextslicecap (s.n+m.length) s.c*inf.bytes > 2 ^ 48):=by
   have:(2:Nat) ^ 48=281474976710656:=by decide
   omega
  rw [if_neg hbig2]
  refine hrun_bind _ ?_
  simp only [choose,hrun,Question.forced,Bool.false_eq_true,if_false,Question.cut]
  intro tp
  generalize hcap:s.n+m.length+tp % (2 ^ 63 - (s.n+m.length))=cap
  refine hrun_bind _ (hrun_pureV _ (pv_typeInfo hi) ?_)
  refine hrun_bind _ ?_
  have askr:∀ (n:Nat) {K:Unit→Hp→Prop}{Z:Value→Hp→Prop},K () H→hrun P (askRoom n) H K Z:=by
   intro n K Z hk
   unfold askRoom
   split
   ·exact hk
   ·exact hk
  refine askr _ ?_
  have hsrc:=hrd.src hf hsz
  rw [← hn] at hsrc
  refine hrun_bind _ (hrun_firstCells hsrc ?_)
  refine hrun_bind _ (hrun_firstCells hy ?_)
  refine hrun_bind _ (hrun_pureV _ (pv_zero hi hz) ?_)
  refine hrun_bind _ ?_
  simp only [newRow,newObj,bind,Sem.bind,hrun,pure]
  intro g H' hnb
  have hzz:(Builtin.zeroCells z.cells (cap - (s.n+m.length))).size=(cap - (s.n+m.length))*inf.size:=by rw [zeroCells_size,hzs]
  refine ⟨⟨some ⟨g,0,none⟩,s.n+m.length,cap⟩,rfl,k _ H' ⟨by show s.n+m.length=_;rw [List.length_append];omega,.inr ⟨g,0,flat fl l++flat fl m++(Builtin.zeroCells z.cells (cap - (s.n+m.length))).toList,rfl,?_,by show s.n+m.length≤cap;omega,?_,?_⟩⟩ rfl hnb.fr.of_no fun i hi=>?_⟩
  ·show H'[g]? = _
   rw [hnb.get]
   congr 2
   apply Array.ext'
   simp
  ·simp only [List.length_append,Array.length_toList,hzz,hlm,flat_len hf l,Nat.zero_add]
   rw [← hn,← Nat.add_mul,← Nat.add_mul]
   refine Nat.mul_le_mul_right _ ?_
   show cap≤s.n+m.length+(cap - (s.n+m.length))
   omega
  ·rw [hfl]
   have:(s.n+m.length)*inf.size=(flat fl l++flat fl m).length:=by rw [List.length_append,hlm,flat_len hf l,← hn,Nat.add_mul]
   show List.take ((s.n+m.length)*inf.size) _=_
   rw [this,List.drop_zero,List.take_left]
  ·obtain ⟨o,hi⟩:=hi
   simp only [Option.some.injEq,Addr.mk.injEq] at hi
   rw [← hi.1,hnb.eq]
   exact .inr (Nat.le_refl _)
theorem Sym.appq {P:Program}{T ty:TypeId}{by':Nat}{z:Value}{k:Nat}{t:Sl}{m:List τ}{K:Sl→Hp→Prop}(ht:TyS P T E sz by' z) (h:Sym H0 S H L) (hf:Fl fl sz) (hsz:0 < sz) (hk:L[k]? = some (qarr fl E sz s l)) (hy:Rd fl sz H t m) (hl:(s.n+m.length)*by'≤140737488355328)
  (kk:∀ s' H',s'.n=s.n+m.length→Sym H0 S H' (L.set k (qarr fl E sz s' (l++m)))→K s' H'):App P #[T,T] ty H [.slice s.a s.n s.c,.slice t.a t.n t.c] K:=by
 obtain ⟨inf,i1,i2,i3,i4⟩:=info_of ht.i
 refine app_rowq hf hsz ht.u i1 i2 (by rw [i3];exact ht.zc) i3 (by rw [i4];exact ht.b) (h.get hk) (hy.src hf hsz) (by rw [i4];exact hl) ?_
 intro s' H' h1 h2 h3 h4
 exact kk s' H' h2 (h.setk hk h3 h1 h4)
theorem Sym.appq1 {P:Program}{T ty:TypeId}{by':Nat}{z:Value}{k b:Nat}{x : τ}{K:Sl→Hp→Prop}(ht:TyS P T E sz by' z) (h:Sym H0 S H L) (hf:Fl fl sz) (hsz:0 < sz) (hn:Newb H (.cells (fl x).toArray E) b H') (hk:L[k]? = some (qarr fl E sz s l)) (hl:(s.n+1)*by'≤140737488355328)
  (kk:∀ s' H',s'.n=s.n+1→Sym H0 S H' (L.set k (qarr fl E sz s' (l ++ [x])))→K s' H'):App P #[T,T] ty H' [.slice s.a s.n s.c,.slice (some ⟨b,0,none⟩) 1 1] K:=by
 have hx:flat fl [x]=fl x:=flat_sing x
 rw [← hx] at hn
 have h2:=h.lit hf hsz hn (show 1 = [x].length from rfl)
 have hr:=h2.rd (k:=0) hf hsz rfl
 exact Sym.appq (t:=⟨some ⟨b,0,none⟩,1,1⟩) (k:=k) ht (h2.drop) hf hsz hk hr (by simpa using hl) kk
theorem Sym.tailq {k:Nat}{x : τ}{K:Sl→Prop}(h:Sym H0 S H L) (hf:Fl fl sz) (hsz:0 < sz) (hk:L[k]? = some (qarr fl E sz s (x::l)))
  (kk:∀ c,Sym H0 S H (L.set k (qarr fl E sz c l))→K c):s.n≤s.c∧SlX s.a s.c 1 (s.n:Int) sz K:=by
 have hok:RowQ fl E sz H s (x::l):=h.get hk
 have hn:=hok.1
 rw [List.length_cons] at hn
 rcases hok.2 with h' | ⟨g,o,cs,ha,hg,h1,h2,h3⟩
 ·omega
 refine ⟨h1,⟨by omega,by omega,by omega⟩,kk _ (h.as hk (fun _=>?_) fun i hi=>?_)⟩
 ·rw [show (1:Int).toNat=1 from rfl,show ((s.n:Nat):Int).toNat=s.n by omega]
  refine ⟨by show s.n - 1=_;omega,.inr ?_⟩
  have e0:flat fl (x::l)=fl x++flat fl l:=rfl
  by_cases hc:s.c=1
  ·have hl0:l = []:=List.eq_nil_of_length_eq_zero (by omega)
   subst hl0
   refine ⟨g,o,cs,by unfold cut;simp only [hc,if_true];exact ha,hg,by show s.n - 1≤s.c - 1;omega,?_,?_⟩
   ·show o+(s.c - 1)*sz≤_
    have:=Nat.mul_le_mul_right sz (Nat.sub_le s.c 1)
    omega
   ·show ((cs.drop o).take ((s.n - 1)*sz)) = []
    rw [show s.n - 1=0 by omega,Nat.zero_mul,List.take_zero]
  ·refine ⟨g,o+sz,cs,?_,hg,by show s.n - 1≤s.c - 1;omega,?_,?_⟩
   ·unfold cut
    rw [if_neg hc,ha,Nat.one_mul]
    show some (Addr.add ⟨g,o,none⟩ sz)=_
    rw [add_mk]
   ·show o+sz+(s.c - 1)*sz≤_
    have:s.c*sz=(s.c - 1)*sz+sz:=by rw [← Nat.succ_mul];congr 1;omega
    omega
   ·show ((cs.drop (o+sz)).take ((s.n - 1)*sz))=flat fl l
    have e1:s.n*sz=sz+(s.n - 1)*sz:=by
     have:s.n*sz=(s.n - 1)*sz+sz:=by rw [← Nat.succ_mul];congr 1;omega
     omega
    have e2:=congrArg (List.drop sz) h3
    rw [e0,e1,List.drop_take,List.drop_drop] at e2
    rw [show sz+(s.n - 1)*sz - sz=(s.n - 1)*sz by omega] at e2
    rw [e2]
    have:(fl x).length=sz:=hf.len x
    rw [← this,List.drop_left]
 ·obtain ⟨o',e⟩:=hi
  unfold cut at e
  simp only at e
  split at e
  ·exact ⟨o',e⟩
  ·rw [ha] at e
   simp only [Option.map_some,Option.some.injEq] at e
   rw [add_mk] at e
   have:g=i:=congrArg Addr.block e
   exact ⟨o,by rw [← this];exact ha⟩
end
end Go.V
end
section
namespace Go.V
attribute [local irreducible] Lkp MUp
section
variable {τ : Type}{fl : τ→List Value}{sz:Nat}
abbrev slV (s:Sl):Value:=.slice s.a s.n s.c
def rowsI (fl : τ→List Value) (E:TypeId) (sz:Nat) (kvl:List ((L8 × Sl) × List τ)):List It:=kvl.map fun p=>arr fl E sz p.1.2 p.2
def keysL (kvl:List ((L8 × Sl) × List τ)):List (L8 × Sl):=kvl.map fun p=>p.1
def lookL:List ((L8 × Sl) × List τ)→L8→List τ
 | [],_=>[]
 | p::r,q=>if p.1.1=q then p.2 else lookL r q
theorem look_find:∀ {kvl:List ((L8 × Sl) × List τ)}{q:L8}{i j:Nat}{y:Sl},findI (keysL kvl) q j=some (i,y)→j≤i∧∃ l,kvl[i - j]? = some ((q,y),l)∧lookL kvl q=l
 | [],_,_,_,_,h=>by cases h
 | p::r,q,i,j,y,h=>by
  unfold keysL at h
  rw [List.map_cons] at h
  unfold findI at h
  unfold lookL
  split at h
  ·rename_i e
   have h:=Option.some_inj.1 h
   rw [Prod.mk.injEq] at h
   obtain ⟨rfl,rfl⟩:=h
   rw [if_pos e]
   refine ⟨Nat.le_refl _,p.2,?_,rfl⟩
   rw [Nat.sub_self,← e]
   rfl
  ·rename_i e
   rw [if_neg e]
   obtain ⟨h1,l,h2,h3⟩:=look_find (kvl:=r) h
   refine ⟨by omega,l,?_,h3⟩
   rw [show i - j=(i - (j+1))+1 by omega]
   exact h2
theorem look_none:∀ {kvl:List ((L8 × Sl) × List τ)}{q:L8}{j:Nat},findI (keysL kvl) q j=none→lookL kvl q = []∧∀ p∈kvl,p.1.1≠q
 | [],_,_,_=>⟨rfl,by simp⟩
 | p::r,q,j,h=>by
  unfold keysL at h
  rw [List.map_cons] at h
  unfold findI at h
  unfold lookL
  split at h
  ·cases h
  ·rename_i e
   obtain ⟨h1,h2⟩:=look_none (kvl:=r) h
   rw [if_neg e]
   refine ⟨h1,fun x hx=>?_⟩
   rcases List.mem_cons.1 hx with rfl | hx
   ·exact e
   ·exact h2 x hx
theorem look_set:∀ {kvl:List ((L8 × Sl) × List τ)}{q:L8}{i j:Nat}{y v:Sl}{l':List τ},findI (keysL kvl) q j=some (i,y)→∀ z,lookL (kvl.set (i - j) ((q,v),l')) z=if z=q then l' else lookL kvl z
 | [],_,_,_,_,_,_,h,_=>by cases h
 | p::r,q,i,j,y,v,l',h,z=>by
  unfold keysL at h
  rw [List.map_cons] at h
  unfold findI at h
  split at h
  ·rename_i e
   have h:=Option.some_inj.1 h
   rw [Prod.mk.injEq] at h
   obtain ⟨rfl,rfl⟩:=h
   rw [Nat.sub_self,List.set_cons_zero]
   unfold lookL
   by_cases hz:z=q
   ·rw [if_pos hz.symm,if_pos hz]
   ·rw [if_neg (fun h=>hz h.symm),if_neg hz,if_neg (by rw [e];exact fun h=>hz h.symm)]
  ·rename_i e
   obtain ⟨h1,_⟩:=look_find (kvl:=r) h
   rw [show i - j=(i - (j+1))+1 by omega,List.set_cons_succ]
   have ih:=look_set (kvl:=r) (v:=v) (l':=l') h z
   unfold lookL
   by_cases hp:p.1.1=z
   ·rw [if_pos hp,if_pos hp,if_neg (by rw [← hp];exact e)]
   ·rw [if_neg hp,if_neg hp]
    exact ih
theorem look_push:∀ {kvl:List ((L8 × Sl) × List τ)}{q:L8}{v:Sl}{l':List τ},(∀ p∈kvl,p.1.1≠q)→∀ z,lookL (kvl ++ [((q,v),l')]) z=if z=q then l' else lookL kvl z
 | [],q,v,l',_,z=>by
  show (if q=z then l' else [])=_
  by_cases hz:z=q
  ·rw [if_pos hz.symm,if_pos hz]
  ·rw [if_neg (fun h=>hz h.symm),if_neg hz]
   rfl
 | p::r,q,v,l',h,z=>by
  rw [List.cons_append]
  unfold lookL
  by_cases hp:p.1.1=z
  ·rw [if_pos hp,if_pos hp,if_neg (by rw [← hp];exact h p List.mem_cons_self)]
  ·rw [if_neg hp,if_neg hp]
   exact look_push (fun x hx=>h x (List.mem_cons_of_mem _ hx)) z
def AtK (kvl:List ((L8 × Sl) × List τ)) (q:L8) (y:Sl):Prop:=(∃ i l,findI (keysL kvl) q 0=some (i,y)∧kvl[i]? = some ((q,y),l)∧lookL kvl q=l)∨(findI (keysL kvl) q 0=none∧y=⟨none,0,0⟩∧lookL kvl q = []∧∀ p∈kvl,p.1.1≠q)
variable {H0 H H':Hp}{S:Nat→Prop}{Pre:List It}{P:Program}{t kt et T E:TypeId}{r:Nat}{kvl:List ((L8 × Sl) × List τ)}{q:L8}{y:Sl}
theorem pre_at {Pre:List It}{a:It}{R:List It}:(Pre++a::R)[Pre.length]? = some a:=by simp
theorem pre_row {a:It}{i:Nat}{l:List τ}(h:kvl[i]? = some ((q,y),l)):(Pre++a::rowsI fl E sz kvl)[Pre.length+1+i]? = some (arr fl E sz y l):=by
 rw [List.getElem?_append_right (by omega),show Pre.length+1+i - Pre.length=i+1 by omega,List.getElem?_cons_succ]
 unfold rowsI
 rw [List.getElem?_map,h]
 rfl
theorem Sym.ask {inf:TypeInfo}{K:Value→Hp→Prop}(h:Sym H0 S H (Pre++mapI slV r (keysL kvl)::rowsI fl E sz kvl)) (hu:P.underlying t=some (.map kt et)) (hk:P.underlying kt=some .string) (hi:P.info? et=some inf) (hz:inf.zero=some (.slice none 0 0))
  (kk:∀ y,AtK kvl q y→K (.slice y.a y.n y.c) H):Lkp P t H (.map (some r)) (.string (str q)) false K:=by
 refine Sym.lkp (k:=Pre.length) (vl:=slV) (kvs:=keysL kvl) h pre_at hu hk hi hz ?_
 rw [if_neg (by decide)]
 cases hf:findI (keysL kvl) q 0 with
 | none=>
  obtain ⟨h1,h2⟩:=look_none hf
  rw [Option.map_none,Option.getD_none]
  exact kk ⟨none,0,0⟩ (.inr ⟨hf,rfl,h1,h2⟩)
 | some x=>
  obtain ⟨i,y⟩:=x
  obtain ⟨_,l,h1,h2⟩:=look_find hf
  rw [Option.map_some,Option.getD_some]
  exact kk y (.inl ⟨i,l,hf,h1,h2⟩)
theorem Sym.asked (h:Sym H0 S H (Pre++mapI slV r (keysL kvl)::rowsI fl E sz kvl)) (hf:Fl fl sz) (hsz:0 < sz) (hy:AtK kvl q y):Rd fl sz H y (lookL kvl q):=by
 rcases hy with ⟨i,l,h1,h2,h3⟩ | ⟨h1,h2,h3,h4⟩
 ·rw [h3]
  exact h.rd hf hsz (pre_row h2)
 ·rw [h2,h3]
  exact Rd.nil
end
end Go.V
end
section
namespace Go.V
theorem zero_flat {τ : Type}{fl : τ→List Value}{sz:Nat}(hf:Fl fl sz) (hsz:0 < sz) {z:Array Value}{z0 : τ}(hz:z.toList=fl z0):∀ n:Nat,(Builtin.zeroCells z n).toList=flat fl (List.replicate n z0):=by
 have hs:z.size=sz:=by
  rw [← Array.length_toList,hz]
  exact hf.len z0
 intro n
 apply List.ext_getElem?
 intro i
 unfold Builtin.zeroCells
 rw [Array.toList_map,List.getElem?_map,hs]
 by_cases hi:i < n*sz
 ·have hq:i / sz < n:=Nat.div_lt_of_lt_mul (by rw [Nat.mul_comm];exact hi)
  have hr:=Nat.mod_lt i hsz
  have e:i / sz*sz+i % sz=i:=by rw [Nat.mul_comm];exact Nat.div_add_mod i sz
  have hx:(List.replicate n z0)[i / sz]? = some z0:=by rw [List.getElem?_replicate,if_pos hq]
  have hg:=flat_get hf hx hr
  rw [e] at hg
  rw [hg,← hz]
  have h1:(Array.range (n*sz)).toList[i]? = some i:=by simp [hi]
  rw [h1]
  have hzr:i % sz < z.size:=by omega
  simp [hzr]
 ·have h1:(Array.range (n*sz)).toList[i]? = none:=by simp;omega
  have h2:(flat fl (List.replicate n z0))[i]? = none:=by
   rw [List.getElem?_eq_none_iff,flat_len hf,List.length_replicate]
   omega
  rw [h1,h2]
  rfl
section
variable {τ : Type}{fl : τ→List Value}{sz:Nat}{H0 H:Hp}{S:Nat→Prop}{L:List It}{P:Program}{T E ty:TypeId}{by':Nat}{z:Value}{s:Sl}{l:List τ}{z0 : τ}
theorem Sym.clr {k i:Nat}{cs:Array Bool}{K:Value→Hp→Prop}(ht:TyS P T E sz by' z) (hzc:z.cells.toList=fl z0) (h:Sym H0 S H L) (hf:Fl fl sz) (hsz:0 < sz) (hk:L[k]? = some (arr fl E sz s l)) (hi:i≤l.length)
  (kk:∀ H',Sym H0 S H' (L.set k (arr fl E sz s (l.take i++List.replicate (l.length - i) z0)))→K (.tuple #[]) H'):s.n≤s.c∧SlX s.a s.c (i:Int) (s.n:Int) sz fun cut=>Blt P .clear #[T] ty cs H [.slice cut.a cut.n cut.c] K:=by
 have hok:RowN fl E sz H s l:=h.get hk
 have hn:=hok.len hf hsz
 have hle:=hok.row.le
 obtain ⟨inf,i1,i2,i3,i4⟩:=info_of ht.i
 refine ⟨hle,⟨by omega,by omega,by omega⟩,?_⟩
 rw [Int.toNat_natCast,Int.toNat_natCast]
 have red:∀ {v:Value},hrun P (Builtin.clear_ #[T] ty #[v]) H K (fun _ _=>False)→Blt P .clear #[T] ty cs H [v] K:=by
  intro v hv
  unfold Blt
  show hrun P (Builtin.clear_ #[T] ty #[v] >>= fun v=>pure (Next.value v)) H _ _
  exact hrun_bind _ (hrun.mono _ (K:=K) (Z:=fun _ _=>False) hv (fun v H' h=>by simpa only [pure,hrun] using h) fun _ _ h=>h)
 refine red ?_
 have hcn:(cut s.a s.c i s.n sz).n=s.n - i:=rfl
 by_cases h0:s.n - i=0
 ·have hil:i=l.length:=by omega
  have e:l.take i++List.replicate (l.length - i) z0=l:=by
   rw [hil,List.take_length,Nat.sub_self,List.replicate_zero,List.append_nil]
  rw [e] at kk
  have e2:L.set k (arr fl E sz s l)=L:=by
   apply List.ext_getElem?
   intro j
   rw [List.getElem?_set]
   split
   ·rename_i hj
    subst hj
    rw [hk]
    simp [(List.getElem?_eq_some_iff.1 hk).1]
   ·rfl
  rw [e2] at kk
  unfold Builtin.clear_
  simp only [List.getElem?_toArray,List.getElem?_cons_zero]
  refine hrun_pv (pv_underlying ht.u) ?_
  rw [hcn,h0]
  cases (cut s.a s.c i s.n sz).a <;> exact kk H h
 ·obtain ⟨g,hg⟩:=hok.row.some (by omega)
  rcases hok.row.2 with ⟨h1,_⟩ | ⟨g',cs',fr,h1,h2,h3,h4,h5,h6⟩
  ·rw [hg] at h1;cases h1
  have hgg:g'=g:=by
   rw [hg] at h1
   cases h1
   rfl
  subst hgg
  have hfr0:fr=(0,0):=by
   obtain ⟨c',T',hb'⟩:=hok.nf g' 0 h1
   rw [h2] at hb'
   simp only [Option.some.injEq,Obj.cells.injEq] at hb'
   exact hb'.2.2
  subst hfr0
  have hca:(cut s.a s.c i s.n sz).a=some ⟨g',i*sz,none⟩:=by
   unfold cut
   show (if s.c=i then s.a else s.a.map (·.add (i*sz)))=_
   rw [if_neg (by omega),hg]
   show some (Addr.add ⟨g',0,none⟩ (i*sz))=_
   rw [add_mk,Nat.zero_add]
  unfold Builtin.clear_
  simp only [List.getElem?_toArray,List.getElem?_cons_zero]
  refine hrun_pv (pv_underlying ht.u) ?_
  rw [hca,hcn]
  obtain ⟨m,hm⟩:∃ m,s.n - i=m+1:=⟨s.n - i - 1,by omega⟩
  rw [hm]
  simp only
  refine hrun_pv (pv_zero i1 i2) ?_
  rw [zero_flat hf hsz hzc]
  have hvl:(flat fl (List.replicate (m+1) z0)).length=(m+1)*sz:=by rw [flat_len hf,List.length_replicate]
  have hms:i*sz+(m+1)*sz=s.n*sz:=by rw [← Nat.add_mul];congr 1;omega
  have hnc:s.n*sz≤s.c*sz:=Nat.mul_le_mul_right _ hle
  refine hrun_bind _ (hrun_storeCells _ 0 ?_)
  refine stL_cells (flat fl (List.replicate (m+1) z0)) 0 h2 (by rw [hvl,h4];omega) (flat_one hf) (.inl (Nat.zero_le _)) fun H2 hg2 hf2 _=>?_
  simp only [pure,hrun]
  have hlm:l.length - i=m+1:=by omega
  rw [hlm] at kk
  refine kk H2 (h.setk hk (hf2.mono fun j _ hj=>⟨0,by rw [hj];exact hg⟩) ⟨⟨?_,.inr ⟨g',_,(0,0),h1,hg2,h3,by rw [setsL_length];exact h4,?_,Nat.zero_le _⟩⟩,fun g2 o e=>?_⟩ fun j hj=>.inl hj)
  ·rw [flat_len hf,List.length_append,List.length_take,List.length_replicate,Nat.min_eq_left hi,hn]
   congr 1
   omega
  ·rw [Nat.add_zero,flat_app]
   have e1:=setsL_take2 (flat fl (List.replicate (m+1) z0)) cs' (i*sz) (by rw [hvl,h4];omega)
   rw [hvl,hms] at e1
   rw [e1]
   congr 1
   rw [← flat_take hf,← h5,List.take_take,Nat.min_eq_left (by omega)]
  ·rw [h1] at e
   simp only [Option.some.injEq,Addr.mk.injEq] at e
   rw [← e.1]
   exact ⟨_,_,hg2⟩
end
end Go.V
end
