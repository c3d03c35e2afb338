import Derived.Test.YtjdhjgfmloaglaaGreatDoorZ07
import Derived.Test.YtjdhjgfmloaglaaGreatDoorProg
set_option linter.unusedVariables false
set_option linter.unusedSimpArgs false
section
namespace Go.Proofs.YtjdhjgfmloaglaaGreatDoor.C01
open Go Go.V Go.Proofs N01
attribute [local irreducible] Cvt ExtF CallF hrun App MkS
def isD (b:UInt8):Bool:=decide (48≤b.toNat) && decide (b.toNat≤57)
def isL (b:UInt8):Bool:=(decide (65≤b.toNat) && decide (b.toNat≤90)) || ((decide (97≤b.toNat) && decide (b.toNat≤122)) || b.toNat == 95)
theorem not_both {b:UInt8}:isD b=true→isL b=false:=by
 unfold isD isL
 simp only [Bool.and_eq_true,Bool.or_eq_false_iff,Bool.and_eq_false_iff,decide_eq_true_eq,decide_eq_false_iff_not,beq_eq_false_iff_ne]
 omega
def wordy (l:List UInt8):Bool:=match l with | []=>false | b::_=>isL b
def inW (w:Bool) (b:UInt8):Bool:=isD b || (w && isL b)
def splA (l:List UInt8):List UInt8:=l.takeWhile (inW (wordy l))
def splB (l:List UInt8):List UInt8:=l.dropWhile (inW (wordy l))
theorem spl_app (l:List UInt8):splA l++splB l=l:=List.takeWhile_append_dropWhile
theorem splA_le (l:List UInt8):(splA l).length≤l.length:=by
 have:=congrArg List.length (spl_app l)
 rw [List.length_append] at this
 omega
def nameL (l:List UInt8):Bool:=wordy l && (decide (l.length≤16) && l.all fun b=>isL b || isD b)
def valL (l:List UInt8):Nat:=l.foldl (fun n b=>n*10+(b.toNat - 48)) 0
def readL (l:List UInt8):Int × Int:=
 if l = [] then (0,1) else if l.all isD=false then (0,3) else if l[0]? = some 48∧l.length > 1 then (0,3) else if valL l > 268435456 then (0,2) else ((valL l:Nat),0)
theorem dropWhile_nil {p:UInt8→Bool}:∀ {l:List UInt8},l.dropWhile p = []↔∀ x∈l,p x=true
 | []=>by simp
 | a::l=>by
  rw [List.dropWhile_cons]
  cases h:p a with
  | true=>simp [h,dropWhile_nil (l:=l)]
  | false=>simp [h]
theorem takeWhile_at {p:UInt8→Bool}:∀ {l:List UInt8}{j:Nat},(∀ i b,i < j→l[i]? = some b→p b=true)→(j=l.length∨∃ b,l[j]? = some b∧p b=false)→l.takeWhile p=l.take j∧l.dropWhile p=l.drop j
 | [],j,_,h=>by
  rcases h with h | ⟨b,h,_⟩
  ·simp
  ·simp at h
 | a::l,0,_,h=>by
  rcases h with h | ⟨b,h,hb⟩
  ·simp at h
  ·simp only [List.getElem?_cons_zero,Option.some.injEq] at h
   subst h
   simp [List.takeWhile_cons,List.dropWhile_cons,hb]
 | a::l,j+1,hp,h=>by
  have ha:=hp 0 a (by omega) rfl
  have ih:=takeWhile_at (p:=p) (l:=l) (j:=j) (fun i b hi hb=>hp (i+1) b (by omega) (by rw [List.getElem?_cons_succ];exact hb)) (by
   rcases h with h | ⟨b,h,hb⟩
   ·left;simpa using h
   ·right;rw [List.getElem?_cons_succ] at h;exact ⟨b,h,hb⟩)
  rw [List.takeWhile_cons,List.dropWhile_cons,ha]
  simp only [if_true]
  exact ⟨by rw [ih.1,List.take_succ_cons],by rw [ih.2,List.drop_succ_cons]⟩
theorem val_snoc (l:List UInt8) (b:UInt8):valL (l ++ [b])=valL l*10+(b.toNat - 48):=by
 unfold valL
 rw [List.foldl_append]
 rfl
theorem val_lt:∀ l:List UInt8,l.all isD=true→valL l < 10 ^ l.length:=by
 have key:∀ (n:Nat) (l:List UInt8),l.length=n→l.all isD=true→valL l < 10 ^ n:=by
  intro n
  induction n with
  | zero=>
   intro l hl _
   have:l = []:=List.eq_nil_of_length_eq_zero hl
   subst this
   decide
  | succ n ih=>
   intro l hl ha
   obtain ⟨m,b,rfl⟩:∃ m b,l=m ++ [b]:=by
    rcases List.eq_nil_or_concat l with rfl | ⟨m,b,h⟩
    ·simp at hl
    ·exact ⟨m,b,by rw [h,List.concat_eq_append]⟩
   rw [List.length_append] at hl
   rw [List.all_append,Bool.and_eq_true] at ha
   have h1:=ih m (by simpa using hl) ha.1
   rw [val_snoc]
   have hb:isD b=true:=by simpa using ha.2
   unfold isD at hb
   simp only [Bool.and_eq_true,decide_eq_true_eq] at hb
   rw [Nat.pow_succ]
   omega
 intro l ha
 exact key l.length l rfl ha
theorem val_ge:∀ {a:UInt8}{l:List UInt8},isD a=true→a≠48→10 ^ l.length≤valL (a::l):=by
 have key:∀ (n:Nat) (a:UInt8) (l:List UInt8),l.length=n→isD a=true→a≠48→10 ^ n≤valL (a::l):=by
  intro n
  induction n with
  | zero=>
   intro a l hl ha h0
   have:l = []:=List.eq_nil_of_length_eq_zero hl
   subst this
   unfold isD at ha
   simp only [Bool.and_eq_true,decide_eq_true_eq] at ha
   have:a.toNat≠48:=fun e=>h0 (UInt8.toNat_inj.1 e)
   show 1≤0*10+(a.toNat - 48)
   omega
  | succ n ih=>
   intro a l hl ha h0
   obtain ⟨m,b,rfl⟩:∃ m b,l=m ++ [b]:=by
    rcases List.eq_nil_or_concat l with rfl | ⟨m,b,h⟩
    ·simp at hl
    ·exact ⟨m,b,by rw [h,List.concat_eq_append]⟩
   rw [List.length_append] at hl
   have h1:=ih a m (by simpa using hl) ha h0
   have:=val_snoc (a::m) b
   rw [List.cons_append] at this
   rw [this,Nat.pow_succ]
   omega
 intro a l ha h0
 exact key l.length a l rfl ha h0
section
variable {H:Hp}{K:Value→Hp→Prop}{Z:List PanicEntry→Hp→Prop}
theorem class_ok {b:UInt8}(k:K (.int .i64 (if isL b then 2 else if isD b then 1 else 0)) H):CallF Tryz.prog 158 #[.int .u8 (b.toNat:Int)] H K Z:=by
 refine V158_ok ?_
 unfold V158
 have c2:isL b=true→K (.int .i64 2) H:=fun h=>by rw [if_pos h] at k;exact k
 have c1:isD b=true→K (.int .i64 1) H:=fun h=>by rw [if_neg (by rw [not_both h];simp),if_pos h] at k;exact k
 have c0:isL b=false→isD b=false→K (.int .i64 0) H:=fun h h'=>by rw [if_neg (by rw [h];simp),if_neg (by rw [h'];simp)] at k;exact k
 have hD:isD b=true↔48≤b.toNat∧b.toNat≤57:=by simp [isD]
 have hL:isL b=true↔(65≤b.toNat∧b.toNat≤90)∨(97≤b.toNat∧b.toNat≤122)∨b.toNat=95:=by simp [isL]
 have nD:isD b=false↔¬ (48≤b.toNat∧b.toNat≤57):=by rw [← hD];simp
 have nL:isL b=false↔¬ ((65≤b.toNat∧b.toNat≤90)∨(97≤b.toNat∧b.toNat≤122)∨b.toNat=95):=by rw [← hL];simp
 rw [hL] at c2
 rw [hD] at c1
 rw [nL,nD] at c0
 clear k hD hL nD nL
 generalize b.toNat=n at *
 simp only [decide_eq_true_eq,decide_eq_false_iff_not,beq_iff_eq,beq_eq_false_iff_ne,ne_eq]
 refine ⟨fun a1=>⟨fun a2=>c1 (by omega),fun a2=>⟨fun a3=>⟨fun a4=>⟨fun _=>c2 (by omega),fun a5=>absurd a4 a5⟩,fun a4=>⟨fun a5=>⟨fun a6=>⟨fun _=>c2 (by omega),fun a7=>absurd a6 a7⟩,fun a6=>⟨fun a7=>c2 (by omega),fun a7=>c0 (by omega) (by omega)⟩⟩,fun a5=>⟨fun a7=>c2 (by omega),fun a7=>c0 (by omega) (by omega)⟩⟩⟩,fun a3=>⟨fun a5=>⟨fun a6=>⟨fun _=>c2 (by omega),fun a7=>absurd a6 a7⟩,fun a6=>⟨fun a7=>c2 (by omega),fun a7=>c0 (by omega) (by omega)⟩⟩,fun a5=>⟨fun a7=>c2 (by omega),fun a7=>c0 (by omega) (by omega)⟩⟩⟩⟩,
  fun a1=>⟨fun a3=>⟨fun a4=>⟨fun _=>c2 (by omega),fun a5=>absurd a4 a5⟩,fun a4=>⟨fun a5=>⟨fun a6=>⟨fun _=>c2 (by omega),fun a7=>absurd a6 a7⟩,fun a6=>⟨fun a7=>c2 (by omega),fun a7=>c0 (by omega) (by omega)⟩⟩,fun a5=>⟨fun a7=>c2 (by omega),fun a7=>c0 (by omega) (by omega)⟩⟩⟩,fun a3=>⟨fun a5=>⟨fun a6=>⟨fun _=>c2 (by omega),fun a7=>absurd a6 a7⟩,fun a6=>⟨fun a7=>c2 (by omega),fun a7=>c0 (by omega) (by omega)⟩⟩,fun a5=>⟨fun a7=>c2 (by omega),fun a7=>c0 (by omega) (by omega)⟩⟩⟩⟩
theorem split_loop {l:List UInt8}{w:Bool}{j:Nat}(h1:∀ i b,i < j→l[i]? = some b→inW w b=true) (h2:j=l.length∨∃ b,l[j]? = some b∧inW w b=false) (hw:w=wordy l):splA l=l.take j∧splB l=l.drop j:=by
 subst hw
 exact takeWhile_at h1 h2
theorem split_ok {l:List UInt8}(hl:l.length≤1000000000) (k:∀ H',Fr no H H'→K (.tuple #[.string (str (splA l)),.string (str (splB l))]) H'):CallF Tryz.prog 114 #[.string (str l)] H K Z:=by
 refine V114_ok ?_
 unfold V114
 rw [str_nil,beq_str,str_size]
 refine ⟨fun he=>?_,fun hne=>?_⟩
 ·have:l = []:=of_decide_eq_true he
  subst this
  exact k H (Fr.refl _ _)
 ·have hne':l ≠ []:=of_decide_eq_false hne
  obtain ⟨c,l',rfl⟩:∃ c l',l=c::l':=by
   cases l with
   | nil=>exact absurd rfl hne'
   | cons c l'=>exact ⟨c,l',rfl⟩
  refine IxS.mk (i:=0) rfl ?_
  refine class_ok ⟨_,rfl,fun h2=>?_,fun h2=>?_⟩
  ·have hw:wordy (c::l')=false:=by
    show isL c=false
    cases hc:isL c with
    | false=>rfl
    | true=>rw [hc] at h2;simp at h2
   have htl:Lib.trimLeftS (str (c::l')).data.toList (str [48,49,50,51,52,53,54,55,56,57]).data.toList=splB (c::l'):=by
    rw [str_data,str_data]
    unfold Lib.trimLeftS splB
    rw [hw]
    congr 1
    funext b
    unfold inW
    rw [Bool.false_and,Bool.or_false,Bool.eq_iff_iff]
    simp only [List.contains_iff_mem,isD,Bool.and_eq_true,decide_eq_true_eq]
    constructor
    ·intro hb
     simp only [List.mem_cons,List.not_mem_nil,or_false] at hb
     rcases hb with rfl | rfl | rfl | rfl | rfl | rfl | rfl | rfl | rfl | rfl <;> decide
    ·intro hb
     have hn:b=UInt8.ofNat b.toNat:=by simp
     have:b.toNat=48∨b.toNat=49∨b.toNat=50∨b.toNat=51∨b.toNat=52∨b.toNat=53∨b.toNat=54∨b.toNat=55∨b.toNat=56∨b.toNat=57:=by omega
     rw [hn]
     rcases this with h | h | h | h | h | h | h | h | h | h <;> rw [h] <;> decide
   refine callF_below (v:=.string (str (splB (c::l')))) ?_ fun H' hf=>?_
   ·intro w hw
    have:=Any.strings_TrimLeft_laid S01.lays_trimLeft (by kernel_rfl) (str (c::l')) (str [48,49,50,51,52,53,54,55,56,57]) w (by decide) (by
     intro j b hb
     rw [str_data] at hb
     have hm:=List.mem_of_getElem? hb
     simp only [List.mem_cons,List.not_mem_nil,or_false] at hm
     rcases hm with rfl | rfl | rfl | rfl | rfl | rfl | rfl | rfl | rfl | rfl <;> decide)
    rw [htl] at this
    exact this
   ·refine ⟨_,rfl,?_⟩
    have happ:=spl_app (c::l')
    have hlen:=congrArg List.length happ
    rw [List.length_append] at hlen
    have e:w64 (((c::l').length:Int) - ((str (splB (c::l'))).size:Int))=((splA (c::l')).length:Int):=by
     rw [str_size,wrap64 (by omega) (by omega)]
     omega
    rw [e]
    refine SlS.to (by omega) ?_
    have:(c::l').take (splA (c::l')).length=splA (c::l'):=by
     have h5:(splA (c::l')++splB (c::l')).take (splA (c::l')).length=splA (c::l'):=List.take_left
     rw [happ] at h5
     exact h5
    rw [this]
    exact k H' hf
  ·have hw:wordy (c::l')=true:=by
    show isL c=true
    cases hc:isL c with
    | true=>rfl
    | false=>rw [hc] at h2;cases hd:isD c <;> rw [hd] at h2 <;> simp at h2
   generalize c::l'=l at *
   refine ⟨fun t A m=>∃ j:Nat,A=H∧t=(j:Int)∧j≤l.length∧m=l.length - j∧∀ i b,i < j→l[i]? = some b→inW true b=true,⟨_,0,rfl,rfl,Nat.zero_le _,rfl,fun i b hi=>by omega⟩,?_⟩
   rintro t A m ⟨j,rfl,rfl,hj,rfl,hall⟩ scr
   refine ⟨fun hlt=>?_,fun hge=>?_⟩
   ·have hjl:=dlt hlt
    have hx:l[j]? = some l[j]:=List.getElem?_eq_getElem hjl
    generalize l[j]=b at hx
    refine IxS.mk hx (class_ok ⟨_,rfl,fun h1=>?_,fun h1=>?_⟩)
    ·have hb:inW true b=false:=by
      unfold inW
      cases hL:isL b with
      | true=>rw [hL] at h1;simp at h1
      | false=>
       cases hD:isD b with
       | true=>rw [hL,hD] at h1;simp at h1
       | false=>rfl
     obtain ⟨e1,e2⟩:=split_loop hall (.inr ⟨b,hx,hb⟩) hw.symm
     refine SlS.to (by omega) ?_
     rw [← str_size]
     refine SlS.from (by omega) ?_
     rw [← e1,← e2]
     exact k A (Fr.refl _ _)
    ·have hb:inW true b=true:=by
      unfold inW
      cases hL:isL b with
      | true=>simp
      | false=>
       cases hD:isD b with
       | true=>rfl
       | false=>rw [hL,hD] at h1;simp at h1
     refine ⟨l.length - (j+1),by omega,j+1,rfl,wi (by omega),hjl,rfl,fun i b' hi hb'=>?_⟩
     by_cases hij:i=j
     ·subst hij
      rw [hx] at hb'
      cases hb'
      exact hb
     ·exact hall i b' (by omega) hb'
   ·have hjl:j=l.length:=by have:=dge hge;omega
    subst hjl
    obtain ⟨e1,e2⟩:=split_loop hall (.inl rfl) hw.symm
    rw [List.take_length] at e1
    rw [List.drop_length] at e2
    have hk:=k A (Fr.refl _ _)
    rw [e1,e2] at hk
    exact hk
theorem name_split {l:List UInt8}:nameL l=(decide (splA l ≠ []) && (decide (splB l = []) && (decide (l.length≤16) && wordy l))):=by
 cases hl:l with
 | nil=>rfl
 | cons c r=>
  rw [← hl]
  unfold nameL
  cases hw:wordy l with
  | false=>simp
  | true=>
   have h1:splA l ≠ []:=by
    unfold splA
    rw [hw,hl]
    have hc:isL c=true:=by rw [hl] at hw;exact hw
    rw [List.takeWhile_cons]
    unfold inW
    rw [hc]
    simp
   have h2:(splB l = [])↔(l.all fun b=>isL b || isD b)=true:=by
    unfold splB
    rw [hw,dropWhile_nil,List.all_eq_true]
    unfold inW
    simp only [Bool.true_and]
    constructor
    ·intro h x hx;rw [Bool.or_comm];exact h x hx
    ·intro h x hx;rw [Bool.or_comm];exact h x hx
   rw [decide_eq_true h1]
   simp only [Bool.true_and,Bool.and_true]
   by_cases h3:splB l = []
   ·rw [decide_eq_true h3,h2.1 h3];simp
   ·rw [decide_eq_false h3]
    cases ha:(l.all fun b=>isL b || isD b) with
    | true=>exact absurd (h2.2 ha) h3
    | false=>simp
theorem name_ok {l:List UInt8}(hl:l.length≤1000000000) (k:∀ H',Fr no H H'→K (.bool (nameL l)) H'):CallF Tryz.prog 115 #[.string (str l)] H K Z:=by
 refine V115_ok ?_
 unfold V115
 refine split_ok hl fun H1 f1=>⟨_,_,rfl,?_⟩
 have hk:=k H1 f1
 rw [name_split] at hk
 simp only [str_nil,beq_str,str_size]
 refine ⟨fun h1=>⟨fun h2=>⟨fun h3=>?_,fun h3=>?_⟩,fun h2=>?_⟩,fun h1=>?_⟩
 ·have h1':splA l ≠ []:=by simpa using h1
  obtain ⟨c,r,rfl⟩:∃ c r,l=c::r:=by
   cases l with
   | nil=>exact absurd rfl h1'
   | cons c r=>exact ⟨c,r,rfl⟩
  refine IxS.mk (i:=0) rfl (class_ok ⟨_,rfl,?_⟩)
  have h2':=of_decide_eq_true h2
  have h3':(c::r).length≤16:=by have:=of_decide_eq_true h3;omega
  rw [decide_eq_true h1',decide_eq_true h2',decide_eq_true h3'] at hk
  have e:(((if isL c=true then 2 else if isD c=true then 1 else 0):Int) == 2)=wordy (c::r):=by
   show _=isL c
   cases hc:isL c with
   | true=>rfl
   | false=>cases hd:isD c <;> rfl
  rw [e]
  exact hk
 ·have h3':¬ l.length≤16:=by have:=of_decide_eq_false h3;omega
  rw [decide_eq_false h3'] at hk
  simpa using hk
 ·have h2':=of_decide_eq_false h2
  rw [decide_eq_false h2'] at hk
  simpa using hk
 ·have h1':splA l = []:=by simpa using h1
  have h1'':¬ splA l ≠ []:=fun h=>h h1'
  rw [decide_eq_false h1''] at hk
  simpa using hk
end
end Go.Proofs.YtjdhjgfmloaglaaGreatDoor.C01
end
section
namespace Go.Proofs.YtjdhjgfmloaglaaGreatDoor.C01
open Go Go.V Go.Proofs N01
attribute [local irreducible] Cvt ExtF CallF hrun App MkS
def dgt (u:Nat):UInt8:=UInt8.ofNat (48+u % 10)
def hdL (u:Nat):List UInt8:=if u < 10 then [] else Lib.decDigits (u / 10)
theorem dec_eq (u:Nat):Lib.decDigits u=hdL u ++ [dgt u]:=by
 unfold hdL dgt
 by_cases h:u < 10
 ·rw [if_pos h,Lib.decDigits,dif_pos h]
  have:u % 10=u:=by omega
  rw [this]
  rfl
 ·rw [if_neg h,Lib.decDigits,dif_neg h]
theorem dgt_nat (u:Nat):(dgt u).toNat=48+u % 10:=by
 unfold dgt
 rw [UInt8.toNat_ofNat']
 omega
theorem dec_len:∀ (k u:Nat),u < 10 ^ (k+1)→(Lib.decDigits u).length≤k+1
 | 0,u,h=>by
  rw [Lib.decDigits,dif_pos (by simpa using h)]
  simp
 | k+1,u,h=>by
  rw [Lib.decDigits]
  by_cases h1:u < 10
  ·rw [dif_pos h1];simp
  ·rw [dif_neg h1,List.length_append]
   have:=dec_len k (u / 10) (by rw [Nat.pow_succ] at h;omega)
   simp only [List.length_cons,List.length_nil]
   omega
theorem dec_all (u:Nat):(Lib.decDigits u).all isD=true:=by
 induction u using Nat.strongRecOn with
 | ind u ih=>
  rw [dec_eq,List.all_append]
  have h1:isD (dgt u)=true:=by
   unfold isD
   rw [dgt_nat]
   simp only [Bool.and_eq_true,decide_eq_true_eq]
   omega
  unfold hdL
  by_cases h:u < 10
  ·rw [if_pos h];simp [h1]
  ·rw [if_neg h,ih (u / 10) (by omega)]
   simp [h1]
theorem dec_val (u:Nat):valL (Lib.decDigits u)=u:=by
 induction u using Nat.strongRecOn with
 | ind u ih=>
  rw [dec_eq,val_snoc,dgt_nat]
  unfold hdL
  by_cases h:u < 10
  ·rw [if_pos h]
   show 0*10+_=u
   omega
  ·rw [if_neg h,ih (u / 10) (by omega)]
   omega
theorem dec_ne (u:Nat):Lib.decDigits u ≠ []:=by rw [dec_eq];simp
theorem dec_zero (u:Nat):(Lib.decDigits u)[0]? = some 48→(Lib.decDigits u).length≤1:=by
 induction u using Nat.strongRecOn with
 | ind u ih=>
  intro h0
  by_cases h:u < 10
  ·rw [Lib.decDigits,dif_pos h];simp
  ·rw [Lib.decDigits,dif_neg h] at h0
   exfalso
   rw [List.getElem?_append_left (List.length_pos_iff.2 (dec_ne _))] at h0
   have hl:=ih (u / 10) (by omega) h0
   have hv:=dec_val (u / 10)
   match hd:Lib.decDigits (u / 10),h0,hl with
   | [b],h0,_=>
    rw [hd] at hv
    simp only [List.getElem?_cons_zero,Option.some.injEq] at h0
    subst h0
    have:(0:Nat)=u / 10:=hv
    omega
theorem parse_digits:∀ (l:List UInt8) (acc:Nat),l.all isD=true→(acc+1)*10 ^ l.length≤10 ^ 18→Lib.parseUint10 acc l = .ok (l.foldl (fun n b=>n*10+(b.toNat - 48)) acc)
 | [],acc,_,_=>rfl
 | c::r,acc,ha,hb=>by
  rw [List.all_cons,Bool.and_eq_true] at ha
  have hc:48≤c.toNat∧c.toNat≤57:=by simpa [isD] using ha.1
  have hp:1≤10 ^ r.length:=Nat.one_le_pow _ _ (by omega)
  rw [List.length_cons,Nat.pow_succ] at hb
  have hb1:(acc*10+10)*10 ^ r.length≤10 ^ 18:=by
   have e:(acc*10+10)*10 ^ r.length=(acc+1)*(10 ^ r.length*10):=by
    rw [show acc*10+10=(acc+1)*10 by omega,Nat.mul_assoc,Nat.mul_comm 10]
   omega
  have hacc:acc*10+10≤10 ^ 18:=Nat.le_trans (Nat.le_mul_of_pos_right _ hp) hb1
  rw [Lib.parseUint10,if_pos hc,if_neg (by omega),if_neg (by omega),parse_digits r _ ha.2]
  ·rfl
  ·exact Nat.le_trans (Nat.mul_le_mul_right _ (by omega)) hb1
theorem atoi_digits {l:List UInt8}(h0:l ≠ []) (ha:l.all isD=true) (hl:l.length≤9):Lib.atoiAll l = .ok (valL l:Nat):=by
 obtain ⟨c,r,rfl⟩:∃ c r,l=c::r:=by
  cases l with
  | nil=>exact absurd rfl h0
  | cons c r=>exact ⟨c,r,rfl⟩
 have hc:48≤c.toNat∧c.toNat≤57:=by
  rw [List.all_cons,Bool.and_eq_true] at ha
  simpa [isD] using ha.1
 have hv:=val_lt _ ha
 have hv':valL (c::r) < 10 ^ 9:=Nat.lt_of_lt_of_le hv (Nat.pow_le_pow_right (by omega) hl)
 have hp:Lib.parseUint10 0 (c::r) = .ok (valL (c::r)):=parse_digits _ _ ha (by
  rw [Nat.zero_add,Nat.one_mul]
  exact Nat.pow_le_pow_right (by omega) (by omega))
 unfold Lib.atoiAll
 simp only
 rw [if_neg (by omega)]
 unfold Lib.parseMag
 rw [if_neg h0,hp]
 simp only
 rw [if_neg (by omega),if_neg (by omega),if_neg (by omega)]
section
variable {H:Hp}{K:Value→Hp→Prop}{Z:List PanicEntry→Hp→Prop}
theorem text_ok {n:Int}(h0 : -9223372036854775808≤n) (h1:n≤9223372036854775807) (ht:TabH Tryz.prog H "internal/strconv.uint64pow10" .u64 Lib.pow10Tab)
  (k:∀ H',Fr no H H'→K (.string (str (Lib.itoa n))) H'):CallF Tryz.prog 118 #[.int .i64 n] H K Z:=by
 refine V118_ok ?_
 unfold V118
 refine callF_below (v:=.string (str (Lib.itoa n))) ?_ fun H' hf=>⟨_,rfl,k H' hf⟩
 intro w hw
 refine (Any.strconv_Itoa S01.lays_itoa n h0 h1 w (ht w hw)).mono ?_
 rintro e w' ⟨rfl,kk,os,rfl⟩
 refine ⟨rfl,rfl,rfl,rfl,?_,fun j hj=>?_⟩
 ·show w.heap.size≤(w.heap++os).size
  rw [Array.size_append]
  omega
 ·show (w.heap++os)[j]? = w.heap[j]?
  exact Array.getElem?_append_left hj
theorem take_all {l:List UInt8}{j:Nat}{b:UInt8}(hj:j < l.length) (hx:l[j]? = some b) (hall:(l.take j).all isD=true) (hb:isD b=true):(l.take (j+1)).all isD=true:=by
 rw [List.take_succ_eq_append_getElem hj,List.all_append,hall]
 rw [List.getElem?_eq_getElem hj] at hx
 cases hx
 simp [hb]
theorem not_all {l:List UInt8}{j:Nat}{b:UInt8}(hx:l[j]? = some b) (hb:isD b=false):l.all isD=false:=List.all_eq_false.2 ⟨b,List.mem_of_getElem? hx,by rw [hb];simp⟩
theorem read_ok {l:List UInt8}(hl:l.length≤1000000000) (k:∀ H',Fr no H H'→K (.tuple #[.int .i64 (readL l).1,.int .i64 (readL l).2]) H'):CallF Tryz.prog 157 #[.string (str l)] H K Z:=by
 refine V157_ok ?_
 unfold V157
 simp only [str_nil,beq_str,str_size]
 have k0:=fun {a b:Int}(h:readL l=(a,b))=>(by have:=k H (Fr.refl _ _);rw [h] at this;exact this:K (.tuple #[.int .i64 a,.int .i64 b]) H)
 refine ⟨fun he=>k0 ?_,fun hne=>?_⟩
 ·have:l = []:=of_decide_eq_true he
  subst this
  rfl
 have hne':l ≠ []:=of_decide_eq_false hne
 refine ⟨fun t A m=>∃ j:Nat,A=H∧t=(j:Int)∧j≤l.length∧m=l.length - j∧(l.take j).all isD=true,⟨_,0,rfl,rfl,Nat.zero_le _,rfl,by simp⟩,?_⟩
 rintro t A m ⟨j,rfl,rfl,hj,rfl,hall⟩ scr
 refine ⟨fun hlt=>?_,fun hge=>?_⟩
 ·have hjl:=dlt hlt
  have hx:l[j]? = some l[j]:=List.getElem?_eq_getElem hjl
  generalize l[j]=b at hx
  refine IxS.mk hx (class_ok ⟨_,rfl,fun h1=>k0 ?_,fun h1=>?_⟩)
  ·have hb:isD b=false:=by
    cases hD:isD b with
    | false=>rfl
    | true=>rw [not_both hD,hD] at h1;simp at h1
   unfold readL
   rw [if_neg hne',if_pos (not_all hx hb)]
  ·have hb:isD b=true:=by
    cases hL:isL b with
    | true=>rw [hL] at h1;simp at h1
    | false=>
     cases hD:isD b with
     | true=>rfl
     | false=>rw [hL,hD] at h1;simp at h1
   exact ⟨l.length - (j+1),by omega,j+1,rfl,wi (by omega),hjl,rfl,take_all hjl hx hall hb⟩
 ·have hjl:j=l.length:=by have:=dge hge;omega
  subst hjl
  rw [List.take_length] at hall
  have hall':¬ l.all isD=false:=by rw [hall];simp
  obtain ⟨c,r,hcr⟩:∃ c r,l=c::r:=by
   cases l with
   | nil=>exact absurd rfl hne'
   | cons c r=>exact ⟨c,r,rfl⟩
  have hx:l[0]? = some c:=by rw [hcr];rfl
  have big:decide ((l.length:Int) > 9)=true→¬ (l[0]? = some 48∧l.length > 1)→readL l=(0,2):=by
   intro h9 h48
   have h9':=of_decide_eq_true h9
   unfold readL
   rw [if_neg hne',if_neg hall',if_neg h48,if_pos]
   have hc:c≠48:=fun e=>h48 ⟨by rw [hx,e],by omega⟩
   have hcD:isD c=true:=by rw [hcr,List.all_cons,Bool.and_eq_true] at hall;exact hall.1
   have:=val_ge (l:=r) hcD hc
   rw [hcr] at h9' ⊢
   have h8:9≤r.length:=by simp only [List.length_cons] at h9';omega
   have:=Nat.pow_le_pow_right (show 0 < 10 by omega) h8
   omega
  have fin:decide ((l.length:Int) > 9)=false→¬ (l[0]? = some 48∧l.length > 1)→CallF Tryz.prog 185 #[.string (str l)] A (fun r1 H3=>∃ (y_0:Int) (y_1:Value),r1 = .tuple #[.int .i64 y_0,y_1] ∧
  NilI y_1 fun isNil=>(((!isNil)=true→K (.tuple #[.int .i64 0,.int .i64 2]) H3)∧((!isNil)=false →
  (((decide (y_0 > 268435456))=true→K (.tuple #[.int .i64 0,.int .i64 2]) H3)∧((decide (y_0 > 268435456))=false →
  K (.tuple #[.int .i64 y_0,.int .i64 0]) H3))))) Z:=by
   intro h9 h48
   have h9':l.length≤9:=by have:=of_decide_eq_false h9;omega
   refine callF_below (v:=.tuple #[.int .i64 (valL l:Nat),.nilIface]) ?_ fun H' hf=>⟨_,_,rfl,?_⟩
   ·intro w hw
    refine (Any.strconv_Atoi_ok S01.lays_atoi (str l) (by rw [str_size];omega) (valL l:Nat) (by rw [str_data];exact atoi_digits hne' hall h9') w).mono ?_
    rintro e w' ⟨rfl,h⟩
    refine ⟨rfl,?_⟩
    rcases h with rfl | ⟨t,rfl⟩
    ·exact Go.RowKit.Below.refl _ _
    ·exact Lib.bytesWorld_below _ _ _
   ·have hk:=k H' hf
    unfold readL at hk
    rw [if_neg hne',if_neg hall',if_neg h48] at hk
    refine ⟨(fun h=>by cases h),fun _=>⟨fun h=>?_,fun h=>?_⟩⟩
    ·rw [if_pos (by have:=of_decide_eq_true h;omega)] at hk
     exact hk
    ·rw [if_neg (by have:=of_decide_eq_false h;omega)] at hk
     exact hk
  refine IxS.mk (i:=0) hx ⟨fun h48=>?_,fun h48=>?_⟩
  ·have e48:c=48:=by
    have h48':(c.toNat:Int)=48:=by simpa using h48
    apply UInt8.toNat_inj.1
    have:(48:UInt8).toNat=48:=rfl
    omega
   refine ⟨fun h1=>k0 ?_,fun h1=>⟨fun h9=>k0 (big h9 ?_),fun h9=>fin h9 ?_⟩⟩
   ·have h1':=of_decide_eq_true h1
    unfold readL
    rw [if_neg hne',if_neg hall',if_pos ⟨by rw [hx,e48],by omega⟩]
   ·have h1':=of_decide_eq_false h1
    rintro ⟨_,h⟩
    omega
   ·have h1':=of_decide_eq_false h1
    rintro ⟨_,h⟩
    omega
  ·have e48:¬ (l[0]? = some 48∧l.length > 1):=by
    rintro ⟨h,_⟩
    rw [hx] at h
    cases h
    simp at h48
   exact ⟨fun h9=>k0 (big h9 e48),fun h9=>fin h9 e48⟩
end
end Go.Proofs.YtjdhjgfmloaglaaGreatDoor.C01
end
section
namespace Go.Proofs.YtjdhjgfmloaglaaGreatDoor.L01
open Go Go.V Go.Proofs N01 C01
attribute [local irreducible] Cvt ExtF CallF hrun App MkS
theorem read_dec {u:Nat}(hu:u≤268435456):readL (Lib.decDigits u)=((u:Int),0):=by
 unfold readL
 rw [if_neg (dec_ne u),if_neg (by rw [dec_all];simp),if_neg (by rintro ⟨h1,h2⟩;have:=dec_zero u h1;omega),dec_val,if_neg (by omega)]
end Go.Proofs.YtjdhjgfmloaglaaGreatDoor.L01
end
section
namespace Go.Proofs.YtjdhjgfmloaglaaGreatDoor.P14
open Go Go.V Go.Proofs C01 L01
structure Nd where
 kind:Int
 fn:List UInt8
 copy:Int
 name:List UInt8
 n:Int
 cell:Int
 deriving DecidableEq
def Cnt (x:Int):Prop:=0≤x∧x≤268435456
instance (x:Int):Decidable (Cnt x):=by unfold Cnt;infer_instance
def RightP (a:Nd):Prop:=
 (a.kind=5∧a.fn = []∧a.copy=0∨a.kind≠5∧nameL a.fn=true∧Cnt a.copy) ∧
 ((a.kind=1∨a.kind=5∨a.kind=6)∧nameL a.name=true∧a.n=0∨(a.kind=2∨a.kind=3∨a.kind=7)∧a.name = []∧Cnt a.n∧(a.kind=2∨1≤a.n)∨a.kind=4∧a.name = []∧a.n=0) ∧
 (a.cell = -1∨(a.kind=5∨a.kind=6∨a.kind=7)∧Cnt a.cell)
instance (a:Nd):Decidable (RightP a):=by unfold RightP;infer_instance
def dec (x:Int):List UInt8:=Lib.decDigits x.toNat
def copyP (c:Int):List UInt8:=if c > 0 then 126::dec c else []
def cellP (c:Int):List UInt8:=if c = -1 then [] else 43::dec c
def markB (k:Int):UInt8:=if k=1 then 46 else if k=2 then 36 else if k=3 then 64 else if k=4 then 40 else if k=6 then 37 else 35
def tailP (a:Nd):List UInt8:=if a.kind=1∨a.kind=6 then a.name else if a.kind=4 then [41] else dec a.n
def bodyP (a:Nd):List UInt8:=if a.kind=5 then a.name else a.fn++(copyP a.copy++(markB a.kind::tailP a))
def textL (a:Nd):List UInt8:=bodyP a++cellP a.cell
def kindB (b:UInt8):Int:=if b=46 then 1 else if b=36 then 2 else if b=64 then 3 else if b=40 then 4 else if b=37 then 6 else if b=35 then 7 else if b=32 then 0 else -1
def parse3 (c:Int) (fn:List UInt8) (copy:Int):List UInt8→Option Nd
 | []=>none
 | m::t=>
  if kindB m=1∨kindB m=6 then some ⟨kindB m,fn,copy,t,0,c⟩
  else if kindB m=4 then if t = [41] then some ⟨4,fn,copy,[],0,c⟩ else none
  else if kindB m=2∨kindB m=3∨kindB m=7 then if (readL t).2=0 then some ⟨kindB m,fn,copy,[],(readL t).1,c⟩ else none
  else none
def parse2 (c:Int) (s:List UInt8):Option Nd:=
 match splB s with
 | []=>some ⟨5,[],0,splA s,0,c⟩
 | m::r=>if m=126 then if (readL (splA r)).2=0 then parse3 c (splA s) (readL (splA r)).1 (splB r) else none else parse3 c (splA s) 0 (m::r)
def parseO (s:List UInt8):Option Nd:=
 if 43∈s then if (readL ((s.dropWhile (· != 43)).tail)).2=0 then parse2 (readL ((s.dropWhile (· != 43)).tail)).1 (s.takeWhile (· != 43)) else none
 else parse2 (-1) s
def out (b:UInt8):Prop:=isL b=false∧isD b=false
theorem name_all {w:List UInt8}(h:nameL w=true):wordy w=true∧(∀ b∈w,isL b=true∨isD b=true)∧w ≠ []:=by
 unfold nameL at h
 simp only [Bool.and_eq_true,List.all_eq_true,Bool.or_eq_true] at h
 refine ⟨h.1,h.2.2,?_⟩
 rintro rfl
 exact absurd h.1 (by decide)
theorem spl_at {w r:List UInt8}{q:Bool}(hw:wordy (w++r)=q) (h1:∀ b∈w,inW q b=true) (h2:r = []∨∃ c t,r=c::t∧inW q c=false):splA (w++r)=w∧splB (w++r)=r:=by
 have h:=takeWhile_at (p:=inW q) (l:=w++r) (j:=w.length) (fun i b hi hb=>by
  rw [List.getElem?_append_left hi] at hb
  exact h1 b (List.mem_of_getElem? hb)) (by
  rcases h2 with rfl | ⟨c,t,rfl,hc⟩
  ·left;simp
  ·right;exact ⟨c,by rw [List.getElem?_append_right (Nat.le_refl _),Nat.sub_self];rfl,hc⟩)
 unfold splA splB
 rw [hw,h.1,h.2]
 simp
theorem spl_name {w r:List UInt8}(hw:nameL w=true) (h2:r = []∨∃ c t,r=c::t∧out c):splA (w++r)=w∧splB (w++r)=r:=by
 obtain ⟨h1,h3,h4⟩:=name_all hw
 refine spl_at (q:=true) ?_ (fun b hb=>?_) ?_
 ·cases w with
  | nil=>exact absurd rfl h4
  | cons a w=>exact h1
 ·unfold inW
  rcases h3 b hb with h | h <;> simp [h]
 ·rcases h2 with h | ⟨c,t,h,hc⟩
  ·exact .inl h
  ·exact .inr ⟨c,t,h,by unfold inW;rw [hc.1,hc.2];rfl⟩
theorem spl_dec {u:Nat}{r:List UInt8}(h2:r = []∨∃ c t,r=c::t∧out c):splA (Lib.decDigits u++r)=Lib.decDigits u∧splB (Lib.decDigits u++r)=r:=by
 have ha:=dec_all u
 have hne:=dec_ne u
 refine spl_at (q:=false) ?_ (fun b hb=>?_) ?_
 ·cases hd:Lib.decDigits u with
  | nil=>exact absurd hd hne
  | cons a w=>
   show isL a=false
   rw [hd,List.all_cons,Bool.and_eq_true] at ha
   exact not_both ha.1
 ·unfold inW
  rw [List.all_eq_true.1 ha b hb]
  rfl
 ·rcases h2 with h | ⟨c,t,h,hc⟩
  ·exact .inl h
  ·exact .inr ⟨c,t,h,by unfold inW;rw [hc.2];rfl⟩
theorem mark_mem (k:Int):markB k∈([46,36,64,40,37,35]:List UInt8):=by
 unfold markB
 repeat' split
 all_goals decide
theorem out_mark (k:Int):out (markB k):=by
 have h:=mark_mem k
 generalize markB k=b at h
 simp only [List.mem_cons,List.not_mem_nil,or_false] at h
 unfold out
 rcases h with rfl | rfl | rfl | rfl | rfl | rfl <;> decide
theorem kind_mark {k:Int}(h:k=1∨k=2∨k=3∨k=4∨k=6∨k=7):kindB (markB k)=k:=by
 rcases h with rfl | rfl | rfl | rfl | rfl | rfl <;> decide
theorem mark_ne {k:Int}:markB k≠126∧markB k≠43:=by
 have h:=mark_mem k
 generalize markB k=b at h
 simp only [List.mem_cons,List.not_mem_nil,or_false] at h
 rcases h with rfl | rfl | rfl | rfl | rfl | rfl <;> decide
theorem name_no {w:List UInt8}{c:UInt8}(hw:nameL w=true) (hc:out c):c∉w:=by
 intro h
 rcases (name_all hw).2.1 c h with h' | h'
 ·rw [hc.1] at h';cases h'
 ·rw [hc.2] at h';cases h'
theorem dec_no {x:Int}{c:UInt8}(hc:out c):c∉dec x:=by
 intro h
 have:=List.all_eq_true.1 (dec_all x.toNat) c h
 rw [hc.2] at this
 cases this
theorem out43:out 43:=by unfold out;decide
theorem out126:out 126:=by unfold out;decide
theorem right_kind {a:Nd}(h:RightP a):a.kind=5∨(a.kind=1∨a.kind=2∨a.kind=3∨a.kind=4∨a.kind=6∨a.kind=7):=by
 obtain ⟨_,h,_⟩:=h
 rcases h with ⟨h,_⟩ | ⟨h,_⟩ | ⟨h,_⟩ <;> omega
theorem body_no {a:Nd}(h:RightP a):(43:UInt8)∉bodyP a:=by
 obtain ⟨h1,h2,h3⟩:=h
 unfold bodyP
 by_cases h5:a.kind=5
 ·rw [if_pos h5]
  rcases h2 with ⟨_,h,_⟩ | ⟨h,_⟩ | ⟨h,_⟩
  ·exact name_no h out43
  ·omega
  ·omega
 ·rw [if_neg h5]
  rcases h1 with ⟨h,_⟩ | ⟨_,hf,hc⟩
  ·exact absurd h h5
  simp only [List.mem_append,List.mem_cons]
  rintro (h | h | h | h)
  ·exact name_no hf out43 h
  ·unfold copyP at h
   split at h
   ·rcases List.mem_cons.1 h with h | h
    ·revert h;decide
    ·exact dec_no out43 h
   ·cases h
  ·exact mark_ne.2 h.symm
  ·unfold tailP at h
   split at h
   ·rcases h2 with ⟨_,h',_⟩ | ⟨h',_⟩ | ⟨h',_⟩
    ·exact name_no h' out43 h
    ·omega
    ·omega
   ·split at h
    ·revert h;decide
    ·exact dec_no out43 h
theorem read_dec' {x:Int}(h:Cnt x):readL (dec x)=(x,0):=by
 obtain ⟨h1,h2⟩:=h
 have:=read_dec (u:=x.toNat) (by omega)
 rw [show ((x.toNat:Nat):Int)=x by omega] at this
 exact this
theorem parse3_text {a:Nd}(h:RightP a) (h5:a.kind≠5):parse3 a.cell a.fn a.copy (markB a.kind::tailP a)=some a:=by
 have hk:=(right_kind h).resolve_left h5
 obtain ⟨h1,h2,h3⟩:=h
 obtain ⟨kind,fn,copy,name,n,cell⟩:=a
 simp only at *
 rw [parse3,kind_mark hk]
 unfold tailP
 simp only
 rcases h2 with ⟨hk2,hn,hz⟩ | ⟨hk2,hn,hz,hz2⟩ | ⟨hk2,hn,hz⟩
 ·have hk3:kind=1∨kind=6:=by omega
  rw [if_pos hk3,if_pos hk3,hz]
 ·have c1:¬ (kind=1∨kind=6):=by omega
  have c2:¬ kind=4:=by omega
  rw [if_neg c1,if_neg c1,if_neg c2,if_neg c2,if_pos hk2,read_dec' hz,if_pos rfl,hn]
 ·have c1:¬ (kind=1∨kind=6):=by omega
  rw [if_neg c1,if_neg c1,if_pos hk2,if_pos hk2,if_pos rfl,hk2,hn,hz]
theorem parse2_text {a:Nd}(h:RightP a):parse2 a.cell (bodyP a)=some a:=by
 unfold parse2 bodyP
 by_cases h5:a.kind=5
 ·rw [if_pos h5]
  obtain ⟨h1,h2,h3⟩:=h
  obtain ⟨kind,fn,copy,name,n,cell⟩:=a
  simp only at *
  rcases h1 with ⟨_,hf,hc⟩ | ⟨h,_⟩
  ·rcases h2 with ⟨_,hn,hz⟩ | ⟨h,_⟩ | ⟨h,_⟩
   ·obtain ⟨e1,e2⟩:=spl_name (r:=[]) hn (.inl rfl)
    rw [List.append_nil] at e1 e2
    rw [e2,e1,hf,hc,hz,h5]
   ·omega
   ·omega
  ·exact absurd h5 h
 ·rw [if_neg h5]
  have hp:=parse3_text h h5
  obtain ⟨h1,h2,h3⟩:=h
  rcases h1 with ⟨h,_⟩ | ⟨_,hf,hc⟩
  ·exact absurd h h5
  unfold copyP
  by_cases hc0:a.copy > 0
  ·rw [if_pos hc0]
   obtain ⟨e1,e2⟩:=spl_name (r:=(126::dec a.copy)++(markB a.kind::tailP a)) hf (.inr ⟨_,_,rfl,out126⟩)
   rw [e1,e2]
   simp only [List.cons_append,if_true]
   obtain ⟨e3,e4⟩:=spl_dec (u:=a.copy.toNat) (r:=markB a.kind::tailP a) (.inr ⟨_,_,rfl,out_mark _⟩)
   show (if (readL (splA (Lib.decDigits a.copy.toNat++markB a.kind::tailP a))).2=0 then parse3 a.cell a.fn (readL (splA (Lib.decDigits a.copy.toNat++markB a.kind::tailP a))).1 (splB (Lib.decDigits a.copy.toNat++markB a.kind::tailP a)) else none)=some a
   rw [e3,e4,show Lib.decDigits a.copy.toNat=dec a.copy from rfl,read_dec' hc,if_pos rfl]
   exact hp
  ·rw [if_neg hc0,List.nil_append]
   obtain ⟨e1,e2⟩:=spl_name (r:=markB a.kind::tailP a) hf (.inr ⟨_,_,rfl,out_mark _⟩)
   rw [e1,e2]
   simp only
   rw [if_neg mark_ne.1]
   have:a.copy=0:=by have:=hc.1;omega
   rw [this] at hp
   exact hp
theorem until_at {b r:List UInt8}{c:UInt8}(h:c∉b):(b++c::r).takeWhile (· != c)=b∧(b++c::r).dropWhile (· != c)=c::r:=by
 have:=takeWhile_at (p:=(· != c)) (l:=b++c::r) (j:=b.length) (fun i x hi hx=>by
  rw [List.getElem?_append_left hi] at hx
  have hm:=List.mem_of_getElem? hx
  simp only [bne_iff_ne,ne_eq]
  rintro rfl
  exact h hm) (.inr ⟨c,by rw [List.getElem?_append_right (Nat.le_refl _),Nat.sub_self];rfl,by simp⟩)
 rw [this.1,this.2]
 simp
theorem parse_text {a:Nd}(h:RightP a):parseO (textL a)=some a:=by
 have h1:=body_no h
 have h2:=parse2_text h
 unfold parseO textL cellP
 by_cases hc:a.cell = -1
 ·rw [if_pos hc,List.append_nil,if_neg h1]
  rw [hc] at h2
  exact h2
 ·rw [if_neg hc,if_pos (by simp)]
  obtain ⟨e1,e2⟩:=until_at (r:=dec a.cell) h1
  rw [e1,e2]
  have hcc:Cnt a.cell:=by
   rcases h.2.2 with h' | ⟨_,h'⟩
   ·exact absurd h' hc
   ·exact h'
  show (if (readL (dec a.cell)).2=0 then parse2 (readL (dec a.cell)).1 (bodyP a) else none)=some a
  rw [read_dec' hcc,if_pos rfl]
  exact h2
def readN (s:List UInt8):Option Nd:=match parseO s with
 | some a=>if RightP a∧textL a=s then some a else none
 | none=>none
theorem readN_iff {s:List UInt8}{a:Nd}:readN s=some a↔RightP a∧textL a=s:=by
 unfold readN
 constructor
 ·intro h
  split at h
  ·split at h
   ·cases h;assumption
   ·cases h
  ·cases h
 ·rintro ⟨h1,rfl⟩
  rw [parse_text h1]
  simp [h1]
end Go.Proofs.YtjdhjgfmloaglaaGreatDoor.P14
end
section
namespace Go.Proofs.YtjdhjgfmloaglaaGreatDoor.C14
open Go Go.V Go.Proofs N14 C01 P14
attribute [local irreducible] Cvt ExtF CallF hrun App MkS
def ndV (a:Nd):List Value:=[.int .i64 a.kind,.string (str a.fn),.int .i64 a.copy,.string (str a.name),.int .i64 a.n,.int .i64 a.cell]
def ndA (a:Nd):Value:=.agg #[.int .i64 a.kind,.string (str a.fn),.int .i64 a.copy,.string (str a.name),.int .i64 a.n,.int .i64 a.cell]
def Sm (a:Nd):Prop:=a.fn.length≤1048576∧a.name.length≤1048576
theorem ld6 {H:Hp}{b:Nat}{a:Nd}{T:TypeId}{P:Int→ByteArray→Int→ByteArray→Int→Int→Prop}(h:Blk H b (ndV a) T) (k:P a.kind (str a.fn) a.copy (str a.name) a.n a.cell) :
  ∃ (x_a:Int) (x_b:ByteArray) (x_c:Int) (x_d:ByteArray) (x_e x_f:Int),(hcell H ⟨b,0,none⟩=some (.int .i64 x_a)∧hcell H ⟨b,1,none⟩=some (.string x_b)∧hcell H ⟨b,2,none⟩=some (.int .i64 x_c)∧hcell H ⟨b,3,none⟩=some (.string x_d) ∧
   hcell H ⟨b,4,none⟩=some (.int .i64 x_e)∧hcell H ⟨b,5,none⟩=some (.int .i64 x_f)∧True)∧P x_a x_b x_c x_d x_e x_f:=
 ⟨_,_,_,_,_,_,⟨h.ld 0,h.ld 1,h.ld 2,h.ld 3,h.ld 4,h.ld 5,trivial⟩,k⟩
section
variable {H:Hp}{K:Value→Hp→Prop}{Z:List PanicEntry→Hp→Prop}
theorem cellRight_ok {a:Nd}(k:∀ H',Fr no H H'→K (.bool (decide (a.cell = -1∨Cnt a.cell))) H'):CallF Tryz.prog 116 #[ndA a] H K Z:=by
 refine V116_ok ?_
 unfold V116
 intro bN A hA
 have hb:Blk A bN (ndV a) 61:=hA.blk
 refine ⟨_,hb.ld 5,fun h1=>⟨_,hb.ld 5,?_⟩,fun h1=>?_⟩
 ·have h1':=of_decide_eq_true h1
  have e:decide (a.cell≤268435456)=decide (a.cell = -1∨Cnt a.cell):=by
   apply decide_eq_decide.2
   unfold Cnt
   omega
  rw [e]
  exact k A hA.fr
 ·have h1':=of_decide_eq_false h1
  have e:false=decide (a.cell = -1∨Cnt a.cell):=by
   symm
   apply decide_eq_false
   unfold Cnt
   omega
  have hk:=k A hA.fr
  rw [← e] at hk
  exact hk
def F1 (a:Nd):Prop:=a.kind=5∧a.fn = []∧a.copy=0∨a.kind≠5∧nameL a.fn=true∧Cnt a.copy
theorem r56 {a:Nd}(f:F1 a) (h:a.kind=5∨a.kind=6):RightP a↔nameL a.name=true∧a.n=0∧(a.cell = -1∨Cnt a.cell):=by
 unfold RightP F1 at *
 grind
theorem r1 {a:Nd}(f:F1 a) (h:a.kind=1):RightP a↔nameL a.name=true∧a.n=0∧a.cell = -1:=by
 unfold RightP F1 at *
 grind
theorem r7 {a:Nd}(f:F1 a) (h:a.kind=7):RightP a↔a.name = []∧1≤a.n∧a.n≤268435456∧(a.cell = -1∨Cnt a.cell):=by
 unfold RightP F1 Cnt at *
 grind
theorem r4 {a:Nd}(f:F1 a) (h:a.kind=4):RightP a↔a.name = []∧a.n=0∧a.cell = -1:=by
 unfold RightP F1 at *
 grind
theorem r23 {a:Nd}(f:F1 a) {least:Int}(h:a.kind=3∧least=1∨a.kind=2∧least=0):RightP a↔a.name = []∧least≤a.n∧a.n≤268435456∧a.cell = -1:=by
 unfold RightP F1 Cnt at *
 grind
theorem rno {a:Nd}(h1:a.kind≠1) (h2:a.kind≠2) (h3:a.kind≠3) (h4:a.kind≠4) (h5:a.kind≠5) (h6:a.kind≠6) (h7:a.kind≠7):¬ RightP a:=by
 unfold RightP
 grind
theorem beq_str' (a b:List UInt8):(str a == str b)=decide (a=b):=by
 show (a.toArray == b.toArray)=_
 rw [Bool.eq_iff_iff,beq_iff_eq,decide_eq_true_eq]
 simp
set_option maxRecDepth 10000 in
theorem right_ok {a:Nd}(hs:Sm a) (k:∀ H',Fr no H H'→K (.bool (decide (RightP a))) H'):CallF Tryz.prog 63 #[ndA a] H K Z:=by
 refine V63_ok ?_
 unfold V63
 intro bN A hA
 have s0:=(Sym.start H).newb (cs:=ndV a) hA
 refine ld6 (s0.get (k:=0) rfl) ?_
 intro bR B hB
 have s1:=s0.newb (cs:=ndV ⟨0,[],0,[],0,0⟩) hB
 refine s1.stbs (k:=0) (i:=0) (cs:=ndV ⟨0,[],0,[],0,0⟩) rfl (by simp [ndV]) (by intro v hv;simp only [List.mem_cons,List.not_mem_nil,or_false] at hv;rcases hv with rfl | rfl | rfl | rfl | rfl | rfl <;> rfl) fun C s2=>?_
 replace s2:Sym H no C [blk bR (ndV a) 61,blk bN (ndV a) 61]:=s2
 refine s2.stb (k:=0) (i:=0) rfl (by simp [ndV]) rfl fun D s3=>?_
 refine s3.stb (k:=0) (i:=1) rfl (by simp [ndV]) rfl fun E s4=>?_
 refine s4.stb (k:=0) (i:=2) rfl (by simp [ndV]) rfl fun F s5=>?_
 replace s5:Sym H no F [blk bR (ndV ⟨0,[],0,a.name,a.n,a.cell⟩) 61,blk bN (ndV a) 61]:=s5
 -- any answer is the right one
 have fin:∀ {L:List It}{G:Hp}{b:Bool},Sym H no G L→(b=true↔RightP a)→K (.bool b) G:=by
  intro L G b hG hb
  have e:b=decide (RightP a):=by
   rw [Bool.eq_iff_iff,hb,decide_eq_true_eq]
  rw [e]
  exact k G hG.frno
 have finF:∀ {L:List It}{G:Hp},Sym H no G L→¬ RightP a→K (.bool false) G:=fun hG hb=>fin hG ⟨(fun h=>by cases h),fun h=>absurd h hb⟩
 have hnm:a.name.length≤1000000000:=by have:=hs.2;omega
 refine ⟨fun G=>Sym H no G [blk bR (ndV ⟨0,[],0,a.name,a.n,a.cell⟩) 61,blk bN (ndV a) 61]∧(a.kind=5∨F1 a),?_,?_⟩
 ·rintro G ⟨s6,f15⟩ scr
  have f1:a.kind≠5→F1 a:=fun h=>f15.resolve_left h
  have nd:Blk G bN (ndV a) 61:=s6.get (k:=1) rfl
  have nr:Blk G bR (ndV ⟨0,[],0,a.name,a.n,a.cell⟩) 61:=s6.get (k:=0) rfl
  refine ⟨_,nd.ld 0,fun least G'=>G'=G∧(a.kind=3∧least=1∨a.kind=2∧least=0),?_,fun G'=>G'=G∧(a.kind=5∨a.kind=6)∧F1 a,?_,fun h5=>?_,fun h5=>⟨fun h6=>⟨rfl,.inr (by simpa using h6),f1 (by simpa using h5)⟩,fun h6=>⟨fun h1=>?_,fun h1=>⟨fun h7=>?_,fun h7=>⟨fun h4=>?_,fun h4=>⟨fun h3=>⟨rfl,.inl ⟨by simpa using h3,rfl⟩⟩,fun h3=>⟨fun h2=>⟨rfl,.inr ⟨by simpa using h2,rfl⟩⟩,fun h2=>?_⟩⟩⟩⟩⟩⟩⟩
  ·rintro least _ ⟨rfl,hk⟩ scr1
   have hr:=r23 (f1 (by omega)) hk
   refine ⟨_,nd.ld 4,fun hge=>⟨_,nd.ld 4,fun hle=>ld6 nr ⟨_,nd.ld 4,fin s6 ?_⟩,fun hgt=>finF s6 ?_⟩,fun hlt=>finF s6 ?_⟩
   ·have:=of_decide_eq_true hge
    have:=of_decide_eq_true hle
    rw [hr,str_nil,beq_str',beq_str']
    simp
    grind
   ·have:=of_decide_eq_false hgt
    rw [hr]
    omega
   ·have:=of_decide_eq_false hlt
    rw [hr]
    omega
  ·rintro _ ⟨rfl,hk,ff⟩ scr1
   have hr:=r56 ff hk
   refine ⟨_,nd.ld 3,name_ok hnm fun H2 f2=>⟨_,rfl,fun hy=>?_,fun hn=>finF (s6.more f2) ?_⟩⟩
   ·have s7:=s6.more f2
    have nd2:Blk H2 bN (ndV a) 61:=s7.get (k:=1) rfl
    refine ld6 (s7.get (k:=0) rfl) ⟨_,nd2.ld 3,_,nd2.ld 5,fun hz=>ld6 nd2 ?_,fun hz=>finF s7 ?_⟩
    ·refine cellRight_ok (a:=a) fun H3 f3=>⟨_,rfl,fin (s7.more f3) ?_⟩
     rw [str_nil,beq_str',beq_str'] at hz
     simp at hz
     rw [hr,decide_eq_true_eq]
     grind
    ·rw [str_nil,beq_str',beq_str'] at hz
     simp at hz
     rw [hr]
     grind
   ·rw [hr,hn]
    simp
  ·have h5':a.kind=5:=by simpa using h5
   have noF:¬ F1 a→¬ RightP a:=fun h h'=>h h'.1
   refine ⟨_,nd.ld 1,fun hne=>finF s6 (noF ?_),fun heq=>⟨_,nd.ld 2,fun hne=>finF s6 (noF ?_),fun heq2=>⟨rfl,.inl h5',.inl ⟨h5',?_,by simpa using heq2⟩⟩⟩⟩
   ·rw [str_nil,beq_str] at hne
    have:a.fn ≠ []:=by simpa using hne
    unfold F1
    grind
   ·have:a.copy≠0:=by simpa using hne
    unfold F1
    grind
   ·rw [str_nil,beq_str] at heq
    simpa using heq
  ·have h1':a.kind=1:=by simpa using h1
   have hr:=r1 (f1 (by omega)) h1'
   refine ⟨_,nd.ld 3,name_ok hnm fun H2 f2=>⟨_,rfl,fun hy=>?_,fun hn=>finF (s6.more f2) ?_⟩⟩
   ·have s7:=s6.more f2
    have nd2:Blk H2 bN (ndV a) 61:=s7.get (k:=1) rfl
    refine ld6 (s7.get (k:=0) rfl) ⟨_,nd2.ld 3,fin s7 ?_⟩
    rw [hr,str_nil,beq_str',beq_str']
    simp
    grind
   ·rw [hr,hn]
    simp
  ·have h7':a.kind=7:=by simpa using h7
   have hr:=r7 (f1 (by omega)) h7'
   refine ⟨_,nd.ld 4,fun hge=>⟨_,nd.ld 4,fun hle=>ld6 nr ⟨_,nd.ld 4,_,nd.ld 5,fun hz=>ld6 nd ?_,fun hz=>finF s6 ?_⟩,fun hgt=>finF s6 ?_⟩,fun hlt=>finF s6 ?_⟩
   ·have:=of_decide_eq_true hge
    have:=of_decide_eq_true hle
    refine cellRight_ok (a:=a) fun H3 f3=>⟨_,rfl,fin (s6.more f3) ?_⟩
    rw [str_nil,beq_str',beq_str'] at hz
    simp at hz
    rw [hr,decide_eq_true_eq]
    grind
   ·rw [str_nil,beq_str',beq_str'] at hz
    simp at hz
    rw [hr]
    grind
   ·have:=of_decide_eq_false hgt
    rw [hr]
    omega
   ·have:=of_decide_eq_false hlt
    rw [hr]
    omega
  ·have h4':a.kind=4:=by simpa using h4
   have hr:=r4 (f1 (by omega)) h4'
   refine ld6 nr (fin s6 ?_)
   rw [hr,str_nil,beq_str',beq_str']
   simp
  ·refine finF s6 (rno ?_ ?_ ?_ ?_ ?_ ?_ ?_)
   ·simpa using h1
   ·simpa using h2
   ·simpa using h3
   ·simpa using h4
   ·simpa using h5
   ·simpa using h6
   ·simpa using h7
 ·have nd:Blk F bN (ndV a) 61:=s5.get (k:=1) rfl
  refine ⟨_,nd.ld 0,fun h5=>?_,fun h5=>⟨s5,.inl (by simpa using h5)⟩⟩
  ·have h5':a.kind≠5:=by simpa using h5
   have noF:¬ F1 a→¬ RightP a:=fun h h'=>h h'.1
   refine ⟨_,nd.ld 1,name_ok (by have:=hs.1;omega) fun H2 f2=>⟨_,rfl,fun hn=>finF (s5.more f2) (noF ?_),fun hy=>?_⟩⟩
   ·have hn':nameL a.fn=false:=by simpa using hn
    unfold F1
    grind
   ·have hy':nameL a.fn=true:=by simpa using hy
    have s6:=s5.more f2
    have nd2:Blk H2 bN (ndV a) 61:=s6.get (k:=1) rfl
    refine ⟨_,nd2.ld 2,fun hlt=>finF s6 (noF ?_),fun hge=>⟨_,nd2.ld 2,fun hgt=>finF s6 (noF ?_),fun hle=>⟨s6,.inr (.inr ⟨h5',hy',?_,?_⟩)⟩⟩⟩
    ·have:=of_decide_eq_true hlt
     unfold F1 Cnt
     omega
    ·have:=of_decide_eq_true hgt
     unfold F1 Cnt
     omega
    ·have:=of_decide_eq_false hge
     omega
    ·have:=of_decide_eq_false hle
     omega
end
end Go.Proofs.YtjdhjgfmloaglaaGreatDoor.C14
end
section
set_option maxRecDepth 100000
namespace Go.Proofs.YtjdhjgfmloaglaaGreatDoor.N02
open Go Go.V Go.Proofs
def V119 (H:Hp) (b:Addr) (c:Int) (K:Value→Hp→Prop) (Z:List PanicEntry→Hp→Prop):Prop:=
 CallF Tryz.prog 160 #[.pointer (some b)] H (fun r H1=>r = .tuple #[]∧∃ x:Sl,hcell H1 (Addr.add b 1)=some (.slice x.a x.n x.c) ∧
  ∀ b1 H2,Newb H1 (.cells #[.int .u8 c] 5) b1 H2→App Tryz.prog #[161,161] 161 H2 [.slice x.a x.n x.c,.slice (some ⟨b1,0,none⟩) 1 1] fun ap H3=>
  (StL (Addr.add b 1) 0 [.slice ap.a ap.n ap.c] H3 fun H4=>(K (.nilIface) H4))) Z
theorem V119_ok {H b c K Z} (h:V119 H b c K Z):CallF Tryz.prog 119 #[.pointer (some b),.int .u8 c] H K Z:=
 fnC_sound (aJ:=fun _=>none) (aL:=fun _=>none) (Eq.mp (by kernel_rfl) h)
def V117 (H:Hp) (b:Addr) (s:ByteArray) (K:Value→Hp→Prop) (Z:List PanicEntry→Hp→Prop):Prop:=
 CallF Tryz.prog 160 #[.pointer (some b)] H (fun r H1=>r = .tuple #[]∧∃ x:Sl,hcell H1 (Addr.add b 1)=some (.slice x.a x.n x.c) ∧
  App Tryz.prog #[161,9] 161 H1 [.slice x.a x.n x.c,.string s] fun ap H2=>(StL (Addr.add b 1) 0 [.slice ap.a ap.n ap.c] H2 fun H3=>
  (K (.tuple #[.int .i64 (s.size:Int),.nilIface]) H3))) Z
theorem V117_ok {H b s K Z} (h:V117 H b s K Z):CallF Tryz.prog 117 #[.pointer (some b),.string s] H K Z:=
 fnC_sound (aJ:=fun _=>none) (aL:=fun _=>none) (Eq.mp (by kernel_rfl) h)
def V120 (H:Hp) (b:Addr) (K:Value→Hp→Prop) (Z:List PanicEntry→Hp→Prop):Prop:=
 ∃ x:Sl,hcell H (Addr.add b 1)=some (.slice x.a x.n x.c)∧((Blt Tryz.prog .unsafeSliceData #[161] 206 #[false] H [.slice x.a x.n x.c] fun r H1=>
  ∃ y:Option Addr,r = .pointer y∧∃ x1:Sl,hcell H1 (Addr.add b 1)=some (.slice x1.a x1.n x1.c) ∧
  Blt Tryz.prog .unsafeString #[206,3] 9 #[false,false] H1 [.pointer y,.int .i64 (x1.n:Int)] fun r1 H2=>
  ∃ y1:ByteArray,r1 = .string y1∧K (.string y1) H2)∧(∃ x2:Sl,hcell H (Addr.add b 1)=some (.slice x2.a x2.n x2.c) ∧
  Blt Tryz.prog .unsafeSliceData #[161] 206 #[false] H [.slice x.a x.n x.c] fun r2 H3=>∃ y2:Option Addr,r2 = .pointer y2 ∧
  Blt Tryz.prog .unsafeString #[206,3] 9 #[false,false] H3 [.pointer y2,.int .i64 (x2.n:Int)] fun r3 H4=>
  ∃ y3:ByteArray,r3 = .string y3∧K (.string y3) H4))
theorem V120_ok {H b K Z} (h:V120 H b K Z):CallF Tryz.prog 120 #[.pointer (some b)] H K Z:=
 fnC_sound (aJ:=fun _=>none) (aL:=fun _=>none) (Eq.mp (by kernel_rfl) h)
def V160 (H:Hp) (b:Addr) (K:Value→Hp→Prop) (Z:List PanicEntry→Hp→Prop):Prop:=
 ∃ x:Option Addr,hcell H b=some (.pointer x)∧(((Option.isNone x)=true→Cvt Tryz.prog 160 229 H (.pointer (some b)) fun r H1=>
  ∃ cv:Value,r=cv∧ExtF Tryz.prog 186 [cv] H1 fun r1 H2=>∃ y:Value,r1=y∧Cvt Tryz.prog 229 160 H2 (y) fun r2 H3=>
  ∃ cv1:Option Addr,r2 = .pointer cv1∧StL b 0 [.pointer cv1] H3 fun H4=>(K (.tuple #[]) H4)) ∧
  ((Option.isNone x)=false→∃ x1:Option Addr,hcell H b=some (.pointer x1)∧PEq x1 b fun same=>
  (((!same)=true→False)∧((!same)=false→K (.tuple #[]) H))))
theorem V160_ok {H b K Z} (h:V160 H b K Z):CallF Tryz.prog 160 #[.pointer (some b)] H K Z:=
 fnC_sound (aJ:=fun _=>none) (aL:=fun _=>none) (Eq.mp (by kernel_rfl) h)
end Go.Proofs.YtjdhjgfmloaglaaGreatDoor.N02
end
