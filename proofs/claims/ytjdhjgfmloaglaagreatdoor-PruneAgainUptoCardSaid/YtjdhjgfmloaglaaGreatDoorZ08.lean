import Derived.Test.YtjdhjgfmloaglaaGreatDoorZ07
import Derived.Test.YtjdhjgfmloaglaaGreatDoorProg
set_option linter.unusedVariables false
set_option linter.unusedSimpArgs false
section
namespace Go.Proofs.YtjdhjgfmloaglaaGreatDoor.C01
open Go Go.V Go.Proofs N01
attribute [local irreducible] Cvt ExtF CallF hrun App MkS
def isD (b:UInt8):Bool:=decide (48≤b.toNat) && decide (b.toNat≤57)
def isL (b:UInt8):Bool:=(decide (65≤b.toNat) && decide (b.toNat≤90)) || ((decide (97≤b.toNat) && decide (b.toNat≤122)) || b.toNat == 95)
theorem not_both {b:UInt8}:isD b=true→isL b=false:=by
 unfold isD isL
 simp only [Bool.and_eq_true,Bool.or_eq_false_iff,Bool.and_eq_false_iff,decide_eq_true_eq,decide_eq_false_iff_not,beq_eq_false_iff_ne]
 omega
def wordy (l:List UInt8):Bool:=match l with | []=>false | b::_=>isL b
def inW (w:Bool) (b:UInt8):Bool:=isD b || (w && isL b)
def splA (l:List UInt8):List UInt8:=l.takeWhile (inW (wordy l))
def splB (l:List UInt8):List UInt8:=l.dropWhile (inW (wordy l))
theorem spl_app (l:List UInt8):splA l++splB l=l:=List.takeWhile_append_dropWhile
theorem splA_le (l:List UInt8):(splA l).length≤l.length:=by
 have:=congrArg List.length (spl_app l)
 rw [List.length_append] at this
 omega
def nameL (l:List UInt8):Bool:=wordy l && (decide (l.length≤16) && l.all fun b=>isL b || isD b)
def valL (l:List UInt8):Nat:=l.foldl (fun n b=>n*10+(b.toNat - 48)) 0
def readL (l:List UInt8):Int × Int:=
 if l = [] then (0,1) else if l.all isD=false then (0,3) else if l[0]? = some 48∧l.length > 1 then (0,3) else if valL l > 268435456 then (0,2) else ((valL l:Nat),0)
theorem dropWhile_nil {p:UInt8→Bool}:∀ {l:List UInt8},l.dropWhile p = []↔∀ x∈l,p x=true
 | []=>by simp
 | a::l=>by
  rw [List.dropWhile_cons]
  cases h:p a with
  | true=>simp [h,dropWhile_nil (l:=l)]
  | false=>simp [h]
theorem takeWhile_at {p:UInt8→Bool}:∀ {l:List UInt8}{j:Nat},(∀ i b,i < j→l[i]? = some b→p b=true)→(j=l.length∨∃ b,l[j]? = some b∧p b=false)→l.takeWhile p=l.take j∧l.dropWhile p=l.drop j
 | [],j,_,h=>by
  rcases h with h | ⟨b,h,_⟩
  ·simp
  ·simp at h
 | a::l,0,_,h=>by
  rcases h with h | ⟨b,h,hb⟩
  ·simp at h
  ·simp only [List.getElem?_cons_zero,Option.some.injEq] at h
   subst h
   simp [List.takeWhile_cons,List.dropWhile_cons,hb]
 | a::l,j+1,hp,h=>by
  have ha:=hp 0 a (by omega) rfl
  have ih:=takeWhile_at (p:=p) (l:=l) (j:=j) (fun i b hi hb=>hp (i+1) b (by omega) (by rw [List.getElem?_cons_succ];exact hb)) (by
   rcases h with h | ⟨b,h,hb⟩
   ·left;simpa using h
   ·right;rw [List.getElem?_cons_succ] at h;exact ⟨b,h,hb⟩)
  rw [List.takeWhile_cons,List.dropWhile_cons,ha]
  simp only [if_true]
  exact ⟨by rw [ih.1,List.take_succ_cons],by rw [ih.2,List.drop_succ_cons]⟩
theorem val_snoc (l:List UInt8) (b:UInt8):valL (l ++ [b])=valL l*10+(b.toNat - 48):=by
 unfold valL
 rw [List.foldl_append]
 rfl
theorem val_lt:∀ l:List UInt8,l.all isD=true→valL l < 10 ^ l.length:=by
 have key:∀ (n:Nat) (l:List UInt8),l.length=n→l.all isD=true→valL l < 10 ^ n:=by
  intro n
  induction n with
  | zero=>
   intro l hl _
   have:l = []:=List.eq_nil_of_length_eq_zero hl
   subst this
   decide
  | succ n ih=>
   intro l hl ha
   obtain ⟨m,b,rfl⟩:∃ m b,l=m ++ [b]:=by
    rcases List.eq_nil_or_concat l with rfl | ⟨m,b,h⟩
    ·simp at hl
    ·exact ⟨m,b,by rw [h,List.concat_eq_append]⟩
   rw [List.length_append] at hl
   rw [List.all_append,Bool.and_eq_true] at ha
   have h1:=ih m (by simpa using hl) ha.1
   rw [val_snoc]
   have hb:isD b=true:=by simpa using ha.2
   unfold isD at hb
   simp only [Bool.and_eq_true,decide_eq_true_eq] at hb
   rw [Nat.pow_succ]
   omega
 intro l ha
 exact key l.length l rfl ha
theorem val_ge:∀ {a:UInt8}{l:List UInt8},isD a=true→a≠48→10 ^ l.length≤valL (a::l):=by
 have key:∀ (n:Nat) (a:UInt8) (l:List UInt8),l.length=n→isD a=true→a≠48→10 ^ n≤valL (a::l):=by
  intro n
  induction n with
  | zero=>
   intro a l hl ha h0
   have:l = []:=List.eq_nil_of_length_eq_zero hl
   subst this
   unfold isD at ha
   simp only [Bool.and_eq_true,decide_eq_true_eq] at ha
   have:a.toNat≠48:=fun e=>h0 (UInt8.toNat_inj.1 e)
   show 1≤0*10+(a.toNat - 48)
   omega
  | succ n ih=>
   intro a l hl ha h0
   obtain ⟨m,b,rfl⟩:∃ m b,l=m ++ [b]:=by
    rcases List.eq_nil_or_concat l with rfl | ⟨m,b,h⟩
    ·simp at hl
    ·exact ⟨m,b,by rw [h,List.concat_eq_append]⟩
   rw [List.length_append] at hl
   have h1:=ih a m (by simpa using hl) ha h0
   have:=val_snoc (a::m) b
   rw [List.cons_append] at this
   rw [this,Nat.pow_succ]
   omega
 intro a l ha h0
 exact key l.length a l rfl ha h0
section
variable {H:Hp}{K:Value→Hp→Prop}{Z:List PanicEntry→Hp→Prop}
theorem class_ok {b:UInt8}(k:K (.int .i64 (if isL b then 2 else if isD b then 1 else 0)) H):CallF Tryz.prog 158 #[.int .u8 (b.toNat:Int)] H K Z:=by
 refine V158_ok ?_
 unfold V158
 have c2:isL b=true→K (.int .i64 2) H:=fun h=>by rw [if_pos h] at k;exact k
 have c1:isD b=true→K (.int .i64 1) H:=fun h=>by rw [if_neg (by rw [not_both h];simp),if_pos h] at k;exact k
 have c0:isL b=false→isD b=false→K (.int .i64 0) H:=fun h h'=>by rw [if_neg (by rw [h];simp),if_neg (by rw [h'];simp)] at k;exact k
 have hD:isD b=true↔48≤b.toNat∧b.toNat≤57:=by simp [isD]
 have hL:isL b=true↔(65≤b.toNat∧b.toNat≤90)∨(97≤b.toNat∧b.toNat≤122)∨b.toNat=95:=by simp [isL]
 have nD:isD b=false↔¬ (48≤b.toNat∧b.toNat≤57):=by rw [← hD];simp
 have nL:isL b=false↔¬ ((65≤b.toNat∧b.toNat≤90)∨(97≤b.toNat∧b.toNat≤122)∨b.toNat=95):=by rw [← hL];simp
 rw [hL] at c2
 rw [hD] at c1
 rw [nL,nD] at c0
 clear k hD hL nD nL
 generalize b.toNat=n at *
 simp only [decide_eq_true_eq,decide_eq_false_iff_not,beq_iff_eq,beq_eq_false_iff_ne,ne_eq]
 refine ⟨fun a1=>⟨fun a2=>c1 (by omega),fun a2=>⟨fun a3=>⟨fun a4=>⟨fun _=>c2 (by omega),fun a5=>absurd a4 a5⟩,fun a4=>⟨fun a5=>⟨fun a6=>⟨fun _=>c2 (by omega),fun a7=>absurd a6 a7⟩,fun a6=>⟨fun a7=>c2 (by omega),fun a7=>c0 (by omega) (by omega)⟩⟩,fun a5=>⟨fun a7=>c2 (by omega),fun a7=>c0 (by omega) (by omega)⟩⟩⟩,fun a3=>⟨fun a5=>⟨fun a6=>⟨fun _=>c2 (by omega),fun a7=>absurd a6 a7⟩,fun a6=>⟨fun a7=>c2 (by omega),fun a7=>c0 (by omega) (by omega)⟩⟩,fun a5=>⟨fun a7=>c2 (by omega),fun a7=>c0 (by omega) (by omega)⟩⟩⟩⟩,
  fun a1=>⟨fun a3=>⟨fun a4=>⟨fun _=>c2 (by omega),fun a5=>absurd a4 a5⟩,fun a4=>⟨fun a5=>⟨fun a6=>⟨fun _=>c2 (by omega),fun a7=>absurd a6 a7⟩,fun a6=>⟨fun a7=>c2 (by omega),fun a7=>c0 (by omega) (by omega)⟩⟩,fun a5=>⟨fun a7=>c2 (by omega),fun a7=>c0 (by omega) (by omega)⟩⟩⟩,fun a3=>⟨fun a5=>⟨fun a6=>⟨fun _=>c2 (by omega),fun a7=>absurd a6 a7⟩,fun a6=>⟨fun a7=>c2 (by omega),fun a7=>c0 (by omega) (by omega)⟩⟩,fun a5=>⟨fun a7=>c2 (by omega),fun a7=>c0 (by omega) (by omega)⟩⟩⟩⟩
theorem rdigit_ok {b:UInt8}(k:K (.bool (isD b)) H):CallF Tryz.prog 212 #[.int .u8 (b.toNat:Int)] H K Z:=by
 refine V212_ok ?_
 unfold V212
 have hD:∀ c:Bool,(isD b=c)→K (.bool c) H:=fun c hc=>by rw [hc] at k;exact k
 refine ⟨fun a1=>hD _ ?_,fun a1=>hD _ ?_⟩
 ·have a1':=of_decide_eq_true a1
  unfold isD
  rw [decide_eq_true (by omega),Bool.true_and]
  exact decide_eq_decide.2 (by omega)
 ·have a1':=of_decide_eq_false a1
  unfold isD
  rw [decide_eq_false (by omega),Bool.false_and]
theorem rletter_ok {b:UInt8}(k:K (.bool (isL b)) H):CallF Tryz.prog 234 #[.int .u8 (b.toNat:Int)] H K Z:=by
 refine V234_ok ?_
 unfold V234
 have hD:∀ c:Bool,(isL b=c)→K (.bool c) H:=fun c hc=>by rw [hc] at k;exact k
 have hL:isL b=true↔(65≤b.toNat∧b.toNat≤90)∨(97≤b.toNat∧b.toNat≤122)∨b.toNat=95:=by simp [isL]
 have ht:((65≤b.toNat∧b.toNat≤90)∨(97≤b.toNat∧b.toNat≤122))→K (.bool true) H:=fun h=>hD true (hL.2 (by omega))
 have hu:¬ ((65≤b.toNat∧b.toNat≤90)∨(97≤b.toNat∧b.toNat≤122))→K (.bool ((b.toNat:Int) == 95)) H:=fun h=>hD _ (by
  rw [Bool.eq_iff_iff,hL,beq_iff_eq]
  omega)
 refine ⟨fun a1=>⟨fun a2=>ht ?_,fun a2=>⟨fun a3=>⟨fun a4=>ht ?_,fun a4=>hu ?_⟩,fun a3=>hu ?_⟩⟩,fun a1=>⟨fun a3=>⟨fun a4=>ht ?_,fun a4=>hu ?_⟩,fun a3=>hu ?_⟩⟩ <;>
  simp only [decide_eq_true_eq,decide_eq_false_iff_not] at * <;> omega
theorem split_loop {l:List UInt8}{w:Bool}{j:Nat}(h1:∀ i b,i < j→l[i]? = some b→inW w b=true) (h2:j=l.length∨∃ b,l[j]? = some b∧inW w b=false) (hw:w=wordy l):splA l=l.take j∧splB l=l.drop j:=by
 subst hw
 exact takeWhile_at h1 h2
theorem split_ok {l:List UInt8}(hl:l.length≤1000000000) (k:∀ H',Fr no H H'→K (.tuple #[.string (str (splA l)),.string (str (splB l))]) H'):CallF Tryz.prog 114 #[.string (str l)] H K Z:=by
 refine V114_ok ?_
 unfold V114
 rw [str_nil,beq_str,str_size]
 refine ⟨fun he=>?_,fun hne=>?_⟩
 ·have:l = []:=of_decide_eq_true he
  subst this
  exact k H (Fr.refl _ _)
 ·have hne':l ≠ []:=of_decide_eq_false hne
  obtain ⟨c,l',rfl⟩:∃ c l',l=c::l':=by
   cases l with
   | nil=>exact absurd rfl hne'
   | cons c l'=>exact ⟨c,l',rfl⟩
  refine IxS.mk (i:=0) rfl ?_
  refine class_ok ⟨_,rfl,fun h2=>?_,fun h2=>?_⟩
  ·have hw:wordy (c::l')=false:=by
    show isL c=false
    cases hc:isL c with
    | false=>rfl
    | true=>rw [hc] at h2;simp at h2
   have htl:Lib.trimLeftS (str (c::l')).data.toList (str [48,49,50,51,52,53,54,55,56,57]).data.toList=splB (c::l'):=by
    rw [str_data,str_data]
    unfold Lib.trimLeftS splB
    rw [hw]
    congr 1
    funext b
    unfold inW
    rw [Bool.false_and,Bool.or_false,Bool.eq_iff_iff]
    simp only [List.contains_iff_mem,isD,Bool.and_eq_true,decide_eq_true_eq]
    constructor
    ·intro hb
     simp only [List.mem_cons,List.not_mem_nil,or_false] at hb
     rcases hb with rfl | rfl | rfl | rfl | rfl | rfl | rfl | rfl | rfl | rfl <;> decide
    ·intro hb
     have hn:b=UInt8.ofNat b.toNat:=by simp
     have:b.toNat=48∨b.toNat=49∨b.toNat=50∨b.toNat=51∨b.toNat=52∨b.toNat=53∨b.toNat=54∨b.toNat=55∨b.toNat=56∨b.toNat=57:=by omega
     rw [hn]
     rcases this with h | h | h | h | h | h | h | h | h | h <;> rw [h] <;> decide
   refine callF_below (v:=.string (str (splB (c::l')))) ?_ fun H' hf=>?_
   ·intro w hw
    have:=Any.strings_TrimLeft_laid S01.lays_trimLeft (by kernel_rfl) (str (c::l')) (str [48,49,50,51,52,53,54,55,56,57]) w (by decide) (by
     intro j b hb
     rw [str_data] at hb
     have hm:=List.mem_of_getElem? hb
     simp only [List.mem_cons,List.not_mem_nil,or_false] at hm
     rcases hm with rfl | rfl | rfl | rfl | rfl | rfl | rfl | rfl | rfl | rfl <;> decide)
    rw [htl] at this
    exact this
   ·refine ⟨_,rfl,?_⟩
    have happ:=spl_app (c::l')
    have hlen:=congrArg List.length happ
    rw [List.length_append] at hlen
    have e:w64 (((c::l').length:Int) - ((str (splB (c::l'))).size:Int))=((splA (c::l')).length:Int):=by
     rw [str_size,wrap64 (by omega) (by omega)]
     omega
    rw [e]
    refine SlS.to (by omega) ?_
    have:(c::l').take (splA (c::l')).length=splA (c::l'):=by
     have h5:(splA (c::l')++splB (c::l')).take (splA (c::l')).length=splA (c::l'):=List.take_left
     rw [happ] at h5
     exact h5
    rw [this]
    exact k H' hf
  ·have hw:wordy (c::l')=true:=by
    show isL c=true
    cases hc:isL c with
    | true=>rfl
    | false=>rw [hc] at h2;cases hd:isD c <;> rw [hd] at h2 <;> simp at h2
   generalize c::l'=l at *
   refine ⟨fun t A m=>∃ j:Nat,A=H∧t=(j:Int)∧j≤l.length∧m=l.length - j∧∀ i b,i < j→l[i]? = some b→inW true b=true,⟨_,0,rfl,rfl,Nat.zero_le _,rfl,fun i b hi=>by omega⟩,?_⟩
   rintro t A m ⟨j,rfl,rfl,hj,rfl,hall⟩ scr
   refine ⟨fun hlt=>?_,fun hge=>?_⟩
   ·have hjl:=dlt hlt
    have hx:l[j]? = some l[j]:=List.getElem?_eq_getElem hjl
    generalize l[j]=b at hx
    refine IxS.mk hx (class_ok ⟨_,rfl,fun h1=>?_,fun h1=>?_⟩)
    ·have hb:inW true b=false:=by
      unfold inW
      cases hL:isL b with
      | true=>rw [hL] at h1;simp at h1
      | false=>
       cases hD:isD b with
       | true=>rw [hL,hD] at h1;simp at h1
       | false=>rfl
     obtain ⟨e1,e2⟩:=split_loop hall (.inr ⟨b,hx,hb⟩) hw.symm
     refine SlS.to (by omega) ?_
     rw [← str_size]
     refine SlS.from (by omega) ?_
     rw [← e1,← e2]
     exact k A (Fr.refl _ _)
    ·have hb:inW true b=true:=by
      unfold inW
      cases hL:isL b with
      | true=>simp
      | false=>
       cases hD:isD b with
       | true=>rfl
       | false=>rw [hL,hD] at h1;simp at h1
     refine ⟨l.length - (j+1),by omega,j+1,rfl,wi (by omega),hjl,rfl,fun i b' hi hb'=>?_⟩
     by_cases hij:i=j
     ·subst hij
      rw [hx] at hb'
      cases hb'
      exact hb
     ·exact hall i b' (by omega) hb'
   ·have hjl:j=l.length:=by have:=dge hge;omega
    subst hjl
    obtain ⟨e1,e2⟩:=split_loop hall (.inl rfl) hw.symm
    rw [List.take_length] at e1
    rw [List.drop_length] at e2
    have hk:=k A (Fr.refl _ _)
    rw [e1,e2] at hk
    exact hk
theorem rsplit_ok {l:List UInt8}(hl:l.length≤1000000000) (k:K (.tuple #[.string (str (splA l)),.string (str (splB l))]) H):CallF Tryz.prog 211 #[.string (str l)] H K Z:=by
 refine V211_ok ?_
 unfold V211
 simp only [str_size]
 refine ⟨fun w A=>A=H∧w=wordy l,?_,fun hp=>?_,fun hp=>?_⟩
 rotate_left
 ·have hp':=of_decide_eq_true hp
  obtain ⟨c,l',rfl⟩:∃ c l',l=c::l':=by
   cases l with
   | nil=>simp at hp'
   | cons c l'=>exact ⟨c,l',rfl⟩
  exact IxS.mk (i:=0) rfl (rletter_ok ⟨_,rfl,rfl,rfl⟩)
 ·have hp':=of_decide_eq_false hp
  have:l = []:=List.eq_nil_of_length_eq_zero (by omega)
  subst this
  exact ⟨rfl,rfl⟩
 rintro w A ⟨rfl,hw⟩ scr
 refine ⟨fun t B m=>∃ j:Nat,B=A∧t=(j:Int)∧j≤l.length∧m=l.length - j∧∀ i b,i < j→l[i]? = some b→inW w b=true,⟨_,0,rfl,rfl,Nat.zero_le _,rfl,fun i b hi=>by omega⟩,?_⟩
 rintro t B m ⟨j,rfl,rfl,hj,rfl,hall⟩ scr1
 have fin:(j=l.length∨∃ b,l[j]? = some b∧inW w b=false)→SlS (str l) 0 (j:Int) fun cut=>SlS (str l) (j:Int) (l.length:Int) fun cut1=>K (.tuple #[.string cut,.string cut1]) B:=by
  intro hc
  obtain ⟨e1,e2⟩:=split_loop hall hc hw
  refine SlS.to hj ?_
  rw [← str_size l]
  refine SlS.from hj ?_
  rw [← e1,← e2]
  exact k
 refine ⟨fun hlt=>?_,fun hge=>fin (.inl (by have:=dge hge;omega))⟩
 have hjl:=dlt hlt
 have hx:l[j]? = some l[j]:=List.getElem?_eq_getElem hjl
 generalize l[j]=b at hx
 have next:inW w b=true→∃ m2,m2 < l.length - j∧∃ j':Nat,B=B∧w64 ((j:Int)+1)=(j':Int)∧j'≤l.length∧m2=l.length - j'∧∀ i b,i < j'→l[i]? = some b→inW w b=true:=by
  intro hb
  refine ⟨l.length - (j+1),by omega,j+1,rfl,wi (by omega),hjl,rfl,fun i b' hi hb'=>?_⟩
  by_cases hij:i=j
  ·subst hij
   rw [hx] at hb'
   cases hb'
   exact hb
  ·exact hall i b' (by omega) hb'
 refine IxS.mk hx (rdigit_ok ⟨_,rfl,fun h1=>next (by unfold inW;rw [h1];rfl),fun h1=>⟨fun h2=>?_,fun h2=>?_⟩⟩)
 ·refine IxS.mk hx (rletter_ok ⟨_,rfl,fun h3=>next (by unfold inW;rw [h2,h3];simp),fun h3=>fin (.inr ⟨b,hx,?_⟩)⟩)
  unfold inW
  rw [h1,h3]
  simp
 ·refine fin (.inr ⟨b,hx,?_⟩)
  unfold inW
  rw [h1,h2]
  rfl
theorem name_split {l:List UInt8}:nameL l=(decide (splA l ≠ []) && (decide (splB l = []) && (decide (l.length≤16) && wordy l))):=by
 cases hl:l with
 | nil=>rfl
 | cons c r=>
  rw [← hl]
  unfold nameL
  cases hw:wordy l with
  | false=>simp
  | true=>
   have h1:splA l ≠ []:=by
    unfold splA
    rw [hw,hl]
    have hc:isL c=true:=by rw [hl] at hw;exact hw
    rw [List.takeWhile_cons]
    unfold inW
    rw [hc]
    simp
   have h2:(splB l = [])↔(l.all fun b=>isL b || isD b)=true:=by
    unfold splB
    rw [hw,dropWhile_nil,List.all_eq_true]
    unfold inW
    simp only [Bool.true_and]
    constructor
    ·intro h x hx;rw [Bool.or_comm];exact h x hx
    ·intro h x hx;rw [Bool.or_comm];exact h x hx
   rw [decide_eq_true h1]
   simp only [Bool.true_and,Bool.and_true]
   by_cases h3:splB l = []
   ·rw [decide_eq_true h3,h2.1 h3];simp
   ·rw [decide_eq_false h3]
    cases ha:(l.all fun b=>isL b || isD b) with
    | true=>exact absurd (h2.2 ha) h3
    | false=>simp
theorem name_ok {l:List UInt8}(hl:l.length≤1000000000) (k:∀ H',Fr no H H'→K (.bool (nameL l)) H'):CallF Tryz.prog 115 #[.string (str l)] H K Z:=by
 refine V115_ok ?_
 unfold V115
 refine split_ok hl fun H1 f1=>⟨_,_,rfl,?_⟩
 have hk:=k H1 f1
 rw [name_split] at hk
 simp only [str_nil,beq_str,str_size]
 refine ⟨fun h1=>⟨fun h2=>⟨fun h3=>?_,fun h3=>?_⟩,fun h2=>?_⟩,fun h1=>?_⟩
 ·have h1':splA l ≠ []:=by simpa using h1
  obtain ⟨c,r,rfl⟩:∃ c r,l=c::r:=by
   cases l with
   | nil=>exact absurd rfl h1'
   | cons c r=>exact ⟨c,r,rfl⟩
  refine IxS.mk (i:=0) rfl (class_ok ⟨_,rfl,?_⟩)
  have h2':=of_decide_eq_true h2
  have h3':(c::r).length≤16:=by have:=of_decide_eq_true h3;omega
  rw [decide_eq_true h1',decide_eq_true h2',decide_eq_true h3'] at hk
  have e:(((if isL c=true then 2 else if isD c=true then 1 else 0):Int) == 2)=wordy (c::r):=by
   show _=isL c
   cases hc:isL c with
   | true=>rfl
   | false=>cases hd:isD c <;> rfl
  rw [e]
  exact hk
 ·have h3':¬ l.length≤16:=by have:=of_decide_eq_false h3;omega
  rw [decide_eq_false h3'] at hk
  simpa using hk
 ·have h2':=of_decide_eq_false h2
  rw [decide_eq_false h2'] at hk
  simpa using hk
 ·have h1':splA l = []:=by simpa using h1
  have h1'':¬ splA l ≠ []:=fun h=>h h1'
  rw [decide_eq_false h1''] at hk
  simpa using hk
theorem rname_ok {l:List UInt8}(hl:l.length≤1000000000) (k:K (.bool (nameL l)) H):CallF Tryz.prog 236 #[.string (str l)] H K Z:=by
 refine V236_ok ?_
 unfold V236
 simp only [str_nil,beq_str,str_size]
 have no:nameL l=false→K (.bool false) H:=fun h=>by rw [h] at k;exact k
 refine ⟨fun A=>A=H∧wordy l=true∧l.length≤16,?_,fun he=>no ?_,fun hne=>⟨fun hb=>no ?_,fun hb=>?_⟩⟩
 rotate_left
 ·have:l = []:=of_decide_eq_true he
  subst this
  rfl
 ·have:¬ l.length≤16:=by have:=of_decide_eq_true hb;omega
  unfold nameL
  rw [decide_eq_false this]
  simp
 ·have hne':l ≠ []:=of_decide_eq_false hne
  have hb':l.length≤16:=by have:=of_decide_eq_false hb;omega
  obtain ⟨c,r,rfl⟩:∃ c r,l=c::r:=by
   cases l with
   | nil=>exact absurd rfl hne'
   | cons c r=>exact ⟨c,r,rfl⟩
  refine IxS.mk (i:=0) rfl (rletter_ok ⟨_,rfl,fun h1=>no ?_,fun h1=>⟨rfl,(by show isL c=true;simpa using h1),hb'⟩⟩)
  have:isL c=false:=by simpa using h1
  unfold nameL
  rw [show wordy (c::r)=isL c from rfl,this]
  rfl
 rintro A ⟨rfl,hw,hb⟩ scr
 refine ⟨fun t B m=>∃ j:Nat,B=A∧t=(j:Int)∧j≤l.length∧m=l.length - j∧∀ b∈l.take j,(isL b || isD b)=true,⟨_,0,rfl,rfl,Nat.zero_le _,rfl,by simp⟩,?_⟩
 rintro t B m ⟨j,rfl,rfl,hj,rfl,hall⟩ scr1
 refine ⟨fun hlt=>?_,fun hge=>?_⟩
 ·have hjl:=dlt hlt
  have hx:l[j]? = some l[j]:=List.getElem?_eq_getElem hjl
  have htk:l.take (j+1)=l.take j ++ [l[j]]:=List.take_succ_eq_append_getElem hjl
  generalize l[j]=b at hx htk
  have next:(isL b || isD b)=true→∃ m2,m2 < l.length - j∧∃ j':Nat,B=B∧w64 ((j:Int)+1)=(j':Int)∧j'≤l.length∧m2=l.length - j'∧∀ b∈l.take j',(isL b || isD b)=true:=by
   intro hb
   refine ⟨l.length - (j+1),by omega,j+1,rfl,wi (by omega),hjl,rfl,fun b' hb'=>?_⟩
   rw [htk] at hb'
   rcases List.mem_append.1 hb' with h | h
   ·exact hall b' h
   ·rw [List.mem_singleton.1 h];exact hb
  refine IxS.mk hx (rletter_ok ⟨_,rfl,fun h1=>?_,fun h1=>next (by have:isL b=true:=(by simpa using h1);rw [this];rfl)⟩)
  have h1':isL b=false:=by simpa using h1
  refine IxS.mk hx (rdigit_ok ⟨_,rfl,fun h2=>no ?_,fun h2=>next (by have:isD b=true:=(by simpa using h2);rw [this];simp)⟩)
  have h2':isD b=false:=by simpa using h2
  have:(l.all fun b=>isL b || isD b)=false:=by
   rw [List.all_eq_false]
   exact ⟨b,List.mem_of_getElem? hx,by rw [h1',h2'];simp⟩
  unfold nameL
  rw [this]
  simp
 ·have hjl:l.length≤j:=by have:=dge hge;omega
  rw [List.take_of_length_le hjl] at hall
  have:nameL l=true:=by
   unfold nameL
   rw [hw,decide_eq_true hb,List.all_eq_true.2 hall]
   rfl
  rw [this] at k
  exact k
end
end Go.Proofs.YtjdhjgfmloaglaaGreatDoor.C01
end
section
namespace Go.Proofs.YtjdhjgfmloaglaaGreatDoor.C01
open Go Go.V Go.Proofs N01
attribute [local irreducible] Cvt ExtF CallF hrun App MkS
theorem wrap_u8 (x:Int):IntKind.wrap .u8 x=x % 256:=by
 simp only [IntKind.wrap,IntKind.bits,IntKind.signed,Int.reducePow,Nat.reduceSub,Bool.false_and,Bool.false_eq_true,if_false]
theorem wrap_u64 (x:Int):IntKind.wrap .u64 x=x % 18446744073709551616:=by
 simp only [IntKind.wrap,IntKind.bits,IntKind.signed,Int.reducePow,Nat.reduceSub,Bool.false_and,Bool.false_eq_true,if_false]
def dgt (u:Nat):UInt8:=UInt8.ofNat (48+u % 10)
def hdL (u:Nat):List UInt8:=if u < 10 then [] else Lib.decDigits (u / 10)
theorem dec_eq (u:Nat):Lib.decDigits u=hdL u ++ [dgt u]:=by
 unfold hdL dgt
 by_cases h:u < 10
 ·rw [if_pos h,Lib.decDigits,dif_pos h]
  have:u % 10=u:=by omega
  rw [this]
  rfl
 ·rw [if_neg h,Lib.decDigits,dif_neg h]
theorem dgt_nat (u:Nat):(dgt u).toNat=48+u % 10:=by
 unfold dgt
 rw [UInt8.toNat_ofNat']
 omega
theorem dec_len:∀ (k u:Nat),u < 10 ^ (k+1)→(Lib.decDigits u).length≤k+1
 | 0,u,h=>by
  rw [Lib.decDigits,dif_pos (by simpa using h)]
  simp
 | k+1,u,h=>by
  rw [Lib.decDigits]
  by_cases h1:u < 10
  ·rw [dif_pos h1];simp
  ·rw [dif_neg h1,List.length_append]
   have:=dec_len k (u / 10) (by rw [Nat.pow_succ] at h;omega)
   simp only [List.length_cons,List.length_nil]
   omega
theorem dec_all (u:Nat):(Lib.decDigits u).all isD=true:=by
 induction u using Nat.strongRecOn with
 | ind u ih=>
  rw [dec_eq,List.all_append]
  have h1:isD (dgt u)=true:=by
   unfold isD
   rw [dgt_nat]
   simp only [Bool.and_eq_true,decide_eq_true_eq]
   omega
  unfold hdL
  by_cases h:u < 10
  ·rw [if_pos h];simp [h1]
  ·rw [if_neg h,ih (u / 10) (by omega)]
   simp [h1]
theorem dec_val (u:Nat):valL (Lib.decDigits u)=u:=by
 induction u using Nat.strongRecOn with
 | ind u ih=>
  rw [dec_eq,val_snoc,dgt_nat]
  unfold hdL
  by_cases h:u < 10
  ·rw [if_pos h]
   show 0*10+_=u
   omega
  ·rw [if_neg h,ih (u / 10) (by omega)]
   omega
theorem dec_ne (u:Nat):Lib.decDigits u ≠ []:=by rw [dec_eq];simp
theorem dec_zero (u:Nat):(Lib.decDigits u)[0]? = some 48→(Lib.decDigits u).length≤1:=by
 induction u using Nat.strongRecOn with
 | ind u ih=>
  intro h0
  by_cases h:u < 10
  ·rw [Lib.decDigits,dif_pos h];simp
  ·rw [Lib.decDigits,dif_neg h] at h0
   exfalso
   rw [List.getElem?_append_left (List.length_pos_iff.2 (dec_ne _))] at h0
   have hl:=ih (u / 10) (by omega) h0
   have hv:=dec_val (u / 10)
   match hd:Lib.decDigits (u / 10),h0,hl with
   | [b],h0,_=>
    rw [hd] at hv
    simp only [List.getElem?_cons_zero,Option.some.injEq] at h0
    subst h0
    have:(0:Nat)=u / 10:=hv
    omega
theorem val_app_le (a b:List UInt8):valL a≤valL (a++b):=by
 unfold valL
 rw [List.foldl_append]
 generalize List.foldl (fun n b=>n*10+(UInt8.toNat b - 48)) 0 a=n
 induction b generalizing n with
 | nil=>exact Nat.le_refl _
 | cons c b ih=>exact Nat.le_trans (by omega) (ih (n*10+(c.toNat - 48)))
theorem val_take_le {l:List UInt8}(j:Nat):valL (l.take j)≤valL l:=by
 have:=val_app_le (l.take j) (l.drop j)
 rwa [List.take_append_drop] at this
theorem parse_digits:∀ (l:List UInt8) (acc:Nat),l.all isD=true→(acc+1)*10 ^ l.length≤10 ^ 18→Lib.parseUint10 acc l = .ok (l.foldl (fun n b=>n*10+(b.toNat - 48)) acc)
 | [],acc,_,_=>rfl
 | c::r,acc,ha,hb=>by
  rw [List.all_cons,Bool.and_eq_true] at ha
  have hc:48≤c.toNat∧c.toNat≤57:=by simpa [isD] using ha.1
  have hp:1≤10 ^ r.length:=Nat.one_le_pow _ _ (by omega)
  rw [List.length_cons,Nat.pow_succ] at hb
  have hb1:(acc*10+10)*10 ^ r.length≤10 ^ 18:=by
   have e:(acc*10+10)*10 ^ r.length=(acc+1)*(10 ^ r.length*10):=by
    rw [show acc*10+10=(acc+1)*10 by omega,Nat.mul_assoc,Nat.mul_comm 10]
   omega
  have hacc:acc*10+10≤10 ^ 18:=Nat.le_trans (Nat.le_mul_of_pos_right _ hp) hb1
  rw [Lib.parseUint10,if_pos hc,if_neg (by omega),if_neg (by omega),parse_digits r _ ha.2]
  ·rfl
  ·exact Nat.le_trans (Nat.mul_le_mul_right _ (by omega)) hb1
theorem atoi_digits {l:List UInt8}(h0:l ≠ []) (ha:l.all isD=true) (hl:l.length≤9):Lib.atoiAll l = .ok (valL l:Nat):=by
 obtain ⟨c,r,rfl⟩:∃ c r,l=c::r:=by
  cases l with
  | nil=>exact absurd rfl h0
  | cons c r=>exact ⟨c,r,rfl⟩
 have hc:48≤c.toNat∧c.toNat≤57:=by
  rw [List.all_cons,Bool.and_eq_true] at ha
  simpa [isD] using ha.1
 have hv:=val_lt _ ha
 have hv':valL (c::r) < 10 ^ 9:=Nat.lt_of_lt_of_le hv (Nat.pow_le_pow_right (by omega) hl)
 have hp:Lib.parseUint10 0 (c::r) = .ok (valL (c::r)):=parse_digits _ _ ha (by
  rw [Nat.zero_add,Nat.one_mul]
  exact Nat.pow_le_pow_right (by omega) (by omega))
 unfold Lib.atoiAll
 simp only
 rw [if_neg (by omega)]
 unfold Lib.parseMag
 rw [if_neg h0,hp]
 simp only
 rw [if_neg (by omega),if_neg (by omega),if_neg (by omega)]
section
variable {H:Hp}{K:Value→Hp→Prop}{Z:List PanicEntry→Hp→Prop}
theorem text_ok {n:Int}(h0 : -9223372036854775808≤n) (h1:n≤9223372036854775807) (ht:TabH Tryz.prog H "internal/strconv.uint64pow10" .u64 Lib.pow10Tab)
  (k:∀ H',Fr no H H'→K (.string (str (Lib.itoa n))) H'):CallF Tryz.prog 118 #[.int .i64 n] H K Z:=by
 refine V118_ok ?_
 unfold V118
 refine callF_below (v:=.string (str (Lib.itoa n))) ?_ fun H' hf=>⟨_,rfl,k H' hf⟩
 intro w hw
 refine (Any.strconv_Itoa S01.lays_itoa n h0 h1 w (ht w hw)).mono ?_
 rintro e w' ⟨rfl,kk,os,rfl⟩
 refine ⟨rfl,rfl,rfl,rfl,?_,fun j hj=>?_⟩
 ·show w.heap.size≤(w.heap++os).size
  rw [Array.size_append]
  omega
 ·show (w.heap++os)[j]? = w.heap[j]?
  exact Array.getElem?_append_left hj
theorem take_all {l:List UInt8}{j:Nat}{b:UInt8}(hj:j < l.length) (hx:l[j]? = some b) (hall:(l.take j).all isD=true) (hb:isD b=true):(l.take (j+1)).all isD=true:=by
 rw [List.take_succ_eq_append_getElem hj,List.all_append,hall]
 rw [List.getElem?_eq_getElem hj] at hx
 cases hx
 simp [hb]
theorem not_all {l:List UInt8}{j:Nat}{b:UInt8}(hx:l[j]? = some b) (hb:isD b=false):l.all isD=false:=List.all_eq_false.2 ⟨b,List.mem_of_getElem? hx,by rw [hb];simp⟩
theorem read_ok {l:List UInt8}(hl:l.length≤1000000000) (k:∀ H',Fr no H H'→K (.tuple #[.int .i64 (readL l).1,.int .i64 (readL l).2]) H'):CallF Tryz.prog 157 #[.string (str l)] H K Z:=by
 refine V157_ok ?_
 unfold V157
 simp only [str_nil,beq_str,str_size]
 have k0:=fun {a b:Int}(h:readL l=(a,b))=>(by have:=k H (Fr.refl _ _);rw [h] at this;exact this:K (.tuple #[.int .i64 a,.int .i64 b]) H)
 refine ⟨fun he=>k0 ?_,fun hne=>?_⟩
 ·have:l = []:=of_decide_eq_true he
  subst this
  rfl
 have hne':l ≠ []:=of_decide_eq_false hne
 refine ⟨fun t A m=>∃ j:Nat,A=H∧t=(j:Int)∧j≤l.length∧m=l.length - j∧(l.take j).all isD=true,⟨_,0,rfl,rfl,Nat.zero_le _,rfl,by simp⟩,?_⟩
 rintro t A m ⟨j,rfl,rfl,hj,rfl,hall⟩ scr
 refine ⟨fun hlt=>?_,fun hge=>?_⟩
 ·have hjl:=dlt hlt
  have hx:l[j]? = some l[j]:=List.getElem?_eq_getElem hjl
  generalize l[j]=b at hx
  refine IxS.mk hx (class_ok ⟨_,rfl,fun h1=>k0 ?_,fun h1=>?_⟩)
  ·have hb:isD b=false:=by
    cases hD:isD b with
    | false=>rfl
    | true=>rw [not_both hD,hD] at h1;simp at h1
   unfold readL
   rw [if_neg hne',if_pos (not_all hx hb)]
  ·have hb:isD b=true:=by
    cases hL:isL b with
    | true=>rw [hL] at h1;simp at h1
    | false=>
     cases hD:isD b with
     | true=>rfl
     | false=>rw [hL,hD] at h1;simp at h1
   exact ⟨l.length - (j+1),by omega,j+1,rfl,wi (by omega),hjl,rfl,take_all hjl hx hall hb⟩
 ·have hjl:j=l.length:=by have:=dge hge;omega
  subst hjl
  rw [List.take_length] at hall
  have hall':¬ l.all isD=false:=by rw [hall];simp
  obtain ⟨c,r,hcr⟩:∃ c r,l=c::r:=by
   cases l with
   | nil=>exact absurd rfl hne'
   | cons c r=>exact ⟨c,r,rfl⟩
  have hx:l[0]? = some c:=by rw [hcr];rfl
  have big:decide ((l.length:Int) > 9)=true→¬ (l[0]? = some 48∧l.length > 1)→readL l=(0,2):=by
   intro h9 h48
   have h9':=of_decide_eq_true h9
   unfold readL
   rw [if_neg hne',if_neg hall',if_neg h48,if_pos]
   have hc:c≠48:=fun e=>h48 ⟨by rw [hx,e],by omega⟩
   have hcD:isD c=true:=by rw [hcr,List.all_cons,Bool.and_eq_true] at hall;exact hall.1
   have:=val_ge (l:=r) hcD hc
   rw [hcr] at h9' ⊢
   have h8:9≤r.length:=by simp only [List.length_cons] at h9';omega
   have:=Nat.pow_le_pow_right (show 0 < 10 by omega) h8
   omega
  have fin:decide ((l.length:Int) > 9)=false→¬ (l[0]? = some 48∧l.length > 1)→CallF Tryz.prog 185 #[.string (str l)] A (fun r1 H3=>∃ (y_0:Int) (y_1:Value),r1 = .tuple #[.int .i64 y_0,y_1] ∧
  NilI y_1 fun isNil=>(((!isNil)=true→K (.tuple #[.int .i64 0,.int .i64 2]) H3)∧((!isNil)=false →
  (((decide (y_0 > 268435456))=true→K (.tuple #[.int .i64 0,.int .i64 2]) H3)∧((decide (y_0 > 268435456))=false →
  K (.tuple #[.int .i64 y_0,.int .i64 0]) H3))))) Z:=by
   intro h9 h48
   have h9':l.length≤9:=by have:=of_decide_eq_false h9;omega
   refine callF_below (v:=.tuple #[.int .i64 (valL l:Nat),.nilIface]) ?_ fun H' hf=>⟨_,_,rfl,?_⟩
   ·intro w hw
    refine (Any.strconv_Atoi_ok S01.lays_atoi (str l) (by rw [str_size];omega) (valL l:Nat) (by rw [str_data];exact atoi_digits hne' hall h9') w).mono ?_
    rintro e w' ⟨rfl,h⟩
    refine ⟨rfl,?_⟩
    rcases h with rfl | ⟨t,rfl⟩
    ·exact Go.RowKit.Below.refl _ _
    ·exact Lib.bytesWorld_below _ _ _
   ·have hk:=k H' hf
    unfold readL at hk
    rw [if_neg hne',if_neg hall',if_neg h48] at hk
    refine ⟨(fun h=>by cases h),fun _=>⟨fun h=>?_,fun h=>?_⟩⟩
    ·rw [if_pos (by have:=of_decide_eq_true h;omega)] at hk
     exact hk
    ·rw [if_neg (by have:=of_decide_eq_false h;omega)] at hk
     exact hk
  refine IxS.mk (i:=0) hx ⟨fun h48=>?_,fun h48=>?_⟩
  ·have e48:c=48:=by
    have h48':(c.toNat:Int)=48:=by simpa using h48
    apply UInt8.toNat_inj.1
    have:(48:UInt8).toNat=48:=rfl
    omega
   refine ⟨fun h1=>k0 ?_,fun h1=>⟨fun h9=>k0 (big h9 ?_),fun h9=>fin h9 ?_⟩⟩
   ·have h1':=of_decide_eq_true h1
    unfold readL
    rw [if_neg hne',if_neg hall',if_pos ⟨by rw [hx,e48],by omega⟩]
   ·have h1':=of_decide_eq_false h1
    rintro ⟨_,h⟩
    omega
   ·have h1':=of_decide_eq_false h1
    rintro ⟨_,h⟩
    omega
  ·have e48:¬ (l[0]? = some 48∧l.length > 1):=by
    rintro ⟨h,_⟩
    rw [hx] at h
    cases h
    simp at h48
   exact ⟨fun h9=>k0 (big h9 e48),fun h9=>fin h9 e48⟩
theorem rread_ok {l:List UInt8}(hl:l.length≤1000000000) (k:K (.tuple #[.int .i64 (readL l).1,.int .i64 (readL l).2]) H):CallF Tryz.prog 195 #[.string (str l)] H K Z:=by
 refine V195_ok ?_
 unfold V195
 simp only [str_nil,beq_str,str_size]
 have k0:=fun {a b:Int}(h:readL l=(a,b))=>(by have:=k;rw [h] at this;exact this:K (.tuple #[.int .i64 a,.int .i64 b]) H)
 refine ⟨fun he=>k0 ?_,fun hne=>?_⟩
 ·have:l = []:=of_decide_eq_true he
  subst this
  rfl
 have hne':l ≠ []:=of_decide_eq_false hne
 refine ⟨fun t A m=>∃ j:Nat,A=H∧t=(j:Int)∧j≤l.length∧m=l.length - j∧(l.take j).all isD=true,⟨_,0,rfl,rfl,Nat.zero_le _,rfl,by simp⟩,?_⟩
 rintro t A m ⟨j,rfl,rfl,hj,rfl,hall⟩ scr
 refine ⟨fun hlt=>?_,fun hge=>?_⟩
 ·have hjl:=dlt hlt
  have hx:l[j]? = some l[j]:=List.getElem?_eq_getElem hjl
  generalize l[j]=b at hx
  refine IxS.mk hx (rdigit_ok ⟨_,rfl,fun h1=>k0 ?_,fun h1=>?_⟩)
  ·have hb:isD b=false:=by simpa using h1
   unfold readL
   rw [if_neg hne',if_pos (not_all hx hb)]
  ·have hb:isD b=true:=by simpa using h1
   exact ⟨l.length - (j+1),by omega,j+1,rfl,wi (by omega),hjl,rfl,take_all hjl hx hall hb⟩
 have hjl:j=l.length:=by have:=dge hge;omega
 subst hjl
 rw [List.take_length] at hall
 have hall':¬ l.all isD=false:=by rw [hall];simp
 obtain ⟨c,r,hcr⟩:∃ c r,l=c::r:=by
  cases l with
  | nil=>exact absurd rfl hne'
  | cons c r=>exact ⟨c,r,rfl⟩
 have hx:l[0]? = some c:=by rw [hcr];rfl
 refine ⟨fun B=>B=A∧¬ (l[0]? = some 48∧l.length > 1),?_,IxS.mk (i:=0) hx ⟨fun h48=>⟨fun h1=>k0 ?_,fun h1=>⟨rfl,?_⟩⟩,fun h48=>⟨rfl,?_⟩⟩⟩
 rotate_left
 ·have e48:c=48:=by
   have h48':(c.toNat:Int)=48:=by simpa using h48
   apply UInt8.toNat_inj.1
   have:(48:UInt8).toNat=48:=rfl
   omega
  have h1':=of_decide_eq_true h1
  unfold readL
  rw [if_neg hne',if_neg hall',if_pos ⟨by rw [hx,e48],by omega⟩]
 ·have h1':=of_decide_eq_false h1
  rintro ⟨_,h⟩
  omega
 ·rintro ⟨h,_⟩
  rw [hx] at h
  cases h
  simp at h48
 rintro B ⟨rfl,h48⟩ scr1
 refine ⟨fun n t B' m=>∃ j:Nat,B'=B∧t=(j:Int)∧n=((valL (l.take j):Nat):Int)∧valL (l.take j)≤268435456∧j≤l.length∧m=l.length - j,⟨_,0,rfl,rfl,rfl,Nat.zero_le _,Nat.zero_le _,rfl⟩,?_⟩
 rintro n t B' m ⟨j,rfl,rfl,rfl,hv,hj,rfl⟩ scr2
 refine ⟨fun hlt=>?_,fun hge=>?_⟩
 ·have hjl:=dlt hlt
  have hx:l[j]? = some l[j]:=List.getElem?_eq_getElem hjl
  have htk:l.take (j+1)=l.take j ++ [l[j]]:=List.take_succ_eq_append_getElem hjl
  have hb:isD l[j]=true:=List.all_eq_true.1 hall _ (List.getElem_mem _)
  generalize l[j]=b at hx htk hb
  have hb':48≤b.toNat∧b.toNat≤57:=by simpa [isD] using hb
  have e:w64 (w64 (10*((valL (l.take j):Nat):Int))+w64 (IntKind.wrap .u8 ((b.toNat:Int) - 48)))=((valL (l.take (j+1)):Nat):Int):=by
   rw [htk,val_snoc,wrap_u8,wid (x:=10*_) (by omega) (by omega),wid (x:=_ % 256) (by omega) (by omega),wid (by omega) (by omega)]
   omega
  refine IxS.mk hx ?_
  rw [e]
  refine ⟨fun h=>k0 ?_,fun h=>⟨l.length - (j+1),by omega,j+1,rfl,wi (by omega),rfl,by have:=of_decide_eq_false h;omega,hjl,rfl⟩⟩
  have h':=of_decide_eq_true h
  have:=val_take_le (l:=l) (j+1)
  unfold readL
  rw [if_neg hne',if_neg hall',if_neg h48,if_pos (by omega)]
 ·have hjl:j=l.length:=by have:=dge hge;omega
  subst hjl
  rw [List.take_length] at hv ⊢
  refine k0 ?_
  unfold readL
  rw [if_neg hne',if_neg hall',if_neg h48,if_neg (by omega)]
theorem pvu1:Tryz.prog.underlying 161=some (.slice 5):=by kernel_rfl
theorem pvu2:Tryz.prog.underlying 9=some .string:=by kernel_rfl
theorem pvu3:Tryz.prog.underlying 5=some (.int .u8):=by kernel_rfl
theorem one_ok {H A:Hp}{b:Nat}{c:UInt8}{x:Int}{K:Value→Hp→Prop}(hn:Newb H (.cells #[.int .u8 x] 5) b A) (hx:x=(c.toNat:Int)) (k:K (.string (str [c])) A):Cvt Tryz.prog 161 9 A (.slice (some ⟨b,0,none⟩) 1 1) K:=by
 subst hx
 have hb:Blk A b (bv [c]) 5:=hn.blk
 exact bytesStr_ok pvu1 pvu3 pvu2 (Src.blk hb rfl) k
theorem dgt_int (u:Nat):IntKind.wrap .u8 (48+IntKind.wrap .u8 (Int.tmod (u:Int) 10))=((dgt u).toNat:Int):=by
 rw [dgt_nat,wrap_u8,wrap_u8,Int.tmod_eq_emod_of_nonneg (by omega)]
 omega
theorem rplain_ok {u:Nat}(hu:u≤18446744073709551615) (k:∀ H',Fr no H H'→K (.string (str (Lib.decDigits u))) H'):CallF Tryz.prog 237 #[.int .u64 (u:Int)] H K Z:=by
 refine V237_ok ?_
 unfold V237
 intro b A hn
 refine one_ok hn (dgt_int u) ⟨_,rfl,?_⟩
 have hlen:=dec_len 19 u (by omega)
 refine ⟨fun n s B m=>∃ (v:Nat) (t:List UInt8),n=(v:Int)∧v≤u∧s=str t∧Lib.decDigits u=hdL v++t∧Fr no H B∧v=m,⟨_,u,_,rfl,Nat.le_refl _,rfl,dec_eq u,hn.fr,rfl⟩,?_⟩
 rintro n s B m ⟨v,t,rfl,hv,rfl,hd,hf,em⟩ scr
 subst em
 refine ⟨fun hge=>?_,fun hlt=>?_⟩
 ·have hge':10≤v:=by have:=of_decide_eq_true hge;omega
  have e:IntKind.wrap .u64 (Int.tdiv (v:Int) 10)=((v / 10:Nat):Int):=by
   rw [wrap_u64,Int.tdiv_eq_ediv_of_nonneg (by omega)]
   omega
  rw [e]
  intro b1 C hn1
  have hl:=congrArg List.length hd
  rw [List.length_append] at hl
  refine one_ok hn1 (dgt_int (v / 10)) ⟨_,rfl,by rw [str_size,str_size];simp only [List.length_cons,List.length_nil];omega,v / 10,by omega,v / 10,dgt (v / 10)::t,rfl,by omega,str_app _ _,?_,hf.trans hn1.fr,rfl⟩
  rw [hd]
  have:hdL v=hdL (v / 10) ++ [dgt (v / 10)]:=by
   rw [← dec_eq,hdL,if_neg (by omega)]
  rw [this,List.append_assoc]
  rfl
 ·have hlt':v < 10:=by have:=of_decide_eq_false hlt;omega
  have:hdL v = []:=by rw [hdL,if_pos hlt']
  rw [this,List.nil_append] at hd
  rw [← hd]
  exact k B hf
theorem rtext_ok {n:Int}(h0 : -9223372036854775808≤n) (h1:n≤9223372036854775807) (k:∀ H',Fr no H H'→K (.string (str (Lib.itoa n))) H'):CallF Tryz.prog 214 #[.int .i64 n] H K Z:=by
 refine V214_ok ?_
 unfold V214
 refine ⟨fun hp=>?_,fun hp=>?_⟩
 ·have hp':0≤n:=by have:=of_decide_eq_true hp;omega
  have e:IntKind.wrap .u64 n=((n.toNat:Nat):Int):=by rw [wrap_u64];omega
  rw [e]
  refine rplain_ok (by omega) fun H' hf=>⟨_,rfl,?_⟩
  have hk:=k H' hf
  rw [Lib.itoa,if_neg (by omega)] at hk
  exact hk
 ·have hp':n < 0:=by have:=of_decide_eq_false hp;omega
  have e:IntKind.wrap .u64 (0 - IntKind.wrap .u64 n)=((n.natAbs:Nat):Int):=by rw [wrap_u64,wrap_u64];omega
  rw [e]
  have hlen:=dec_len 19 n.natAbs (by omega)
  refine rplain_ok (by omega) fun H' hf=>⟨_,rfl,?_,?_⟩
  ·rw [str_size]
   show 1+_≤_
   omega
  ·have hk:=k H' hf
   rw [Lib.itoa,if_pos hp'] at hk
   have e2:(⟨#[45]⟩:ByteArray)++str (Lib.decDigits n.natAbs)=str (45::Lib.decDigits n.natAbs):=str_app [45] _
   rw [e2]
   exact hk
end
end Go.Proofs.YtjdhjgfmloaglaaGreatDoor.C01
end
section
namespace Go.Proofs.YtjdhjgfmloaglaaGreatDoor.L01
open Go Go.V Go.Proofs N01 C01
attribute [local irreducible] Cvt ExtF CallF hrun App MkS
theorem read_dec {u:Nat}(hu:u≤268435456):readL (Lib.decDigits u)=((u:Int),0):=by
 unfold readL
 rw [if_neg (dec_ne u),if_neg (by rw [dec_all];simp),if_neg (by rintro ⟨h1,h2⟩;have:=dec_zero u h1;omega),dec_val,if_neg (by omega)]
end Go.Proofs.YtjdhjgfmloaglaaGreatDoor.L01
end
section
namespace Go.Proofs.YtjdhjgfmloaglaaGreatDoor.P14
open Go Go.V Go.Proofs C01 L01
structure Nd where
 kind:Int
 fn:List UInt8
 copy:Int
 name:List UInt8
 n:Int
 cell:Int
 deriving DecidableEq
def Cnt (x:Int):Prop:=0≤x∧x≤268435456
instance (x:Int):Decidable (Cnt x):=by unfold Cnt;infer_instance
def RightP (a:Nd):Prop:=
 (a.kind=5∧a.fn = []∧a.copy=0∨a.kind≠5∧nameL a.fn=true∧Cnt a.copy) ∧
 ((a.kind=1∨a.kind=5∨a.kind=6)∧nameL a.name=true∧a.n=0∨(a.kind=2∨a.kind=3∨a.kind=7)∧a.name = []∧Cnt a.n∧(a.kind=2∨1≤a.n)∨a.kind=4∧a.name = []∧a.n=0) ∧
 (a.cell = -1∨(a.kind=5∨a.kind=6∨a.kind=7)∧Cnt a.cell)
instance (a:Nd):Decidable (RightP a):=by unfold RightP;infer_instance
def dec (x:Int):List UInt8:=Lib.decDigits x.toNat
def copyP (c:Int):List UInt8:=if c > 0 then 126::dec c else []
def cellP (c:Int):List UInt8:=if c = -1 then [] else 43::dec c
def markB (k:Int):UInt8:=if k=1 then 46 else if k=2 then 36 else if k=3 then 64 else if k=4 then 40 else if k=6 then 37 else 35
def tailP (a:Nd):List UInt8:=if a.kind=1∨a.kind=6 then a.name else if a.kind=4 then [41] else dec a.n
def bodyP (a:Nd):List UInt8:=if a.kind=5 then a.name else a.fn++(copyP a.copy++(markB a.kind::tailP a))
def textL (a:Nd):List UInt8:=bodyP a++cellP a.cell
def kindB (b:UInt8):Int:=if b=46 then 1 else if b=36 then 2 else if b=64 then 3 else if b=40 then 4 else if b=37 then 6 else if b=35 then 7 else if b=32 then 0 else -1
def parse3 (c:Int) (fn:List UInt8) (copy:Int):List UInt8→Option Nd
 | []=>none
 | m::t=>
  if kindB m=1∨kindB m=6 then some ⟨kindB m,fn,copy,t,0,c⟩
  else if kindB m=4 then if t = [41] then some ⟨4,fn,copy,[],0,c⟩ else none
  else if kindB m=2∨kindB m=3∨kindB m=7 then if (readL t).2=0 then some ⟨kindB m,fn,copy,[],(readL t).1,c⟩ else none
  else none
def parse2 (c:Int) (s:List UInt8):Option Nd:=
 match splB s with
 | []=>some ⟨5,[],0,splA s,0,c⟩
 | m::r=>if m=126 then if (readL (splA r)).2=0 then parse3 c (splA s) (readL (splA r)).1 (splB r) else none else parse3 c (splA s) 0 (m::r)
def parseO (s:List UInt8):Option Nd:=
 if 43∈s then if (readL ((s.dropWhile (· != 43)).tail)).2=0 then parse2 (readL ((s.dropWhile (· != 43)).tail)).1 (s.takeWhile (· != 43)) else none
 else parse2 (-1) s
def out (b:UInt8):Prop:=isL b=false∧isD b=false
theorem name_all {w:List UInt8}(h:nameL w=true):wordy w=true∧(∀ b∈w,isL b=true∨isD b=true)∧w ≠ []:=by
 unfold nameL at h
 simp only [Bool.and_eq_true,List.all_eq_true,Bool.or_eq_true] at h
 refine ⟨h.1,h.2.2,?_⟩
 rintro rfl
 exact absurd h.1 (by decide)
theorem spl_at {w r:List UInt8}{q:Bool}(hw:wordy (w++r)=q) (h1:∀ b∈w,inW q b=true) (h2:r = []∨∃ c t,r=c::t∧inW q c=false):splA (w++r)=w∧splB (w++r)=r:=by
 have h:=takeWhile_at (p:=inW q) (l:=w++r) (j:=w.length) (fun i b hi hb=>by
  rw [List.getElem?_append_left hi] at hb
  exact h1 b (List.mem_of_getElem? hb)) (by
  rcases h2 with rfl | ⟨c,t,rfl,hc⟩
  ·left;simp
  ·right;exact ⟨c,by rw [List.getElem?_append_right (Nat.le_refl _),Nat.sub_self];rfl,hc⟩)
 unfold splA splB
 rw [hw,h.1,h.2]
 simp
theorem spl_name {w r:List UInt8}(hw:nameL w=true) (h2:r = []∨∃ c t,r=c::t∧out c):splA (w++r)=w∧splB (w++r)=r:=by
 obtain ⟨h1,h3,h4⟩:=name_all hw
 refine spl_at (q:=true) ?_ (fun b hb=>?_) ?_
 ·cases w with
  | nil=>exact absurd rfl h4
  | cons a w=>exact h1
 ·unfold inW
  rcases h3 b hb with h | h <;> simp [h]
 ·rcases h2 with h | ⟨c,t,h,hc⟩
  ·exact .inl h
  ·exact .inr ⟨c,t,h,by unfold inW;rw [hc.1,hc.2];rfl⟩
theorem spl_dec {u:Nat}{r:List UInt8}(h2:r = []∨∃ c t,r=c::t∧out c):splA (Lib.decDigits u++r)=Lib.decDigits u∧splB (Lib.decDigits u++r)=r:=by
 have ha:=dec_all u
 have hne:=dec_ne u
 refine spl_at (q:=false) ?_ (fun b hb=>?_) ?_
 ·cases hd:Lib.decDigits u with
  | nil=>exact absurd hd hne
  | cons a w=>
   show isL a=false
   rw [hd,List.all_cons,Bool.and_eq_true] at ha
   exact not_both ha.1
 ·unfold inW
  rw [List.all_eq_true.1 ha b hb]
  rfl
 ·rcases h2 with h | ⟨c,t,h,hc⟩
  ·exact .inl h
  ·exact .inr ⟨c,t,h,by unfold inW;rw [hc.2];rfl⟩
theorem mark_mem (k:Int):markB k∈([46,36,64,40,37,35]:List UInt8):=by
 unfold markB
 repeat' split
 all_goals decide
theorem out_mark (k:Int):out (markB k):=by
 have h:=mark_mem k
 generalize markB k=b at h
 simp only [List.mem_cons,List.not_mem_nil,or_false] at h
 unfold out
 rcases h with rfl | rfl | rfl | rfl | rfl | rfl <;> decide
theorem kind_mark {k:Int}(h:k=1∨k=2∨k=3∨k=4∨k=6∨k=7):kindB (markB k)=k:=by
 rcases h with rfl | rfl | rfl | rfl | rfl | rfl <;> decide
theorem mark_ne {k:Int}:markB k≠126∧markB k≠43:=by
 have h:=mark_mem k
 generalize markB k=b at h
 simp only [List.mem_cons,List.not_mem_nil,or_false] at h
 rcases h with rfl | rfl | rfl | rfl | rfl | rfl <;> decide
theorem name_no {w:List UInt8}{c:UInt8}(hw:nameL w=true) (hc:out c):c∉w:=by
 intro h
 rcases (name_all hw).2.1 c h with h' | h'
 ·rw [hc.1] at h';cases h'
 ·rw [hc.2] at h';cases h'
theorem dec_no {x:Int}{c:UInt8}(hc:out c):c∉dec x:=by
 intro h
 have:=List.all_eq_true.1 (dec_all x.toNat) c h
 rw [hc.2] at this
 cases this
theorem out43:out 43:=by unfold out;decide
theorem out126:out 126:=by unfold out;decide
theorem right_kind {a:Nd}(h:RightP a):a.kind=5∨(a.kind=1∨a.kind=2∨a.kind=3∨a.kind=4∨a.kind=6∨a.kind=7):=by
 obtain ⟨_,h,_⟩:=h
 rcases h with ⟨h,_⟩ | ⟨h,_⟩ | ⟨h,_⟩ <;> omega
theorem body_no {a:Nd}(h:RightP a):(43:UInt8)∉bodyP a:=by
 obtain ⟨h1,h2,h3⟩:=h
 unfold bodyP
 by_cases h5:a.kind=5
 ·rw [if_pos h5]
  rcases h2 with ⟨_,h,_⟩ | ⟨h,_⟩ | ⟨h,_⟩
  ·exact name_no h out43
  ·omega
  ·omega
 ·rw [if_neg h5]
  rcases h1 with ⟨h,_⟩ | ⟨_,hf,hc⟩
  ·exact absurd h h5
  simp only [List.mem_append,List.mem_cons]
  rintro (h | h | h | h)
  ·exact name_no hf out43 h
  ·unfold copyP at h
   split at h
   ·rcases List.mem_cons.1 h with h | h
    ·revert h;decide
    ·exact dec_no out43 h
   ·cases h
  ·exact mark_ne.2 h.symm
  ·unfold tailP at h
   split at h
   ·rcases h2 with ⟨_,h',_⟩ | ⟨h',_⟩ | ⟨h',_⟩
    ·exact name_no h' out43 h
    ·omega
    ·omega
   ·split at h
    ·revert h;decide
    ·exact dec_no out43 h
theorem read_dec' {x:Int}(h:Cnt x):readL (dec x)=(x,0):=by
 obtain ⟨h1,h2⟩:=h
 have:=read_dec (u:=x.toNat) (by omega)
 rw [show ((x.toNat:Nat):Int)=x by omega] at this
 exact this
theorem parse3_text {a:Nd}(h:RightP a) (h5:a.kind≠5):parse3 a.cell a.fn a.copy (markB a.kind::tailP a)=some a:=by
 have hk:=(right_kind h).resolve_left h5
 obtain ⟨h1,h2,h3⟩:=h
 obtain ⟨kind,fn,copy,name,n,cell⟩:=a
 simp only at *
 rw [parse3,kind_mark hk]
 unfold tailP
 simp only
 rcases h2 with ⟨hk2,hn,hz⟩ | ⟨hk2,hn,hz,hz2⟩ | ⟨hk2,hn,hz⟩
 ·have hk3:kind=1∨kind=6:=by omega
  rw [if_pos hk3,if_pos hk3,hz]
 ·have c1:¬ (kind=1∨kind=6):=by omega
  have c2:¬ kind=4:=by omega
  rw [if_neg c1,if_neg c1,if_neg c2,if_neg c2,if_pos hk2,read_dec' hz,if_pos rfl,hn]
 ·have c1:¬ (kind=1∨kind=6):=by omega
  rw [if_neg c1,if_neg c1,if_pos hk2,if_pos hk2,if_pos rfl,hk2,hn,hz]
theorem parse2_text {a:Nd}(h:RightP a):parse2 a.cell (bodyP a)=some a:=by
 unfold parse2 bodyP
 by_cases h5:a.kind=5
 ·rw [if_pos h5]
  obtain ⟨h1,h2,h3⟩:=h
  obtain ⟨kind,fn,copy,name,n,cell⟩:=a
  simp only at *
  rcases h1 with ⟨_,hf,hc⟩ | ⟨h,_⟩
  ·rcases h2 with ⟨_,hn,hz⟩ | ⟨h,_⟩ | ⟨h,_⟩
   ·obtain ⟨e1,e2⟩:=spl_name (r:=[]) hn (.inl rfl)
    rw [List.append_nil] at e1 e2
    rw [e2,e1,hf,hc,hz,h5]
   ·omega
   ·omega
  ·exact absurd h5 h
 ·rw [if_neg h5]
  have hp:=parse3_text h h5
  obtain ⟨h1,h2,h3⟩:=h
  rcases h1 with ⟨h,_⟩ | ⟨_,hf,hc⟩
  ·exact absurd h h5
  unfold copyP
  by_cases hc0:a.copy > 0
  ·rw [if_pos hc0]
   obtain ⟨e1,e2⟩:=spl_name (r:=(126::dec a.copy)++(markB a.kind::tailP a)) hf (.inr ⟨_,_,rfl,out126⟩)
   rw [e1,e2]
   simp only [List.cons_append,if_true]
   obtain ⟨e3,e4⟩:=spl_dec (u:=a.copy.toNat) (r:=markB a.kind::tailP a) (.inr ⟨_,_,rfl,out_mark _⟩)
   show (if (readL (splA (Lib.decDigits a.copy.toNat++markB a.kind::tailP a))).2=0 then parse3 a.cell a.fn (readL (splA (Lib.decDigits a.copy.toNat++markB a.kind::tailP a))).1 (splB (Lib.decDigits a.copy.toNat++markB a.kind::tailP a)) else none)=some a
   rw [e3,e4,show Lib.decDigits a.copy.toNat=dec a.copy from rfl,read_dec' hc,if_pos rfl]
   exact hp
  ·rw [if_neg hc0,List.nil_append]
   obtain ⟨e1,e2⟩:=spl_name (r:=markB a.kind::tailP a) hf (.inr ⟨_,_,rfl,out_mark _⟩)
   rw [e1,e2]
   simp only
   rw [if_neg mark_ne.1]
   have:a.copy=0:=by have:=hc.1;omega
   rw [this] at hp
   exact hp
theorem until_at {b r:List UInt8}{c:UInt8}(h:c∉b):(b++c::r).takeWhile (· != c)=b∧(b++c::r).dropWhile (· != c)=c::r:=by
 have:=takeWhile_at (p:=(· != c)) (l:=b++c::r) (j:=b.length) (fun i x hi hx=>by
  rw [List.getElem?_append_left hi] at hx
  have hm:=List.mem_of_getElem? hx
  simp only [bne_iff_ne,ne_eq]
  rintro rfl
  exact h hm) (.inr ⟨c,by rw [List.getElem?_append_right (Nat.le_refl _),Nat.sub_self];rfl,by simp⟩)
 rw [this.1,this.2]
 simp
theorem parse_text {a:Nd}(h:RightP a):parseO (textL a)=some a:=by
 have h1:=body_no h
 have h2:=parse2_text h
 unfold parseO textL cellP
 by_cases hc:a.cell = -1
 ·rw [if_pos hc,List.append_nil,if_neg h1]
  rw [hc] at h2
  exact h2
 ·rw [if_neg hc,if_pos (by simp)]
  obtain ⟨e1,e2⟩:=until_at (r:=dec a.cell) h1
  rw [e1,e2]
  have hcc:Cnt a.cell:=by
   rcases h.2.2 with h' | ⟨_,h'⟩
   ·exact absurd h' hc
   ·exact h'
  show (if (readL (dec a.cell)).2=0 then parse2 (readL (dec a.cell)).1 (bodyP a) else none)=some a
  rw [read_dec' hcc,if_pos rfl]
  exact h2
theorem text_inj {a b:Nd}(ha:RightP a) (hb:RightP b) (h:textL a=textL b):a=b:=by
 have h1:=parse_text ha
 rw [h,parse_text hb] at h1
 cases h1
 rfl
def readN (s:List UInt8):Option Nd:=match parseO s with
 | some a=>if RightP a∧textL a=s then some a else none
 | none=>none
theorem readN_iff {s:List UInt8}{a:Nd}:readN s=some a↔RightP a∧textL a=s:=by
 unfold readN
 constructor
 ·intro h
  split at h
  ·split at h
   ·cases h;assumption
   ·cases h
  ·cases h
 ·rintro ⟨h1,rfl⟩
  rw [parse_text h1]
  simp [h1]
def isPlus:List UInt8→Bool
 | 43::_=>true
 | _=>false
def parts2 (rest:List UInt8):List UInt8 × List UInt8 × Int:=
 let m:=match rest with | []=>([],[],[]) | c::r=>if c≠43 then ([c],splA r,if c=40∧splB r = [41] then [] else splB r) else ([],[],rest)
 (m.1,m.2.1,match m.2.2 with | 43::r=>(readL r).1 | _=>-1)
def partsL (s:List UInt8):List UInt8 × Int × List UInt8 × List UInt8 × Int:=
 match splB s with
 | 126::r=>(splA s,(readL (splA r)).1,parts2 (splB r))
 | r=>(splA s,0,parts2 r)
def cands (s:List UInt8):List Nd:=
 let p:=partsL s
 let n:=(readL p.2.2.2.1).1
 [⟨1,p.1,p.2.1,p.2.2.2.1,0,-1⟩,⟨2,p.1,p.2.1,[],n,-1⟩,⟨3,p.1,p.2.1,[],n,-1⟩,⟨4,p.1,p.2.1,[],0,-1⟩,⟨5,[],0,p.1,0,p.2.2.2.2⟩,⟨6,p.1,p.2.1,p.2.2.2.1,0,p.2.2.2.2⟩,⟨7,p.1,p.2.1,[],n,p.2.2.2.2⟩]
theorem cell_out (c:Int):cellP c = []∨∃ x t,cellP c=x::t∧out x:=by
 unfold cellP
 split
 ·exact .inl rfl
 ·exact .inr ⟨_,_,rfl,out43⟩
theorem cell_num {c:Int}(h:c = -1∨Cnt c):(match cellP c with | 43::r=>(readL r).1 | _=>-1)=c:=by
 unfold cellP
 by_cases hc:c = -1
 ·rw [if_pos hc,hc]
 ·rw [if_neg hc]
  simp only
  rw [read_dec' (h.resolve_left hc)]
theorem parts2_text {a:Nd}(h:RightP a) (h5:a.kind≠5):parts2 (markB a.kind::(tailP a++cellP a.cell))=([markB a.kind],if a.kind=4 then [] else tailP a,a.cell):=by
 have hk:=(right_kind h).resolve_left h5
 obtain ⟨h1,h2,h3⟩:=h
 have hcell:a.cell = -1∨Cnt a.cell:=by rcases h3 with h | ⟨_,h⟩;exact .inl h;exact .inr h
 unfold parts2
 simp only
 rw [if_pos mark_ne.2]
 simp only
 by_cases h4:a.kind=4
 ·have hc1:a.cell = -1:=by
   rcases h3 with h | ⟨h,_⟩
   ·exact h
   ·omega
  rw [if_pos h4,hc1,h4]
  unfold tailP cellP
  rw [if_neg (by omega),if_pos h4,if_pos rfl]
  decide
 ·rw [if_neg h4]
  have hne40:markB a.kind≠40:=by
   unfold markB
   rcases hk with h | h | h | h | h | h <;> rw [h] <;> first | decide | omega
  have e:splA (tailP a++cellP a.cell)=tailP a∧splB (tailP a++cellP a.cell)=cellP a.cell:=by
   unfold tailP
   split
   ·rcases h2 with ⟨_,h,_⟩ | ⟨h,_⟩ | ⟨h,_⟩
    ·exact spl_name h (cell_out _)
    ·omega
    ·omega
   ·exact spl_dec (cell_out _)
  rw [e.1,e.2,if_neg (fun h=>hne40 h.1)]
  rw [cell_num hcell]
theorem cand_text {a:Nd}(h:RightP a):a∈cands (textL a)∧((partsL (textL a)).2.2.1 ≠ []∨a.kind=5):=by
 have hcell:a.cell = -1∨Cnt a.cell:=by rcases h.2.2 with h | ⟨_,h⟩;exact .inl h;exact .inr h
 by_cases h5:a.kind=5
 ·refine ⟨?_,.inr h5⟩
  obtain ⟨h1,h2,h3⟩:=h
  have hn:nameL a.name=true∧a.n=0:=by
   rcases h2 with ⟨_,h⟩ | ⟨h,_⟩ | ⟨h,_⟩
   ·exact h
   ·omega
   ·omega
  have hf:a.fn = []∧a.copy=0:=by
   rcases h1 with ⟨_,h⟩ | ⟨h,_⟩
   ·exact h
   ·exact absurd h5 h
  have hp:partsL (textL a)=(a.name,0,[],[],a.cell):=by
   unfold partsL textL bodyP
   rw [if_pos h5]
   obtain ⟨e1,e2⟩:=spl_name hn.1 (cell_out a.cell)
   rw [e1,e2]
   have e3:parts2 (cellP a.cell)=([],[],a.cell):=by
    have:=cell_num hcell
    unfold parts2
    unfold cellP at this ⊢
    by_cases hc:a.cell = -1
    ·rw [if_pos hc] at this ⊢
     rw [hc]
    ·rw [if_neg hc] at this ⊢
     simp only at this
     simp [this]
   unfold cellP at e3 ⊢
   by_cases hc:a.cell = -1
   ·rw [if_pos hc] at e3 ⊢
    show (a.name,(0:Int),parts2 [])=_
    rw [e3]
   ·rw [if_neg hc] at e3 ⊢
    show (a.name,(0:Int),parts2 (43::dec a.cell))=_
    rw [e3]
  unfold cands
  rw [hp]
  obtain ⟨kind,fn,copy,name,n,cell⟩:=a
  simp only at *
  simp [h5,hf.1,hf.2,hn.2]
 ·have hk:=(right_kind h).resolve_left h5
  have hp2:=parts2_text h h5
  obtain ⟨h1,h2,h3⟩:=h
  rcases h1 with ⟨h,_⟩ | ⟨_,hf,hc⟩
  ·exact absurd h h5
  have hp:partsL (textL a)=(a.fn,a.copy,[markB a.kind],(if a.kind=4 then [] else tailP a),a.cell):=by
   unfold partsL textL bodyP
   rw [if_neg h5]
   unfold copyP
   by_cases hc0:a.copy > 0
   ·rw [if_pos hc0]
    obtain ⟨e1,e2⟩:=spl_name (r:=(126::(dec a.copy++(markB a.kind::(tailP a++cellP a.cell))))) hf (.inr ⟨_,_,rfl,out126⟩)
    have e0:a.fn++(126::dec a.copy++markB a.kind::tailP a)++cellP a.cell=a.fn++(126::(dec a.copy++(markB a.kind::(tailP a++cellP a.cell)))):=by simp
    rw [e0,e1,e2]
    simp only
    obtain ⟨e3,e4⟩:=spl_dec (u:=a.copy.toNat) (r:=markB a.kind::(tailP a++cellP a.cell)) (.inr ⟨_,_,rfl,out_mark _⟩)
    unfold dec
    rw [e3,e4,hp2]
    have:=read_dec' hc
    unfold dec at this
    rw [this]
   ·rw [if_neg hc0,List.nil_append]
    obtain ⟨e1,e2⟩:=spl_name (r:=markB a.kind::(tailP a++cellP a.cell)) hf (.inr ⟨_,_,rfl,out_mark _⟩)
    have e0:a.fn++(markB a.kind::tailP a)++cellP a.cell=a.fn++(markB a.kind::(tailP a++cellP a.cell)):=by simp
    rw [e0,e1,e2]
    have hz:a.copy=0:=by have:=hc.1;omega
    rw [hz]
    split
    ·rename_i r hr
     have:=(List.cons.inj hr).1
     exact absurd this mark_ne.1
    ·rw [hp2]
  rw [hp]
  refine ⟨?_,.inl (by simp)⟩
  unfold cands
  rw [hp]
  obtain ⟨kind,fn,copy,name,n,cell⟩:=a
  simp only at *
  rcases h2 with ⟨hk2,hn,hz⟩ | ⟨hk2,hn,hz,hz2⟩ | ⟨hk2,hn,hz⟩
  ·have hk3:kind=1∨kind=6:=by omega
   rcases hk3 with rfl | rfl
   ·rcases h3 with h3 | ⟨h3,_⟩
    ·simp [tailP,hz,h3]
    ·omega
   ·simp [tailP,hz]
  ·have ht:(if kind=4 then [] else tailP ⟨kind,fn,copy,name,n,cell⟩)=dec n:=by
    rw [if_neg (by omega)]
    unfold tailP
    simp only
    rw [if_neg (by omega),if_neg (by omega)]
   rw [ht,read_dec' hz]
   rcases hk2 with rfl | rfl | rfl
   ·rcases h3 with h3 | ⟨h3,_⟩
    ·simp [hn,h3]
    ·omega
   ·rcases h3 with h3 | ⟨h3,_⟩
    ·simp [hn,h3]
    ·omega
   ·simp [hn]
  ·subst hk2
   rcases h3 with h3 | ⟨h3,_⟩
   ·simp [hn,hz,h3]
   ·omega
def rreadN (s:List UInt8):Option Nd:=(cands s).find? fun a=>decide (RightP a∧textL a=s∧((partsL s).2.2.1 ≠ []∨a.kind=5))
theorem rreadN_eq (s:List UInt8):rreadN s=readN s:=by
 unfold rreadN
 cases hr:readN s with
 | some a=>
  obtain ⟨h1,rfl⟩:=readN_iff.1 hr
  obtain ⟨h2,h3⟩:=cand_text h1
  cases hf:(cands (textL a)).find? fun b=>decide (RightP b∧textL b=textL a∧((partsL (textL a)).2.2.1 ≠ []∨b.kind=5)) with
  | none=>
   rw [List.find?_eq_none] at hf
   have:=hf a h2
   simp [h1] at this
   rcases h3 with h3 | h3
   ·exact absurd this.1 h3
   ·exact absurd h3 this.2
  | some b=>
   have:=List.find?_some hf
   simp only [decide_eq_true_eq] at this
   rw [text_inj this.1 h1 this.2.1]
 | none=>
  rw [List.find?_eq_none]
  intro b hb
  simp only [decide_eq_true_eq]
  rintro ⟨h1,h2,_⟩
  rw [readN_iff.2 ⟨h1,h2⟩] at hr
  cases hr
end Go.Proofs.YtjdhjgfmloaglaaGreatDoor.P14
end
section
namespace Go.Proofs.YtjdhjgfmloaglaaGreatDoor.C14
open Go Go.V Go.Proofs N14 C01 P14
attribute [local irreducible] Cvt ExtF CallF hrun App MkS
def ndV (a:Nd):List Value:=[.int .i64 a.kind,.string (str a.fn),.int .i64 a.copy,.string (str a.name),.int .i64 a.n,.int .i64 a.cell]
def ndA (a:Nd):Value:=.agg #[.int .i64 a.kind,.string (str a.fn),.int .i64 a.copy,.string (str a.name),.int .i64 a.n,.int .i64 a.cell]
def Sm (a:Nd):Prop:=a.fn.length≤1048576∧a.name.length≤1048576
theorem ld6 {H:Hp}{b:Nat}{a:Nd}{T:TypeId}{P:Int→ByteArray→Int→ByteArray→Int→Int→Prop}(h:Blk H b (ndV a) T) (k:P a.kind (str a.fn) a.copy (str a.name) a.n a.cell) :
  ∃ (x_a:Int) (x_b:ByteArray) (x_c:Int) (x_d:ByteArray) (x_e x_f:Int),(hcell H ⟨b,0,none⟩=some (.int .i64 x_a)∧hcell H ⟨b,1,none⟩=some (.string x_b)∧hcell H ⟨b,2,none⟩=some (.int .i64 x_c)∧hcell H ⟨b,3,none⟩=some (.string x_d) ∧
   hcell H ⟨b,4,none⟩=some (.int .i64 x_e)∧hcell H ⟨b,5,none⟩=some (.int .i64 x_f)∧True)∧P x_a x_b x_c x_d x_e x_f:=
 ⟨_,_,_,_,_,_,⟨h.ld 0,h.ld 1,h.ld 2,h.ld 3,h.ld 4,h.ld 5,trivial⟩,k⟩
section
variable {H:Hp}{K:Value→Hp→Prop}{Z:List PanicEntry→Hp→Prop}
theorem cellRight_ok {a:Nd}(k:∀ H',Fr no H H'→K (.bool (decide (a.cell = -1∨Cnt a.cell))) H'):CallF Tryz.prog 116 #[ndA a] H K Z:=by
 refine V116_ok ?_
 unfold V116
 intro bN A hA
 have hb:Blk A bN (ndV a) 61:=hA.blk
 refine ⟨_,hb.ld 5,fun h1=>⟨_,hb.ld 5,?_⟩,fun h1=>?_⟩
 ·have h1':=of_decide_eq_true h1
  have e:decide (a.cell≤268435456)=decide (a.cell = -1∨Cnt a.cell):=by
   apply decide_eq_decide.2
   unfold Cnt
   omega
  rw [e]
  exact k A hA.fr
 ·have h1':=of_decide_eq_false h1
  have e:false=decide (a.cell = -1∨Cnt a.cell):=by
   symm
   apply decide_eq_false
   unfold Cnt
   omega
  have hk:=k A hA.fr
  rw [← e] at hk
  exact hk
def F1 (a:Nd):Prop:=a.kind=5∧a.fn = []∧a.copy=0∨a.kind≠5∧nameL a.fn=true∧Cnt a.copy
theorem r56 {a:Nd}(f:F1 a) (h:a.kind=5∨a.kind=6):RightP a↔nameL a.name=true∧a.n=0∧(a.cell = -1∨Cnt a.cell):=by
 unfold RightP F1 at *
 grind
theorem r1 {a:Nd}(f:F1 a) (h:a.kind=1):RightP a↔nameL a.name=true∧a.n=0∧a.cell = -1:=by
 unfold RightP F1 at *
 grind
theorem r7 {a:Nd}(f:F1 a) (h:a.kind=7):RightP a↔a.name = []∧1≤a.n∧a.n≤268435456∧(a.cell = -1∨Cnt a.cell):=by
 unfold RightP F1 Cnt at *
 grind
theorem r4 {a:Nd}(f:F1 a) (h:a.kind=4):RightP a↔a.name = []∧a.n=0∧a.cell = -1:=by
 unfold RightP F1 at *
 grind
theorem r23 {a:Nd}(f:F1 a) {least:Int}(h:a.kind=3∧least=1∨a.kind=2∧least=0):RightP a↔a.name = []∧least≤a.n∧a.n≤268435456∧a.cell = -1:=by
 unfold RightP F1 Cnt at *
 grind
theorem rno {a:Nd}(h1:a.kind≠1) (h2:a.kind≠2) (h3:a.kind≠3) (h4:a.kind≠4) (h5:a.kind≠5) (h6:a.kind≠6) (h7:a.kind≠7):¬ RightP a:=by
 unfold RightP
 grind
theorem beq_str' (a b:List UInt8):(str a == str b)=decide (a=b):=by
 show (a.toArray == b.toArray)=_
 rw [Bool.eq_iff_iff,beq_iff_eq,decide_eq_true_eq]
 simp
set_option maxRecDepth 10000 in
theorem right_ok {a:Nd}(hs:Sm a) (k:∀ H',Fr no H H'→K (.bool (decide (RightP a))) H'):CallF Tryz.prog 63 #[ndA a] H K Z:=by
 refine V63_ok ?_
 unfold V63
 intro bN A hA
 have s0:=(Sym.start H).newb (cs:=ndV a) hA
 refine ld6 (s0.get (k:=0) rfl) ?_
 intro bR B hB
 have s1:=s0.newb (cs:=ndV ⟨0,[],0,[],0,0⟩) hB
 refine s1.stbs (k:=0) (i:=0) (cs:=ndV ⟨0,[],0,[],0,0⟩) rfl (by simp [ndV]) (by intro v hv;simp only [List.mem_cons,List.not_mem_nil,or_false] at hv;rcases hv with rfl | rfl | rfl | rfl | rfl | rfl <;> rfl) fun C s2=>?_
 replace s2:Sym H no C [blk bR (ndV a) 61,blk bN (ndV a) 61]:=s2
 refine s2.stb (k:=0) (i:=0) rfl (by simp [ndV]) rfl fun D s3=>?_
 refine s3.stb (k:=0) (i:=1) rfl (by simp [ndV]) rfl fun E s4=>?_
 refine s4.stb (k:=0) (i:=2) rfl (by simp [ndV]) rfl fun F s5=>?_
 replace s5:Sym H no F [blk bR (ndV ⟨0,[],0,a.name,a.n,a.cell⟩) 61,blk bN (ndV a) 61]:=s5
 -- any answer is the right one
 have fin:∀ {L:List It}{G:Hp}{b:Bool},Sym H no G L→(b=true↔RightP a)→K (.bool b) G:=by
  intro L G b hG hb
  have e:b=decide (RightP a):=by
   rw [Bool.eq_iff_iff,hb,decide_eq_true_eq]
  rw [e]
  exact k G hG.frno
 have finF:∀ {L:List It}{G:Hp},Sym H no G L→¬ RightP a→K (.bool false) G:=fun hG hb=>fin hG ⟨(fun h=>by cases h),fun h=>absurd h hb⟩
 have hnm:a.name.length≤1000000000:=by have:=hs.2;omega
 refine ⟨fun G=>Sym H no G [blk bR (ndV ⟨0,[],0,a.name,a.n,a.cell⟩) 61,blk bN (ndV a) 61]∧(a.kind=5∨F1 a),?_,?_⟩
 ·rintro G ⟨s6,f15⟩ scr
  have f1:a.kind≠5→F1 a:=fun h=>f15.resolve_left h
  have nd:Blk G bN (ndV a) 61:=s6.get (k:=1) rfl
  have nr:Blk G bR (ndV ⟨0,[],0,a.name,a.n,a.cell⟩) 61:=s6.get (k:=0) rfl
  refine ⟨_,nd.ld 0,fun least G'=>G'=G∧(a.kind=3∧least=1∨a.kind=2∧least=0),?_,fun G'=>G'=G∧(a.kind=5∨a.kind=6)∧F1 a,?_,fun h5=>?_,fun h5=>⟨fun h6=>⟨rfl,.inr (by simpa using h6),f1 (by simpa using h5)⟩,fun h6=>⟨fun h1=>?_,fun h1=>⟨fun h7=>?_,fun h7=>⟨fun h4=>?_,fun h4=>⟨fun h3=>⟨rfl,.inl ⟨by simpa using h3,rfl⟩⟩,fun h3=>⟨fun h2=>⟨rfl,.inr ⟨by simpa using h2,rfl⟩⟩,fun h2=>?_⟩⟩⟩⟩⟩⟩⟩
  ·rintro least _ ⟨rfl,hk⟩ scr1
   have hr:=r23 (f1 (by omega)) hk
   refine ⟨_,nd.ld 4,fun hge=>⟨_,nd.ld 4,fun hle=>ld6 nr ⟨_,nd.ld 4,fin s6 ?_⟩,fun hgt=>finF s6 ?_⟩,fun hlt=>finF s6 ?_⟩
   ·have:=of_decide_eq_true hge
    have:=of_decide_eq_true hle
    rw [hr,str_nil,beq_str',beq_str']
    simp
    grind
   ·have:=of_decide_eq_false hgt
    rw [hr]
    omega
   ·have:=of_decide_eq_false hlt
    rw [hr]
    omega
  ·rintro _ ⟨rfl,hk,ff⟩ scr1
   have hr:=r56 ff hk
   refine ⟨_,nd.ld 3,name_ok hnm fun H2 f2=>⟨_,rfl,fun hy=>?_,fun hn=>finF (s6.more f2) ?_⟩⟩
   ·have s7:=s6.more f2
    have nd2:Blk H2 bN (ndV a) 61:=s7.get (k:=1) rfl
    refine ld6 (s7.get (k:=0) rfl) ⟨_,nd2.ld 3,_,nd2.ld 5,fun hz=>ld6 nd2 ?_,fun hz=>finF s7 ?_⟩
    ·refine cellRight_ok (a:=a) fun H3 f3=>⟨_,rfl,fin (s7.more f3) ?_⟩
     rw [str_nil,beq_str',beq_str'] at hz
     simp at hz
     rw [hr,decide_eq_true_eq]
     grind
    ·rw [str_nil,beq_str',beq_str'] at hz
     simp at hz
     rw [hr]
     grind
   ·rw [hr,hn]
    simp
  ·have h5':a.kind=5:=by simpa using h5
   have noF:¬ F1 a→¬ RightP a:=fun h h'=>h h'.1
   refine ⟨_,nd.ld 1,fun hne=>finF s6 (noF ?_),fun heq=>⟨_,nd.ld 2,fun hne=>finF s6 (noF ?_),fun heq2=>⟨rfl,.inl h5',.inl ⟨h5',?_,by simpa using heq2⟩⟩⟩⟩
   ·rw [str_nil,beq_str] at hne
    have:a.fn ≠ []:=by simpa using hne
    unfold F1
    grind
   ·have:a.copy≠0:=by simpa using hne
    unfold F1
    grind
   ·rw [str_nil,beq_str] at heq
    simpa using heq
  ·have h1':a.kind=1:=by simpa using h1
   have hr:=r1 (f1 (by omega)) h1'
   refine ⟨_,nd.ld 3,name_ok hnm fun H2 f2=>⟨_,rfl,fun hy=>?_,fun hn=>finF (s6.more f2) ?_⟩⟩
   ·have s7:=s6.more f2
    have nd2:Blk H2 bN (ndV a) 61:=s7.get (k:=1) rfl
    refine ld6 (s7.get (k:=0) rfl) ⟨_,nd2.ld 3,fin s7 ?_⟩
    rw [hr,str_nil,beq_str',beq_str']
    simp
    grind
   ·rw [hr,hn]
    simp
  ·have h7':a.kind=7:=by simpa using h7
   have hr:=r7 (f1 (by omega)) h7'
   refine ⟨_,nd.ld 4,fun hge=>⟨_,nd.ld 4,fun hle=>ld6 nr ⟨_,nd.ld 4,_,nd.ld 5,fun hz=>ld6 nd ?_,fun hz=>finF s6 ?_⟩,fun hgt=>finF s6 ?_⟩,fun hlt=>finF s6 ?_⟩
   ·have:=of_decide_eq_true hge
    have:=of_decide_eq_true hle
    refine cellRight_ok (a:=a) fun H3 f3=>⟨_,rfl,fin (s6.more f3) ?_⟩
    rw [str_nil,beq_str',beq_str'] at hz
    simp at hz
    rw [hr,decide_eq_true_eq]
    grind
   ·rw [str_nil,beq_str',beq_str'] at hz
    simp at hz
    rw [hr]
    grind
   ·have:=of_decide_eq_false hgt
    rw [hr]
    omega
   ·have:=of_decide_eq_false hlt
    rw [hr]
    omega
  ·have h4':a.kind=4:=by simpa using h4
   have hr:=r4 (f1 (by omega)) h4'
   refine ld6 nr (fin s6 ?_)
   rw [hr,str_nil,beq_str',beq_str']
   simp
  ·refine finF s6 (rno ?_ ?_ ?_ ?_ ?_ ?_ ?_)
   ·simpa using h1
   ·simpa using h2
   ·simpa using h3
   ·simpa using h4
   ·simpa using h5
   ·simpa using h6
   ·simpa using h7
 ·have nd:Blk F bN (ndV a) 61:=s5.get (k:=1) rfl
  refine ⟨_,nd.ld 0,fun h5=>?_,fun h5=>⟨s5,.inl (by simpa using h5)⟩⟩
  ·have h5':a.kind≠5:=by simpa using h5
   have noF:¬ F1 a→¬ RightP a:=fun h h'=>h h'.1
   refine ⟨_,nd.ld 1,name_ok (by have:=hs.1;omega) fun H2 f2=>⟨_,rfl,fun hn=>finF (s5.more f2) (noF ?_),fun hy=>?_⟩⟩
   ·have hn':nameL a.fn=false:=by simpa using hn
    unfold F1
    grind
   ·have hy':nameL a.fn=true:=by simpa using hy
    have s6:=s5.more f2
    have nd2:Blk H2 bN (ndV a) 61:=s6.get (k:=1) rfl
    refine ⟨_,nd2.ld 2,fun hlt=>finF s6 (noF ?_),fun hge=>⟨_,nd2.ld 2,fun hgt=>finF s6 (noF ?_),fun hle=>⟨s6,.inr (.inr ⟨h5',hy',?_,?_⟩)⟩⟩⟩
    ·have:=of_decide_eq_true hlt
     unfold F1 Cnt
     omega
    ·have:=of_decide_eq_true hgt
     unfold F1 Cnt
     omega
    ·have:=of_decide_eq_false hge
     omega
    ·have:=of_decide_eq_false hle
     omega
theorem rcount_ok {x:Int}(k:K (.bool (decide (Cnt x))) H):CallF Tryz.prog 235 #[.int .i64 x] H K Z:=by
 refine V235_ok ?_
 unfold V235
 refine ⟨fun h=>?_,fun h=>?_⟩
 ·have h':=of_decide_eq_true h
  have e:decide (x≤268435456)=decide (Cnt x):=decide_eq_decide.2 (by unfold Cnt;omega)
  rw [e]
  exact k
 ·have h':=of_decide_eq_false h
  have e:decide (Cnt x)=false:=decide_eq_false (by unfold Cnt;omega)
  rw [e] at k
  exact k
def named (a:Nd):Bool:=decide (a.kind=1∨a.kind=5∨a.kind=6)
def numbered (a:Nd):Bool:=decide (a.kind=2∨a.kind=3∨a.kind=7)
theorem name_nil:nameL []=false:=rfl
theorem rright_ok {a:Nd}(hs:Sm a) (k:∀ H',Fr no H H'→K (.bool (decide (RightP a))) H'):CallF Tryz.prog 213 #[ndA a] H K Z:=by
 refine V213_ok ?_
 unfold V213
 intro bN A hA
 have hb:Blk A bN (ndV a) 210:=hA.blk
 have fin:∀ {b:Bool},(b=true↔RightP a)→K (.bool b) A:=by
  intro b hb
  have e:b=decide (RightP a):=by
   rw [Bool.eq_iff_iff,hb,decide_eq_true_eq]
  rw [e]
  exact k A hA.fr
 have finF:¬ RightP a→K (.bool false) A:=fun hb=>fin ⟨(fun h=>by cases h),fun h=>absurd h hb⟩
 have h1:a.fn.length≤1000000000:=by have:=hs.1;omega
 have h2:a.name.length≤1000000000:=by have:=hs.2;omega
 refine ⟨fun G=>G=A∧1≤a.kind∧a.kind≤7∧Cnt a.copy∧Cnt a.n∧(a.cell = -1∨Cnt a.cell),?_,_,hb.ld 0,fun hlt=>finF ?_,fun hge=>⟨_,hb.ld 0,fun hgt=>finF ?_,fun hle=>⟨_,hb.ld 2,rcount_ok ⟨_,rfl,fun hn=>finF ?_,fun hc=>⟨_,hb.ld 4,rcount_ok ⟨_,rfl,fun hn=>finF ?_,fun hcn=>⟨_,hb.ld 5,fun hne=>⟨_,hb.ld 5,rcount_ok ⟨_,rfl,fun hn=>finF ?_,fun hcc=>⟨rfl,?_⟩⟩⟩,fun heq=>⟨rfl,?_⟩⟩⟩⟩⟩⟩⟩⟩
 rotate_left
 ·have:=of_decide_eq_true hlt
  unfold RightP
  omega
 ·have:=of_decide_eq_true hgt
  unfold RightP
  omega
 ·simp at hn
  unfold RightP
  unfold Cnt at *
  grind
 ·simp at hn
  unfold RightP
  unfold Cnt at *
  grind
 ·simp at hn hne
  unfold RightP
  unfold Cnt at *
  grind
 ·have:=of_decide_eq_false hge
  have:=of_decide_eq_false hle
  simp at hc hcn hcc
  exact ⟨by omega,by omega,hc,hcn,.inr hcc⟩
 ·have:=of_decide_eq_false hge
  have:=of_decide_eq_false hle
  simp at hc hcn heq
  exact ⟨by omega,by omega,hc,hcn,.inl heq⟩
 rintro A ⟨rfl,k1,k7,hc,hn,hcell⟩ scr
 refine ⟨fun nm G=>G=A∧nm=named a,?_,_,hb.ld 0,fun h=>⟨rfl,?_⟩,fun h=>⟨_,hb.ld 0,fun h'=>⟨rfl,?_⟩,fun h'=>⟨_,hb.ld 0,rfl,?_⟩⟩⟩
 rotate_left
 ·have:a.kind=1:=by simpa using h
  simp [named,this]
 ·have:a.kind=5:=by simpa using h'
  simp [named,this]
 ·simp at h h'
  unfold named
  rw [Bool.eq_iff_iff,beq_iff_eq,decide_eq_true_eq]
  omega
 rintro _ A ⟨rfl,rfl⟩ scr1
 refine ⟨fun nm G=>G=A∧nm=numbered a,?_,_,hb.ld 0,fun h=>⟨rfl,?_⟩,fun h=>⟨_,hb.ld 0,fun h'=>⟨rfl,?_⟩,fun h'=>⟨_,hb.ld 0,rfl,?_⟩⟩⟩
 rotate_left
 ·have:a.kind=2:=by simpa using h
  simp [numbered,this]
 ·have:a.kind=3:=by simpa using h'
  simp [numbered,this]
 ·simp at h h'
  unfold numbered
  rw [Bool.eq_iff_iff,beq_iff_eq,decide_eq_true_eq]
  omega
 rintro _ A ⟨rfl,rfl⟩ scr2
 refine ⟨fun G=>G=A∧F1 a∧(a.kind=1∨a.kind=5∨a.kind=6→nameL a.name=true)∧(¬ (a.kind=1∨a.kind=5∨a.kind=6)→a.name = [])∧(¬ (a.kind=2∨a.kind=3∨a.kind=7)→a.n=0)∧¬ (a.n=0∧(a.kind=3∨a.kind=7)),?_,
  fun t G=>G=A∧(t=true↔¬ F1 a),?_,?_⟩
 ·rintro A ⟨rfl,f1,g1,g2,g3,g4⟩ scr3
  refine ⟨_,hb.ld 0,fun h=>fin ?_,fun h=>⟨_,hb.ld 5,fin ?_⟩⟩
  ·have:=of_decide_eq_true h
   unfold F1 at f1
   unfold RightP Cnt at *
   grind
  ·have:=of_decide_eq_false h
   rw [beq_iff_eq]
   unfold F1 at f1
   unfold RightP Cnt at *
   grind
 ·rintro t A ⟨rfl,ht⟩ scr3
  refine ⟨fun h=>finF fun hr=>(ht.1 h) hr.1,fun h=>?_⟩
  have f1:F1 a:=by
   apply Classical.byContradiction
   intro hn
   rw [ht.2 hn] at h
   cases h
  refine ⟨fun t G=>G=A∧(t=true↔¬ ((a.kind=1∨a.kind=5∨a.kind=6→nameL a.name=true)∧(¬ (a.kind=1∨a.kind=5∨a.kind=6)→a.name = []))),?_,?_⟩
  ·rintro t A ⟨rfl,ht⟩ scr4
   refine ⟨fun h=>finF fun hr=>(ht.1 h) ?_,fun h=>?_⟩
   ·obtain ⟨_,h2,_⟩:=hr
    grind
   ·have g:(a.kind=1∨a.kind=5∨a.kind=6→nameL a.name=true)∧(¬ (a.kind=1∨a.kind=5∨a.kind=6)→a.name = []):=by
     apply Classical.byContradiction
     intro hn
     rw [ht.2 hn] at h
     cases h
    refine ⟨fun hnum=>⟨_,hb.ld 4,fun hne=>finF ?_,fun heq=>⟨_,hb.ld 4,fun _=>⟨_,hb.ld 0,fun h3=>finF ?_,fun h3=>⟨_,hb.ld 0,fun h7=>finF ?_,fun h7=>⟨rfl,f1,g.1,g.2,?_⟩⟩⟩,fun hne=>?_⟩⟩,fun hnum=>⟨_,hb.ld 4,fun heq=>⟨_,hb.ld 0,fun h3=>finF ?_,fun h3=>⟨_,hb.ld 0,fun h7=>finF ?_,fun h7=>⟨rfl,f1,g.1,g.2,?_⟩⟩⟩,fun hne=>⟨rfl,f1,g.1,g.2,?_⟩⟩⟩ <;> simp [numbered] at * <;> (try unfold RightP) <;> grind
  ·refine ⟨_,hb.ld 3,fun hd=>⟨rfl,?_⟩,fun hd=>⟨fun hnm=>⟨_,hb.ld 3,rname_ok h2 ⟨_,rfl,rfl,?_⟩⟩,fun hnm=>⟨rfl,?_⟩⟩⟩
   ·rw [str_nil,beq_str] at hd
    simp [named] at hd
    have:=name_nil
    grind
   ·rw [str_nil,beq_str] at hd
    simp [named] at hd hnm
    grind
   ·rw [str_nil,beq_str] at hd
    simp [named] at hd hnm
    grind
 ·refine ⟨_,hb.ld 0,_,hb.ld 1,fun hd=>⟨rfl,?_⟩,fun hd=>⟨_,hb.ld 1,fun hne=>⟨_,hb.ld 1,rname_ok h1 ⟨_,rfl,fun hn=>⟨rfl,?_⟩,fun hy=>⟨_,hb.ld 0,fun h5=>⟨_,hb.ld 2,rfl,?_⟩,fun h5=>⟨rfl,?_⟩⟩⟩⟩,fun he=>⟨_,hb.ld 0,fun h5=>⟨_,hb.ld 2,rfl,?_⟩,fun h5=>⟨rfl,?_⟩⟩⟩⟩ <;>
   rw [str_nil,beq_str] at * <;> simp at * <;> unfold F1 <;> have:=name_nil <;> grind
end
end Go.Proofs.YtjdhjgfmloaglaaGreatDoor.C14
end
section
set_option maxRecDepth 100000
namespace Go.Proofs.YtjdhjgfmloaglaaGreatDoor.N02
open Go Go.V Go.Proofs
def V119 (H:Hp) (b:Addr) (c:Int) (K:Value→Hp→Prop) (Z:List PanicEntry→Hp→Prop):Prop:=
 CallF Tryz.prog 160 #[.pointer (some b)] H (fun r H1=>r = .tuple #[]∧∃ x:Sl,hcell H1 (Addr.add b 1)=some (.slice x.a x.n x.c) ∧
  ∀ b1 H2,Newb H1 (.cells #[.int .u8 c] 5) b1 H2→App Tryz.prog #[161,161] 161 H2 [.slice x.a x.n x.c,.slice (some ⟨b1,0,none⟩) 1 1] fun ap H3=>
  (StL (Addr.add b 1) 0 [.slice ap.a ap.n ap.c] H3 fun H4=>(K (.nilIface) H4))) Z
theorem V119_ok {H b c K Z} (h:V119 H b c K Z):CallF Tryz.prog 119 #[.pointer (some b),.int .u8 c] H K Z:=
 fnC_sound (aJ:=fun _=>none) (aL:=fun _=>none) (Eq.mp (by kernel_rfl) h)
def V117 (H:Hp) (b:Addr) (s:ByteArray) (K:Value→Hp→Prop) (Z:List PanicEntry→Hp→Prop):Prop:=
 CallF Tryz.prog 160 #[.pointer (some b)] H (fun r H1=>r = .tuple #[]∧∃ x:Sl,hcell H1 (Addr.add b 1)=some (.slice x.a x.n x.c) ∧
  App Tryz.prog #[161,9] 161 H1 [.slice x.a x.n x.c,.string s] fun ap H2=>(StL (Addr.add b 1) 0 [.slice ap.a ap.n ap.c] H2 fun H3=>
  (K (.tuple #[.int .i64 (s.size:Int),.nilIface]) H3))) Z
theorem V117_ok {H b s K Z} (h:V117 H b s K Z):CallF Tryz.prog 117 #[.pointer (some b),.string s] H K Z:=
 fnC_sound (aJ:=fun _=>none) (aL:=fun _=>none) (Eq.mp (by kernel_rfl) h)
def V120 (H:Hp) (b:Addr) (K:Value→Hp→Prop) (Z:List PanicEntry→Hp→Prop):Prop:=
 ∃ x:Sl,hcell H (Addr.add b 1)=some (.slice x.a x.n x.c)∧((Blt Tryz.prog .unsafeSliceData #[161] 206 #[false] H [.slice x.a x.n x.c] fun r H1=>
  ∃ y:Option Addr,r = .pointer y∧∃ x1:Sl,hcell H1 (Addr.add b 1)=some (.slice x1.a x1.n x1.c) ∧
  Blt Tryz.prog .unsafeString #[206,3] 9 #[false,false] H1 [.pointer y,.int .i64 (x1.n:Int)] fun r1 H2=>
  ∃ y1:ByteArray,r1 = .string y1∧K (.string y1) H2)∧(∃ x2:Sl,hcell H (Addr.add b 1)=some (.slice x2.a x2.n x2.c) ∧
  Blt Tryz.prog .unsafeSliceData #[161] 206 #[false] H [.slice x.a x.n x.c] fun r2 H3=>∃ y2:Option Addr,r2 = .pointer y2 ∧
  Blt Tryz.prog .unsafeString #[206,3] 9 #[false,false] H3 [.pointer y2,.int .i64 (x2.n:Int)] fun r3 H4=>
  ∃ y3:ByteArray,r3 = .string y3∧K (.string y3) H4))
theorem V120_ok {H b K Z} (h:V120 H b K Z):CallF Tryz.prog 120 #[.pointer (some b)] H K Z:=
 fnC_sound (aJ:=fun _=>none) (aL:=fun _=>none) (Eq.mp (by kernel_rfl) h)
def V160 (H:Hp) (b:Addr) (K:Value→Hp→Prop) (Z:List PanicEntry→Hp→Prop):Prop:=
 ∃ x:Option Addr,hcell H b=some (.pointer x)∧(((Option.isNone x)=true→Cvt Tryz.prog 160 229 H (.pointer (some b)) fun r H1=>
  ∃ cv:Value,r=cv∧ExtF Tryz.prog 186 [cv] H1 fun r1 H2=>∃ y:Value,r1=y∧Cvt Tryz.prog 229 160 H2 (y) fun r2 H3=>
  ∃ cv1:Option Addr,r2 = .pointer cv1∧StL b 0 [.pointer cv1] H3 fun H4=>(K (.tuple #[]) H4)) ∧
  ((Option.isNone x)=false→∃ x1:Option Addr,hcell H b=some (.pointer x1)∧PEq x1 b fun same=>
  (((!same)=true→False)∧((!same)=false→K (.tuple #[]) H))))
theorem V160_ok {H b K Z} (h:V160 H b K Z):CallF Tryz.prog 160 #[.pointer (some b)] H K Z:=
 fnC_sound (aJ:=fun _=>none) (aL:=fun _=>none) (Eq.mp (by kernel_rfl) h)
end Go.Proofs.YtjdhjgfmloaglaaGreatDoor.N02
end
