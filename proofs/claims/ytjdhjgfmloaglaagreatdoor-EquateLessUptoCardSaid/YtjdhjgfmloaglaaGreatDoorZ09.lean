import Derived.Test.YtjdhjgfmloaglaaGreatDoorZ08
import Derived.Lib.UnsafeStr
set_option linter.unusedVariables false
set_option linter.unusedSimpArgs false
section
namespace Go.Proofs.YtjdhjgfmloaglaaGreatDoor.Bld
open Go Go.V Go.Proofs N02
attribute [local irreducible] Cvt ExtF CallF hrun
def bOwn (cs:List Value) (o:Nat) (i:Nat):Prop:=∃ off n c,cs[o+1]? = some (.slice (some ⟨i,off,none⟩) n c)
structure BldS (H:Hp) (b o:Nat) (T:TypeId) (cs:List Value) (xs:List UInt8):Prop where
 blk:Blk H b cs T
 ptr:∃ p:Option Addr,cs[o]? = some (.pointer p)∧(p=none∨p=some ⟨b,o,none⟩)
 buf:∃ s:Sl,cs[o+1]? = some (.slice s.a s.n s.c)∧Row H 5 1 s (bv xs)∧¬ own s b
 lies:liesAt Tryz.prog Tryz.prog.depth T (cs.length / Tryz.prog.cellsOf T) o 163 1=true
theorem own_iff {s:Sl}{cs:List Value}{o:Nat}(h:cs[o+1]? = some (.slice s.a s.n s.c)) (i:Nat):bOwn cs o i↔own s i:=by
 unfold bOwn own
 rw [h]
 constructor
 ·rintro ⟨off,n,c,h⟩
  simp only [Option.some.injEq,Value.slice.injEq] at h
  exact ⟨off,h.1⟩
 ·rintro ⟨off,h⟩
  exact ⟨off,s.n,s.c,by rw [h]⟩
structure BldTo (H H':Hp) (b o:Nat) (T:TypeId) (cs cs':List Value) (xs:List UInt8):Prop where
 st:BldS H' b o T cs' xs
 len:cs'.length=cs.length
 rest:∀ i,i≠o→i≠o+1→cs'[i]? = cs[i]?
 fr:Fr (fun i=>i=b∨bOwn cs o i) H H'
 own:∀ i,bOwn cs' o i→bOwn cs o i∨H.size≤i
theorem blk_shape {H:Hp}{b:Nat}{T:TypeId}{cs:List Value}(hb:Blk H b cs T):hshape H b=some (T,cs.length):=by
 unfold hshape
 have h':H[b]? = some (.cells cs.toArray T (0,0)):=hb
 rw [h']
 simp
theorem cv1 {P:Program}{tp tu t:TypeId}{z:Nat}(p1:pureV P (underlying tp)=some (.pointer t)) (p2:pureV P (underlying tu)=some .unsafePointer) (p3:pureV P (sizeOf t)=some (z+1))
  {H:Hp}{b o:Nat}{T:TypeId}{cs:List Value}{K:Value→Hp→Prop}(hb:Blk H b cs T) (ho:o < cs.length) (k:K (.pointer (some ⟨b,o,none⟩)) H) :
  Cvt P tp tu H (.pointer (some ⟨b,o,none⟩)) K:=by
 unfold Cvt convert
 refine hrun_pv p1 ?_
 refine hrun_pv p2 ?_
 simp only [Conv.unsafePointer]
 refine hrun_pv p1 ?_
 refine hrun_pv p2 ?_
 have hsh:=blk_shape hb
 simp only [Conv.seenAt,viewAt,cellsIn,shape,bind,Sem.bind,pure,hrun,hsh,Option.isSome_some,if_true]
 refine hrun_bind _ (hrun_pureV _ p3 ?_)
 have:¬ (o≥cs.length):=by omega
 simp only [this,decide_false,Bool.false_and,Bool.false_eq_true,or_false]
 simpa [hrun] using k
theorem cv2 {P:Program}{tp tu t:TypeId}{z:Nat}(p1:pureV P (underlying tp)=some (.pointer t)) (p2:pureV P (underlying tu)=some .unsafePointer) (p3:pureV P (sizeOf t)=some (z+1))
  {H:Hp}{b o:Nat}{T:TypeId}{cs:List Value}{K:Value→Hp→Prop}(hb:Blk H b cs T) (hl:liesAt P P.depth T (cs.length / P.cellsOf T) o t 1=true)
  (k:K (.pointer (some ⟨b,o,none⟩)) H):Cvt P tu tp H (.pointer (some ⟨b,o,none⟩)) K:=by
 unfold Cvt convert
 refine hrun_pv p2 ?_
 refine hrun_pv p1 ?_
 simp only [Conv.unsafePointer]
 refine hrun_pv p2 ?_
 refine hrun_pv p1 ?_
 have hsh:=blk_shape hb
 simp only [Conv.seenAt,viewAt,variablesAt,shape,bind,Sem.bind,pure,hrun,hsh,Option.isSome_some,if_true,program]
 refine hrun_bind _ (hrun_pureV _ p3 ?_)
 simp only [hsh,hl,hrun,Sem.bind,Bool.or_true,if_true]
 exact k
theorem pvPB:pureV Tryz.prog (underlying 160)=some (.pointer 163):=by kernel_rfl
theorem pvUP:pureV Tryz.prog (underlying 229)=some .unsafePointer:=by kernel_rfl
theorem pvSz:pureV Tryz.prog (sizeOf 163)=some (1+1):=by kernel_rfl
theorem pvNoEsc (v:Value):pureV Tryz.prog (callFunc 186 #[v])=some (.value v):=by kernel_rfl
theorem noEsc_ok {H:Hp}{K:Value→Hp→Prop}(v:Value) (k:K v H):ExtF Tryz.prog 186 [v] H K:=by
 unfold ExtF
 exact hrun_pureV _ (pvNoEsc v) k
theorem copyCheck {H:Hp}{b o:Nat}{T:TypeId}{cs:List Value}{xs:List UInt8}{Z:List PanicEntry→Hp→Prop}(h:BldS H b o T cs xs) :
  CallF Tryz.prog 160 #[.pointer (some ⟨b,o,none⟩)] H (fun r H'=>r = .tuple #[]∧BldTo H H' b o T cs (cs.set o (.pointer (some ⟨b,o,none⟩))) xs∧H'.size=H.size) Z:=by
 obtain ⟨hb,⟨p,h0,hp⟩,⟨s,h1,hr,hn⟩,hl⟩:=h
 have ho:o < cs.length:=(List.getElem?_eq_some_iff.1 h0).1
 have hs1:(cs.set o (.pointer (some ⟨b,o,none⟩)))[o+1]? = some (.slice s.a s.n s.c):=by rw [List.getElem?_set_ne (by omega)];exact h1
 refine V160_ok ?_
 unfold V160
 refine ⟨p,by rw [hb.ld];exact h0,?_,?_⟩
 ·intro hpn
  have hp':p=none:=by simpa using hpn
  subst hp'
  apply cv1 pvPB pvUP pvSz hb ho
  refine ⟨_,rfl,?_⟩
  refine noEsc_ok _ ⟨_,rfl,?_⟩
  refine cv2 pvPB pvUP pvSz hb hl ⟨_,rfl,?_⟩
  refine st_blk hb ho rfl ?_
  intro H' hb' hf hs
  refine ⟨rfl,⟨⟨hb',⟨_,by rw [List.getElem?_set_self ho],.inr rfl⟩,⟨s,hs1,hr.keep hf (fun i hi e=>hn (e ▸ hi)),hn⟩,by simpa using hl⟩,by simp,?_,hf.mono (fun i _ hi=>.inl hi),?_⟩,hs⟩
  ·intro i hi _;exact List.getElem?_set_ne (Ne.symm hi)
  ·intro i hi;rw [own_iff hs1] at hi;rw [own_iff h1];exact .inl hi
 ·intro hpn
  have hp':p=some ⟨b,o,none⟩:=by
   rcases hp with rfl | h
   ·simp at hpn
   ·exact h
  subst hp'
  refine ⟨_,by rw [hb.ld];exact h0,?_⟩
  refine ⟨rfl,?_,?_⟩
  ·intro h;simp at h
  ·intro _
   have e:cs.set o (.pointer (some ⟨b,o,none⟩))=cs:=by
    apply List.ext_getElem?
    intro i
    by_cases hi:i=o
    ·subst hi;rw [List.getElem?_set_self ho,h0]
    ·rw [List.getElem?_set_ne (Ne.symm hi)]
   rw [e]
   exact ⟨rfl,⟨⟨hb,⟨_,h0,.inr rfl⟩,⟨s,h1,hr,hn⟩,hl⟩,rfl,fun _ _ _=>rfl,Fr.refl _ _,fun i hi=>.inl hi⟩,rfl⟩
theorem BldTo.trans {A B C:Hp}{b o:Nat}{T:TypeId}{c1 c2 c3:List Value}{xs ys:List UInt8}(h:BldTo A B b o T c1 c2 xs) (k:BldTo B C b o T c2 c3 ys):BldTo A C b o T c1 c3 ys:=by
 refine ⟨k.st,k.len.trans h.len,fun i h1 h2=>(k.rest i h1 h2).trans (h.rest i h1 h2),?_,?_⟩
 ·refine h.fr.step k.fr ?_
  intro i hi ht
  rcases ht with rfl | ht
  ·exact .inl rfl
  ·rcases h.own i ht with h' | h'
   ·exact .inr h'
   ·omega
 ·intro i hi
  rcases k.own i hi with h' | h'
  ·exact h.own i h'
  ·exact .inr (Nat.le_trans h.fr.size h')
theorem BldS.keep {H H':Hp}{b o:Nat}{T:TypeId}{cs:List Value}{xs:List UInt8}{S:Nat→Prop}(h:BldS H b o T cs xs) (hf:Fr S H H') (h1:¬ S b) (h2:∀ i,bOwn cs o i→¬ S i):BldS H' b o T cs xs:=by
 obtain ⟨hb,hp,⟨s,hs,hr,hn⟩,hl⟩:=h
 exact ⟨hf.blk hb h1,hp,⟨s,hs,hr.keep hf (fun i hi=>h2 i ((own_iff hs i).2 hi)),hn⟩,hl⟩
theorem pvu1:Tryz.prog.underlying 161=some (.slice 5):=by kernel_rfl
theorem pvu2:Tryz.prog.underlying 9=some .string:=by kernel_rfl
theorem pvi:∃ inf:TypeInfo,Tryz.prog.info? 5=some inf∧inf.zero=some (.int .u8 0)∧inf.size=1∧inf.bytes=1:=info_of (by kernel_rfl)
theorem put_ok {T2:TypeId}{y:Value}{m:Nat}{ty:TypeId}(ht:T2=161∨T2=9) {H:Hp}{b o:Nat}{T:TypeId}{cs:List Value}{xs ys:List UInt8}(h:BldS H b o T cs xs) {s:Sl}
  (hs:hcell H (Addr.add ⟨b,o,none⟩ 1)=some (.slice s.a s.n s.c)) (hy:Src H 1 y m (bv ys)) (hl:xs.length+m≤140737488355328) {K:Hp→Prop}(k:∀ H' cs',BldTo H H' b o T cs cs' (xs++ys)→K H') :
  App Tryz.prog #[161,T2] ty H [.slice s.a s.n s.c,y] fun ap H3=>StL (Addr.add ⟨b,o,none⟩ 1) 0 [.slice ap.a ap.n ap.c] H3 K:=by
 obtain ⟨hb,hp,⟨s',h1,hr,hn⟩,hlies⟩:=h
 have e:s'=s:=by
  rw [add_mk,hb.ld,h1] at hs
  cases s;cases s'
  simpa using hs
 subst e
 have ho:o+1 < cs.length:=(List.getElem?_eq_some_iff.1 h1).1
 obtain ⟨inf,i1,i2,i3,i4⟩:=pvi
 rw [← i3] at hr hy
 have hlen:=hr.1
 rw [bv_length,i3] at hlen
 refine app_row pvu1 ?_ ?_ i1 i2 (by rw [i3];rfl) (by rw [i4];decide) hr hy (bv_one _) (by rw [i4];omega) ?_
 ·rcases ht with rfl | rfl
  ·intro k;rw [pvu1];simp
  ·intro k;rw [pvu2];simp
 ·rcases ht with rfl | rfl
  ·exact ⟨_,pvu1⟩
  ·exact ⟨_,pvu2⟩
 ·intro s2 H2 hr2 _ hf2 ho2
  have hb2:Blk H2 b cs T:=hf2.blk hb hn
  rw [add_mk]
  refine st_blk hb2 ho rfl ?_
  intro H3 hb3 hf3 _
  have hget:(cs.set (o+1) (.slice s2.a s2.n s2.c))[o+1]? = some (.slice s2.a s2.n s2.c):=List.getElem?_set_self ho
  have hn2:¬ own s2 b:=by
   intro hc
   rcases ho2 b hc with h' | h'
   ·exact hn h'
   ·have:=hb.lt;omega
  refine k H3 (cs.set (o+1) (.slice s2.a s2.n s2.c)) ⟨⟨hb3,?_,⟨s2,hget,?_,hn2⟩,by simpa using hlies⟩,by simp,?_,?_,?_⟩
  ·obtain ⟨p,hp1,hp2⟩:=hp
   exact ⟨p,by rw [List.getElem?_set_ne (by omega)];exact hp1,hp2⟩
  ·rw [bv_append]
   rw [i3] at hr2
   exact hr2.keep hf3 fun i hi e=>hn2 (e ▸ hi)
  ·intro i _ hi
   exact List.getElem?_set_ne (Ne.symm hi)
  ·have hf2':Fr (fun i=>i=b∨bOwn cs o i) H H2:=hf2.mono fun i _ hi=>.inr ((own_iff h1 i).2 hi)
   exact hf2'.step hf3 fun i _ hi=>.inl hi
  ·intro i hi
   rw [own_iff hget] at hi
   rw [own_iff h1]
   exact ho2 i hi
theorem writeByte {H:Hp}{b o:Nat}{T:TypeId}{cs:List Value}{xs:List UInt8}{c:UInt8}{K:Value→Hp→Prop}{Z:List PanicEntry→Hp→Prop}(h:BldS H b o T cs xs) (hl:xs.length+1≤140737488355328)
  (k:∀ H' cs',BldTo H H' b o T cs cs' (xs ++ [c])→K .nilIface H'):CallF Tryz.prog 119 #[.pointer (some ⟨b,o,none⟩),.int .u8 (c.toNat:Int)] H K Z:=by
 refine V119_ok ?_
 unfold V119
 refine (copyCheck h).mono ?_ fun _ _ h=>h
 rintro r H1 ⟨rfl,h1,hs1⟩
 obtain ⟨hb,hp,⟨s,hs,hr,hn⟩,hlies⟩:=h1.st
 refine ⟨rfl,s,by rw [add_mk,hb.ld];exact hs,?_⟩
 intro b1 H2 hn1
 have hb1:Blk H2 b1 [.int .u8 (c.toNat:Int)] 5:=hn1.blk
 have hst2:BldS H2 b o T _ xs:=h1.st.keep (S:=no) hn1.fr (fun h=>h) (fun _ _ h=>h)
 refine put_ok (.inl rfl) (ys:=[c]) hst2 (by rw [add_mk,hst2.blk.ld];exact hs) (Src.blk hb1 rfl) hl ?_
 intro H3 cs3 h3
 have h12:BldTo H1 H2 b o T (cs.set o (.pointer (some ⟨b,o,none⟩))) (cs.set o (.pointer (some ⟨b,o,none⟩))) xs:=⟨hst2,rfl,fun _ _ _=>rfl,hn1.fr.of_no,fun i hi=>.inl hi⟩
 exact k H3 cs3 ((h1.trans h12).trans h3)
theorem writeString {H:Hp}{b o:Nat}{T:TypeId}{cs:List Value}{xs:List UInt8}{t:ByteArray}{K:Value→Hp→Prop}{Z:List PanicEntry→Hp→Prop}(h:BldS H b o T cs xs) (hl:xs.length+t.size≤140737488355328)
  (k:∀ H' cs',BldTo H H' b o T cs cs' (xs++t.data.toList)→K (.tuple #[.int .i64 (t.size:Int),.nilIface]) H'):CallF Tryz.prog 117 #[.pointer (some ⟨b,o,none⟩),.string t] H K Z:=by
 refine V117_ok ?_
 unfold V117
 refine (copyCheck h).mono ?_ fun _ _ h=>h
 rintro r H1 ⟨rfl,h1,hs1⟩
 obtain ⟨hb,hp,⟨s,hs,hr,hn⟩,hlies⟩:=h1.st
 refine ⟨rfl,s,by rw [add_mk,hb.ld];exact hs,?_⟩
 refine put_ok (.inr rfl) (ys:=t.data.toList) h1.st (by rw [add_mk,hb.ld];exact hs) (Src.str t) hl ?_
 intro H3 cs3 h3
 exact k H3 cs3 (h1.trans h3)
theorem sliceData_ok {P:Program}{ts:Array TypeId}{ty e E:TypeId}{cs:Array Bool}{H:Hp}{s:Sl}{sz:Nat}{xs:List Value}(hp:P.underlying ty=some (.pointer e)) (hr:Row H E sz s xs) {K:Value→Hp→Prop}
  (k:∀ p H',Fr no H H'→(s.n=0∨(p=s.a∧H'=H))→K (.pointer p) H'):Blt P .unsafeSliceData ts ty cs H [.slice s.a s.n s.c] K:=by
 unfold Blt
 show hrun P (Builtin.unsafeSliceData_ ts ty #[.slice s.a s.n s.c] >>= fun v=>pure (Next.value v)) H _ _
 refine hrun_bind _ (hrun.mono _ (K:=K) (Z:=fun _ _=>False) ?_ (fun v H' h=>by simpa only [pure,hrun] using h) fun _ _ h=>h)
 rcases hr.2 with ⟨h1,h2,h3⟩ | ⟨g,c,fr,ha,hg,h1,h2,h3,h4⟩
 ·rw [h1,h2,h3]
  have hdef:Builtin.unsafeSliceData_ ts ty #[.slice none 0 0]=pure (.pointer none):=rfl
  rw [hdef]
  simp only [pure,hrun]
  exact k none H (Fr.refl _ _) (.inl h2)
 ·rw [ha]
  have hdef:Builtin.unsafeSliceData_ ts ty #[.slice (some ⟨g,0,none⟩) s.n s.c] =
   (do
    if s.c≠0 then pure (.pointer (some ⟨g,0,none⟩))
    else if (← viewAt g).isSome then pure (.pointer (some ⟨g,0,none⟩))
    else pure (.pointer (some ⟨← newObj (.view ⟨g,0,none⟩ (← elemOf ty)),0,none⟩))):=rfl
  rw [hdef]
  by_cases hc:s.c=0
  ·rw [if_neg (by simpa using hc)]
   refine hrun_bind _ ?_
   have hsh:hshape H g=some (E,c.length):=by
    unfold hshape
    rw [hg]
    simp
   simp only [viewAt,shape,bind,Sem.bind,pure,hrun,hsh,Option.isSome_some,if_true,Option.isSome_none,Bool.false_eq_true,if_false]
   refine hrun_bind _ (hrun_pureV (a:=e) _ ?_ ?_)
   ·simp [elemOf,underlying,program,bind,Sem.bind,pure,pureV,hp]
   ·simp only [newObj,Sem.bind,hrun]
    intro b H' hn
    exact k _ H' hn.fr (.inl (by omega))
  ·rw [if_pos (by simpa using hc)]
   simp only [pure,hrun]
   exact k _ H (Fr.refl _ _) (.inr ⟨ha.symm,rfl⟩)
theorem str_ok {P:Program}{pt it ty e:TypeId}{cs:Array Bool}{H:Hp}{s:Sl}{xs:List UInt8}{p:Option Addr}(hp:P.underlying pt=some (.pointer e)) (hc:P.cellsOf e=1) (hr:Row H e 1 s (bv xs)) (hl:xs.length < 2 ^ 63)
  (h:s.n=0∨p=s.a) {K:Value→Hp→Prop}(k:∀ H',Fr (own s) H H'→Row H' e 1 s (bv xs)→K (.string ⟨xs.toArray⟩) H'):Blt P .unsafeString #[pt,it] ty cs H [.pointer p,.int .i64 (s.n:Int)] K:=by
 have hlen:=hr.1
 rw [bv_length,Nat.mul_one] at hlen
 have hmax:IntKind.i64.max=9223372036854775807:=rfl
 unfold Blt
 show hrun P (Builtin.unsafeString_ #[pt,it] ty #[.pointer p,.int .i64 (s.n:Int)] >>= fun v=>pure (Next.value v)) H _ _
 refine hrun_bind _ (hrun.mono _ (K:=K) (Z:=fun _ _=>False) ?_ (fun v H' h=>by simpa only [pure,hrun] using h) fun _ _ h=>h)
 have hdef:Builtin.unsafeString_ #[pt,it] ty #[.pointer p,.int .i64 (s.n:Int)] =
   (do
    let n ← asInt (.int .i64 (s.n:Int))
    if n < 0 then runtimePanic (.error "unsafe.String: len out of range")
    if n > IntKind.i64.max then unsupported (.unsafePointer "String: a length above the largest int")
    match p with
    | none=>if n=0 then pure (.string .empty) else runtimePanic (.error "unsafe.String: ptr is nil and len is not zero")
    | some a=>
     if n=0 then pure (.string .empty)
     else if ← variablesAt a (← elemOf pt) n.toNat then do
      let s ← loadBytes a .empty n.toNat
      freeze a n.toNat
      pure (.string s)
     else unsupported (.unsafePointer "String: not so many bytes at ptr")):=rfl
 rw [hdef]
 simp only [asInt,asIntOf,bind,pure,Sem.bind]
 have n1:¬ ((s.n:Int) < 0):=by omega
 have n2:¬ ((s.n:Int) > IntKind.i64.max):=by rw [hmax];omega
 rw [if_neg n1,if_neg n2]
 by_cases h0:s.n=0
 ·have hx:xs = []:=List.eq_nil_of_length_eq_zero (by omega)
  subst hx
  have:K (.string ByteArray.empty) H:=k H (Fr.refl _ _) hr
  cases p <;> simpa [h0,hrun] using this
 ·have hpa:p=s.a:=by
   rcases h with h | h
   ·exact absurd h h0
   ·exact h
  subst hpa
  rcases hr.2 with ⟨_,h2,_⟩ | ⟨g,c,fr,ha,hg,h1,h2,h3,h4⟩
  ·exact absurd h2 h0
  ·rw [ha]
   simp only
   rw [if_neg (by omega)]
   refine hrun_bind _ (hrun_pureV (a:=e) _ ?_ ?_)
   ·simp [elemOf,underlying,program,bind,Sem.bind,pure,pureV,hp]
   have hsh:hshape H g=some (e,c.length):=by
    unfold hshape
    rw [hg]
    simp
   have hli:liesAt P P.depth e (c.length / P.cellsOf e) 0 e (s.n:Int).toNat=true:=by
    refine Go.Lib.liesAt_bytes hc _ _ ?_
    rw [hc,h2]
    simpa using h1
   simp only [variablesAt,program,shape,bind,Sem.bind,pure,hrun,hsh,hli,if_true]
   have hn:(s.n:Int).toNat=xs.length:=by omega
   rw [hn]
   refine hrun_bind _ (loadBytes_ok xs ⟨g,0,none⟩ .empty ?_ ?_)
   ·intro j x hj
    have hjl:j < xs.length:=(List.getElem?_eq_some_iff.1 hj).1
    rw [add_mk]
    unfold hcell
    simp only [hg,Option.isSome_none,Bool.false_eq_true,if_false]
    have:(bv xs)[j]? = some (.int .u8 (x.toNat:Int)):=by simp [bv,hj]
    rw [← h3,List.getElem?_take,if_pos (by omega)] at this
    simpa using this
   ·simp only [freeze,hrun,Sem.bind]
    have hfz:(hfreeze H ⟨g,0,none⟩ xs.length)[g]? = some (.cells c.toArray e (if fr.1 == fr.2 then (0,xs.length) else (min fr.1 0,max fr.2 (xs.length)))):=by
     unfold hfreeze
     rw [if_neg (by omega),Array.getElem?_modify]
     simp [hg]
    have hfr:Fr (own s) H (hfreeze H ⟨g,0,none⟩ xs.length):=by
     unfold hfreeze
     rw [if_neg (by omega)]
     refine ⟨by simp,fun i hi hn=>?_⟩
     rw [Array.getElem?_modify,if_neg]
     intro e
     exact hn ⟨0,by rw [ha];simpa using e⟩
    have e:(ByteArray.empty.data++xs.toArray)=xs.toArray:=by
     rw [show ByteArray.empty.data=#[] from rfl]
     simp
    rw [e]
    refine k _ hfr ⟨hr.1,.inr ⟨g,c,_,ha,hfz,h1,h2,h3,?_⟩⟩
    split
    ·simp only;omega
    ·simp only;omega
theorem string {H:Hp}{b o:Nat}{T:TypeId}{cs:List Value}{xs:List UInt8}{K:Value→Hp→Prop}{Z:List PanicEntry→Hp→Prop}(h:BldS H b o T cs xs) (hl:xs.length < 2 ^ 63)
  (k:∀ H',BldTo H H' b o T cs cs xs→K (.string ⟨xs.toArray⟩) H'):CallF Tryz.prog 120 #[.pointer (some ⟨b,o,none⟩)] H K Z:=by
 refine V120_ok ?_
 unfold V120
 obtain ⟨s,hs,hr,hn⟩:=h.buf
 have hs':∀ H':Hp,Fr no H H'→hcell H' (Addr.add ⟨b,o,none⟩ 1)=some (.slice s.a s.n s.c):=by
  intro H' hf
  rw [add_mk,(hf.blk h.blk fun h=>h).ld]
  exact hs
 have pu:Tryz.prog.underlying 206=some (.pointer 5):=by kernel_rfl
 have pc:Tryz.prog.cellsOf 5=1:=by kernel_rfl
 have fin:∀ p H1,Fr no H H1→(s.n=0∨(p=s.a∧H1=H))→Blt Tryz.prog .unsafeString #[206,3] 9 #[false,false] H1 [.pointer p,.int .i64 (s.n:Int)] fun r1 H2=>∃ y1:ByteArray,r1 = .string y1∧K (.string y1) H2:=by
  intro p H1 hf h1
  have hr1:=hr.keep hf fun _ _ h=>h
  refine str_ok pu pc hr1 hl (h1.imp id fun h=>h.1) ?_
  intro H2 hf2 hr2
  refine ⟨_,rfl,k H2 ⟨⟨?_,h.ptr,⟨s,hs,hr2,hn⟩,h.lies⟩,rfl,fun _ _ _=>rfl,?_,fun i hi=>.inl hi⟩⟩
  ·exact hf2.blk (hf.blk h.blk fun h=>h) hn
  ·have hf':Fr (fun i=>i=b∨bOwn cs o i) H H1:=hf.of_no
   exact hf'.step hf2 fun i _ hi=>.inr ((own_iff hs i).2 hi)
 refine ⟨s,hs' H (Fr.refl _ _),sliceData_ok pu hr ?_,⟨s,hs' H (Fr.refl _ _),sliceData_ok pu hr ?_⟩⟩
 ·intro p H1 hf h1
  exact ⟨p,rfl,s,hs' H1 hf,fin p H1 hf h1⟩
 ·intro p H1 hf h1
  exact ⟨p,rfl,fin p H1 hf h1⟩
end Go.Proofs.YtjdhjgfmloaglaaGreatDoor.Bld
end
section
namespace Go.Proofs.YtjdhjgfmloaglaaGreatDoor.BldI
open Go Go.V Go.Proofs Bld
attribute [local irreducible] Cvt ExtF CallF hrun App MkS
def bldI (b:Nat) (cs:List Value) (xs:List UInt8):It where
 ok H:=BldS H b 0 163 cs xs
 fp i:=i=b∨bOwn cs 0 i
 lt h hi:=by
  rcases hi with rfl | hi
  ·exact h.blk.lt
  ·obtain ⟨s,hs,hr,_⟩:=h.buf
   exact hr.lt ((own_iff hs _).1 hi)
 st:=by
  intro H H' h hs
  obtain ⟨s,h1,hr,hn⟩:=h.buf
  refine ⟨(hs b (.inl rfl)).trans h.blk,h.ptr,⟨s,h1,⟨hr.1,?_⟩,hn⟩,h.lies⟩
  rcases hr.2 with h' | ⟨g,c,fr,ha,hg,h'⟩
  ·exact .inl h'
  ·exact .inr ⟨g,c,fr,ha,(hs g (.inr ((own_iff h1 g).2 ⟨0,ha⟩))).trans hg,h'⟩
section
variable {H0 H:Hp}{S:Nat→Prop}{L:List It}{k b:Nat}{cs:List Value}{xs t:List UInt8}{K:Value→Hp→Prop}{Z:List PanicEntry→Hp→Prop}
theorem set_bld {H':Hp}{cs':List Value}{ys:List UInt8}(h:Sym H0 S H L) (hk:L[k]? = some (bldI b cs xs)) (ht:BldTo H H' b 0 163 cs cs' ys):Sym H0 S H' (L.set k (bldI b cs' ys)):=
 h.setk hk ht.fr ht.st fun i hi=>by
  rcases hi with rfl | hi
  ·exact .inl (.inl rfl)
  ·rcases ht.own i hi with h' | h'
   ·exact .inl (.inr h')
   ·exact .inr h'
theorem new_bld {H':Hp}(h:Sym H0 S H L) (hn:Newb H (.cells #[.pointer none,.slice none 0 0] 163) b H'):Sym H0 S H' (bldI b [.pointer none,.slice none 0 0] []::L):=by
 have hno:∀ i,¬ bOwn [.pointer none,.slice none 0 0] 0 i:=by
  rintro i ⟨o,n,c,h⟩
  simp at h
 refine h.new hn.fr ⟨hn.blk,⟨none,rfl,.inl rfl⟩,⟨⟨none,0,0⟩,rfl,Row.nil _ _ _,by rintro ⟨o,h⟩;cases h⟩,by kernel_rfl⟩ ?_
 rintro i (rfl | hi)
 ·have:=hn.eq;omega
 ·exact absurd hi (hno i)
theorem wstr (h:Sym H0 S H L) (hk:L[k]? = some (bldI b cs xs)) (hl:xs.length+t.length≤140737488355328)
  (kk:∀ H' cs',Sym H0 S H' (L.set k (bldI b cs' (xs++t)))→K (.tuple #[.int .i64 ((str t).size:Int),.nilIface]) H'):CallF Tryz.prog 117 #[.pointer (some ⟨b,0,none⟩),.string (str t)] H K Z:=
 writeString (t:=str t) (h.get hk) (by rw [str_size];exact hl) fun H' cs' ht=>kk H' cs' (by
  rw [str_data] at ht
  exact set_bld h hk ht)
theorem wbyte {c:UInt8}(h:Sym H0 S H L) (hk:L[k]? = some (bldI b cs xs)) (hl:xs.length+1≤140737488355328)
  (kk:∀ H' cs',Sym H0 S H' (L.set k (bldI b cs' (xs ++ [c])))→K .nilIface H'):CallF Tryz.prog 119 #[.pointer (some ⟨b,0,none⟩),.int .u8 (c.toNat:Int)] H K Z:=
 writeByte (h.get hk) hl fun H' cs' ht=>kk H' cs' (set_bld h hk ht)
theorem bstr (h:Sym H0 S H L) (hk:L[k]? = some (bldI b cs xs)) (hl:xs.length≤140737488355328)
  (kk:∀ H',Sym H0 S H' (L.set k (bldI b cs xs))→K (.string (str xs)) H'):CallF Tryz.prog 120 #[.pointer (some ⟨b,0,none⟩)] H K Z:=
 string (h.get hk) (by omega) fun H' ht=>kk H' (set_bld h hk ht)
end
end Go.Proofs.YtjdhjgfmloaglaaGreatDoor.BldI
end
section
namespace Go.Proofs.YtjdhjgfmloaglaaGreatDoor.C14
open Go Go.V Go.Proofs N14 C01 P14 BldI
attribute [local irreducible] Cvt ExtF CallF hrun App MkS
abbrev Pw (H:Hp):Prop:=TabH Tryz.prog H "internal/strconv.uint64pow10" .u64 Lib.pow10Tab
theorem itoa_dec {x:Int}(h:0≤x):Lib.itoa x=dec x:=by
 unfold Lib.itoa dec
 rw [if_neg (by omega)]
theorem dec_len5 {x:Int}(h:Cnt x):(dec x).length≤9:=dec_len 8 _ (by have:=h.1;have:=h.2;omega)
theorem copy_len {x:Int}(h:Cnt x):(copyP x).length≤10:=by
 unfold copyP
 have:=dec_len5 h
 split
 ·rw [List.length_cons];omega
 ·exact Nat.zero_le _
theorem tail_len {a:Nd}(h:RightP a) (hs:Sm a):(tailP a).length≤1048576:=by
 unfold tailP
 have:=hs.2
 split
 ·omega
 ·split
  ·decide
  ·have:Cnt a.n:=by
    obtain ⟨_,h2,_⟩:=h
    unfold Cnt at *
    grind
   have:=dec_len5 this
   omega
section
variable {H:Hp}{K:Value→Hp→Prop}{Z:List PanicEntry→Hp→Prop}
set_option maxRecDepth 10000 in
theorem write_ok {a:Nd}(hr:RightP a) (hs:Sm a) (ht:Pw H) (k:∀ H',Fr no H H'→K (.string (str (textL a))) H'):CallF Tryz.prog 64 #[ndA a] H K Z:=by
 refine V64_ok ?_
 unfold V64
 intro bN A hA bB B hB
 have s0:=new_bld ((Sym.start H).newb (cs:=ndV a) hA) hB
 have htl:=tail_len hr hs
 have hfn:=hs.1
 have hnm:=hs.2
 have hcp:Cnt a.copy:=by
  obtain ⟨h1,_⟩:=hr
  unfold Cnt at *
  grind
 have hcl:=copy_len hcp
 have nd0:Blk B bN (ndV a) 61:=s0.get (k:=1) rfl
 refine ⟨_,nd0.ld 1,wstr s0 (k:=0) rfl (by simp only [List.length_nil];omega) fun C cs1 s1=>⟨_,_,rfl,?_⟩⟩
 have nd1:Blk C bN (ndV a) 61:=s1.get (k:=1) rfl
 refine ⟨fun D=>∃ cs,Sym H no D [bldI bB cs (a.fn++copyP a.copy),blk bN (ndV a) 61],?_,_,nd1.ld 2,fun hc=>⟨_,nd1.ld 2,?_⟩,fun hc=>⟨cs1,?_⟩⟩
 rotate_left
 ·have hc':a.copy > 0:=of_decide_eq_true hc
  refine text_ok (by have:=hcp.1;omega) (by have:=hcp.2;omega) (ht.more s1.frno) fun D fD=>⟨_,rfl,?_,?_⟩
  ·rw [str_size,itoa_dec hcp.1]
   have:=dec_len5 hcp
   show 1+_≤_
   omega
  ·have e:(⟨#[126]⟩:ByteArray)++str (Lib.itoa a.copy)=str (126::dec a.copy):=by
    rw [itoa_dec hcp.1]
    exact str_app [126] _
   rw [e]
   refine wstr (s1.more fD) (k:=0) rfl (by have:=dec_len5 hcp;simp only [List.length_append,List.length_cons,List.length_nil];omega) fun E cs2 s2=>⟨_,_,rfl,cs2,?_⟩
   unfold copyP
   rw [if_pos hc']
   exact s2
 ·have hc':¬ a.copy > 0:=of_decide_eq_false hc
  unfold copyP
  rw [if_neg hc',List.append_nil]
  exact s1
 rintro D ⟨cs2,s2⟩ scr
 have nd2:Blk D bN (ndV a) 61:=s2.get (k:=1) rfl
 refine ⟨fun E=>∃ cs,Sym H no E [bldI bB cs (if a.kind=5 then [] else a.fn++(copyP a.copy ++ [markB a.kind])),blk bN (ndV a) 61],?_,_,nd2.ld 0,fun h5=>⟨_,nd2.ld 0,?_⟩,fun h5=>⟨cs2,?_⟩⟩
 rotate_left
 ·have h5':a.kind≠5:=by simpa using h5
  have hk:=(right_kind hr).resolve_left h5'
  obtain ⟨kn,ek⟩:∃ kn:Nat,a.kind=(kn:Int):=⟨a.kind.toNat,by omega⟩
  have hx:([32,46,36,64,40,32,37,35]:List UInt8)[kn]? = some (markB a.kind):=by
   have:kn=1∨kn=2∨kn=3∨kn=4∨kn=6∨kn=7:=by omega
   rcases this with rfl | rfl | rfl | rfl | rfl | rfl <;> rw [ek] <;> rfl
  rw [ek]
  refine IxS.mk (l:=[32,46,36,64,40,32,37,35]) hx ?_
  refine wbyte s2 (k:=0) rfl (by simp only [List.length_append];omega) fun E cs3 s3=>⟨_,rfl,cs3,?_⟩
  rw [← ek,if_neg h5',← List.append_assoc]
  exact s3
 ·have h5':a.kind=5:=by simpa using h5
  rw [if_pos h5']
  have e:a.fn++copyP a.copy = []:=by
   rcases hr.1 with ⟨_,h,h'⟩ | ⟨h,_⟩
   ·rw [h,h'];rfl
   ·exact absurd h5' h
  rw [e] at s2
  exact s2
 rintro E ⟨cs3,s3⟩ scr1
 have nd3:Blk E bN (ndV a) 61:=s3.get (k:=1) rfl
 have hbl:(if a.kind=5 then [] else a.fn++(copyP a.copy ++ [markB a.kind])).length≤1048576+11:=by
  split
  ·exact Nat.zero_le _
  ·simp only [List.length_append,List.length_cons,List.length_nil];omega
 have ebody:(if a.kind=5 then [] else a.fn++(copyP a.copy ++ [markB a.kind]))++(if a.kind=5 then a.name else tailP a)=bodyP a:=by
  unfold bodyP
  by_cases h:a.kind=5
  ·rw [if_pos h,if_pos h,if_pos h];rfl
  ·rw [if_neg h,if_neg h,if_neg h]
   simp
 refine ⟨fun F=>∃ cs,Sym H no F [bldI bB cs (bodyP a),blk bN (ndV a) 61],?_,_,nd3.ld 0,fun t F=>F=E∧(t=true↔a.kind=1∨a.kind=5∨a.kind=6),?_,fun h=>⟨rfl,?_⟩,fun h=>⟨fun h'=>⟨rfl,?_⟩,fun h'=>⟨rfl,?_⟩⟩⟩
 ·rintro F ⟨cs4,s4⟩ scr2
  have nd4:Blk F bN (ndV a) 61:=s4.get (k:=1) rfl
  have hlb:(bodyP a).length≤2097152+20:=by
   rw [← ebody,List.length_append]
   have:(if a.kind=5 then a.name else tailP a).length≤1048576:=by
    split
    ·exact hnm
    ·exact htl
   omega
  refine ⟨_,nd4.ld 5,fun hne=>⟨_,nd4.ld 5,?_⟩,fun heq=>?_⟩
  ·have hne':a.cell ≠ -1:=by simpa using hne
   have hcc:Cnt a.cell:=by
    rcases hr.2.2 with h | ⟨_,h⟩
    ·exact absurd h hne'
    ·exact h
   have hdl:=dec_len5 hcc
   refine text_ok (by have:=hcc.1;omega) (by have:=hcc.2;omega) (ht.more s4.frno) fun G fG=>⟨_,rfl,?_,?_⟩
   ·rw [str_size,itoa_dec hcc.1]
    show 1+_≤_
    omega
   ·have e:(⟨#[43]⟩:ByteArray)++str (Lib.itoa a.cell)=str (43::dec a.cell):=by
     rw [itoa_dec hcc.1]
     exact str_app [43] _
    rw [e]
    refine wstr (s4.more fG) (k:=0) rfl (by simp only [List.length_cons];omega) fun I cs5 s5=>⟨_,_,rfl,?_⟩
    refine bstr s5 (k:=0) rfl (by simp only [List.length_append,List.length_cons];omega) fun J s6=>⟨_,rfl,?_⟩
    have:=k J s6.frno
    unfold textL cellP at this
    rw [if_neg hne'] at this
    exact this
  ·have heq':a.cell = -1:=by simpa using heq
   refine bstr s4 (k:=0) rfl (by omega) fun J s6=>⟨_,rfl,?_⟩
   have:=k J s6.frno
   unfold textL cellP at this
   rw [if_pos heq',List.append_nil] at this
   exact this
 ·rintro t E ⟨rfl,htk⟩ scr2
  refine ⟨fun h=>⟨_,nd3.ld 3,?_⟩,fun h=>⟨fun h4=>?_,fun h4=>⟨_,nd3.ld 4,?_⟩⟩⟩
  ·have hk:=htk.1 h
   refine wstr s3 (k:=0) rfl (by omega) fun F cs4 s4=>⟨_,_,rfl,cs4,?_⟩
   have e:a.name=if a.kind=5 then a.name else tailP a:=by
    unfold tailP
    grind
   rw [← ebody]
   rw [e] at s4
   exact s4
  ·have h4':a.kind=4:=by simpa using h4
   refine wbyte (c:=41) s3 (k:=0) rfl (by omega) fun F cs4 s4=>⟨_,rfl,cs4,?_⟩
   have e : [41]=if a.kind=5 then a.name else tailP a:=by
    unfold tailP
    grind
   rw [← ebody,← e]
   exact s4
  ·have h4':a.kind≠4:=by simpa using h4
   have hk:¬ (a.kind=1∨a.kind=5∨a.kind=6):=fun hk=>by rw [htk.2 hk] at h;cases h
   have hcn:Cnt a.n:=by
    obtain ⟨_,h2,_⟩:=hr
    unfold Cnt at *
    grind
   have hdl:=dec_len5 hcn
   refine text_ok (by have:=hcn.1;omega) (by have:=hcn.2;omega) (ht.more s3.frno) fun F fF=>⟨_,rfl,?_⟩
   rw [itoa_dec hcn.1]
   refine wstr (s3.more fF) (k:=0) rfl (by omega) fun G cs4 s4=>⟨_,_,rfl,cs4,?_⟩
   have e:dec a.n=if a.kind=5 then a.name else tailP a:=by
    unfold tailP
    grind
   rw [← ebody,← e]
   exact s4
 ·simp only [beq_iff_eq] at h ⊢
  grind
 ·simp only [beq_iff_eq,beq_eq_false_iff_ne] at h h' ⊢
  grind
 ·simp only [beq_iff_eq,beq_eq_false_iff_ne] at h h' ⊢
  grind
theorem ntext_ok {a:Nd}(hs:Sm a) (ht:Pw H) (k:∀ H',Fr no H H'→K (if RightP a then .tuple #[.string (str (textL a)),.int .i64 0] else .tuple #[.string ⟨#[]⟩,.int .i64 11]) H'):CallF Tryz.prog 81 #[ndA a] H K Z:=by
 refine V81_ok ?_
 unfold V81
 intro bN A hA
 have s0:=(Sym.start H).newb (cs:=ndV a) hA
 refine ld6 (s0.get (k:=0) rfl) (right_ok hs fun B fB=>⟨_,rfl,fun h=>?_,fun h=>?_⟩)
 ·have h':¬ RightP a:=by simpa using h
  have:=k B (hA.fr.trans fB)
  rw [if_neg h'] at this
  exact this
 ·have h':RightP a:=by simpa using h
  have s1:=s0.more fB
  refine ld6 (s1.get (k:=0) rfl) (write_ok h' hs (ht.more s1.frno) fun C fC=>⟨_,rfl,?_⟩)
  have:=k C (s1.more fC).frno
  rw [if_pos h'] at this
  exact this
end
end Go.Proofs.YtjdhjgfmloaglaaGreatDoor.C14
end
section
namespace Go.Proofs.YtjdhjgfmloaglaaGreatDoor.C14
open Go Go.V Go.Proofs N14 C01 P14 BldI
attribute [local irreducible] Cvt ExtF CallF hrun App MkS
theorem idx_eq (l:List UInt8) (c:UInt8):Lib.indexByte l c=if c∈l then ((l.takeWhile (· != c)).length:Int) else -1:=by
 induction l with
 | nil=>rfl
 | cons b l ih=>
  unfold Lib.indexByte
  by_cases hb:b=c
  ·subst hb
   simp
  ·have hbc:(b == c)=false:=by simpa using hb
   rw [hbc,ih]
   have hm:(c∈b::l)↔c∈l:=by simp [Ne.symm hb]
   by_cases hc:c∈l
   ·rw [if_pos hc,if_pos (hm.2 hc)]
    have e:(b != c)=true:=by simpa using hb
    rw [List.takeWhile_cons,e]
    simp only [if_true,List.length_cons,Bool.false_eq_true,if_false]
    rw [if_neg (by simp)]
    omega
   ·rw [if_neg hc,if_neg (fun h=>hc (hm.1 h))]
    simp
theorem ix_kind (m:UInt8):Lib.indexByte [32,46,36,64,40,32,37,35] m=kindB m:=by
 unfold kindB
 by_cases h1:m=46
 ·subst h1;decide
 by_cases h2:m=36
 ·subst h2;decide
 by_cases h3:m=64
 ·subst h3;decide
 by_cases h4:m=40
 ·subst h4;decide
 by_cases h5:m=37
 ·subst h5;decide
 by_cases h6:m=35
 ·subst h6;decide
 by_cases h7:m=32
 ·subst h7;decide
 rw [if_neg h1,if_neg h2,if_neg h3,if_neg h4,if_neg h5,if_neg h6,if_neg h7,idx_eq,if_neg]
 simp only [List.mem_cons,List.not_mem_nil,or_false]
 grind
theorem until_take (l:List UInt8) (c:UInt8):l.takeWhile (· != c)=l.take (l.takeWhile (· != c)).length∧l.dropWhile (· != c)=l.drop (l.takeWhile (· != c)).length:=by
 have h:l.takeWhile (· != c)++l.dropWhile (· != c)=l:=List.takeWhile_append_dropWhile
 constructor
 ·have:=List.take_left (l₁:=l.takeWhile (· != c)) (l₂:=l.dropWhile (· != c))
  rw [h] at this
  exact this.symm
 ·have:=List.drop_left (l₁:=l.takeWhile (· != c)) (l₂:=l.dropWhile (· != c))
  rw [h] at this
  exact this.symm
def RetV (b bN:Nat) (w:Value) (A:Hp) (K:Value→Hp→Prop):Prop:=
 ∃ (x_a:Int) (x_b:ByteArray) (x_c:Int) (x_d:ByteArray) (x_e x_f:Int),(hcell A ⟨bN,0,none⟩=some (.int .i64 x_a)∧hcell A ⟨bN,1,none⟩=some (.string x_b)∧hcell A ⟨bN,2,none⟩=some (.int .i64 x_c)∧hcell A ⟨bN,3,none⟩=some (.string x_d) ∧
  hcell A ⟨bN,4,none⟩=some (.int .i64 x_e)∧hcell A ⟨bN,5,none⟩=some (.int .i64 x_f)∧True)∧StL ⟨b,0,none⟩ 0 [.int .i64 x_a,.string x_b,.int .i64 x_c,.string x_d,.int .i64 x_e,.int .i64 x_f] A fun H'=>
  (∃ (y_a:Int) (y_b:ByteArray) (y_c:Int) (y_d:ByteArray) (y_e y_f:Int),(hcell H' ⟨b,0,none⟩=some (.int .i64 y_a)∧hcell H' ⟨b,1,none⟩=some (.string y_b)∧hcell H' ⟨b,2,none⟩=some (.int .i64 y_c)∧hcell H' ⟨b,3,none⟩=some (.string y_d) ∧
   hcell H' ⟨b,4,none⟩=some (.int .i64 y_e)∧hcell H' ⟨b,5,none⟩=some (.int .i64 y_f)∧True)∧K (.tuple #[.agg #[.int .i64 y_a,.string y_b,.int .i64 y_c,.string y_d,.int .i64 y_e,.int .i64 y_f],w]) H')
def StR (b:Nat) (a:Nd) (w:Value) (A:Hp) (K:Value→Hp→Prop):Prop:=
 StL ⟨b,0,none⟩ 0 (ndV a) A fun H'=>
  (∃ (y_a:Int) (y_b:ByteArray) (y_c:Int) (y_d:ByteArray) (y_e y_f:Int),(hcell H' ⟨b,0,none⟩=some (.int .i64 y_a)∧hcell H' ⟨b,1,none⟩=some (.string y_b)∧hcell H' ⟨b,2,none⟩=some (.int .i64 y_c)∧hcell H' ⟨b,3,none⟩=some (.string y_d) ∧
   hcell H' ⟨b,4,none⟩=some (.int .i64 y_e)∧hcell H' ⟨b,5,none⟩=some (.int .i64 y_f)∧True)∧K (.tuple #[.agg #[.int .i64 y_a,.string y_b,.int .i64 y_c,.string y_d,.int .i64 y_e,.int .i64 y_f],w]) H')
theorem ndV_one (a:Nd):∀ v∈ndV a,v.oneCell=true:=by
 intro v hv
 simp only [ndV,List.mem_cons,List.not_mem_nil,or_false] at hv
 rcases hv with rfl | rfl | rfl | rfl | rfl | rfl <;> rfl
def zN:Nd:=⟨0,[],0,[],0,0⟩
section
variable {H:Hp}{K:Value→Hp→Prop}{Z:List PanicEntry→Hp→Prop}
theorem st_ret {H0 A:Hp}{S:Nat→Prop}{L:List It}{k b:Nat}{a z:Nd}{w:Value}{T:TypeId}(s:Sym H0 S A L) (hk:L[k]? = some (blk b (ndV z) T)) (kk:∀ H',Sym H0 S H' (L.set k (blk b (ndV a) T))→K (.tuple #[ndA a,w]) H'):StR b a w A K:=by
 have hkl:k < L.length:=(List.getElem?_eq_some_iff.1 hk).1
 refine s.stbs (k:=k) (i:=0) hk (by simp [ndV]) (ndV_one a) fun B s1=>?_
 exact ld6 (s1.get (k:=k) (List.getElem?_set_self hkl):Blk B b (ndV a) T) (kk B s1)
theorem ret_ok {H0 A:Hp}{S:Nat→Prop}{L:List It}{k j b bN:Nat}{a z:Nd}{w:Value}{T T':TypeId}(s:Sym H0 S A L) (hj:L[j]? = some (blk bN (ndV a) T')) (hk:L[k]? = some (blk b (ndV z) T)) (kk:∀ H',Sym H0 S H' (L.set k (blk b (ndV a) T))→K (.tuple #[ndA a,w]) H'):RetV b bN w A K:=
 ld6 (s.get hj) (st_ret s hk kk)
theorem ixb_ok {l:List UInt8}{c:UInt8}(k:K (.int .i64 (Lib.indexByte l c)) H):CallF Tryz.prog 112 #[.string (str l),.int .u8 (c.toNat:Int)] H K Z:=by
 refine callF_same (v:=.int .i64 (Lib.indexByte l c)) ?_ k
 intro w hw
 have:=Any.strings_IndexByte S01.lays_indexByte (str l) (c.toNat:Int) w
 rw [str_data] at this
 have e:((c.toNat:Int)).toNat.toUInt8=c:=by simp
 rw [e] at this
 exact this
theorem num_ok {l:List UInt8}(hl:l.length≤1000000000) (k:∀ H',Fr no H H'→K (.tuple #[.int .i64 (readL l).1,.bool ((readL l).2 == 0)]) H'):CallF Tryz.prog 113 #[.string (str l)] H K Z:=by
 refine V113_ok ?_
 unfold V113
 exact read_ok hl fun H' f=>⟨_,_,rfl,k H' f⟩
set_option maxRecDepth 10000 in
theorem nread_ok {l:List UInt8}(hl:l.length≤1000000000) (k1:∀ a H',parseO l=some a→Fr no H H'→K (.tuple #[ndA a,.bool true]) H') (k2:∀ a H',parseO l=none→Fr no H H'→K (.tuple #[ndA a,.bool false]) H') :
  CallF Tryz.prog 62 #[.string (str l)] H K Z:=by
 refine V62_ok ?_
 unfold V62
 intro b A hA bN B hB
 have s0:=((Sym.start H).newb (cs:=ndV zN) hA).newb (cs:=ndV zN) hB
 refine s0.stbs (k:=0) (i:=0) (vs:=ndV ⟨0,[],0,[],0,-1⟩) rfl (by simp [ndV]) (ndV_one _) fun C s1=>?_
 replace s1:Sym H no C [blk bN (ndV ⟨0,[],0,[],0,-1⟩) 61,blk b (ndV zN) 61]:=s1
 have good:∀ {D:Hp}{a:Nd},Sym H no D [blk bN (ndV a) 61,blk b (ndV zN) 61]→parseO l=some a→RetV b bN (.bool true) D K:=fun s hp=>ret_ok s (j:=0) (k:=1) rfl rfl fun H' s'=>k1 _ H' hp s'.frno
 have bad:∀ {D:Hp}{a:Nd},Sym H no D [blk bN (ndV a) 61,blk b (ndV zN) 61]→parseO l=none→RetV b bN (.bool false) D K:=fun s hp=>ret_ok s (j:=0) (k:=1) rfl rfl fun H' s'=>k2 _ H' hp s'.frno
 refine ⟨fun s ok D=>∃ (l1:List UInt8) (c:Int),s=str l1∧ok=true∧l1.length≤l.length∧Sym H no D [blk bN (ndV ⟨0,[],0,[],0,c⟩) 61,blk b (ndV zN) 61]∧parse2 c l1=parseO l,?_,ixb_ok (l:=l) (c:=43) ⟨_,rfl,fun hge=>?_,fun hlt=>?_⟩⟩
 rotate_left
 ·-- a cell is named
  rw [idx_eq] at hge ⊢
  have hm:(43:UInt8)∈l:=by
   apply Classical.byContradiction
   intro hn
   rw [if_neg hn] at hge
   cases hge
  rw [if_pos hm]
  obtain ⟨e1,e2⟩:=until_take l 43
  have hpl:(l.takeWhile (· != 43)).length < l.length:=by
   have h:l.takeWhile (· != 43)++l.dropWhile (· != 43)=l:=List.takeWhile_append_dropWhile
   have h2:l.dropWhile (· != 43) ≠ []:=by
    intro he
    rw [dropWhile_nil] at he
    have:=he 43 hm
    simp at this
   have:=congrArg List.length h
   rw [List.length_append] at this
   have:=List.length_pos_iff.2 h2
   omega
  rw [wi (by omega)]
  refine SlS.from (by omega) ?_
  have etail:l.drop ((l.takeWhile (· != 43)).length+1)=(l.dropWhile (· != 43)).tail:=by
   conv=>rhs;rw [e2]
   rw [List.tail_drop]
  rw [etail]
  have htl:(l.dropWhile (· != 43)).tail.length≤l.length:=by rw [← etail,List.length_drop];omega
  have hpo:parseO l=if (readL ((l.dropWhile (· != 43)).tail)).2=0 then parse2 (readL ((l.dropWhile (· != 43)).tail)).1 (l.takeWhile (· != 43)) else none:=by
   unfold parseO
   rw [if_pos hm]
  refine num_ok (by omega) fun D fD=>⟨_,_,rfl,?_⟩
  refine (s1.more fD).stb (k:=0) (i:=5) rfl (by simp [ndV]) rfl fun E s2=>?_
  replace s2:Sym H no E [blk bN (ndV ⟨0,[],0,[],0,(readL ((l.dropWhile (· != 43)).tail)).1⟩) 61,blk b (ndV zN) 61]:=s2
  refine ⟨fun hno=>bad s2 ?_,fun hyes=>SlS.to (by omega) ⟨_,_,rfl,by simpa using hyes,?_,s2,?_⟩⟩
  ·have:¬ (readL ((l.dropWhile (· != 43)).tail)).2=0:=by simpa using hno
   rw [hpo,if_neg this]
  ·rw [List.length_take];omega
  ·have:(readL ((l.dropWhile (· != 43)).tail)).2=0:=by simpa using hyes
   rw [hpo,if_pos this,← e1]
 ·rw [idx_eq] at hlt
  have hm:(43:UInt8)∉l:=by
   intro hm
   rw [if_pos hm] at hlt
   have:=of_decide_eq_false hlt
   omega
  refine ⟨l,-1,rfl,rfl,Nat.le_refl _,s1,?_⟩
  unfold parseO
  rw [if_neg hm]
 rintro s ok D ⟨l1,c,rfl,rfl,hl1,s2,hp⟩ scr
 have happ:=spl_app l1
 have hlen:=congrArg List.length happ
 rw [List.length_append] at hlen
 refine split_ok (by omega) fun E fE=>⟨_,_,rfl,?_⟩
 have s3:=s2.more fE
 rw [str_nil,beq_str]
 refine ⟨fun he=>?_,fun hne=>?_⟩
 ·have he':splB l1 = []:=of_decide_eq_true he
  refine s3.stb (k:=0) (i:=0) rfl (by simp [ndV]) rfl fun F s4=>?_
  refine s4.stb (k:=0) (i:=3) rfl (by simp [ndV]) rfl fun G s5=>?_
  replace s5:Sym H no G [blk bN (ndV ⟨5,[],0,splA l1,0,c⟩) 61,blk b (ndV zN) 61]:=s5
  refine good s5 ?_
  rw [← hp]
  unfold parse2
  rw [he']
 have hne':splB l1 ≠ []:=of_decide_eq_false hne
 refine s3.stb (k:=0) (i:=1) rfl (by simp [ndV]) rfl fun F s4=>?_
 replace s4:Sym H no F [blk bN (ndV ⟨0,splA l1,0,[],0,c⟩) 61,blk b (ndV zN) 61]:=s4
 obtain ⟨m0,r0,hmr⟩:∃ m r,splB l1=m::r:=by
  cases hc:splB l1 with
  | nil=>exact absurd hc hne'
  | cons m r=>exact ⟨m,r,rfl⟩
 refine ⟨fun ok rest G=>∃ (lr:List UInt8) (copy:Int),ok=true∧rest=str lr∧lr ≠ []∧lr.length≤l.length∧Sym H no G [blk bN (ndV ⟨0,splA l1,copy,[],0,c⟩) 61,blk b (ndV zN) 61]∧parse3 c (splA l1) copy lr=parseO l,?_,?_⟩
 ·rintro ok rest G ⟨lr,copy,rfl,rfl,hlr,hll,s5,hp3⟩ scr1
  obtain ⟨m,t,rfl⟩:∃ m t,lr=m::t:=by
   cases lr with
   | nil=>exact absurd rfl hlr
   | cons m t=>exact ⟨m,t,rfl⟩
  refine IxS.mk (i:=0) rfl (ixb_ok (l:=[32,46,36,64,40,32,37,35]) ⟨_,rfl,?_⟩)
  rw [ix_kind]
  refine s5.stb (k:=0) (i:=0) rfl (by simp [ndV]) rfl fun I s6=>?_
  replace s6:Sym H no I [blk bN (ndV ⟨kindB m,splA l1,copy,[],0,c⟩) 61,blk b (ndV zN) 61]:=s6
  have nd6:Blk I bN (ndV ⟨kindB m,splA l1,copy,[],0,c⟩) 61:=s6.get (k:=0) rfl
  rw [parse3] at hp3
  have htl:t.length≤1000000000:=by simp only [List.length_cons] at hll;omega
  refine ⟨fun ok G=>∃ a,Sym H no G [blk bN (ndV a) 61,blk b (ndV zN) 61]∧(ok=true→parseO l=some a)∧(ok=false→parseO l=none),?_,SlS.from (lo:=1) (by simp) ⟨_,nd6.ld 0,fun t1 G=>G=I∧(t1=true↔kindB m=1∨kindB m=6),?_,fun h=>⟨rfl,?_⟩,fun h=>⟨rfl,?_⟩⟩⟩
  ·rintro ok G ⟨a,s7,h1,h2⟩ scr2
   cases ok with
   | true=>exact good s7 (h1 rfl)
   | false=>exact bad s7 (h2 rfl)
  ·rintro t1 I ⟨rfl,htk⟩ scr2
   refine ⟨fun h=>?_,fun h=>⟨fun h4=>?_,fun h4=>⟨fun t2 G=>G=I∧(t2=true↔kindB m=2∨kindB m=3∨kindB m=7),?_,fun h2=>⟨rfl,?_⟩,fun h2=>⟨fun h3=>⟨rfl,?_⟩,fun h3=>⟨rfl,?_⟩⟩⟩⟩⟩
   ·have hk:=htk.1 h
    rw [if_pos hk] at hp3
    refine s6.stb (k:=0) (i:=3) rfl (by simp [ndV]) rfl fun J s7=>⟨⟨kindB m,splA l1,copy,t,0,c⟩,s7,fun _=>hp3.symm,(fun h=>by cases h)⟩
   ·have hk:¬ (kindB m=1∨kindB m=6):=fun hk=>by rw [htk.2 hk] at h;cases h
    have h4':kindB m=4:=by simpa using h4
    rw [if_neg hk,if_pos h4'] at hp3
    have e:(str ((m::t).drop 1))=str t:=rfl
    rw [e,show (⟨#[41]⟩:ByteArray)=str [41] from rfl,beq_str]
    by_cases ht:t = [41]
    ·rw [decide_eq_true ht]
     rw [if_pos ht] at hp3
     rw [h4'] at s6
     exact good s6 hp3.symm
    ·rw [decide_eq_false ht]
     rw [if_neg ht] at hp3
     exact bad s6 hp3.symm
   ·rintro t2 I ⟨rfl,ht2⟩ scr3
    have hk:¬ (kindB m=1∨kindB m=6):=fun hk=>by rw [htk.2 hk] at h;cases h
    have h4':¬ kindB m=4:=by simpa using h4
    rw [if_neg hk,if_neg h4'] at hp3
    refine ⟨fun h2=>?_,fun h2=>⟨_,s6,(fun h=>by cases h),fun _=>?_⟩⟩
    ·rw [if_pos (ht2.1 h2)] at hp3
     have e:(str ((m::t).drop 1))=str t:=rfl
     rw [e]
     refine num_ok htl fun G fG=>⟨_,_,rfl,?_⟩
     refine (s6.more fG).stb (k:=0) (i:=4) rfl (by simp [ndV]) rfl fun J s7=>⟨⟨kindB m,splA l1,copy,[],(readL t).1,c⟩,s7,fun hz=>?_,fun hz=>?_⟩
     ·have:(readL t).2=0:=by simpa using hz
      rw [if_pos this] at hp3
      exact hp3.symm
     ·have:¬ (readL t).2=0:=by simpa using hz
      rw [if_neg this] at hp3
      exact hp3.symm
    ·rw [if_neg (fun hk=>by rw [ht2.2 hk] at h2;cases h2)] at hp3
     exact hp3.symm
   ·simp only [beq_iff_eq] at h2 ⊢
    grind
   ·simp only [beq_iff_eq,beq_eq_false_iff_ne] at h2 h3 ⊢
    grind
   ·simp only [beq_iff_eq,beq_eq_false_iff_ne] at h2 h3 ⊢
    grind
  ·simp only [beq_iff_eq] at h ⊢
   grind
  ·simp only [beq_iff_eq,beq_eq_false_iff_ne] at h ⊢
   grind
 ·have hr0:r0.length≤l.length:=by rw [hmr] at hlen;simp only [List.length_cons] at hlen;omega
  rw [hmr]
  unfold parse2 at hp
  rw [hmr] at hp
  simp only at hp
  refine IxS.mk (i:=0) rfl ⟨fun h126=>?_,fun h126=>⟨m0::r0,0,rfl,rfl,by simp,by rw [hmr] at hlen;omega,s4,?_⟩⟩
  ·have e126:m0=126:=by
    have:(m0.toNat:Int)=126:=by simpa using h126
    apply UInt8.toNat_inj.1
    have:(126:UInt8).toNat=126:=rfl
    omega
   rw [if_pos e126] at hp
   refine SlS.from (lo:=1) (by simp) ?_
   have e:(str ((m0::r0).drop 1))=str r0:=rfl
   rw [e]
   have happ2:=spl_app r0
   have hlen2:=congrArg List.length happ2
   rw [List.length_append] at hlen2
   refine split_ok (by omega) fun G fG=>⟨_,_,rfl,num_ok (by omega) fun I fI=>⟨_,_,rfl,?_⟩⟩
   refine (s4.more (fG.trans fI)).stb (k:=0) (i:=2) rfl (by simp [ndV]) rfl fun J s5=>?_
   replace s5:Sym H no J [blk bN (ndV ⟨0,splA l1,(readL (splA r0)).1,[],0,c⟩) 61,blk b (ndV zN) 61]:=s5
   refine ⟨fun t G=>G=J∧(t=false→(readL (splA r0)).2=0∧splB r0 ≠ [])∧(t=true→parseO l=none),?_,fun h=>⟨rfl,(fun h=>by cases h),fun _=>?_⟩,fun h=>⟨rfl,fun h'=>?_,fun h'=>?_⟩⟩
   ·rintro t J ⟨rfl,ht,hf⟩ scr1
    refine ⟨fun h=>bad s5 (hf h),fun h=>?_⟩
    obtain ⟨g1,g2⟩:=ht h
    rw [if_pos g1] at hp
    refine ⟨splB r0,_,by rw [g1];rfl,rfl,g2,by omega,s5,hp⟩
   ·have:¬ (readL (splA r0)).2=0:=by simpa using h
    rw [if_neg this] at hp
    exact hp.symm
   ·rw [beq_str] at h'
    exact ⟨by simpa using h,of_decide_eq_false h'⟩
   ·rw [beq_str] at h'
    have h1:(readL (splA r0)).2=0:=by simpa using h
    have h2:splB r0 = []:=of_decide_eq_true h'
    rw [if_pos h1,h2] at hp
    exact hp.symm
  ·have e126:¬ m0=126:=fun e=>by rw [e] at h126;simp at h126
   rw [if_neg e126] at hp
   exact hp
end
end Go.Proofs.YtjdhjgfmloaglaaGreatDoor.C14
end
section
namespace Go.Proofs.YtjdhjgfmloaglaaGreatDoor.C14
open Go Go.V Go.Proofs N14 C01 P14 BldI
attribute [local irreducible] Cvt ExtF CallF hrun App MkS
def rres:Option Nd→Nd × Int
 | some a=>(a,0)
 | none=>(zN,11)
def ofL (a:Nd):List UInt8:=if RightP a then textL a else []
def cellL (l:List UInt8) (k:Int):List UInt8:=match readN l with | some a=>if a.kind < 5∨a.cell ≠ -1∨k < 0 then [] else ofL { a with cell:=k } | none=>[]
theorem splB_le (l:List UInt8):(splB l).length≤l.length:=by
 have:=congrArg List.length (spl_app l)
 rw [List.length_append] at this
 omega
theorem parse3_sm {c copy:Int}{fn r:List UInt8}{a:Nd}(h:parse3 c fn copy r=some a):a.fn=fn∧a.name.length≤r.length:=by
 cases r with
 | nil=>cases h
 | cons m t=>
  rw [parse3] at h
  split at h
  ·cases h;exact ⟨rfl,by simp⟩
  ·split at h
   ·split at h
    ·cases h;exact ⟨rfl,Nat.zero_le _⟩
    ·cases h
   ·split at h
    ·split at h
     ·cases h;exact ⟨rfl,Nat.zero_le _⟩
     ·cases h
    ·cases h
theorem parse2_sm {c:Int}{s:List UInt8}{a:Nd}(h:parse2 c s=some a):a.fn.length≤s.length∧a.name.length≤s.length:=by
 have hA:=splA_le s
 have hB:=splB_le s
 unfold parse2 at h
 cases hs:splB s with
 | nil=>
  rw [hs] at h
  cases h
  exact ⟨Nat.zero_le _,hA⟩
 | cons m r=>
  rw [hs] at h hB
  simp only at h
  simp only [List.length_cons] at hB
  split at h
  ·split at h
   ·obtain ⟨h1,h2⟩:=parse3_sm h
    have:=splB_le r
    rw [h1]
    exact ⟨hA,by omega⟩
   ·cases h
  ·obtain ⟨h1,h2⟩:=parse3_sm h
   rw [h1]
   exact ⟨hA,by simp only [List.length_cons] at h2;omega⟩
theorem parse_sm {l:List UInt8}{a:Nd}(hl:l.length≤1048576) (h:parseO l=some a):Sm a:=by
 unfold parseO at h
 have hw:(l.takeWhile (· != 43)).length≤l.length:=(List.takeWhile_prefix _).length_le
 split at h
 ·split at h
  ·obtain ⟨h1,h2⟩:=parse2_sm h
   exact ⟨by omega,by omega⟩
  ·cases h
 ·obtain ⟨h1,h2⟩:=parse2_sm h
  exact ⟨by omega,by omega⟩
theorem read_sm {l:List UInt8}{a:Nd}(hl:l.length≤1048576) (h:readN l=some a):Sm a:=by
 obtain ⟨h1,rfl⟩:=readN_iff.1 h
 exact parse_sm hl (parse_text h1)
section
variable {H:Hp}{K:Value→Hp→Prop}{Z:List PanicEntry→Hp→Prop}
set_option maxRecDepth 10000 in
theorem readX_ok {l:List UInt8}(hl:l.length≤1048576) (ht:Pw H) (k:∀ H',Fr no H H'→K (.tuple #[ndA (rres (readN l)).1,.int .i64 (rres (readN l)).2]) H'):CallF Tryz.prog 22 #[.string (str l)] H K Z:=by
 refine V22_ok ?_
 unfold V22
 intro b A hA
 have s0:=(Sym.start H).newb (cs:=ndV zN) hA
 have none_:∀ {B:Hp}{x:Nd}{bN:Nat},readN l=none→Sym H no B [blk bN (ndV x) 61,blk b (ndV zN) 61]→StR b zN (.int .i64 11) B K:=by
  intro B x bN hn s
  refine st_ret s (k:=1) rfl fun H' s'=>?_
  have:=k H' s'.frno
  rw [hn] at this
  exact this
 refine nread_ok (by omega) (fun a B hp fB=>⟨_,_,_,_,_,_,_,rfl,?_⟩) (fun a B hp fB=>⟨_,_,_,_,_,_,_,rfl,?_⟩)
 ·intro bN C hC
  have s1:=(s0.more fB).newb (cs:=ndV zN) hC
  refine s1.stbs (k:=0) (i:=0) (vs:=ndV a) rfl (by simp [ndV]) (ndV_one _) fun D s2=>⟨(fun h=>by cases h),fun _=>?_⟩
  replace s2:Sym H no D [blk bN (ndV a) 61,blk b (ndV zN) 61]:=s2
  refine ld6 (s2.get (k:=0) rfl) (right_ok (parse_sm hl hp) fun E fE=>⟨_,rfl,fun h=>?_,fun h=>?_⟩)
  ·have h':¬ RightP a:=by simpa using h
   refine none_ ?_ (s2.more fE)
   unfold readN
   rw [hp]
   simp only
   rw [if_neg (fun hh=>h' hh.1)]
  ·have h':RightP a:=by simpa using h
   have s3:=s2.more fE
   refine ld6 (s3.get (k:=0) rfl) (write_ok h' (parse_sm hl hp) (ht.more s3.frno) fun F fF=>⟨_,rfl,fun hne=>?_,fun heq=>?_⟩)
   ·rw [beq_str] at hne
    have hne':textL a≠l:=by simpa using hne
    refine none_ ?_ (s3.more fF)
    unfold readN
    rw [hp]
    simp only
    rw [if_neg (fun hh=>hne' hh.2)]
   ·rw [beq_str] at heq
    have heq':textL a=l:=by simpa using heq
    refine ret_ok (s3.more fF) (j:=0) (k:=1) rfl rfl fun H' s'=>?_
    have:=k H' s'.frno
    rw [readN_iff.2 ⟨h',heq'⟩] at this
    exact this
 ·intro bN C hC
  have s1:=(s0.more fB).newb (cs:=ndV zN) hC
  refine s1.stbs (k:=0) (i:=0) (vs:=ndV a) rfl (by simp [ndV]) (ndV_one _) fun D s2=>⟨fun _=>?_,(fun h=>by cases h)⟩
  replace s2:Sym H no D [blk bN (ndV a) 61,blk b (ndV zN) 61]:=s2
  refine none_ ?_ s2
  unfold readN
  rw [hp]
theorem cell_ok {l:List UInt8}{c:Int}(hl:l.length≤1048576) (ht:Pw H) (k:∀ H',Fr no H H'→K (.string (str (cellL l c))) H'):CallF Tryz.prog 90 #[.string (str l),.int .i64 c] H K Z:=by
 refine V90_ok ?_
 unfold V90
 refine readX_ok hl ht fun A fA=>⟨_,_,_,_,_,_,_,rfl,?_⟩
 intro bN B hB
 have s0:=((Sym.start H).more fA).newb (cs:=ndV zN) hB
 refine s0.stbs (k:=0) (i:=0) (vs:=ndV (rres (readN l)).1) rfl (by simp [ndV]) (ndV_one _) fun C s1=>?_
 replace s1:Sym H no C [blk bN (ndV (rres (readN l)).1) 61]:=s1
 unfold cellL at k
 cases hr:readN l with
 | none=>
  rw [hr] at s1 k
  exact ⟨fun _=>k C s1.frno,(fun h=>by cases h)⟩
 | some a=>
  rw [hr] at s1 k
  have hrp:=(readN_iff.1 hr).1
  have hsm:=read_sm hl hr
  simp only at k
  have nd:Blk C bN (ndV a) 61:=s1.get (k:=0) rfl
  refine ⟨(fun h=>by cases h),fun _=>⟨_,nd.ld 0,fun h5=>?_,fun h5=>⟨_,nd.ld 5,fun hc=>?_,fun hc=>⟨fun hk=>?_,fun hk=>?_⟩⟩⟩⟩
  ·have:=k C s1.frno
   rw [if_pos (.inl (of_decide_eq_true h5))] at this
   exact this
  ·have:=k C s1.frno
   rw [if_pos (.inr (.inl (by simpa using hc)))] at this
   exact this
  ·have:=k C s1.frno
   rw [if_pos (.inr (.inr (of_decide_eq_true hk)))] at this
   exact this
  ·refine s1.stb (k:=0) (i:=5) rfl (by simp [ndV]) rfl fun D s2=>?_
   replace s2:Sym H no D [blk bN (ndV { a with cell:=c }) 61]:=s2
   refine ld6 (s2.get (k:=0) rfl) (ntext_ok (a:={ a with cell:=c }) hsm (ht.more s2.frno) fun E fE=>?_)
   have:=k E (s2.more fE).frno
   have hcc:a.cell = -1:=by simpa using hc
   rw [if_neg (by have:=of_decide_eq_false h5;have:=of_decide_eq_false hk;omega)] at this
   unfold ofL at this
   split
   ·rename_i h
    rw [if_pos h] at this
    exact ⟨_,_,rfl,this⟩
   ·rename_i h
    rw [if_neg h] at this
    exact ⟨_,_,rfl,this⟩
end
end Go.Proofs.YtjdhjgfmloaglaaGreatDoor.C14
end
section
namespace Go.Proofs.YtjdhjgfmloaglaaGreatDoor.C14
open Go Go.V Go.Proofs N14 C01 P14 BldI
attribute [local irreducible] Cvt ExtF CallF hrun App MkS
theorem u8_is {m:UInt8}{n:Nat}(hn:n < 256):((((m.toNat:Int)) == (n:Int))=true)↔m=UInt8.ofNat n:=by
 rw [beq_iff_eq]
 constructor
 ·intro h
  apply UInt8.toNat_inj.1
  rw [UInt8.toNat_ofNat']
  omega
 ·rintro rfl
  rw [UInt8.toNat_ofNat']
  omega
section
variable {H:Hp}{K:Value→Hp→Prop}{Z:List PanicEntry→Hp→Prop}
end
end Go.Proofs.YtjdhjgfmloaglaaGreatDoor.C14
end
section
namespace Go.Proofs.YtjdhjgfmloaglaaGreatDoor.P15
open Go Go.V P14 C14
def rd (l:L8):Nd × Int:=rres (readN l)
def nodeB (l:L8):Bool:=decide ((rd l).2=0∧((rd l).1.kind≤3∨(rd l).1.cell≥0))
def placeB (l:L8):Bool:=decide ((rd l).2=0∧((rd l).1.kind=4∨(rd l).1.cell≥0))
def ip (l:L8):Bool:=l.all fun b=>b == 105 || b == 112
def kindsB (l:L8) (most:Nat):Bool:=ip l && decide (l.length≤most)
def tagB (l:L8):Bool:=decide (1≤l.length∧l.length≤60)
def marksB (n:Int):Int→List Mk→List Mk→Bool
 | _,_,[]=>true
 | last,seen,m::r=>decide (last≤m.1∧m.1 < n) && (tagB m.2 && (decide (m∉seen) && marksB n m.1 (seen ++ [m]) r))
def objE (o:ObjD):Int:=
 if (rd o.name).2≠0∨(rd o.name).1.kind < 5∨(rd o.name).1.cell≥0 then 11
 else if o.kinds = []∨kindsB o.kinds 64=false then 5
 else if marksB o.kinds.length 0 [] o.marks then 0 else 3
def fnE (f:FnD):Int:=
 if (rd f.name).2≠0∨(rd f.name).1.kind≠4 then 11
 else if kindsB f.kinds 6=false∨¬ (f.ret = [105]∨f.ret = [112]∨f.ret = [118]) then 5 else 0
def cutL (l:L8):L8:=l.takeWhile (· != 62)
def cutR (l:L8):L8:=(l.dropWhile (· != 62)).drop 1
def argsB (l r:L8):Nat→List L8→Bool
 | _,[]=>true
 | i,a::as'=>(decide (a = []) || ((if i=0 then decide (r = [112]) else decide (l[i - 1]? = some 112)) && nodeB a)) && argsB l r (i+1) as'
def callB (c:ConD):Bool:=
 decide (62∈c.tag) && (decide (c.k=0) && (kindsB (cutL c.tag) 6 && (decide (cutR c.tag = []∨cutR c.tag = [105]∨cutR c.tag = [112]) && (decide (c.args.length=(cutL c.tag).length+1) && argsB (cutL c.tag) (cutR c.tag) 0 c.args))))
def conE (c:ConD):Int:=
 if c.op < 1∨c.op > 6 then 5
 else if (if c.op=1 then nodeB c.a && placeB c.b else if c.op=6 then decide ((rd c.a).2=0∧(rd c.a).1.kind=3) && nodeB c.b else nodeB c.a && nodeB c.b)=false then 11
 else if (if c.op=6 then callB c else if c.op=5 then decide (c.args = []) && (decide (0≤c.k∧c.k≤64) && tagB c.tag) else decide (c.args = []) && (decide (c.k=0) && decide (c.tag = [])))=false then 3 else 0
def cmpN (a b:Int):Int:=if a < b then -1 else if b < a then 1 else 0
def cmpL (a b:L8):Int:=if ltL a b then -1 else if ltL b a then 1 else 0
def cmpA:List L8→List L8→Int
 | [],[]=>0
 | [],_::_=>-1
 | _::_,[]=>1
 | a::x,b::y=>if cmpL a b≠0 then cmpL a b else cmpA x y
def orI (a b:Int):Int:=if a≠0 then a else b
def cmpC (a b:ConD):Int:=orI (cmpN a.op b.op) (orI (cmpL a.a b.a) (orI (cmpL a.b b.b) (orI (cmpN a.k b.k) (orI (cmpL a.tag b.tag) (cmpA a.args b.args)))))
def eachE {α : Type}(ask : α→Int) (cmp : α→α→Int):Option α→List α→Int
 | _,[]=>0
 | p,x::l=>if ask x≠0 then ask x else if (match p with | some q=>decide (cmp q x≥0) | none=>false) then 13 else eachE ask cmp (some x) l
def cmpO (a b:ObjD):Int:=cmpL a.name b.name
def cmpF (a b:FnD):Int:=cmpL a.name b.name
def checkE (s:SysD):Int:=
 if s.objs.length > 600∨s.fns.length > 600∨s.cons.length > 6000 then 4
 else if eachE objE cmpO none s.objs≠0 then eachE objE cmpO none s.objs
 else if eachE fnE cmpF none s.fns≠0 then eachE fnE cmpF none s.fns
 else eachE conE cmpC none s.cons
theorem cmpL_self (a:L8):cmpL a a=0:=by
 unfold cmpL
 have:=linL.irr a
 rw [this]
 rfl
def conN (c:ConD):List L8:=[c.a]++((if c.op=1 then [] else [c.b])++c.args.filter fun a=>decide (a ≠ []))
def objN (o:ObjD):List L8:=(List.range o.kinds.length).flatMap fun (i:Nat)=>if o.kinds[i]? = some 112 then [cellL o.name (i:Int)] else []
def nodesL (s:SysD):List L8:=s.cons.flatMap conN++s.objs.flatMap objN
end Go.Proofs.YtjdhjgfmloaglaaGreatDoor.P15
end
