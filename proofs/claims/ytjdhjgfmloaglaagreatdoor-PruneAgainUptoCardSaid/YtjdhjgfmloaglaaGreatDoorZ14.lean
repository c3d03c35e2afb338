import Derived.Test.YtjdhjgfmloaglaaGreatDoorZ13
set_option linter.unusedVariables false
set_option linter.unusedSimpArgs false
section
namespace Go.Proofs.YtjdhjgfmloaglaaGreatDoor.C23
open Go Go.V Go.Proofs N23 P14 C14 P15 C15 P23
attribute [local irreducible] Cvt ExtF CallF hrun App MkS callV Lkp MUp
theorem tyCo:TyS Tryz.prog 24 36 6 88 (.agg #[.int .i64 0,.string ⟨#[]⟩,.string ⟨#[]⟩,.int .i64 0,.string ⟨#[]⟩,.slice none 0 0]):=⟨by kernel_rfl,by kernel_rfl,rfl,by decide⟩
theorem muMap:Tryz.prog.underlying 130=some (.map 9 24):=by kernel_rfl
theorem muStr:Tryz.prog.underlying 9=some .string:=by kernel_rfl
theorem muInf:∃ inf:TypeInfo,Tryz.prog.info? 24=some inf∧inf.zero=some (.slice none 0 0)∧inf.size=1∧inf.bytes=24:=Go.V.info_of (by kernel_rfl)
theorem call_args {c:ConD}(h:conE c=0) (h6:c.op=6):∃ n l,c.args=n::l:=by
 cases e:c.args with
 | cons n l=>exact ⟨n,l,rfl⟩
 | nil=>
  exfalso
  have h1:¬ (c.op < 1∨c.op > 6):=by omega
  cases h2:right1 c
  ·rw [conE_11 h1 h2] at h;cases h
  cases h3:right2 c
  ·rw [conE_3 h1 h2 h3] at h;cases h
  unfold right2 at h3
  rw [if_pos h6] at h3
  unfold callB at h3
  simp only [Bool.and_eq_true,decide_eq_true_eq] at h3
  have:=h3.2.2.2.2.1
  rw [e] at this
  simp at this
theorem put_le {U T l:List L8}(hn:T.Nodup) (h1:∀ n∈T,n∈U) (h2:∀ n∈l,n∈U):(putAll T l).length≤U.length:=
 subset_len (putAll_nodup hn) fun n h=>(putAll_mem.1 h).elim (h1 n) fun h=>h2 n h.1
def Lies (H0:Hp) (hs:List HC) (xs:List ConD):Prop:=hs.length=xs.length∧∀ (i:Nat) h x,hs[i]? = some h→xs[i]? = some x→InC H0 h x
theorem Lies.snoc {H0:Hp}{hs:List HC}{xs:List ConD}{a:HC}{c:ConD}(h:Lies H0 hs xs) (hc:InC H0 a c):Lies H0 (hs ++ [a]) (xs ++ [c]):=by
 refine ⟨by rw [List.length_append,List.length_append,h.1];rfl,fun i u v hu hv=>?_⟩
 rw [List.getElem?_append] at hu hv
 rw [h.1] at hu
 split at hu
 ·rename_i hlt
  rw [if_pos hlt] at hv
  exact h.2 i u v hu hv
 ·rename_i hge
  rw [if_neg hge] at hv
  have hi:i - xs.length < 1:=(List.getElem?_eq_some_iff.1 hu).1
  have e0:i - xs.length=0:=by omega
  rw [e0] at hu hv
  rw [← Option.some_inj.1 hu,← Option.some_inj.1 hv]
  exact hc
def Feeds (H0:Hp) (kvl:List ((L8 × Sl) × List HC)) (cs:List ConD):Prop:=∀ q,Lies H0 (lookL kvl q) (cs.filter (feedsB q))
section
variable {H0:Hp}{kvl kvl':List ((L8 × Sl) × List HC)}{cs:List ConD}{c:ConD}{a:HC}{q:L8}
theorem Feeds.nil:Feeds H0 [] []:=fun q=>⟨rfl,by intro i h x hh;simp [lookL] at hh⟩
theorem Feeds.skip (h:Feeds H0 kvl cs) (hc:∀ q,feedsB q c=false):Feeds H0 kvl (cs ++ [c]):=fun q=>by
 rw [List.filter_append,List.filter_cons_of_neg (by rw [hc];decide),List.filter_nil,List.append_nil]
 exact h q
theorem Feeds.put (h:Feeds H0 kvl cs) (hl:∀ z,lookL kvl' z=if z=q then lookL kvl q ++ [a] else lookL kvl z) (hc:InC H0 a c) (hf:∀ z,feedsB z c=decide (z=q)):Feeds H0 kvl' (cs ++ [c]):=fun z=>by
 rw [List.filter_append,hl z]
 by_cases hz:z=q
 ·rw [if_pos hz,List.filter_cons_of_pos (by rw [hf];exact decide_eq_true hz),List.filter_nil,hz]
  exact (h q).snoc hc
 ·rw [if_neg hz,List.filter_cons_of_neg (by rw [hf,decide_eq_false hz];decide),List.filter_nil,List.append_nil]
  exact h z
theorem feeds_a {c:ConD}(h:c.op=2∨c.op=3∨c.op=5) (z:L8):feedsB z c=decide (z=c.a):=by
 unfold feedsB
 rw [Bool.eq_iff_iff,decide_eq_true_eq,decide_eq_true_eq]
 constructor
 ·rintro (h | h)
  ·exact h.2.symm
  ·omega
 ·exact fun e=>.inl ⟨h,e.symm⟩
theorem feeds_6 {c:ConD}{n:L8}{l:List L8}(h:c.op=6) (he:c.args=n::l) (z:L8):feedsB z c=decide (z=n):=by
 unfold feedsB
 rw [Bool.eq_iff_iff,decide_eq_true_eq,decide_eq_true_eq,he]
 constructor
 ·rintro (h | h)
  ·omega
  ·exact (Option.some_inj.1 h.2).symm
 ·exact fun e=>.inr ⟨h,by rw [e];rfl⟩
theorem feeds_no {c:ConD}(h:c.op=1∨c.op=4) (z:L8):feedsB z c=false:=by
 unfold feedsB
 exact decide_eq_false (by rintro (h | h) <;> omega)
end
section
variable {H0 A B:Hp}{bX d b1:Nat}{T:List L8}{R:List It}{kvl:List ((L8 × Sl) × List HC)}{q:L8}{K:Value→Hp→Prop}{Z:List PanicEntry→Hp→Prop}
abbrev FR (R:List It) (b1:Nat) (kvl:List ((L8 × Sl) × List HC)):List It:=R++mapI slV b1 (keysL kvl)::rowsI flHC 36 6 kvl
theorem NS.ask {Kx:Value→Hp→Prop}(h:NS H0 A bX T d (FR R b1 kvl)) (kk:∀ y,AtK kvl q y→Kx (.slice y.a y.n y.c) A):Lkp Tryz.prog 130 A (.map (some b1)) (.string (str q)) false Kx:=by
 obtain ⟨cs,os,fr,s,h1,h2⟩:=h
 obtain ⟨inf,i1,i2,_⟩:=muInf
 exact Sym.ask (Pre:=nT bX cs (T.map str) os::qarr flL 9 1 fr (T.drop d)::R) s muMap muStr i1 i2 kk
theorem NS.asked {y:Sl}(h:NS H0 A bX T d (FR R b1 kvl)) (hy:AtK kvl q y):Rd flHC 6 A y (lookL kvl q):=by
 obtain ⟨cs,os,fr,s,h1,h2⟩:=h
 exact Sym.asked (Pre:=nT bX cs (T.map str) os::qarr flL 9 1 fr (T.drop d)::R) s FlHC (by decide) hy
theorem NS.feed {y:Sl}{b4:Nat}{x:HC}{Kx:Hp→Prop}{W:Sl→Hp→Prop}(h:NS H0 A bX T d (FR R b1 kvl)) (hy:AtK kvl q y) (hn:Newb A (.cells (flHC x).toArray 36) b4 B) (hl:(lookL kvl q).length≤1000000)
  (kk:∀ kvl' C,NS H0 C bX T d (FR R b1 kvl')→(∀ z,lookL kvl' z=if z=q then lookL kvl q ++ [x] else lookL kvl z)→Kx C)
  (hW:∀ ap C,(∀ a∈R,a.ok C)→Fr no H0 C→MUp Tryz.prog 130 C (.map (some b1)) (.string (str q)) (.slice ap.a ap.n ap.c) Kx→W ap C) :
  App Tryz.prog #[24,24] 24 B [.slice y.a y.n y.c,.slice (some ⟨b4,0,none⟩) 1 1] W:=by
 obtain ⟨cs,os,fr,s,h1,h2⟩:=h
 exact Sym.feedW (Pre:=nT bX cs (T.map str) os::qarr flL 9 1 fr (T.drop d)::R) tyCo s FlHC (by decide) hy hn muMap muStr (by omega) (fun kvl' C sC hz=>kk kvl' C ⟨cs,os,fr,sC,h1,h2⟩ hz)
  fun ap C hp fC hm=>hW ap C (fun a ha=>hp a (List.mem_cons_of_mem _ (List.mem_cons_of_mem _ ha))) fC hm
def FeedA (H:Hp) (bC b1:Nat) (Kx:Hp→Prop):Prop:=
 ∃ x10:ByteArray,hcell H ⟨bC,1,none⟩=some (.string x10)∧∃ x11:ByteArray,hcell H ⟨bC,1,none⟩=some (.string x11) ∧
  ∃ (x_a2:Int) (x_b2 x_c2:ByteArray) (x_d2:Int) (x_e2:ByteArray) (x_f2:Sl),(hcell H ⟨bC,0,none⟩=some (.int .i64 x_a2) ∧
  hcell H ⟨bC,1,none⟩=some (.string x_b2)∧hcell H ⟨bC,2,none⟩=some (.string x_c2)∧hcell H ⟨bC,3,none⟩=some (.int .i64 x_d2) ∧
  hcell H ⟨bC,4,none⟩=some (.string x_e2)∧hcell H ⟨bC,5,none⟩=some (.slice x_f2.a x_f2.n x_f2.c) ∧
  True)∧((Lkp Tryz.prog 130 H (.map (some b1)) (.string x11) false fun r6 H21=>∃ y2:Sl,r6 = .slice y2.a y2.n y2.c ∧
  ((hcell H21 ⟨bC,0,none⟩=some (.int .i64 x_a2)∧hcell H21 ⟨bC,1,none⟩=some (.string x_b2) ∧
  hcell H21 ⟨bC,2,none⟩=some (.string x_c2)∧hcell H21 ⟨bC,3,none⟩=some (.int .i64 x_d2) ∧
  hcell H21 ⟨bC,4,none⟩=some (.string x_e2)∧hcell H21 ⟨bC,5,none⟩=some (.slice x_f2.a x_f2.n x_f2.c) ∧
  True)∧(hcell H21 ⟨bC,1,none⟩=some (.string x10)∧∀ b6 H22,Newb H21 (.cells #[.int .i64 x_a2,.string x_b2,.string x_c2,.int .i64 x_d2,.string x_e2,.slice x_f2.a x_f2.n x_f2.c] 36) b6 H22 →
  (hcell H22 ⟨bC,1,none⟩=some (.string x10)∧App Tryz.prog #[24,24] 24 H22 [.slice y2.a y2.n y2.c,.slice (some ⟨b6,0,none⟩) 1 1] fun ap2 H23=>
  (hcell H23 ⟨bC,1,none⟩=some (.string x10)∧MUp Tryz.prog 130 H23 (.map (some b1)) (.string x10) (.slice ap2.a ap2.n ap2.c) fun H24=>
  Kx H24)))))∧(∀ b7 H25,Newb H (.cells #[.int .i64 x_a2,.string x_b2,.string x_c2,.int .i64 x_d2,.string x_e2,.slice x_f2.a x_f2.n x_f2.c] 36) b7 H25 →
  (hcell H25 ⟨bC,1,none⟩=some (.string x11)∧(hcell H25 ⟨bC,1,none⟩=some (.string x10)∧Lkp Tryz.prog 130 H25 (.map (some b1)) (.string x11) false fun r7 H26=>
  ∃ y3:Sl,r7 = .slice y3.a y3.n y3.c∧(hcell H26 ⟨bC,1,none⟩=some (.string x10)∧App Tryz.prog #[24,24] 24 H26 [.slice y3.a y3.n y3.c,.slice (some ⟨b7,0,none⟩) 1 1] fun ap3 H27=>
  (hcell H27 ⟨bC,1,none⟩=some (.string x10)∧MUp Tryz.prog 130 H27 (.map (some b1)) (.string x10) (.slice ap3.a ap3.n ap3.c) fun H28=>
  Kx H28))))))
theorem feedA_ok {bC:Nat}{c:ConD}{t:Sl}{Kx:Hp→Prop}(h:NS H0 A bX T d (FR (blk bC (cL c t) 36::R) b1 kvl)) (hl:(lookL kvl c.a).length≤1000000)
  (kk:∀ kvl' C,NS H0 C bX T d (FR (blk bC (cL c t) 36::R) b1 kvl')→(∀ z,lookL kvl' z=if z=c.a then lookL kvl c.a ++ [HC.of c t] else lookL kvl z)→Kx C):FeedA A bC b1 Kx:=by
 unfold FeedA
 have at1:∀ {C:Hp},(∀ a∈blk bC (cL c t) 36::R,a.ok C)→hcell C ⟨bC,1,none⟩=some (.string (str c.a)):=fun ha=>Blk.ld (show Blk _ bC (cL c t) 36 from ha _ List.mem_cons_self) 1
 refine ⟨_,h.ldk (k:=0) rfl 1,_,h.ldk (k:=0) rfl 1,_,_,_,_,_,t,⟨h.ldk (k:=0) rfl 0,h.ldk (k:=0) rfl 1,h.ldk (k:=0) rfl 2,h.ldk (k:=0) rfl 3,h.ldk (k:=0) rfl 4,h.ldk (k:=0) rfl 5,trivial⟩,h.ask fun y hy=>⟨y,rfl,⟨h.ldk (k:=0) rfl 0,h.ldk (k:=0) rfl 1,h.ldk (k:=0) rfl 2,h.ldk (k:=0) rfl 3,h.ldk (k:=0) rfl 4,h.ldk (k:=0) rfl 5,trivial⟩,h.ldk (k:=0) rfl 1,fun b6 D hD=>⟨(h.more hD.fr).ldk (k:=0) rfl 1,?_⟩⟩,fun b7 D hD=>⟨(h.more hD.fr).ldk (k:=0) rfl 1,(h.more hD.fr).ldk (k:=0) rfl 1,(h.more hD.fr).ask fun y hy=>⟨y,rfl,(h.more hD.fr).ldk (k:=0) rfl 1,?_⟩⟩⟩
 ·exact h.feed (x:=HC.of c t) hy hD hl kk fun ap C hp fC hm=>⟨at1 hp,hm⟩
 ·exact h.feed (x:=HC.of c t) hy hD hl kk fun ap C hp fC hm=>⟨at1 hp,hm⟩
def FeedB (H12:Hp) (bC b1:Nat) (Kx:Hp→Prop):Prop:=
 ∃ x6:Sl,hcell H12 ⟨bC,5,none⟩=some (.slice x6.a x6.n x6.c)∧IxA x6.a x6.n 0 1 fun ad1=>
  (∃ x7:ByteArray,hcell H12 ad1=some (.string x7)∧∃ x8:Sl,hcell H12 ⟨bC,5,none⟩=some (.slice x8.a x8.n x8.c) ∧
  IxA x8.a x8.n 0 1 fun ad2=>(∃ x9:ByteArray,hcell H12 ad2=some (.string x9)∧∃ (x_a1:Int) (x_b1 x_c1:ByteArray) (x_d1:Int) (x_e1:ByteArray) (x_f1:Sl),(hcell H12 ⟨bC,0,none⟩=some (.int .i64 x_a1) ∧
  hcell H12 ⟨bC,1,none⟩=some (.string x_b1)∧hcell H12 ⟨bC,2,none⟩=some (.string x_c1)∧hcell H12 ⟨bC,3,none⟩=some (.int .i64 x_d1) ∧
  hcell H12 ⟨bC,4,none⟩=some (.string x_e1)∧hcell H12 ⟨bC,5,none⟩=some (.slice x_f1.a x_f1.n x_f1.c) ∧
  True)∧((Lkp Tryz.prog 130 H12 (.map (some b1)) (.string x9) false fun r4 H13=>∃ y:Sl,r4 = .slice y.a y.n y.c ∧
  ((hcell H13 ⟨bC,0,none⟩=some (.int .i64 x_a1)∧hcell H13 ⟨bC,1,none⟩=some (.string x_b1) ∧
  hcell H13 ⟨bC,2,none⟩=some (.string x_c1)∧hcell H13 ⟨bC,3,none⟩=some (.int .i64 x_d1) ∧
  hcell H13 ⟨bC,4,none⟩=some (.string x_e1)∧hcell H13 ⟨bC,5,none⟩=some (.slice x_f1.a x_f1.n x_f1.c) ∧
  True)∧(hcell H13 ad1=some (.string x7)∧(hcell H13 ⟨bC,5,none⟩=some (.slice x6.a x6.n x6.c) ∧
  ∀ b4 H14,Newb H13 (.cells #[.int .i64 x_a1,.string x_b1,.string x_c1,.int .i64 x_d1,.string x_e1,.slice x_f1.a x_f1.n x_f1.c] 36) b4 H14 →
  (hcell H14 ad1=some (.string x7)∧(hcell H14 ⟨bC,5,none⟩=some (.slice x6.a x6.n x6.c)∧App Tryz.prog #[24,24] 24 H14 [.slice y.a y.n y.c,.slice (some ⟨b4,0,none⟩) 1 1] fun ap H15=>
  (hcell H15 ad1=some (.string x7)∧(hcell H15 ⟨bC,5,none⟩=some (.slice x6.a x6.n x6.c)∧MUp Tryz.prog 130 H15 (.map (some b1)) (.string x7) (.slice ap.a ap.n ap.c) fun H16=>
  Kx H16))))))))∧(∀ b5 H17,Newb H12 (.cells #[.int .i64 x_a1,.string x_b1,.string x_c1,.int .i64 x_d1,.string x_e1,.slice x_f1.a x_f1.n x_f1.c] 36) b5 H17 →
  (hcell H17 ad2=some (.string x9)∧(hcell H17 ⟨bC,5,none⟩=some (.slice x8.a x8.n x8.c)∧(hcell H17 ad1=some (.string x7) ∧
  (hcell H17 ⟨bC,5,none⟩=some (.slice x6.a x6.n x6.c)∧Lkp Tryz.prog 130 H17 (.map (some b1)) (.string x9) false fun r5 H18=>
  ∃ y1:Sl,r5 = .slice y1.a y1.n y1.c∧(hcell H18 ad1=some (.string x7)∧(hcell H18 ⟨bC,5,none⟩=some (.slice x6.a x6.n x6.c) ∧
  App Tryz.prog #[24,24] 24 H18 [.slice y1.a y1.n y1.c,.slice (some ⟨b5,0,none⟩) 1 1] fun ap1 H19=>
  (hcell H19 ad1=some (.string x7)∧(hcell H19 ⟨bC,5,none⟩=some (.slice x6.a x6.n x6.c)∧MUp Tryz.prog 130 H19 (.map (some b1)) (.string x7) (.slice ap1.a ap1.n ap1.c) fun H20=>
  Kx H20))))))))))))
theorem feedB_ok {bC:Nat}{c:ConD}{t:Sl}{n:L8}{l:List L8}{Kx:Hp→Prop}(h:NS H0 A bX T d (FR (blk bC (cL c t) 36::R) b1 kvl)) (hta:Rd flL 1 H0 t c.args) (ha:c.args=n::l) (hl:(lookL kvl n).length≤1000000)
  (kk:∀ kvl' C,NS H0 C bX T d (FR (blk bC (cL c t) 36::R) b1 kvl')→(∀ z,lookL kvl' z=if z=n then lookL kvl n ++ [HC.of c t] else lookL kvl z)→Kx C):FeedB A bC b1 Kx:=by
 unfold FeedB
 rw [ha] at hta
 have at5:∀ {C:Hp},(∀ a∈blk bC (cL c t) 36::R,a.ok C)→hcell C ⟨bC,5,none⟩=some (.slice t.a t.n t.c):=fun ha=>Blk.ld (show Blk _ bC (cL c t) 36 from ha _ List.mem_cons_self) 5
 have fA:=h.fr
 refine ⟨t,h.ldk (k:=0) rfl 5,atL (i:=0) hta rfl fun ad1 e1=>⟨_,lf fA e1,t,h.ldk (k:=0) rfl 5,atL (i:=0) hta rfl fun ad2 e2=>⟨_,lf fA e2,_,_,_,_,_,t,⟨h.ldk (k:=0) rfl 0,h.ldk (k:=0) rfl 1,h.ldk (k:=0) rfl 2,h.ldk (k:=0) rfl 3,h.ldk (k:=0) rfl 4,h.ldk (k:=0) rfl 5,trivial⟩,h.ask fun y hy=>⟨y,rfl,⟨h.ldk (k:=0) rfl 0,h.ldk (k:=0) rfl 1,h.ldk (k:=0) rfl 2,h.ldk (k:=0) rfl 3,h.ldk (k:=0) rfl 4,h.ldk (k:=0) rfl 5,trivial⟩,lf fA e1,h.ldk (k:=0) rfl 5,fun b6 D hD=>⟨lf (fA.trans hD.fr) e1,(h.more hD.fr).ldk (k:=0) rfl 5,?_⟩⟩,fun b7 D hD=>⟨lf (fA.trans hD.fr) e2,(h.more hD.fr).ldk (k:=0) rfl 5,lf (fA.trans hD.fr) e1,(h.more hD.fr).ldk (k:=0) rfl 5,(h.more hD.fr).ask fun y hy=>⟨y,rfl,lf (fA.trans hD.fr) e1,(h.more hD.fr).ldk (k:=0) rfl 5,?_⟩⟩⟩⟩⟩
 ·exact h.feed (x:=HC.of c t) hy hD hl kk fun ap C hp fC hm=>⟨lf fC e1,at5 hp,hm⟩
 ·exact h.feed (x:=HC.of c t) hy hD hl kk fun ap C hp fC hm=>⟨lf fC e1,at5 hp,hm⟩
end
end Go.Proofs.YtjdhjgfmloaglaaGreatDoor.C23
end
section
namespace Go.Proofs.YtjdhjgfmloaglaaGreatDoor.C23
open Go Go.V Go.Proofs N23 P14 C14 P15 C15 P23
attribute [local irreducible] Cvt ExtF CallF hrun App MkS callV Lkp MUp FeedA FeedB
theorem tail1 {τ : Type}{fl : τ→List Value}{sz:Nat}{H:Hp}{s:Sl}{l:List τ}{Kx:Sl→Prop}(hf:Fl fl sz) (h:Rd fl sz H s l) (hj:1≤l.length) (k:∀ c,Rd fl sz H c l.tail→Kx c):s.n≤s.c∧SlX s.a s.c 1 (s.n:Int) sz Kx:=by
 have hl:=h.len
 have hle:=h.le
 refine ⟨hle,⟨by omega,by omega,by omega⟩,k _ ?_⟩
 have hp:=h.part hf (lo:=1) (hi:=s.n) (by omega) (Nat.le_refl _)
 rw [List.take_of_length_le (by rw [List.length_drop];omega),List.drop_one] at hp
 simpa using hp
theorem seed_len {x:SysD}(hx:Right x) (j:Nat):((x.cons.take j).flatMap seedC).length≤60000:=by
 have h1:=flat_le (l:=x.cons.take j) (n:=10) (f:=seedC) fun c hc=>by
  have:=hx.c.2 c (List.mem_of_mem_take hc)
  unfold seedC
  split
  ·simp
  ·split
   ·rw [List.length_cons,List.length_tail];omega
   ·simp
 have h2:=List.length_take_le j x.cons
 have h3:=hx.c.1
 rw [List.length_take] at *
 omega
theorem look_len {H0:Hp}{kvl:List ((L8 × Sl) × List HC)}{x:SysD}(hx:Right x) {j:Nat}(h:Feeds H0 kvl (x.cons.take j)) (q:L8):(lookL kvl q).length≤1000000:=by
 have h1:=(h q).1
 have h2:=List.length_filter_le (feedsB q) (x.cons.take j)
 have h3:=List.length_take_le j x.cons
 have h4:=hx.c.1
 rw [List.length_take] at *
 omega
theorem univ_len {x:SysD}{keep:List L8}(hx:Right x) (hk:keep.length≤100000):(univ x keep).length≤300000:=by
 have h1:=seed_len hx x.cons.length
 have h2:=objs_len hx x.objs.length
 rw [List.take_length] at h1 h2
 have h3:=hx.c.1
 have h4:=hx.f
 unfold univ seeds
 simp only [List.length_append,List.length_map]
 omega
def CI (H0:Hp) (b b1 bS:Nat) (s1 s2 s3:Sl) (keep:List L8) (cs:List ConD) (i:Int) (E:Hp) (m:Nat):Prop:=
 ∃ (j:Nat) (kvl:List ((L8 × Sl) × List HC)),i=(j:Int)∧j≤cs.length∧m=cs.length - j∧NS H0 E b (putAll [] (keep++(cs.take j).flatMap seedC)) 0 (FR [blk bS (sL s1 s2 s3) 26] b1 kvl)∧Feeds H0 kvl (cs.take j)
section
variable {H0:Hp}{s1 s2 s3 sk:Sl}{x:SysD}{keep:List L8}{K:Value→Hp→Prop}{Z:List PanicEntry→Hp→Prop}
theorem reckon_ok (hr:RdSys H0 s1 s2 s3 x) (hx:OkSys x) (h0:checkE x=0) (hk:Rd flL 1 H0 sk keep) (hks:∀ n∈keep,n.length≤1048576) (hkn:keep.length≤100000) (ht:Pw H0)
  (k:∀ b B T,NS H0 B b T T.length []→(∀ n,n∈T↔Need x keep n)→T.length≤900000→K (.pointer (some ⟨b,0,none⟩)) B):CallF Tryz.prog 30 #[sAg s1 s2 s3,.slice sk.a sk.n sk.c] H0 K Z:=by
 have hR:=check_right h0
 have hP:=(checkE_0.1 h0).2.1
 have n3:=RdX.len hr.c
 have z3:=hR.c.1
 have z2:=hR.f
 refine V30_ok ?_
 unfold V30
 intro bS A hA b B hB
 have hS:=(Sym.start H0).newb (cs:=sL s1 s2 s3) hA
 have hN0:=NS.new hS hB
 refine nput_ok hN0 (Nat.zero_le _) (fun s=>hk.more s.fr) hks (by simp;omega) ht fun C hC=>⟨rfl,fun b1 D hD=>?_⟩
 have hN1:NS H0 D b (putAll [] keep) 0 (mapI slV b1 [] :: [blk bS (sL s1 s2 s3) 26]):=hC.add hD.fr ⟨#[],0,by rw [hD.2,hD.1];simp,rfl⟩ fun i hi=>by have:=hD.eq;have:i=b1:=hi;omega
 replace hN1:NS H0 D b (putAll [] (keep++(x.cons.take 0).flatMap seedC)) 0 (FR [blk bS (sL s1 s2 s3) 26] b1 []):=by
  rw [List.take_zero,List.flatMap_nil,List.append_nil]
  exact hN1.perm (List.Perm.swap _ _ _)
 refine ⟨s3,hN1.ldk (k:=0) rfl 2,CI H0 b b1 bS s1 s2 s3 keep x.cons,⟨_,0,[],rfl,Nat.zero_le _,rfl,hN1,Feeds.nil⟩,?_⟩
 rintro i E m ⟨j,kvl,rfl,hj,rfl,hE,hfd⟩ scr
 have hsl:=seed_len hR j
 have hl1:=putAll_len (keep++(x.cons.take j).flatMap seedC) []
 rw [List.length_append,List.length_nil] at hl1
 refine ⟨fun hlt=>?_,fun hge=>?_⟩
 ·have hj':j < x.cons.length:=by have:=dlt hlt;omega
  obtain ⟨c,hc,hcm⟩:=getN hj'
  obtain ⟨t,hta,ix⟩:=atC hr.c hc
  have hok:=hx.c.2 c hcm
  have hargs:=hR.c.2 c hcm
  have hll:=look_len hR hfd
  have hsn:putAll [] (keep++(x.cons.take (j+1)).flatMap seedC)=putAll (putAll [] (keep++(x.cons.take j).flatMap seedC)) (seedC c):=by rw [flat_snoc (f:=seedC) hc,← List.append_assoc,putAll_app]
  have htk:x.cons.take (j+1)=x.cons.take j ++ [c]:=by rw [List.take_add_one,hc];rfl
  have fE:=hE.fr
  have next:∀ {F:Hp}{kvl':List ((L8 × Sl) × List HC)}{bC:Nat},NS H0 F b (putAll (putAll [] (keep++(x.cons.take j).flatMap seedC)) (seedC c)) 0 (FR (blk bC (cL c t) 36 :: [blk bS (sL s1 s2 s3) 26]) b1 kvl')→Feeds H0 kvl' (x.cons.take j ++ [c])→∃ m2,m2 < x.cons.length - j∧CI H0 b b1 bS s1 s2 s3 keep x.cons (w64 ((j:Int)+1)) F m2:=by
   intro F kvl' bC hF hf
   refine ⟨x.cons.length - (j+1),by omega,j+1,kvl',wi (by omega),hj',rfl,?_,by rw [htk];exact hf⟩
   rw [hsn]
   exact hF.dropR
  clear hsn htk
  generalize putAll [] (keep++(x.cons.take j).flatMap seedC)=T1 at hE hl1 next
  refine ix fun ad e1 e2 e3 e4 e5 e6=>⟨_,_,_,_,_,t,⟨lf fE e1,lf fE e2,lf fE e3,lf fE e4,lf fE e5,lf fE e6,trivial⟩,fun bC F hF=>?_⟩
  have hN2:=hE.newb (cs:=[.int .i64 0,.string ⟨#[]⟩,.string ⟨#[]⟩,.int .i64 0,.string ⟨#[]⟩,.slice none 0 0]) hF
  refine hN2.stk (k:=0) (i:=0) (vs:=cL c t) rfl (by simp) (FlHC.2 (HC.of c t)) fun G hG=>?_
  replace hG:NS H0 G b T1 0 (FR (blk bC (cL c t) 36 :: [blk bS (sL s1 s2 s3) 26]) b1 kvl):=hG
  have hin:InC H0 (HC.of c t) c:=⟨rfl,hta⟩
  have hA5:c.op=2∨c.op=3∨c.op=5→FeedA G bC b1 fun F=>∃ m2,m2 < x.cons.length - j∧CI H0 b b1 bS s1 s2 s3 keep x.cons (w64 ((j:Int)+1)) F m2:=fun h5=>
   feedA_ok hG (hll _) fun kvl' L hL hz=>next (bC:=bC) (by unfold seedC;rw [if_neg (by omega),if_neg (by omega)];exact hL) (hfd.put hz hin (feeds_a h5))
  refine ⟨_,hG.ldk (k:=0) rfl 0,fun h4=>?_,fun h4=>⟨fun h6=>?_,fun h6=>⟨fun h2=>⟨fun _=>?_,fun h=>by rw [h2] at h;cases h⟩,fun h2=>⟨fun h3=>⟨fun _=>?_,fun h=>by rw [h3] at h;cases h⟩,fun h3=>⟨fun h5=>?_,fun h5=>?_⟩⟩⟩⟩⟩
  ·-- a store
   have h4:=eqI.1 h4
   refine ⟨_,hG.ldk (k:=0) rfl 1,_,hG.ldk (k:=0) rfl 2,fun b2 L hL=>nputL_ok (ns:=[c.a,c.b]) hG (Nat.zero_le _) hL (fun n hn=>?_) (by simp only [List.length_cons,List.length_nil];omega) ht fun M hM=>⟨rfl,next (bC:=bC) ?_ (hfd.skip (feeds_no (.inr h4)))⟩⟩
   ·simp only [List.mem_cons,List.not_mem_nil,or_false] at hn
    rcases hn with rfl | rfl
    ·exact hok.1
    ·exact hok.2.1
   ·unfold seedC
    rw [if_pos h4]
    exact hM
  ·-- a call
   have h4:=neI.1 h4
   have h6:=eqI.1 h6
   obtain ⟨n,l,hal⟩:=call_args (hP.c c hcm) h6
   refine ⟨_,hG.ldk (k:=0) rfl 2,fun b3 L hL=>put1_ok hG (Nat.zero_le _) hL hok.2.1 (by omega) ht fun M hM=>⟨rfl,t,hM.ldk (k:=0) rfl 5,tail1 FlL hta (by rw [hal];simp) fun cut hcut=>nput_ok hM (Nat.zero_le _) (fun s=>hcut.more s.fr) (fun n hn=>hok.2.2.2.2 n (List.mem_of_mem_tail hn)) ?_ ht fun P hP'=>⟨rfl,?_⟩⟩⟩
   ·have:=putAll_len [c.b] T1
    rw [List.length_singleton] at this
    rw [List.length_tail]
    omega
   ·have e:putAll T1 (seedC c)=putAll (putAll T1 [c.b]) c.args.tail:=by
     unfold seedC
     rw [if_neg h4,if_pos h6]
     exact putAll_app T1 [c.b] c.args.tail
    rw [← e] at hP'
    have hB6:=feedB_ok (Kx:=fun F=>∃ m2,m2 < x.cons.length - j∧CI H0 b b1 bS s1 s2 s3 keep x.cons (w64 ((j:Int)+1)) F m2) hP' hta hal (hll _) fun kvl' L hL hz=>next (bC:=bC) hL (hfd.put hz hin (feeds_6 h6 hal))
    unfold FeedB at hB6
    exact hB6
  ·have hh:=hA5 (.inl (eqI.1 h2))
   unfold FeedA at hh
   exact hh
  ·have hh:=hA5 (.inr (.inl (eqI.1 h3)))
   unfold FeedA at hh
   exact hh
  ·have hh:=hA5 (.inr (.inr (eqI.1 h5)))
   unfold FeedA at hh
   exact hh
  ·have h1:c.op=1:=by
    have:=neI.1 h4
    have:=neI.1 h6
    have:=neI.1 h2
    have:=neI.1 h3
    have:=neI.1 h5
    have hce:=hP.c c hcm
    unfold conE at hce
    split at hce
    ·cases hce
    ·omega
   refine next (bC:=bC) ?_ (hfd.skip (feeds_no (.inl h1)))
   unfold seedC
   rw [if_neg (by omega),if_neg (by omega)]
   exact hG
 ·have hje:j=x.cons.length:=by have:=dge hge;omega
  rw [hje,List.take_length] at hE hfd
  have hfall:∀ q,Lies H0 (lookL kvl q) (x.cons.filter (feedsB q)):=hfd
  have hU:=univ_len hR hkn
  refine ⟨fun E m=>∃ (T:List L8) (d:Nat),Run x keep T d∧m=(univ x keep).length - d∧NS H0 E b T d (FR [blk bS (sL s1 s2 s3) 26] b1 kvl),⟨_,_,0,Run.start,rfl,hE⟩,?_⟩
  clear hE hl1 hsl hge hje hj
  rintro E m ⟨T,d,hrun,rfl,hE⟩ scr
  have hTl:=hrun.len
  have hdl:=hrun.le
  obtain ⟨cs,os,fr,s,c3,c2⟩:=id hE
  have h2:hcell E ⟨b,2,none⟩=some (.slice fr.a fr.n fr.c):=((s.get (k:=0) rfl:TbS C05S.val C05S.lt 9 3 E b 0 129 cs (T.map str) os).blk.ld 2).trans c2
  have rd:=s.rdq (k:=1) FlL (by decide) rfl
  have hn:=rd.len
  rw [List.length_drop] at hn
  refine ⟨fr,h2,fun hpos=>⟨fr,h2,?_⟩,fun hno=>?_⟩
  ·have hd':d < T.length:=by have:=of_decide_eq_true hpos;omega
   obtain ⟨n,hnd,hnm⟩:=getN hd'
   have hdr:T.drop d=n::T.drop (d+1):=by
    obtain ⟨_,e⟩:=List.getElem?_eq_some_iff.1 hnd
    rw [List.drop_eq_getElem_cons hd',e]
   rw [hdr] at s rd
   have hstep:=hrun.step hnd
   have hsl:=hstep.sub
   refine atL (i:=0) rd rfl fun ad3 e3=>⟨_,e3,fr,h2,?_⟩
   refine s.tailq (k:=1) FlL (by decide) rfl fun cut sC=>?_
   refine sC.tbset (k:=0) (i:=2) rfl (by omega) (by decide) (by decide) rfl fun F sF=>?_
   have hF:NS H0 F b T (d+1) (FR [blk bS (sL s1 s2 s3) 26] b1 kvl):=⟨cs.set 2 (.slice cut.a cut.n cut.c),os,cut,sF,by rw [List.length_set];exact c3,List.getElem?_set_self (by omega)⟩
   clear s sC sF rd e3 h2
   have hlies:=hfall n
   have hyl:=hlies.1
   refine hF.ask (q:=n) fun y hy=>⟨y,rfl,fun i G m=>∃ p:Nat,i=(p:Int)∧p≤(x.cons.filter (feedsB n)).length∧m=(x.cons.filter (feedsB n)).length - p∧NS H0 G b (putAll T (((x.cons.filter (feedsB n)).take p).flatMap (outC x))) (d+1) (FR [blk bS (sL s1 s2 s3) 26] b1 kvl),⟨_,0,rfl,Nat.zero_le _,rfl,hF⟩,?_⟩
   rintro i G m ⟨p,rfl,hp,rfl,hG⟩ scr2
   have rdG:=hG.asked hy
   have yl:=rdG.len
   refine ⟨fun hlt2=>?_,fun hge2=>?_⟩
   ·have hp':p < (x.cons.filter (feedsB n)).length:=by have:=dlt hlt2;omega
    obtain ⟨c,hc,hcm⟩:=getN hp'
    have hcm':=(List.mem_filter.1 hcm).1
    obtain ⟨a,ha,_⟩:=getN (xs:=lookL kvl n) (i:=p) (by omega)
    obtain ⟨he,hta⟩:=hlies.2 p a c ha hc
    have hok:=hx.c.2 c hcm'
    have hfl:=List.length_filter_le (feedsB n) x.cons
    have hle1:(putAll T (((x.cons.filter (feedsB n)).take p).flatMap (outC x))).length≤(univ x keep).length:=put_le hrun.nd hrun.sub fun z hz=>out_univ (m:=n) (by
     obtain ⟨c',hc',hz⟩:=List.mem_flatMap.1 hz
     exact List.mem_flatMap.2 ⟨c',List.mem_of_mem_take hc',hz⟩)
    have hge1:=putAll_ge T (((x.cons.filter (feedsB n)).take p).flatMap (outC x))
    have hsn:putAll T (((x.cons.filter (feedsB n)).take (p+1)).flatMap (outC x))=putAll (putAll T (((x.cons.filter (feedsB n)).take p).flatMap (outC x))) (outC x c):=by rw [flat_snoc (f:=outC x) hc,putAll_app]
    have next:∀ {F:Hp}{bC:Nat}{zz:List Value},NS H0 F b (putAll (putAll T (((x.cons.filter (feedsB n)).take p).flatMap (outC x))) (outC x c)) (d+1) (FR (blk bC zz 36 :: [blk bS (sL s1 s2 s3) 26]) b1 kvl)→∃ m8,m8 < (x.cons.filter (feedsB n)).length - p∧∃ p':Nat,w64 ((p:Int)+1)=(p':Int)∧p'≤(x.cons.filter (feedsB n)).length∧m8=(x.cons.filter (feedsB n)).length - p'∧NS H0 F b (putAll T (((x.cons.filter (feedsB n)).take p').flatMap (outC x))) (d+1) (FR [blk bS (sL s1 s2 s3) 26] b1 kvl):=fun hF=>⟨_,by omega,p+1,wi (by omega),hp',rfl,by rw [hsn];exact hF.dropR⟩
    clear hsn
    generalize putAll T (((x.cons.filter (feedsB n)).take p).flatMap (outC x))=T1 at hG hle1 hge1 next
    refine rdG.ix (by decide) FlHC (by omega) (by simpa using ha) fun ad g1 g2=>?_
    rw [he] at g1 g2
    refine ⟨_,_,_,_,_,_,⟨g2,g1 1 _ rfl,g1 2 _ rfl,g1 3 _ rfl,g1 4 _ rfl,g1 5 _ rfl,trivial⟩,fun bC F hF=>?_⟩
    have hN2:=hG.newb (cs:=[.int .i64 0,.string ⟨#[]⟩,.string ⟨#[]⟩,.int .i64 0,.string ⟨#[]⟩,.slice none 0 0]) hF
    refine hN2.stk (k:=0) (i:=0) (vs:=cL c a.2.2.2.2.2) rfl (by simp) (FlHC.2 (HC.of c a.2.2.2.2.2)) fun I hI=>?_
    replace hI:NS H0 I b T1 (d+1) (FR (blk bC (cL c a.2.2.2.2.2) 36 :: [blk bS (sL s1 s2 s3) 26]) b1 kvl):=hI
    refine ⟨_,hI.ldk (k:=0) rfl 0,fun h6=>⟨s2,hI.ldk (k:=1) rfl 1,?_⟩,fun h6=>⟨fun h3=>?_,fun h3=>?_⟩⟩
    ·-- a call: all that functions return
     have h6:=eqI.1 h6
     have n2:=hr.f.len
     refine ⟨fun i J m=>∃ r:Nat,i=(r:Int)∧r≤x.fns.length∧m=x.fns.length - r∧NS H0 J b (putAll T1 ((x.fns.take r).map fun f=>f0L f.name)) (d+1) (FR (blk bC (cL c a.2.2.2.2.2) 36 :: [blk bS (sL s1 s2 s3) 26]) b1 kvl),⟨_,0,rfl,Nat.zero_le _,rfl,hI⟩,?_⟩
     rintro i J m ⟨r,rfl,hr',rfl,hJ⟩ scr3
     have q1:=putAll_len ((x.fns.take r).map fun f=>f0L f.name) T1
     have q2:=putAll_ge T1 ((x.fns.take r).map fun f=>f0L f.name)
     rw [List.length_map,List.length_take] at q1
     refine ⟨fun hlt3=>?_,fun hge3=>?_⟩
     ·have hr2:r < x.fns.length:=by have:=dlt hlt3;omega
      obtain ⟨f,hf,hfm⟩:=getN hr2
      have hsn2:putAll T1 ((x.fns.take (r+1)).map fun f=>f0L f.name)=putAll (putAll T1 ((x.fns.take r).map fun f=>f0L f.name)) [f0L f.name]:=by
       rw [List.take_add_one,hf,List.map_append,putAll_app]
       rfl
      generalize putAll T1 ((x.fns.take r).map fun f=>f0L f.name)=T2 at hJ q1 q2 hsn2
      have fJ:=hJ.fr
      refine atF hr.f hf fun ad5 g3 g4 g5=>⟨_,_,_,⟨lf fJ g3,lf fJ g4,lf fJ g5,trivial⟩,fun bF L hL=>?_⟩
      have hN3:=hJ.newb (cs:=[.string ⟨#[]⟩,.string ⟨#[]⟩,.string ⟨#[]⟩]) hL
      refine hN3.stk (k:=0) (i:=0) (vs:=fL f) rfl (by simp) (FlF.2 f) fun M hM=>?_
      replace hM:NS H0 M b T2 (d+1) (blk bF (fL f) 56::FR (blk bC (cL c a.2.2.2.2.2) 36 :: [blk bS (sL s1 s2 s3) 26]) b1 kvl):=hM
      refine ⟨_,hM.ldk (k:=0) rfl 0,formal0_ok (hx.f.2 f hfm).1 (TabH.more ht hM.fr) fun N fN=>⟨_,rfl,fun b12 O hO=>put1_ok (hM.more fN) (by omega) hO (by have:=f0_short f.name;omega) (by omega) ht fun P hP=>⟨rfl,x.fns.length - (r+1),by omega,r+1,wi (by omega),hr2,rfl,?_⟩⟩⟩
      rw [hsn2]
      exact hP.dropR
     ·have hre:r=x.fns.length:=by have:=dge hge3;omega
      rw [hre,List.take_length] at hJ
      refine next (bC:=bC) (zz:=cL c a.2.2.2.2.2) ?_
      have:outC x c=x.fns.map fun f=>f0L f.name:=by unfold outC;rw [if_pos h6]
      rw [this]
      exact hJ
    ·-- a load: all pointer cells
     have h6:=neI.1 h6
     have h3:=eqI.1 h3
     refine ⟨s1,s2,s3,⟨hI.ldk (k:=1) rfl 0,hI.ldk (k:=1) rfl 1,hI.ldk (k:=1) rfl 2,trivial⟩,npoint_ok hI (by omega) hr hx hR (by omega) ht fun J hJ=>⟨rfl,_,hJ.ldk (k:=0) rfl 2,fun b13 L hL=>?_⟩⟩
     have q1:=putAll_len (x.objs.flatMap objN) T1
     have q2:=putAll_ge T1 (x.objs.flatMap objN)
     have q3:=objs_len hR x.objs.length
     rw [List.take_length] at q3
     refine put1_ok hJ (by omega) hL hok.2.1 (by omega) ht fun M hM=>⟨rfl,next (bC:=bC) (zz:=cL c a.2.2.2.2.2) ?_⟩
     have:outC x c=x.objs.flatMap objN ++ [c.b]:=by unfold outC;rw [if_neg h6,if_pos h3]
     rw [this,putAll_app]
     exact hM
    ·have h6:=neI.1 h6
     have h3:=neI.1 h3
     refine ⟨_,hI.ldk (k:=0) rfl 2,fun b14 L hL=>put1_ok hI (by omega) hL hok.2.1 (by omega) ht fun M hM=>⟨rfl,next (bC:=bC) (zz:=cL c a.2.2.2.2.2) ?_⟩⟩
     have:outC x c = [c.b]:=by unfold outC;rw [if_neg h6,if_neg h3]
     rw [this]
     exact hM
   ·have hpe:p=(x.cons.filter (feedsB n)).length:=by have:=dge hge2;omega
    rw [hpe,List.take_length] at hG
    have hun:=hstep.len
    have hul:=hstep.le
    exact ⟨(univ x keep).length - (d+1),by omega,_,d+1,hstep,rfl,hG⟩
  ·have hd':T.length≤d:=by have:=of_decide_eq_false hno;omega
   have hde:d=T.length:=by omega
   refine k b E T ?_ (hrun.end hd') (by omega)
   rw [← hde]
   exact hE.sub (List.nil_sublist _)
end
end Go.Proofs.YtjdhjgfmloaglaaGreatDoor.C23
end
section
namespace Go.Proofs.YtjdhjgfmloaglaaGreatDoor.C23
open Go Go.V Go.Proofs N23 P14 C14 P15 C15 P23
attribute [local irreducible] Cvt ExtF CallF hrun App MkS callV Lkp MUp
def NM (H0 A:Hp) (b:Nat) (os fs:List L8) (R:List It):Prop:=
 ∃ so sf:Sl,Sym H0 no A (blk b [.slice so.a so.n so.c,.slice sf.a sf.n sf.c] 76::arr flL 9 1 so os::arr flL 9 1 sf fs::R)
section
variable {H0 A B:Hp}{b:Nat}{os fs:List L8}{R:List It}{K:Value→Hp→Prop}{Z:List PanicEntry→Hp→Prop}
theorem NM.more (h:NM H0 A b os fs R) (hf:Fr no A B):NM H0 B b os fs R:=by
 obtain ⟨so,sf,s⟩:=h
 exact ⟨so,sf,s.more hf⟩
theorem NM.fr (h:NM H0 A b os fs R):Fr no H0 A:=by
 obtain ⟨so,sf,s⟩:=h
 exact s.fr
theorem NM.sub {R':List It}(h:NM H0 A b os fs R) (hp:R'.Sublist R):NM H0 A b os fs R':=by
 obtain ⟨so,sf,s⟩:=h
 exact ⟨so,sf,s.sub (((hp.cons_cons _).cons_cons _).cons_cons _)⟩
theorem NM.dropR {a:It}(h:NM H0 A b os fs (a::R)):NM H0 A b os fs R:=h.sub (List.sublist_cons_self _ _)
theorem NM.add {a:It}(h:NM H0 A b os fs R) (hf:Fr no A B) (ha:a.ok B) (hp:∀ i,a.fp i→A.size≤i):NM H0 B b os fs (a::R):=by
 obtain ⟨so,sf,s⟩:=h
 have s1:=s.new hf ha hp
 exact ⟨so,sf,s1.perm ((List.Perm.swap _ _ _).trans (((List.Perm.swap _ _ _).trans ((List.Perm.swap _ _ _).cons _)).cons _))⟩
theorem NM.lit {ns:List L8}{b2:Nat}(h:NM H0 A b os fs R) (hn:Newb A (.cells (flat flL ns).toArray 9) b2 B):NM H0 B b os fs (arr flL 9 1 ⟨some ⟨b2,0,none⟩,ns.length,ns.length⟩ ns::R):=by
 obtain ⟨so,sf,s⟩:=h
 have s1:=s.lit FlL (by decide) hn (show ns.length=_ from rfl)
 exact ⟨so,sf,s1.perm ((List.Perm.swap _ _ _).trans (((List.Perm.swap _ _ _).trans ((List.Perm.swap _ _ _).cons _)).cons _))⟩
theorem NM.newb {b2:Nat}{cs:List Value}{E:TypeId}(h:NM H0 A b os fs R) (hn:Newb A (.cells cs.toArray E) b2 B):NM H0 B b os fs (blk b2 cs E::R):=
 h.add hn.fr hn.blk fun i hi=>by have:=hn.eq;have:i=b2:=hi;omega
theorem NM.ldk {b2 k:Nat}{cs:List Value}{E:TypeId}(h:NM H0 A b os fs R) (hk:R[k]? = some (blk b2 cs E)) (i:Nat):hcell A ⟨b2,i,none⟩=cs[i]?:=by
 obtain ⟨_,_,s⟩:=h
 exact s.ld (k:=k+3) hk i
theorem NM.stk {b2 k i:Nat}{cs vs:List Value}{E:TypeId}{K:Hp→Prop}(h:NM H0 A b os fs R) (hk:R[k]? = some (blk b2 cs E)) (hi:i+vs.length≤cs.length) (hv:∀ v∈vs,v.oneCell=true)
  (kk:∀ B,NM H0 B b os fs (R.set k (blk b2 (setsL cs i vs) E))→K B):StL ⟨b2,i,none⟩ 0 vs A K:=by
 obtain ⟨so,sf,s⟩:=h
 exact s.stbs (k:=k+3) hk hi hv fun B sB=>kk B ⟨so,sf,sB⟩
theorem fm_snoc {α β : Type}{f : α→Option β}{l:List α}{j:Nat}{x : α}(h:l[j]? = some x):(l.take (j+1)).filterMap f=(l.take j).filterMap f++(f x).toList:=by
 rw [List.take_add_one,h,List.filterMap_append]
 cases e:f x <;> simp [e]
theorem fm_len {α β : Type}{f : α→Option β}(l:List α) (j:Nat):((l.take j).filterMap f).length≤j:=by
 have:=List.length_filterMap_le f (l.take j)
 rw [List.length_take] at this
 omega
theorem mput_ok {l:Sl}{ns:List L8}(h:NM H0 A b os fs R) (hr:∀ {B so sf os fs},Sym H0 no B (blk b [.slice so.a so.n so.c,.slice sf.a sf.n sf.c] 76::arr flL 9 1 so os::arr flL 9 1 sf fs::R)→Rd flL 1 B l ns) (hs:∀ n∈ns,n.length≤1048576) (hT:os.length+ns.length≤1900000) (hT2:fs.length+ns.length≤1900000) (ht:Pw H0)
  (k:∀ B,NM H0 B b (os++ns.filterMap nmO) (fs++ns.filterMap nmF) R→K (.tuple #[]) B):CallF Tryz.prog 33 #[.pointer (some ⟨b,0,none⟩),.slice l.a l.n l.c] A K Z:=by
 refine V33_ok ?_
 unfold V33
 refine ⟨fun i B m=>∃ j:Nat,i=(j:Int)∧j≤ns.length∧m=ns.length - j∧NM H0 B b (os++(ns.take j).filterMap nmO) (fs++(ns.take j).filterMap nmF) R,⟨_,0,rfl,Nat.zero_le _,rfl,by simpa using h⟩,?_⟩
 rintro i B m ⟨j,rfl,hj,rfl,hN⟩ scr
 have q1:=fm_len (f:=nmO) ns j
 have q2:=fm_len (f:=nmF) ns j
 obtain ⟨so,sf,s⟩:=id hN
 have hrB:=hr s
 have ln:=hrB.len
 refine ⟨fun hlt=>?_,fun hge=>?_⟩
 ·have hj':j < ns.length:=by have:=dlt hlt;omega
  obtain ⟨n,hn,hnm⟩:=getN hj'
  have next:∀ {F},NM H0 F b (os++(ns.take j).filterMap nmO++(nmO n).toList) (fs++(ns.take j).filterMap nmF++(nmF n).toList) R→∃ m2,m2 < ns.length - j∧∃ j':Nat,w64 ((j:Int)+1)=(j':Int)∧j'≤ns.length∧m2=ns.length - j'∧NM H0 F b (os++(ns.take j').filterMap nmO) (fs++(ns.take j').filterMap nmF) R:=fun {F} hF=>⟨_,by omega,j+1,wi (by omega),hj',rfl,by rw [fm_snoc hn,fm_snoc hn,← List.append_assoc,← List.append_assoc];exact hF⟩
  have w1:(os++(ns.take j).filterMap nmO).length≤1900000:=by rw [List.length_append];omega
  have w2:(fs++(ns.take j).filterMap nmF).length≤1900000:=by rw [List.length_append];omega
  generalize os++(ns.take j).filterMap nmO=os1 at s next w1
  generalize fs++(ns.take j).filterMap nmF=fs1 at s next w2
  have hrd:rd n=rres (readN n):=rfl
  refine atL hrB hn fun ad e=>⟨_,e,readX_ok (hs n hnm) (TabH.more ht s.fr) fun C fC=>⟨_,_,_,_,_,_,_,rfl,fun bN D hD=>?_⟩⟩
  have sD:=(s.more fC).newb (cs:=[.int .i64 0,.string ⟨#[]⟩,.int .i64 0,.string ⟨#[]⟩,.int .i64 0,.int .i64 0]) hD
  refine sD.stbs (k:=0) (i:=0) (vs:=ndV (rres (readN n)).1) rfl (by simp [ndV]) (ndV_one _) fun E sE=>?_
  replace sE:Sym H0 no E (blk bN (ndV (rres (readN n)).1) 61::blk b [.slice so.a so.n so.c,.slice sf.a sf.n sf.c] 76::arr flL 9 1 so os1::arr flL 9 1 sf fs1::R):=sE
  have lo:=(sE.rd (k:=2) FlL (by decide) rfl).len
  have lf':=(sE.rd (k:=3) FlL (by decide) rfl).len
  refine ⟨fun h0=>next ?_,fun h0=>⟨_,sE.ld (k:=0) rfl 5,fun h5=>?_,fun h5=>⟨_,sE.ld (k:=0) rfl 0,fun h2=>?_,fun h2=>⟨_,sE.ld (k:=0) rfl 0,fun h4=>?_,fun h4=>next ?_⟩⟩⟩⟩
  ·have h0:=bne_iff_ne.1 h0
   have eO:nmO n=none:=by unfold nmO;rw [hrd,if_pos h0]
   have eF:nmF n=none:=by unfold nmF;rw [hrd,if_pos h0]
   rw [eO,eF]
   rw [Option.toList_none,List.append_nil,List.append_nil]
   exact ⟨so,sf,sE.drop⟩
  ·have h0:¬ (rres (readN n)).2≠0:=fun h=>h (bne_eq_false_iff_eq.1 h0)
   have h5:=of_decide_eq_true h5
   have eO:nmO n=some (objL n).1:=by unfold nmO;rw [hrd,if_neg h0,if_pos h5]
   have eF:nmF n=none:=by unfold nmF;rw [hrd,if_neg h0,if_pos h5]
   rw [eO,eF] at next
   refine object_ok (hs n hnm) (TabH.more ht sE.fr) fun F fF=>⟨_,_,_,rfl,so,(sE.more fF).ld (k:=1) rfl 0,fun b2 G hG=>?_⟩
   refine Sym.app1 (k:=2) (x:=(objL n).1) tyTs (sE.more fF) FlL (by decide) hG rfl (by omega) fun ap I hap sI=>?_
   replace sI:Sym H0 no I (blk bN (ndV (rres (readN n)).1) 61::blk b [.slice so.a so.n so.c,.slice sf.a sf.n sf.c] 76::arr flL 9 1 ap (os1 ++ [(objL n).1])::arr flL 9 1 sf fs1::R):=sI
   refine sI.stb (k:=1) (i:=0) rfl (by simp) rfl fun J sJ=>next ?_
   exact ⟨ap,sf,by simpa using Sym.drop sJ⟩
  ·have h0:¬ (rres (readN n)).2≠0:=fun h=>h (bne_eq_false_iff_eq.1 h0)
   have h5:=of_decide_eq_false h5
   have h2:=eqI.1 h2
   have eO:nmO n=none:=by unfold nmO;rw [hrd,if_neg h0,if_neg h5]
   have eF:nmF n=some (ofL { (rres (readN n)).1 with kind:=4,n:=0 }):=by unfold nmF;rw [hrd,if_neg h0,if_neg h5,if_pos h2]
   rw [eO,eF] at next
   refine sE.stb (k:=0) (i:=0) rfl (by simp [ndV]) rfl fun F sF=>?_
   replace sF:Sym H0 no F (blk bN (ndV { (rres (readN n)).1 with kind:=4 }) 61::blk b [.slice so.a so.n so.c,.slice sf.a sf.n sf.c] 76::arr flL 9 1 so os1::arr flL 9 1 sf fs1::R):=sF
   refine sF.stb (k:=0) (i:=4) rfl (by simp [ndV]) rfl fun G sG=>?_
   replace sG:Sym H0 no G (blk bN (ndV { (rres (readN n)).1 with kind:=4,n:=0 }) 61::blk b [.slice so.a so.n so.c,.slice sf.a sf.n sf.c] 76::arr flL 9 1 so os1::arr flL 9 1 sf fs1::R):=sG
   have hsm:Sm { (rres (readN n)).1 with kind:=4,n:=0 }:=by
    cases hr':readN n with
    | none=>exact ⟨by simp [rres,zN],by simp [rres,zN]⟩
    | some a=>exact ⟨(read_sm (hs n hnm) hr').1,(read_sm (hs n hnm) hr').2⟩
   refine ⟨_,_,_,_,_,_,⟨sG.ld (k:=0) rfl 0,sG.ld (k:=0) rfl 1,sG.ld (k:=0) rfl 2,sG.ld (k:=0) rfl 3,sG.ld (k:=0) rfl 4,sG.ld (k:=0) rfl 5,trivial⟩,ntext_ok hsm (TabH.more ht sG.fr) fun I fI=>?_⟩
   have key:∀ {e:Int},∃ (y_01:ByteArray) (y_12:Int),Value.tuple #[.string (str (ofL { (rres (readN n)).1 with kind:=4,n:=0 })),.int .i64 e] = .tuple #[.string y_01,.int .i64 y_12]∧∃ x5:Sl,hcell I (Addr.add ⟨b,0,none⟩ 1)=some (.slice x5.a x5.n x5.c)∧∀ b1 H12,Newb I (.cells #[.string y_01] 9) b1 H12→App Tryz.prog #[27,27] 27 H12 [.slice x5.a x5.n x5.c,.slice (some ⟨b1,0,none⟩) 1 1] fun ap1 H13=>(StL (Addr.add ⟨b,0,none⟩ 1) 0 [.slice ap1.a ap1.n ap1.c] H13 fun H14=>(∃ m2,m2 < ns.length - j∧∃ j':Nat,w64 ((j:Int)+1)=(j':Int)∧j'≤ns.length∧m2=ns.length - j'∧NM H0 H14 b (os++(ns.take j').filterMap nmO) (fs++(ns.take j').filterMap nmF) R)):=by
    intro e
    refine ⟨_,_,rfl,sf,?_,fun b2 J hJ=>?_⟩
    ·rw [add_mk,Nat.zero_add]
     exact (sG.more fI).ld (k:=1) rfl 1
    ·refine Sym.app1 (k:=3) (x:=ofL { (rres (readN n)).1 with kind:=4,n:=0 }) tyTs (sG.more fI) FlL (by decide) hJ rfl (by omega) fun ap L hap sL=>?_
     replace sL:Sym H0 no L (blk bN (ndV { (rres (readN n)).1 with kind:=4,n:=0 }) 61::blk b [.slice so.a so.n so.c,.slice sf.a sf.n sf.c] 76::arr flL 9 1 so os1::arr flL 9 1 ap (fs1 ++ [ofL { (rres (readN n)).1 with kind:=4,n:=0 }])::R):=sL
     rw [add_mk,Nat.zero_add]
     refine sL.stb (k:=1) (i:=1) rfl (by simp) rfl fun M sM=>next ?_
     exact ⟨so,ap,by simpa using Sym.drop sM⟩
   split
   ·rename_i hR
    have e1:textL { (rres (readN n)).1 with kind:=4,n:=0 } = ofL { (rres (readN n)).1 with kind:=4,n:=0 }:=by unfold ofL;rw [if_pos hR]
    rw [e1]
    exact key
   ·rename_i hR
    have e1:(⟨#[]⟩:ByteArray)=str (ofL { (rres (readN n)).1 with kind:=4,n:=0 }):=by unfold ofL;rw [if_neg hR];rfl
    rw [e1]
    exact key
  ·have h0:¬ (rres (readN n)).2≠0:=fun h=>h (bne_eq_false_iff_eq.1 h0)
   have h5:=of_decide_eq_false h5
   have h2:=neI.1 h2
   have h4:=eqI.1 h4
   have eO:nmO n=none:=by unfold nmO;rw [hrd,if_neg h0,if_neg h5]
   have eF:nmF n=some n:=by unfold nmF;rw [hrd,if_neg h0,if_neg h5,if_neg h2,if_pos h4]
   rw [eO,eF] at next
   refine ⟨sf,?_,fun b2 G hG=>?_⟩
   ·rw [add_mk,Nat.zero_add]
    exact sE.ld (k:=1) rfl 1
   ·refine Sym.app1 (k:=3) (x:=n) tyTs sE FlL (by decide) hG rfl (by omega) fun ap I hap sI=>?_
    replace sI:Sym H0 no I (blk bN (ndV (rres (readN n)).1) 61::blk b [.slice so.a so.n so.c,.slice sf.a sf.n sf.c] 76::arr flL 9 1 so os1::arr flL 9 1 ap (fs1 ++ [n])::R):=sI
    rw [add_mk,Nat.zero_add]
    refine sI.stb (k:=1) (i:=1) rfl (by simp) rfl fun J sJ=>next ?_
    exact ⟨so,ap,by simpa using Sym.drop sJ⟩
  ·have h0:¬ (rres (readN n)).2≠0:=fun h=>h (bne_eq_false_iff_eq.1 h0)
   have h5:=of_decide_eq_false h5
   have h2:=neI.1 h2
   have h4:=neI.1 h4
   have eO:nmO n=none:=by unfold nmO;rw [hrd,if_neg h0,if_neg h5]
   have eF:nmF n=none:=by unfold nmF;rw [hrd,if_neg h0,if_neg h5,if_neg h2,if_neg h4]
   rw [eO,eF]
   rw [Option.toList_none,List.append_nil,List.append_nil]
   exact ⟨so,sf,sE.drop⟩
 ·rw [List.take_of_length_le (by have:=dge hge;omega)] at hN
  exact k B hN
theorem ixS_ok {H:Hp}{s:Sl}{xs:List L8}{v:L8}(h:Rd flL 1 H s xs) (hb:xs.length≤10000000) (k:∀ y:Int,decide (y≥0)=decide (v∈xs)→K (.int .i64 y) H):CallF Tryz.prog 84 #[.slice s.a s.n s.c,.string (str v)] H K Z:=by
 refine V84_ok ?_
 unfold V84
 have ln:=h.len
 refine ⟨fun i B m=>∃ j:Nat,B=H∧i=(j:Int)∧j≤xs.length∧m=xs.length - j∧v∉xs.take j,⟨_,0,rfl,rfl,Nat.zero_le _,rfl,by simp⟩,?_⟩
 rintro i B m ⟨j,rfl,rfl,hj,rfl,hno⟩ scr
 refine ⟨fun hlt=>?_,fun hge=>?_⟩
 ·have hj':j < xs.length:=by have:=dlt hlt;omega
  obtain ⟨n,hn,hnm⟩:=getN hj'
  refine atL h hn fun ad e=>⟨_,e,fun he=>?_,fun he=>⟨xs.length - (j+1),by omega,j+1,rfl,wi (by omega),hj',rfl,fun hm=>?_⟩⟩
  ·have hv:v=n:=str_inj (beqS_iff.1 he)
   refine k _ ?_
   rw [decide_eq_true (by omega),decide_eq_true (by rw [hv];exact hnm)]
  ·rw [List.take_add_one,hn] at hm
   rcases List.mem_append.1 hm with hm | hm
   ·exact hno hm
   ·have hv:v=n:=List.mem_singleton.1 hm
    rw [hv,beqS_iff.2 rfl] at he
    cases he
 ·have hje:j=xs.length:=by have:=dge hge;omega
  rw [hje,List.take_length] at hno
  refine k _ ?_
  rw [decide_eq_false (by omega),decide_eq_false hno]
theorem conS_ok {H:Hp}{s:Sl}{xs:List L8}{v:L8}(h:Rd flL 1 H s xs) (hb:xs.length≤10000000) (k:K (.bool (decide (v∈xs))) H):CallF Tryz.prog 38 #[.slice s.a s.n s.c,.string (str v)] H K Z:=by
 refine V38_ok ?_
 unfold V38
 refine ixS_ok h hb fun y hy=>⟨y,rfl,?_⟩
 rw [hy]
 exact k
end
end Go.Proofs.YtjdhjgfmloaglaaGreatDoor.C23
end
