import Derived.Test.YtjdhjgfmloaglaaGreatDoorZ11
set_option linter.unusedVariables false
set_option linter.unusedSimpArgs false
section
namespace Go.V
structure CmpLin {κ : Type}(c : κ→κ→Int):Prop where
 eq:∀ {x y},c x y=0↔x=y
 neg:∀ {x y},c x y < 0↔c y x > 0
 tr:∀ {x y z},c x y < 0→c y z < 0→c x z < 0
def Ahead {τ κ : Type}(c : κ→κ→Int) (ky : τ→κ) (tg : τ→Nat) (x y : τ):Prop:=c (ky x) (ky y) < 0∨(ky x=ky y∧tg x < tg y)
section
variable {τ κ : Type}{c : κ→κ→Int}{ky : τ→κ}{tg : τ→Nat}{x y z : τ}{X Y:List τ}{i j q:Nat}
theorem Ahead.tr (hc:CmpLin c) (h1:Ahead c ky tg x y) (h2:Ahead c ky tg y z):Ahead c ky tg x z:=by
 rcases h1 with h1 | ⟨h1,t1⟩ <;> rcases h2 with h2 | ⟨h2,t2⟩
 ·exact .inl (hc.tr h1 h2)
 ·exact .inl (h2 ▸ h1)
 ·exact .inl (h1 ▸ h2)
 ·exact .inr ⟨h1.trans h2,Nat.lt_trans t1 t2⟩
theorem Ahead.more (hc:CmpLin c) (h:tg x < tg y) (h1:¬ c (ky y) (ky x) < 0):Ahead c ky tg x y:=by
 by_cases h2:c (ky y) (ky x)=0
 ·exact .inr ⟨(hc.eq.1 h2).symm,h⟩
 ·exact .inl (hc.neg.2 (by omega))
theorem Ahead.lt_of (hc:CmpLin c) (h1:Ahead c ky tg x y) (h2:c (ky y) (ky z) < 0):c (ky x) (ky z) < 0:=by
 rcases h1 with h1 | ⟨h1,_⟩
 ·exact hc.tr h1 h2
 ·rw [h1];exact h2
theorem Ahead.lt_of' (hc:CmpLin c) (h1:Ahead c ky tg x y) (h2:c (ky z) (ky x) < 0):c (ky z) (ky y) < 0:=by
 rcases h1 with h1 | ⟨h1,_⟩
 ·exact hc.tr h2 h1
 ·rw [← h1];exact h2
abbrev Srt (c : κ→κ→Int) (ky : τ→κ) (tg : τ→Nat) (l:List τ):Prop:=l.Pairwise (Ahead c ky tg)
theorem pw_at {R : τ→τ→Prop}{l:List τ}(h:l.Pairwise R) {s t:Nat}(hs:l[s]? = some x) (ht:l[t]? = some y) (hst:s < t):R x y:=by
 obtain ⟨h1,rfl⟩:=List.getElem?_eq_some_iff.1 hs
 obtain ⟨h2,rfl⟩:=List.getElem?_eq_some_iff.1 ht
 exact List.pairwise_iff_getElem.1 h s t h1 h2 hst
theorem mem_take {l:List τ}:x∈l.take i↔∃ t,t < i∧l[t]? = some x:=by
 rw [List.mem_iff_getElem?]
 constructor
 ·rintro ⟨t,ht⟩
  rw [List.getElem?_take] at ht
  split at ht
  ·exact ⟨t,by assumption,ht⟩
  ·cases ht
 ·rintro ⟨t,h1,h2⟩
  exact ⟨t,by rw [List.getElem?_take,if_pos h1];exact h2⟩
theorem mem_drop {l:List τ}:x∈l.drop i↔∃ t,i≤t∧l[t]? = some x:=by
 rw [List.mem_iff_getElem?]
 constructor
 ·rintro ⟨t,ht⟩
  rw [List.getElem?_drop] at ht
  exact ⟨i+t,by omega,ht⟩
 ·rintro ⟨t,h1,h2⟩
  exact ⟨t - i,by rw [List.getElem?_drop,show i+(t - i)=t by omega];exact h2⟩
theorem pw_ins {R : τ→τ→Prop}{l:List τ}(h:l.Pairwise R) (h1:∀ y∈l.take q,R y x) (h2:∀ y∈l.drop q,R x y):(l.take q++x::l.drop q).Pairwise R:=by
 have h0:=h
 rw [← List.take_append_drop q l,List.pairwise_append] at h0
 rw [List.pairwise_append,List.pairwise_cons]
 refine ⟨h0.1,⟨h2,h0.2.1⟩,fun a ha b hb=>?_⟩
 rcases List.mem_cons.1 hb with rfl | hb
 ·exact h1 a ha
 ·exact h0.2.2 a ha b hb
theorem ins_low (hc:CmpLin c) (hs:Srt c ky tg Y) (ht:∀ y∈Y,tg x < tg y) (h1:∀ t y,t < q→Y[t]? = some y→c (ky y) (ky x) < 0) (h2:∀ t y,q≤t→Y[t]? = some y→¬ c (ky y) (ky x) < 0):Srt c ky tg (Y.take q++x::Y.drop q):=by
 refine pw_ins hs (fun y hy=>?_) fun y hy=>?_
 ·obtain ⟨t,a,b⟩:=mem_take.1 hy
  exact .inl (h1 t y a b)
 ·obtain ⟨t,a,b⟩:=mem_drop.1 hy
  exact Ahead.more hc (ht y (List.mem_of_getElem? b)) (h2 t y a b)
theorem ins_high (hc:CmpLin c) (hs:Srt c ky tg X) (ht:∀ x∈X,tg x < tg y) (h1:∀ t x,t < q→X[t]? = some x→¬ c (ky y) (ky x) < 0) (h2:∀ t x,q≤t→X[t]? = some x→c (ky y) (ky x) < 0):Srt c ky tg (X.take q++y::X.drop q):=by
 refine pw_ins hs (fun x hx=>?_) fun x hx=>?_
 ·obtain ⟨t,a,b⟩:=mem_take.1 hx
  exact Ahead.more hc (ht x (List.mem_of_getElem? b)) (h1 t x a b)
 ·obtain ⟨t,a,b⟩:=mem_drop.1 hx
  exact .inl (h2 t x a b)
theorem low_mono (hc:CmpLin c) (hs:Srt c ky tg Y) {s t:Nat}{u v : τ}(hu:Y[s]? = some u) (hv:Y[t]? = some v) (hst:s≤t) (h:c (ky v) (ky x) < 0):c (ky u) (ky x) < 0:=by
 rcases Nat.lt_or_eq_of_le hst with h' | rfl
 ·exact Ahead.lt_of hc (pw_at hs hu hv h') h
 ·rw [hu] at hv;cases hv;exact h
theorem high_mono (hc:CmpLin c) (hs:Srt c ky tg X) {s t:Nat}{u v : τ}(hu:X[s]? = some u) (hv:X[t]? = some v) (hst:s≤t) (h:c (ky y) (ky u) < 0):c (ky y) (ky v) < 0:=by
 rcases Nat.lt_or_eq_of_le hst with h' | rfl
 ·exact Ahead.lt_of' hc (pw_at hs hu hv h') h
 ·rw [hu] at hv;cases hv;exact h
theorem cross (hc:CmpLin c) (hX:Srt c ky tg X) (hY:Srt c ky tg Y) (ht:∀ x∈X,∀ y∈Y,tg x < tg y) (hi:i≤X.length) (hj:j≤Y.length)
  (hA:i=0∨j≥Y.length∨∀ x y,X[i - 1]? = some x→Y[j]? = some y→¬ c (ky y) (ky x) < 0)
  (hB:i≥X.length∨j=0∨∀ x y,X[i]? = some x→Y[j - 1]? = some y→c (ky y) (ky x) < 0) :
  ∀ e∈X.take i++Y.take j,∀ f∈X.drop i++Y.drop j,Ahead c ky tg e f:=by
 intro e he f hf
 rcases List.mem_append.1 he with he | he <;> rcases List.mem_append.1 hf with hf | hf
 ·obtain ⟨s,a,b⟩:=mem_take.1 he
  obtain ⟨t,a',b'⟩:=mem_drop.1 hf
  exact pw_at hX b b' (by omega)
 ·obtain ⟨s,a,b⟩:=mem_take.1 he
  obtain ⟨t,a',b'⟩:=mem_drop.1 hf
  have hsX:=(List.getElem?_eq_some_iff.1 b).1
  have htY:=(List.getElem?_eq_some_iff.1 b').1
  rcases hA with h | h | h
  ·omega
  ·omega
  ·by_cases hi1:i - 1 < X.length
   ·have h1:=h _ _ (List.getElem?_eq_getElem hi1) (List.getElem?_eq_getElem (show j < Y.length by omega))
    have h2:Ahead c ky tg (X[i - 1]'hi1) (Y[j]'(by omega)):=Ahead.more hc (ht _ (List.getElem_mem _) _ (List.getElem_mem _)) h1
    have h3:Ahead c ky tg e (Y[j]'(by omega)):=by
     rcases Nat.lt_or_eq_of_le (show s≤i - 1 by omega) with h' | h'
     ·exact Ahead.tr hc (pw_at hX b (List.getElem?_eq_getElem hi1) h') h2
     ·subst h'
      rw [List.getElem?_eq_getElem hi1] at b
      cases b
      exact h2
    rcases Nat.lt_or_eq_of_le a' with h' | h'
    ·exact Ahead.tr hc h3 (pw_at hY (List.getElem?_eq_getElem _) b' h')
    ·subst h'
     rw [List.getElem?_eq_getElem htY] at b'
     cases b'
     exact h3
   ·omega
 ·obtain ⟨s,a,b⟩:=mem_take.1 he
  obtain ⟨t,a',b'⟩:=mem_drop.1 hf
  have hsY:=(List.getElem?_eq_some_iff.1 b).1
  have htX:=(List.getElem?_eq_some_iff.1 b').1
  rcases hB with h | h | h
  ·omega
  ·omega
  ·by_cases hj1:j - 1 < Y.length
   ·have h1:=h _ _ (List.getElem?_eq_getElem (show i < X.length by omega)) (List.getElem?_eq_getElem hj1)
    have h2:Ahead c ky tg (Y[j - 1]'hj1) (X[i]'(by omega)):=.inl h1
    have h3:Ahead c ky tg e (X[i]'(by omega)):=by
     rcases Nat.lt_or_eq_of_le (show s≤j - 1 by omega) with h' | h'
     ·exact Ahead.tr hc (pw_at hY b (List.getElem?_eq_getElem hj1) h') h2
     ·subst h'
      rw [List.getElem?_eq_getElem hj1] at b
      cases b
      exact h2
    rcases Nat.lt_or_eq_of_le a' with h' | h'
    ·exact Ahead.tr hc h3 (pw_at hX (List.getElem?_eq_getElem _) b' h')
    ·subst h'
     rw [List.getElem?_eq_getElem htX] at b'
     cases b'
     exact h3
   ·omega
 ·obtain ⟨s,a,b⟩:=mem_take.1 he
  obtain ⟨t,a',b'⟩:=mem_drop.1 hf
  exact pw_at hY b b' (by omega)
theorem pw_same {R : τ→τ→Prop}(irr:∀ x,¬ R x x) (tr:∀ {x y z},R x y→R y z→R x z):∀ {a b:List τ},a.Pairwise R→b.Pairwise R→(∀ z,z∈a↔z∈b)→a=b
 | [],[],_,_,_=>rfl
 | [],y::b,_,_,h=>absurd ((h y).2 List.mem_cons_self) (by simp)
 | x::a,[],_,_,h=>absurd ((h x).1 List.mem_cons_self) (by simp)
 | x::a,y::b,ha,hb,h=>by
  rw [List.pairwise_cons] at ha hb
  have hxy:x=y:=by
   rcases List.mem_cons.1 ((h x).1 List.mem_cons_self) with e | hx
   ·exact e
   ·rcases List.mem_cons.1 ((h y).2 List.mem_cons_self) with e | hy
    ·exact e.symm
    ·exact absurd (tr (ha.1 y hy) (hb.1 x hx)) (irr x)
  subst hxy
  rw [pw_same irr tr ha.2 hb.2 fun z=>⟨fun hz=>?_,fun hz=>?_⟩]
  ·rcases List.mem_cons.1 ((h z).1 (List.mem_cons_of_mem _ hz)) with e | hz'
   ·exact absurd (e ▸ ha.1 z hz) (irr x)
   ·exact hz'
  ·rcases List.mem_cons.1 ((h z).2 (List.mem_cons_of_mem _ hz)) with e | hz'
   ·exact absurd (e ▸ hb.1 z hz) (irr x)
   ·exact hz'
theorem set_at {A B:List τ}(h:i=A.length):(A++x::B).set i y=A++y::B:=by subst h;simp
end
end Go.V
namespace Go.V
attribute [local irreducible] Cvt ExtF CallF hrun
section
variable {τ : Type}{fl : τ→List Value}{sz:Nat}
theorem setsL_take:∀ (vs cs:List Value) (o N:Nat),(setsL cs o vs).take N=setsL (cs.take N) o vs
 | [],cs,o,N=>rfl
 | v::vs,cs,o,N=>by rw [setsL,setsL,setsL_take vs,List.take_set]
theorem flat_setL {l:List τ}{i:Nat}{x y : τ}(hf:Fl fl sz) (hx:l[i]? = some x):setsL (flat fl l) (i*sz) (fl y)=flat fl (l.set i y):=by
 obtain ⟨hi,rfl⟩:=List.getElem?_eq_some_iff.1 hx
 have hl:=flat_len hf l
 have hy:=hf.len y
 have hb:(i+1)*sz≤l.length*sz:=Nat.mul_le_mul_right _ hi
 rw [Nat.succ_mul] at hb
 rw [setsL_eq _ _ _ (by omega),hy,show i*sz+sz=(i+1)*sz from (Nat.succ_mul i sz).symm,flat_take hf,flat_drop hf,List.set_eq_take_append_cons_drop,if_pos hi,flat_app]
 show _=_++(fl y++flat fl _)
 rw [List.append_assoc]
variable {H0 H H':Hp}{S:Nat→Prop}{L:List It}{E:TypeId}{s:Sl}{l:List τ}
theorem Sym.stw {k i:Nat}{x y : τ}{K:Hp→Prop}(h:Sym H0 S H L) (hf:Fl fl sz) (hsz:0 < sz) (hk:L[k]? = some (arr fl E sz s l)) (hx:l[i]? = some x)
  (kk:∀ H',Sym H0 S H' (L.set k (arr fl E sz s (l.set i y)))→K H'):IxA s.a s.n (i:Int) sz fun ad=>StL ad 0 (fl y) H K:=by
 have hok:RowN fl E sz H s l:=h.get hk
 have hi:=(List.getElem?_eq_some_iff.1 hx).1
 have hn:=hok.len hf hsz
 obtain ⟨g,hg⟩:=hok.row.some (by omega)
 rcases hok.row.2 with ⟨ha,_⟩ | ⟨g',cs,fr,ha,hb,h1,h2,h3,h4⟩
 ·rw [hg] at ha;cases ha
 rw [hg] at ha
 cases ha
 refine ⟨_,hg,⟨by omega,by omega⟩,?_⟩
 show StL ((⟨g,0,none⟩:Addr).add ((i:Int).toNat*sz)) 0 (fl y) H K
 rw [add_mk,Nat.zero_add,Int.toNat_natCast]
 have hlen:=flat_len hf l
 have hy:=hf.len y
 have hb1:(i+1)*sz≤l.length*sz:=Nat.mul_le_mul_right _ hi
 rw [Nat.succ_mul] at hb1
 have hc1:l.length*sz≤cs.length:=by rw [h2,← hn];exact Nat.mul_le_mul_right _ h1
 have hfr:fr=(0,0):=by
  obtain ⟨cs',T',hb'⟩:=hok.nf g 0 hg
  rw [hb] at hb'
  simp only [Option.some.injEq,Obj.cells.injEq] at hb'
  exact hb'.2.2
 subst hfr
 refine stL_cells (o:=i*sz) (fl y) 0 hb (by rw [hy];omega) (fun v hv=>hf.one y v hv) (.inr (Nat.le_refl _)) fun H' g1 g2 g3=>kk H' (h.setk hk (g2.mono fun q _ e=>⟨0,by rw [e];exact hg⟩) ⟨⟨?_,.inr ⟨g,_,(0,0),hg,g1,h1,?_,?_,Nat.zero_le _⟩⟩,?_⟩ fun q hq=>.inl hq)
 ·rw [flat_len hf,List.length_set,hn]
 ·rw [setsL_length]
  exact h2
 ·rw [← flat_setL hf hx,← h3,Nat.add_zero]
  exact setsL_take _ _ _ _
 ·intro g' o' e
  rw [hg] at e
  simp only [Option.some.injEq,Addr.mk.injEq] at e
  exact ⟨_,_,by rw [← e.1];exact g1⟩
section
variable {P M W:List τ}{x y : τ}
theorem swA1:(P++x::(M++y::W))[P.length]? = some x:=by simp
theorem swA2:(P++x::(M++y::W))[P.length+1+M.length]? = some y:=by
 rw [List.getElem?_append_right (by omega),show P.length+1+M.length - P.length=M.length+1 by omega,List.getElem?_cons_succ,List.getElem?_append_right (Nat.le_refl _)]
 simp
theorem swS1 {z : τ}:(P++x::(M++y::W)).set P.length z=P++z::(M++y::W):=set_at rfl
theorem swS2 {z : τ}:(P++x::(M++y::W)).set (P.length+1+M.length) z=P++x::(M++z::W):=by
 have e:∀ w : τ,P++x::(M++w::W)=(P++x::M)++w::W:=fun w=>by simp
 rw [e,e,set_at]
 simp
 omega
theorem Sym.swp {i j:Nat}{K:Hp→Prop}(h:Sym H0 S H (arr fl E sz s (P++x::(M++y::W))::L)) (hf:Fl fl sz) (hsz:0 < sz) (hi:i=P.length) (hj:j=P.length+1+M.length)
  (kk:∀ H',Sym H0 S H' (arr fl E sz s (P++y::(M++x::W))::L)→K H'):IxA s.a s.n (i:Int) sz fun ad=>StL ad 0 (fl y) H fun H2=>IxA s.a s.n (j:Int) sz fun ad3=>StL ad3 0 (fl x) H2 K:=by
 subst hi
 subst hj
 refine h.stw (k:=0) hf hsz rfl swA1 fun A sA=>?_
 rw [List.set_cons_zero,swS1] at sA
 refine sA.stw (k:=0) hf hsz rfl swA2 fun B sB=>kk B ?_
 rw [List.set_cons_zero,swS2] at sB
 exact sB
theorem Sym.swp' {i j:Nat}{K:Hp→Prop}(h:Sym H0 S H (arr fl E sz s (P++x::(M++y::W))::L)) (hf:Fl fl sz) (hsz:0 < sz) (hi:i=P.length) (hj:j=P.length+1+M.length)
  (kk:∀ H',Sym H0 S H' (arr fl E sz s (P++y::(M++x::W))::L)→K H'):IxA s.a s.n (j:Int) sz fun ad=>StL ad 0 (fl x) H fun H2=>IxA s.a s.n (i:Int) sz fun ad3=>StL ad3 0 (fl y) H2 K:=by
 subst hi
 subst hj
 refine h.stw (k:=0) hf hsz rfl swA2 fun A sA=>?_
 rw [List.set_cons_zero,swS2] at sA
 refine sA.stw (k:=0) hf hsz rfl swA1 fun B sB=>kk B ?_
 rw [List.set_cons_zero,swS1] at sB
 exact sB
end
theorem wn {x:Int}{n:Nat}(h:x=(n:Int)) (hn:n≤1000000000000):w64 x=(n:Int):=by rw [wid (by omega) (by omega)];exact h
theorem half {x:Int}{n:Nat}(h:x=(n:Int)) (hn:n≤1000000000000):w64 (Int.fdiv (IntKind.wrap .u64 (w64 x)) (2 ^ 1))=((n / 2:Nat):Int):=by
 rw [wn h hn]
 have e:IntKind.wrap .u64 (n:Int)=(n:Int):=by
  unfold IntKind.wrap
  simp [IntKind.signed,IntKind.bits]
  omega
 rw [e,Int.fdiv_eq_ediv_of_nonneg _ (by decide)]
 refine wn ?_ (by omega)
 omega
section
variable {P:List τ→Prop}{k:Nat}
inductive Full (P:List τ→Prop) (k:Nat):List τ→List τ→Prop
 | nil:Full P k [] []
 | snoc {A O B O1:List τ}:Full P k A O→B.length=k→B.Perm O1→P B→Full P k (A++B) (O++O1)
inductive Blocks (P:List τ→Prop) (k:Nat):List τ→List τ→Prop
 | last {T O:List τ}:T.length≤k→T.Perm O→P T→Blocks P k T O
 | more {B O1 T O:List τ}:B.length=k→B.Perm O1→P B→Blocks P k T O→Blocks P k (B++T) (O1++O)
theorem Full.len {A O:List τ}(h:Full P k A O):A.Perm O:=by
 induction h with
 | nil=>exact List.Perm.refl _
 | snoc _ _ hp _ ih=>exact ih.append hp
theorem Blocks.perm {A O:List τ}(h:Blocks P k A O):A.Perm O:=by
 induction h with
 | last _ hp _=>exact hp
 | more _ hp _ _ ih=>exact hp.append ih
theorem Full.blocks {A O:List τ}(h:Full P k A O):∀ {T O2:List τ},Blocks P k T O2→Blocks P k (A++T) (O++O2):=by
 induction h with
 | nil=>exact fun h=>h
 | snoc _ hl hp hs ih=>
  intro T O2 ht
  rw [List.append_assoc,List.append_assoc]
  exact ih (.more hl hp hs ht)
theorem Blocks.one {T O:List τ}(h:Blocks P k T O) (hl:T.length≤k) (hk:0 < k):T.Perm O∧P T:=by
 cases h with
 | last _ hp hs=>exact ⟨hp,hs⟩
 | more hb hp hs ht=>
  rename_i B O1 T O
  rw [List.length_append] at hl
  have hT:T = []:=List.eq_nil_of_length_eq_zero (by omega)
  subst hT
  have hO:O = []:=by have:=ht.perm;exact List.nil_perm.1 this
  subst hO
  rw [List.append_nil,List.append_nil]
  exact ⟨hp,hs⟩
theorem Blocks.cons {T O:List τ}(h:Blocks P k T O) (hl:k < T.length):∃ B O1 T' O',T=B++T'∧O=O1++O'∧B.length=k∧B.Perm O1∧P B∧Blocks P k T' O':=by
 cases h with
 | last h1 _ _=>omega
 | more hb hp hs ht=>exact ⟨_,_,_,_,rfl,rfl,hb,hp,hs,ht⟩
theorem Blocks.head {T O:List τ}(h:Blocks P k T O) (h0:P []) (hl:T.length=k):∃ B O1 T' O',T=B++T'∧O=O1++O'∧B.length=k∧B.Perm O1∧P B∧Blocks P k T' O':=by
 cases h with
 | last h1 hp hs=>exact ⟨T,O,[],[],by simp,by simp,hl,hp,hs,.last (by simp) (List.Perm.refl _) h0⟩
 | more hb hp hs ht=>exact ⟨_,_,_,_,rfl,rfl,hb,hp,hs,ht⟩
theorem Blocks.front {T O:List τ}(h:Blocks P k T O) (h0:P []) (hl:k≤T.length):∃ B O1 T' O',T=B++T'∧O=O1++O'∧B.length=k∧B.Perm O1∧P B∧Blocks P k T' O':=by
 rcases Nat.lt_or_eq_of_le hl with h' | h'
 ·exact h.cons h'
 ·exact h.head h0 h'.symm
end
end
end Go.V
end
section
namespace Go.Proofs.YtjdhjgfmloaglaaGreatDoor.P15
open Go Go.V
theorem linN:CmpLin cmpN:=by
 refine ⟨fun {x y}=>?_,fun {x y}=>?_,fun {x y z} h1 h2=>?_⟩
 ·unfold cmpN;split
  ·simp;omega
  ·split <;> simp <;> omega
 ·unfold cmpN;split <;> split <;> (try split) <;> omega
 ·unfold cmpN at *
  by_cases a:x < y
  ·by_cases b:y < z
   ·rw [if_pos (by omega)];omega
   ·rw [if_neg b] at h2;split at h2 <;> omega
  ·rw [if_neg a] at h1;split at h1 <;> omega
theorem cmpL_neg {a b:L8}:cmpL a b < 0↔ltL a b=true:=by
 unfold cmpL
 cases ltL a b
 ·simp only [Bool.false_eq_true,if_false,iff_false]
  split <;> omega
 ·simp
theorem cmpL_pos {a b:L8}:cmpL a b > 0↔ltL b a=true:=by
 unfold cmpL
 cases h:ltL a b
 ·simp only [Bool.false_eq_true,if_false]
  cases ltL b a <;> simp
 ·simp only [if_true]
  constructor
  ·intro h;omega
  ·intro h2
   have:=linL.tr _ _ _ h h2
   rw [linL.irr] at this
   cases this
theorem cmpL_0 {a b:L8}:cmpL a b=0↔a=b:=by
 constructor
 ·intro h
  rcases linL.tot a b with h1 | h1 | h1
  ·have:=cmpL_neg.2 h1;omega
  ·exact h1
  ·have:=cmpL_pos.2 h1;omega
 ·rintro rfl;exact cmpL_self a
theorem linCL:CmpLin cmpL:=⟨cmpL_0,cmpL_neg.trans cmpL_pos.symm,fun h1 h2=>cmpL_neg.2 (linL.tr _ _ _ (cmpL_neg.1 h1) (cmpL_neg.1 h2))⟩
theorem orI_neg {a b:Int}:orI a b < 0↔a < 0∨(a=0∧b < 0):=by unfold orI;split <;> omega
theorem orI_pos {a b:Int}:orI a b > 0↔a > 0∨(a=0∧b > 0):=by unfold orI;split <;> omega
theorem orI_zero {a b:Int}:orI a b=0↔a=0∧b=0:=by unfold orI;split <;> omega
theorem lin_lex {α β : Type}{c : α→α→Int}{d : β→β→Int}(hc:CmpLin c) (hd:CmpLin d):CmpLin fun (p q : α × β)=>orI (c p.1 q.1) (d p.2 q.2):=by
 refine ⟨fun {x y}=>?_,fun {x y}=>?_,fun {x y z} h1 h2=>?_⟩
 ·rw [orI_zero,hc.eq,hd.eq]
  exact ⟨fun h=>Prod.ext h.1 h.2,fun h=>by rw [h];exact ⟨rfl,rfl⟩⟩
 ·rw [orI_neg,orI_pos,hc.neg,hd.neg,hc.eq,hc.eq]
  exact ⟨fun h=>h.imp id fun h=>⟨h.1.symm,h.2⟩,fun h=>h.imp id fun h=>⟨h.1.symm,h.2⟩⟩
 ·rw [orI_neg] at *
  rcases h1 with h1 | ⟨h1,h1'⟩ <;> rcases h2 with h2 | ⟨h2,h2'⟩
  ·exact .inl (hc.tr h1 h2)
  ·exact .inl (hc.eq.1 h2 ▸ h1)
  ·exact .inl ((hc.eq.1 h1).symm ▸ h2)
  ·exact .inr ⟨hc.eq.2 ((hc.eq.1 h1).trans (hc.eq.1 h2)),hd.tr h1' h2'⟩
theorem lin_by {α β : Type}{c : α→α→Int}(hc:CmpLin c) {f : β→α}(hf:∀ x y,f x=f y→x=y):CmpLin fun x y=>c (f x) (f y):=
 ⟨fun {x y}=>hc.eq.trans ⟨hf x y,fun h=>by rw [h]⟩,hc.neg,hc.tr⟩
theorem cmpA_cons {a b:L8}{x y:List L8}:cmpA (a::x) (b::y)=orI (cmpL a b) (cmpA x y):=rfl
theorem cmpA_0:∀ {x y:List L8},cmpA x y=0↔x=y
 | [],[]=>by simp [cmpA]
 | [],_::_=>by simp [cmpA]
 | _::_,[]=>by simp [cmpA]
 | a::x,b::y=>by rw [cmpA_cons,orI_zero,cmpL_0,cmpA_0,List.cons.injEq]
theorem cmpA_neg:∀ {x y:List L8},cmpA x y < 0↔cmpA y x > 0
 | [],[]=>by simp [cmpA]
 | [],_::_=>by simp [cmpA]
 | _::_,[]=>by simp [cmpA]
 | a::x,b::y=>by
  rw [cmpA_cons,cmpA_cons,orI_neg,orI_pos,linCL.neg,cmpA_neg,cmpL_0,cmpL_0]
  exact ⟨fun h=>h.imp id fun h=>⟨h.1.symm,h.2⟩,fun h=>h.imp id fun h=>⟨h.1.symm,h.2⟩⟩
theorem cmpA_tr:∀ {x y z:List L8},cmpA x y < 0→cmpA y z < 0→cmpA x z < 0
 | [],[],_,h,_=>by simp [cmpA] at h
 | _,_::_,[],_,h=>by simp [cmpA] at h
 | _::_,[],_,h,_=>by simp [cmpA] at h
 | [],_::_,_::_,_,_=>by simp [cmpA]
 | a::x,b::y,d::z,h1,h2=>by
  rw [cmpA_cons,orI_neg] at *
  rcases h1 with h1 | ⟨h1,h1'⟩ <;> rcases h2 with h2 | ⟨h2,h2'⟩
  ·exact .inl (linCL.tr h1 h2)
  ·exact .inl (cmpL_0.1 h2 ▸ h1)
  ·exact .inl ((cmpL_0.1 h1).symm ▸ h2)
  ·exact .inr ⟨cmpL_0.2 ((cmpL_0.1 h1).trans (cmpL_0.1 h2)),cmpA_tr h1' h2'⟩
theorem linA:CmpLin cmpA:=⟨cmpA_0,cmpA_neg,cmpA_tr⟩
theorem linC:CmpLin cmpC:=
 lin_by (lin_lex linN (lin_lex linCL (lin_lex linCL (lin_lex linN (lin_lex linCL linA))))) (f:=fun (c:ConD)=>(c.op,c.a,c.b,c.k,c.tag,c.args)) (by
  intro x y h
  cases x;cases y
  simp only [Prod.mk.injEq] at h
  obtain ⟨rfl,rfl,rfl,rfl,rfl,rfl⟩:=h
  rfl)
end Go.Proofs.YtjdhjgfmloaglaaGreatDoor.P15
namespace Go.Proofs.YtjdhjgfmloaglaaGreatDoor.P15
open Go Go.V
section
variable {χ κ : Type} [DecidableEq χ] {c : κ→κ→Int}{ky : χ→κ}{l l' a b acc p:List χ}{o : χ}
def Bef (c : κ→κ→Int) (ky : χ→κ) (l:List χ) (x y : χ):Prop:=c (ky x) (ky y) < 0∨(ky x=ky y∧l.idxOf x < l.idxOf y)
structure IsCan (c : κ→κ→Int) (ky : χ→κ) (l out:List χ):Prop where
 srt:out.Pairwise (Bef c ky l)
 mem:∀ z,z∈out↔z∈l
theorem Bef.irr (hc:CmpLin c) (x : χ):¬ Bef c ky l x x:=by
 rintro (h | ⟨_,h⟩)
 ·rw [hc.eq.2 rfl] at h;omega
 ·omega
theorem Bef.tr (hc:CmpLin c) {x y z : χ}(h1:Bef c ky l x y) (h2:Bef c ky l y z):Bef c ky l x z:=by
 rcases h1 with h1 | ⟨h1,t1⟩ <;> rcases h2 with h2 | ⟨h2,t2⟩
 ·exact .inl (hc.tr h1 h2)
 ·exact .inl (h2 ▸ h1)
 ·exact .inl (h1 ▸ h2)
 ·exact .inr ⟨h1.trans h2,Nat.lt_trans t1 t2⟩
theorem IsCan.uniq (hc:CmpLin c) (h1:IsCan c ky l a) (h2:IsCan c ky l b):a=b:=pw_same (Bef.irr hc) (Bef.tr hc) h1.srt h2.srt fun z=>(h1.mem z).trans (h2.mem z).symm
theorem IsCan.nodup (hc:CmpLin c) (h:IsCan c ky l a):a.Nodup:=h.srt.imp fun hxy e=>by subst e;exact Bef.irr hc _ hxy
theorem IsCan.len (hc:CmpLin c) (h:IsCan c ky l a):a.length≤l.length:=subset_len (h.nodup hc) fun z hz=>(h.mem z).1 hz
theorem IsCan.nil:IsCan c ky ([]:List χ) []:=⟨List.Pairwise.nil,fun _=>Iff.rfl⟩
theorem idx_at {l:List χ}(hn:l.Nodup) {i:Nat}{x : χ}(h:l[i]? = some x):l.idxOf x=i:=by
 obtain ⟨hi,rfl⟩:=List.getElem?_eq_some_iff.1 h
 exact hn.idxOf_getElem i hi
def OneK (ky : χ→κ) (l:List χ):Prop:=∀ x∈l,∀ y∈l,ky x=ky y→x=y
theorem IsCan.rising (hc:CmpLin c) (hk:OneK ky l) (h:IsCan c ky l a):a.Pairwise fun x y=>c (ky x) (ky y) < 0:=by
 refine List.Pairwise.imp_of_mem (fun {x y} hx hy hxy=>?_) h.srt
 rcases hxy with hxy | ⟨e,t⟩
 ·exact hxy
 ·have:=hk x ((h.mem x).1 hx) y ((h.mem y).1 hy) e
  subst this
  omega
theorem IsCan.of_rising (h1:a.Pairwise fun x y=>c (ky x) (ky y) < 0) (hm:∀ z,z∈a↔z∈l):IsCan c ky l a:=⟨h1.imp fun h=>.inl h,hm⟩
structure Dd (c : κ→κ→Int) (ky : χ→κ) (l pre out:List χ) (first:Nat):Prop where
 srt:out.Pairwise (Bef c ky l)
 mem:∀ z,z∈out↔z∈pre
 le:first≤out.length
 last:∀ x,out.getLast? = some x→(∀ y∈out.drop first,ky y=ky x)∧∀ y∈out.take first,c (ky y) (ky x) < 0
theorem Dd.start (l:List χ):Dd c ky l [] [] 0:=⟨List.Pairwise.nil,fun _=>Iff.rfl,Nat.le_refl _,by simp⟩
def firstD (c : κ→κ→Int) (ky : χ→κ) (out:List χ) (first:Nat) (x : χ):Nat:=match out.getLast? with
 | some z=>if c (ky z) (ky x)≠0 then out.length else first
 | none=>first
omit [DecidableEq χ] in
theorem mem_cut {x : χ}{n:Nat}{l:List χ}:x∈l↔x∈l.take n∨x∈l.drop n:=by
 conv=>lhs;rw [← List.take_append_drop n l]
 exact List.mem_append
theorem Dd.step {pre out:List χ}{first:Nat}{x : χ}(hc:CmpLin c) (h:Dd c ky l pre out first) (hge:∀ y∈pre,c (ky y) (ky x)≤0) (hnew:x∉pre→∀ y∈pre,ky y=ky x→l.idxOf y < l.idxOf x) :
  Dd c ky l (pre ++ [x]) (if x∈out.drop (firstD c ky out first x) then out else out ++ [x]) (firstD c ky out first x):=by
 have hmem:∀ {o2:List χ},(∀ z,z∈o2↔z∈out∨z=x)→∀ z,z∈o2↔z∈pre ++ [x]:=fun h2 z=>by rw [h2,h.mem,List.mem_append,List.mem_singleton]
 have happ:∀ z,z∈out ++ [x]↔z∈out∨z=x:=fun z=>by rw [List.mem_append,List.mem_singleton]
 have hsrt:(∀ y∈out,Bef c ky l y x)→(out ++ [x]).Pairwise (Bef c ky l):=fun h2=>by
  rw [List.pairwise_append]
  exact ⟨h.srt,List.pairwise_singleton _ _,fun y hy z hz=>by rw [List.mem_singleton.1 hz];exact h2 y hy⟩
 unfold firstD
 cases hl:out.getLast? with
 | none=>
  have ho:out = []:=by simpa using hl
  subst ho
  have hf:first=0:=by have:=h.le;simpa using this
  subst hf
  simp only [List.drop_nil,List.not_mem_nil,if_false]
  refine ⟨hsrt (by simp),hmem happ,Nat.zero_le _,fun z hz=>?_⟩
  have:z=x:=by simpa using hz.symm
  subst this
  simp
 | some z=>
  obtain ⟨h1,h2⟩:=h.last z hl
  have hzo:z∈out:=List.mem_of_getLast? hl
  have hzp:c (ky z) (ky x)≤0:=hge z ((h.mem z).1 hzo)
  by_cases h0:c (ky z) (ky x)=0
  ·have ek:=hc.eq.1 h0
   simp only [h0,ne_eq,not_true_eq_false,if_false]
   by_cases hx:x∈out.drop first
   ·rw [if_pos hx]
    have hxo:x∈out:=mem_cut.2 (.inr hx)
    refine ⟨h.srt,hmem fun w=>⟨.inl,fun hw=>hw.elim id fun e=>e ▸ hxo⟩,h.le,h.last⟩
   ·rw [if_neg hx]
    have hxo:x∉out:=fun hm=>(mem_cut.1 hm).elim (fun ht=>by have:=h2 x ht;rw [ek,hc.eq.2 rfl] at this;omega) hx
    have hxp:x∉pre:=fun hp=>hxo ((h.mem x).2 hp)
    refine ⟨hsrt fun y hy=>?_,hmem happ,by rw [List.length_append];have:=h.le;omega,fun w hw=>?_⟩
    ·rcases mem_cut.1 hy with ht | ht
     ·exact .inl (ek ▸ h2 y ht)
     ·exact .inr ⟨(h1 y ht).trans ek,hnew hxp y ((h.mem y).1 hy) ((h1 y ht).trans ek)⟩
    ·have:w=x:=by simpa using hw.symm
     subst this
     have hle:=h.le
     refine ⟨fun y hy=>?_,fun y hy=>?_⟩
     ·rw [List.drop_append_of_le_length hle,List.mem_append,List.mem_singleton] at hy
      rcases hy with hy | rfl
      ·exact (h1 y hy).trans ek
      ·rfl
     ·rw [List.take_append_of_le_length hle] at hy
      exact ek ▸ h2 y hy
  ·have hlt:c (ky z) (ky x) < 0:=by omega
   simp only [ne_eq,h0,not_false_eq_true,if_true,List.drop_length,List.not_mem_nil,if_false]
   have hall:∀ y∈out,c (ky y) (ky x) < 0:=fun y hy=>by
    rcases mem_cut.1 hy with ht | ht
    ·exact hc.tr (h2 y ht) hlt
    ·rw [h1 y ht];exact hlt
   refine ⟨hsrt fun y hy=>.inl (hall y hy),hmem happ,by rw [List.length_append];omega,fun w hw=>?_⟩
   have:w=x:=by simpa using hw.symm
   subst this
   refine ⟨fun y hy=>?_,fun y hy=>?_⟩
   ·rw [List.drop_append_of_le_length (Nat.le_refl _),List.drop_length] at hy
    have:y=w:=by simpa using hy
    rw [this]
   ·rw [List.take_append_of_le_length (Nat.le_refl _),List.take_length] at hy
    exact hall y hy
theorem Dd.done {pre out:List χ}{first:Nat}(h:Dd c ky l pre out first) (hm:∀ z,z∈pre↔z∈l):IsCan c ky l out:=⟨h.srt,fun z=>(h.mem z).trans (hm z)⟩
theorem stable_next {T:List (χ × Nat)}{j:Nat}{x : χ}{t:Nat}(hc:CmpLin c) (hp:T.Perm l.zipIdx) (hs:Srt c (fun q=>ky q.1) (·.2) T) (hx:T[j]? = some (x,t)) :
  (∀ y∈(T.take j).map (·.1),c (ky y) (ky x)≤0)∧(x∉(T.take j).map (·.1)→∀ y∈(T.take j).map (·.1),ky y=ky x→l.idxOf y < l.idxOf x):=by
 have at':∀ {q : χ × Nat},q∈T.take j→Ahead c (fun q=>ky q.1) (·.2) q (x,t):=fun hq=>by
  obtain ⟨s,h1,h2⟩:=mem_take.1 hq
  exact pw_at hs h2 hx h1
 refine ⟨fun y hy=>?_,fun hn y hy e=>?_⟩
 ·obtain ⟨q,hq,rfl⟩:=List.mem_map.1 hy
  rcases at' hq with h | ⟨h,_⟩
  ·exact Int.le_of_lt h
  ·have h:ky q.1=ky x:=h
   rw [h,hc.eq.2 rfl];decide
 ·have hxt:(x,t)∈l.zipIdx:=hp.subset (List.mem_of_getElem? hx)
  have hlx:l[t]? = some x:=List.mk_mem_zipIdx_iff_getElem?.1 hxt
  have htl:=(List.getElem?_eq_some_iff.1 hlx).1
  have hxl:x∈l:=List.mem_of_getElem? hlx
  -- the first meeting of x is its place here
  have hi:l.idxOf x=t:=by
   have h1:l.idxOf x < l.length:=List.idxOf_lt_length_of_mem hxl
   have h2:l[l.idxOf x]? = some x:=by rw [List.getElem?_eq_getElem h1,List.getElem_idxOf h1]
   have hle:l.idxOf x≤t:=by
    rcases Nat.lt_or_ge t (l.idxOf x) with h | h
    ·exfalso
     have:=List.not_of_lt_findIdx (p:=fun y=>y == x) (xs:=l) (i:=t) h
     obtain ⟨_,e⟩:=List.getElem?_eq_some_iff.1 hlx
     rw [e] at this
     simp at this
    ·exact h
   rcases Nat.lt_or_eq_of_le hle with h | h
   ·exfalso
    have hm:(x,l.idxOf x)∈T:=hp.symm.subset (List.mk_mem_zipIdx_iff_getElem?.2 h2)
    obtain ⟨s,hs'⟩:=List.mem_iff_getElem?.1 hm
    rcases Nat.lt_trichotomy s j with h3 | h3 | h3
    ·exact hn (List.mem_map.2 ⟨_,mem_take.2 ⟨s,h3,hs'⟩,rfl⟩)
    ·subst h3
     rw [hx] at hs'
     have:=congrArg Prod.snd (Option.some_inj.1 hs')
     simp only at this
     omega
    ·rcases pw_at hs hx hs' h3 with h4 | ⟨_,h4⟩
     ·have h4:c (ky x) (ky x) < 0:=h4
      rw [hc.eq.2 rfl] at h4;omega
     ·have h4:t < l.idxOf x:=h4
      omega
   ·exact h
  obtain ⟨q,hq,rfl⟩:=List.mem_map.1 hy
  rcases at' hq with h | ⟨_,h⟩
  ·have h:c (ky q.1) (ky x) < 0:=h
   rw [e,hc.eq.2 rfl] at h;omega
  ·have h:q.2 < t:=h
   have hq':l[q.2]? = some q.1:=List.mk_mem_zipIdx_iff_getElem?.1 (hp.subset (List.mem_of_mem_take hq))
   have:l.idxOf q.1≤q.2:=by
    rcases Nat.lt_or_ge q.2 (l.idxOf q.1) with h5 | h5
    ·exfalso
     have:=List.not_of_lt_findIdx (p:=fun y=>y == q.1) (xs:=l) (i:=q.2) h5
     obtain ⟨_,e⟩:=List.getElem?_eq_some_iff.1 hq'
     rw [e] at this
     simp at this
    ·exact h5
   omega
end
structure IsCanS (s t:SysD):Prop where
 o:IsCan cmpL ObjD.name s.objs t.objs
 f:IsCan cmpL FnD.name s.fns t.fns
 c:IsCan cmpC (fun x=>x) s.cons t.cons
def once (t:SysD):Prop:=t.objs.Pairwise (fun x y=>cmpO x y < 0)∧t.fns.Pairwise (fun x y=>cmpF x y < 0)
structure OkPart (s:SysD):Prop where
 o:∀ o∈s.objs,objE o=0
 f:∀ f∈s.fns,fnE f=0
 c:∀ c∈s.cons,conE c=0
def bigS (s:SysD):Prop:=s.objs.length > 600∨s.fns.length > 600∨s.cons.length > 6000
instance (s:SysD):Decidable (bigS s):=by unfold bigS;infer_instance
theorem eachE_cons {α : Type}{ask : α→Int}{cmp : α→α→Int}{p:Option α}{x : α}{l:List α}:eachE ask cmp p (x::l)=if ask x≠0 then ask x else if (match p with | some q=>decide (cmp q x≥0) | none=>false) then 13 else eachE ask cmp (some x) l:=rfl
theorem each_rise {α : Type}{ask : α→Int}{cmp : α→α→Int}(tr:∀ x y z,cmp x y < 0→cmp y z < 0→cmp x z < 0):∀ {l:List α}{p:Option α},eachE ask cmp p l=0↔(∀ x∈l,ask x=0)∧(p.toList++l).Pairwise (fun x y=>cmp x y < 0)
 | [],none=>by simp [eachE]
 | [],some q=>by simp [eachE]
 | x::l,none=>by
  rw [eachE_cons]
  by_cases h:ask x=0
  ·rw [if_neg (fun h'=>h' h),if_neg (show ¬ (false=true) by decide),each_rise tr]
   simp [h]
  ·rw [if_pos h]
   simp [h]
 | x::l,some q=>by
  rw [eachE_cons]
  by_cases h:ask x=0
  ·rw [if_neg (fun h'=>h' h)]
   by_cases h2:cmp q x≥0
   ·rw [if_pos (decide_eq_true h2)]
    simp only [Option.toList_some,List.cons_append,List.nil_append,List.pairwise_cons]
    constructor
    ·intro e;cases e
    ·rintro ⟨_,e,_⟩
     have:=e x List.mem_cons_self
     omega
   ·rw [if_neg (fun h3=>h2 (of_decide_eq_true h3)),each_rise tr]
    simp only [Option.toList_some,List.cons_append,List.nil_append,List.pairwise_cons,List.forall_mem_cons]
    exact ⟨fun ⟨a,b,d⟩=>⟨⟨h,a⟩,⟨by omega,fun y hy=>tr _ _ _ (by omega) (b y hy)⟩,b,d⟩,fun ⟨⟨_,a⟩,_,b,d⟩=>⟨a,b,d⟩⟩
  ·rw [if_pos h]
   simp [h]
theorem trO (x y z:ObjD):cmpO x y < 0→cmpO y z < 0→cmpO x z < 0:=linCL.tr
theorem trF (x y z:FnD):cmpF x y < 0→cmpF y z < 0→cmpF x z < 0:=linCL.tr
theorem trC (x y z:ConD):cmpC x y < 0→cmpC y z < 0→cmpC x z < 0:=linC.tr
theorem checkE_0 {s:SysD}:checkE s=0↔¬ bigS s∧OkPart s∧once s∧s.cons.Pairwise (fun x y=>cmpC x y < 0):=by
 unfold checkE
 by_cases h0:s.objs.length > 600∨s.fns.length > 600∨s.cons.length > 6000
 ·rw [if_pos h0]
  exact ⟨fun h=>(by cases h),fun h=>absurd h0 h.1⟩
 ·rw [if_neg h0]
  by_cases h1:eachE objE cmpO none s.objs=0
  ·rw [if_neg (fun h=>h h1)]
   by_cases h2:eachE fnE cmpF none s.fns=0
   ·rw [if_neg (fun h=>h h2)]
    have r1:=(each_rise trO).1 h1
    have r2:=(each_rise trF).1 h2
    rw [each_rise trC]
    exact ⟨fun h=>⟨h0,⟨r1.1,r2.1,h.1⟩,⟨r1.2,r2.2⟩,h.2⟩,fun h=>⟨h.2.1.c,h.2.2.2⟩⟩
   ·rw [if_pos h2]
    exact ⟨fun h=>absurd h h2,fun h=>absurd ((each_rise trF (p:=none)).2 ⟨h.2.1.f,h.2.2.1.2⟩) h2⟩
  ·rw [if_pos h1]
   exact ⟨fun h=>absurd h h1,fun h=>absurd ((each_rise trO (p:=none)).2 ⟨h.2.1.o,h.2.2.1.1⟩) h1⟩
theorem oneK_c (l:List ConD):OneK (fun x:ConD=>x) l:=fun _ _ _ _ e=>e
end Go.Proofs.YtjdhjgfmloaglaaGreatDoor.P15
end
section
namespace Go.Proofs.YtjdhjgfmloaglaaGreatDoor.P21
open Go Go.V P14 C14 P15
abbrev Swp:=L8 × L8
structure Sw (sw:List Swp) (N:L8→L8) (rk:L8→Nat):Prop where
 srt:sw.Pairwise fun x y=>ltL x.1 y.1=true
 val:∀ x∈sw,N x.1=N x.2∧rk x.2 < rk x.1
 fix:∀ z,(∀ x∈sw,x.1≠z)→N z=z
section
variable {sw:List Swp}{N:L8→L8}{rk:L8→Nat}
theorem Sw.nil:Sw [] (fun z=>z) fun _=>0:=⟨List.Pairwise.nil,by simp,fun _ _=>rfl⟩
theorem Sw.root (h:Sw sw N rk):∀ (k:Nat) (z:L8),rk z≤k→∀ x∈sw,x.1≠N z:=by
 intro k
 induction k with
 | zero=>
  intro z hz x hx e
  by_cases hd:∃ y∈sw,y.1=z
  ·obtain ⟨y,hy,rfl⟩:=hd
   have:=(h.val y hy).2
   omega
  ·have hf:=h.fix z fun y hy e=>hd ⟨y,hy,e⟩
   rw [hf] at e
   exact hd ⟨x,hx,e⟩
 | succ k ih=>
  intro z hz x hx e
  by_cases hd:∃ y∈sw,y.1=z
  ·obtain ⟨y,hy,rfl⟩:=hd
   obtain ⟨h1,h2⟩:=h.val y hy
   rw [h1] at e
   exact ih y.2 (by omega) x hx e
  ·have hf:=h.fix z fun y hy e=>hd ⟨y,hy,e⟩
   rw [hf] at e
   exact hd ⟨x,hx,e⟩
theorem Sw.idem (h:Sw sw N rk) (z:L8):N (N z)=N z:=h.fix _ (h.root _ z (Nat.le_refl _))
theorem Sw.moved (h:Sw sw N rk) {x:Swp}(hx:x∈sw):N x.1≠x.1:=fun e=>h.root _ x.1 (Nat.le_refl _) x hx e.symm
theorem Sw.out (h:Sw sw N rk) {z:L8}(hz:N z=z):∀ x∈sw,x.1≠z:=fun x hx e=>h.moved hx (by rw [e];exact hz)
theorem Sw.put {n t:L8}{p:Nat}(h:Sw sw N rk) (hn:N n=n) (ht:N t=t) (hne:n≠t) (lo:∀ x∈sw.take p,ltL x.1 n=true) (hi:∀ x∈sw.drop p,ltL x.1 n=false) :
  ∃ rk',Sw (sw.take p ++ [(n,t)]++sw.drop p) (fun z=>if N z=n then t else N z) rk':=by
 have hout:=h.out hn
 have hmem:∀ x,x∈sw.take p ++ [(n,t)]++sw.drop p↔x∈sw∨x=(n,t):=fun x=>by
  have:=congrArg (fun l=>x∈l) (List.take_append_drop p sw)
  simp only [List.mem_append,eq_iff_iff] at this
  rw [List.mem_append,List.mem_append,List.mem_singleton,← this]
  constructor
  ·rintro ((a | a) | a)
   ·exact .inl (.inl a)
   ·exact .inr a
   ·exact .inl (.inr a)
  ·rintro ((a | a) | a)
   ·exact .inl (.inl a)
   ·exact .inr a
   ·exact .inl (.inr a)
 refine ⟨fun z=>if N z=n then rk z+rk t+1 else rk z,?_,fun x hx=>?_,fun z hz=>?_⟩
 ·have hs:=h.srt
  rw [← List.take_append_drop p sw,List.pairwise_append] at hs
  obtain ⟨s1,s2,s3⟩:=hs
  rw [List.append_assoc,List.pairwise_append]
  refine ⟨s1,?_,fun a ha b hb=>?_⟩
  ·rw [List.singleton_append,List.pairwise_cons]
   refine ⟨fun b hb=>?_,s2⟩
   rcases linL.tot n b.1 with g | g | g
   ·exact g
   ·exact absurd g.symm (hout b (List.mem_of_mem_drop hb))
   ·rw [hi b hb] at g
    cases g
  ·rcases List.mem_append.1 hb with hb | hb
   ·rw [List.mem_singleton.1 hb]
    exact lo a ha
   ·exact s3 a ha b hb
 ·rcases (hmem x).1 hx with hx | rfl
  ·obtain ⟨h1,h2⟩:=h.val x hx
   refine ⟨by rw [h1],?_⟩
   show (if N x.2=n then _ else _) < (if N x.1=n then _ else _)
   rw [h1]
   split <;> omega
  ·refine ⟨?_,?_⟩
   ·show (if N n=n then t else N n)=(if N t=n then t else N t)
    rw [if_pos hn,ht,if_neg (fun e=>hne e.symm)]
   ·show (if N t=n then _ else _) < (if N n=n then _ else _)
    rw [if_pos hn,ht,if_neg (fun e=>hne e.symm)]
    show rk t < rk n+rk t+1
    omega
 ·have hzn:z≠n:=fun e=>hz (n,t) ((hmem _).2 (.inr rfl)) e.symm
  have hN:=h.fix z fun x hx=>hz x ((hmem x).2 (.inl hx))
  show (if N z=n then t else N z)=z
  rw [hN,if_neg hzn]
end
def renC (N:L8→L8) (c:ConD):ConD:={ c with a:=N c.a,b:=if c.op=1 then c.b else N c.b,args:=c.args.map N }
def stayC (c:ConD):Bool:=decide (c.op≠2∨c.a≠c.b)
def ren (N:L8→L8) (cs:List ConD):List ConD:=(cs.map (renC N)).filter stayC
def nameC (n:L8) (c:ConD):Prop:=c.a=n∨(c.op≠1∧c.b=n)∨n∈c.args
def named (cs:List ConD) (n:L8):Prop:=∃ c∈cs,nameC n c
theorem ren_len (N:L8→L8) (cs:List ConD):(ren N cs).length≤cs.length:=by
 unfold ren
 have:=List.length_filter_le stayC (cs.map (renC N))
 rw [List.length_map] at this
 exact this
theorem ren_mem {N:L8→L8}{cs:List ConD}{c:ConD}(h:c∈ren N cs):∃ d∈cs,c=renC N d∧stayC c=true:=by
 obtain ⟨h1,h2⟩:=List.mem_filter.1 h
 obtain ⟨d,hd,rfl⟩:=List.mem_map.1 h1
 exact ⟨d,hd,rfl,h2⟩
theorem ren_named {N:L8→L8}{cs:List ConD}{n:L8}(h:named (ren N cs) n):∃ z,named cs z∧N z=n:=by
 obtain ⟨c,hc,hn⟩:=h
 obtain ⟨d,hd,rfl,_⟩:=ren_mem hc
 rcases hn with h | ⟨h1,h⟩ | h
 ·exact ⟨d.a,⟨d,hd,.inl rfl⟩,h⟩
 ·have h1:d.op≠1:=h1
  have h:(if d.op=1 then d.b else N d.b)=n:=h
  rw [if_neg h1] at h
  exact ⟨d.b,⟨d,hd,.inr (.inl ⟨h1,rfl⟩)⟩,h⟩
 ·obtain ⟨z,hz,e⟩:=List.mem_map.1 h
  exact ⟨z,⟨d,hd,.inr (.inr hz)⟩,e⟩
theorem renC_congr {N M:L8→L8}{c:ConD}(h:∀ z,nameC z c→N z=M z):renC N c=renC M c:=by
 unfold renC
 have e3:c.args.map N=c.args.map M:=List.map_congr_left fun z hz=>h z (.inr (.inr hz))
 rw [h c.a (.inl rfl),e3]
 by_cases h1:c.op=1
 ·rw [if_pos h1,if_pos h1]
 ·rw [if_neg h1,if_neg h1,h c.b (.inr (.inl ⟨h1,rfl⟩))]
theorem ren_congr {N M:L8→L8}{cs:List ConD}(h:∀ z,named cs z→N z=M z):ren N cs=ren M cs:=by
 unfold ren
 rw [List.map_congr_left fun c hc=>renC_congr fun z hz=>h z ⟨c,hc,hz⟩]
theorem renC_id (c:ConD):renC (fun z=>z) c=c:=by
 unfold renC
 rw [List.map_id'']
 ·cases c
  simp
 ·intro x;rfl
theorem ren_id {cs:List ConD}:ren (fun z=>z) cs=cs.filter stayC:=by
 unfold ren
 have:cs.map (renC fun z=>z)=cs:=by
  conv=>rhs;rw [← List.map_id cs]
  exact List.map_congr_left fun c _=>renC_id c
 rw [this]
inductive Rc (E:L8→L8→Prop):L8→L8→Prop
 | refl (a:L8):Rc E a a
 | tail {a b c:L8}:Rc E a b→E b c→Rc E a c
theorem Rc.one {E:L8→L8→Prop}{a b:L8}(h:E a b):Rc E a b:=.tail (.refl a) h
theorem Rc.trans {E:L8→L8→Prop}{a b c:L8}(h:Rc E a b) (k:Rc E b c):Rc E a c:=by
 induction k with
 | refl=>exact h
 | tail _ e ih=>exact .tail ih e
theorem Rc.last {E:L8→L8→Prop}{a b:L8}(h:Rc E a b) (hne:a≠b):∃ c,E c b:=by
 cases h with
 | refl=>exact absurd rfl hne
 | tail _ e=>exact ⟨_,e⟩
def Cp (cs:List ConD) (a b:L8):Prop:=∃ c∈cs,c.op=2∧c.b=a∧c.a=b
def Mut (cs:List ConD) (a b:L8):Prop:=Rc (Cp cs) a b∧Rc (Cp cs) b a
def Iso (hid:L8→Bool) (cs:List ConD):Prop:=∀ a b,hid a=true→a≠b→¬ Mut cs a b
structure Rnd (hid:L8→Bool) (cs:List ConD) (R:L8→L8):Prop where
 mv:∀ z,R z≠z→hid z=true∧named cs z∧named cs (R z)∧Mut cs z (R z)∧R (R z)=R z
 all:∀ a b,hid a=true→a≠b→Mut cs a b→R a≠a∨R b≠b
theorem Rnd.mut {hid:L8→Bool}{cs:List ConD}{R:L8→L8}(h:Rnd hid cs R) (z:L8):Mut cs z (R z):=by
 by_cases hz:R z=z
 ·rw [hz]
  exact ⟨.refl _,.refl _⟩
 ·exact (h.mv z hz).2.2.2.1
theorem Rnd.fix {hid:L8→Bool}{cs:List ConD}{R:L8→L8}(h:Rnd hid cs R) (z:L8):R (R z)=R z:=by
 by_cases hz:R z=z
 ·rw [hz,hz]
 ·exact (h.mv z hz).2.2.2.2
theorem ren_cp {N:L8→L8}{cs:List ConD}{a b:L8}(h:Cp (ren N cs) a b):∃ a' b',Cp cs a' b'∧N a'=a∧N b'=b:=by
 obtain ⟨c,hc,h2,rfl,rfl⟩:=h
 obtain ⟨d,hd,rfl,_⟩:=ren_mem hc
 have h2:d.op=2:=h2
 refine ⟨d.b,d.a,⟨d,hd,h2,rfl,rfl⟩,?_,rfl⟩
 show N d.b=if d.op=1 then d.b else N d.b
 rw [if_neg (by omega)]
theorem Rnd.iso {hid:L8→Bool}{cs ys:List ConD}{R:L8→L8}(h:Rnd hid cs R) (hy:∀ c,c∈ys↔c∈ren R cs):Iso hid ys:=by
 have lift:∀ {a b},Rc (Cp ys) a b→Rc (Cp cs) a b:=by
  intro a b hab
  induction hab with
  | refl=>exact .refl _
  | tail _ e ih=>
   obtain ⟨c,hc,e'⟩:=e
   obtain ⟨a',b',hc',rfl,rfl⟩:=ren_cp ⟨c,(hy c).1 hc,e'⟩
   exact ih.trans (((h.mut a').2.trans (.one hc')).trans (h.mut b').1)
 have fixn:∀ {a b},Rc (Cp ys) a b→a≠b→R b=b:=by
  intro a b hab hne
  obtain ⟨c,d,hd,e⟩:=hab.last hne
  obtain ⟨_,b',_,_,rfl⟩:=ren_cp ⟨d,(hy d).1 hd,e⟩
  exact h.fix b'
 intro a b ha hne ⟨h1,h2⟩
 rcases h.all a b ha hne ⟨lift h1,lift h2⟩ with g | g
 ·exact g (fixn h2 fun e=>hne e.symm)
 ·exact g (fixn h1 hne)
def feedL (n:L8) (c:ConD):List ConD:=(if c.op≠4∧c.a=n then [c] else [])++(if c.op=6∧c.args.head? = some n∧n ≠ [] then [c] else [])
def fed (cs:List ConD) (n:L8):List ConD:=cs.flatMap (feedL n)
def one (n p:L8):L8→L8:=fun z=>if z=n then p else z
theorem fed_copy {cs:List ConD}{n:L8}{c d:ConD}(h:fed cs n = [c]) (hd:d∈cs) (h2:d.op=2) (ha:d.a=n):d=c:=by
 have:d∈fed cs n:=List.mem_flatMap.2 ⟨d,hd,by
  unfold feedL
  rw [if_pos ⟨by omega,ha⟩]
  simp⟩
 rw [h,List.mem_singleton] at this
 exact this
theorem fed_in {cs:List ConD}{n:L8}{c:ConD}(h:fed cs n = [c]) (h2:c.op=2):c∈cs∧c.a=n:=by
 have:c∈fed cs n:=by rw [h];exact List.mem_singleton.2 rfl
 obtain ⟨d,hd,hc⟩:=List.mem_flatMap.1 this
 unfold feedL at hc
 rcases List.mem_append.1 hc with hc | hc
 ·split at hc
  ·rename_i g
   have:=List.mem_singleton.1 hc
   subst this
   exact ⟨hd,g.2⟩
  ·cases hc
 ·split at hc
  ·rename_i g
   have:=List.mem_singleton.1 hc
   subst this
   omega
  ·cases hc
theorem once_iso {hid:L8→Bool}{cs ys:List ConD}{n:L8}{c:ConD}(h:Iso hid cs) (hs:∀ d∈cs,stayC d=true) (hf:fed cs n = [c]) (h2:c.op=2) (hy:∀ d,d∈ys↔d∈ren (one n c.b) cs):Iso hid ys:=by
 obtain ⟨hc,ha⟩:=fed_in hf h2
 have hne:c.b≠n:=fun e=>by
  have:=of_decide_eq_true (hs c hc)
  rcases this with g | g
  ·exact g h2
  ·exact g (by rw [ha,e])
 have hpn:Cp cs c.b n:=⟨c,hc,h2,rfl,ha⟩
 have step:∀ {a b},Cp ys a b→Rc (Cp cs) a b:=by
  rintro a b ⟨d,hd,e⟩
  have hd':=(hy d).1 hd
  obtain ⟨a',b',hc',rfl,rfl⟩:=ren_cp ⟨d,hd',e⟩
  unfold one
  by_cases hb:b'=n
  ·subst hb
   obtain ⟨q,hq,q2,rfl,qa⟩:=hc'
   have:=fed_copy hf hq q2 qa
   subst this
   rw [if_neg hne,if_pos rfl]
   exact .refl _
  ·rw [if_neg hb]
   by_cases haa:a'=n
   ·rw [if_pos haa]
    rw [haa] at hc'
    exact (Rc.one hpn).tail hc'
   ·rw [if_neg haa]
    exact .one hc'
 have lift:∀ {a b},Rc (Cp ys) a b→Rc (Cp cs) a b:=by
  intro a b hab
  induction hab with
  | refl=>exact .refl _
  | tail _ e ih=>exact ih.trans (step e)
 exact fun a b hh hab ⟨h1,h2⟩=>h a b hh hab ⟨lift h1,lift h2⟩
end Go.Proofs.YtjdhjgfmloaglaaGreatDoor.P21
end
section
namespace Go.Proofs.YtjdhjgfmloaglaaGreatDoor.P21
open Go Go.V P14 C14 P15
structure NOk (hid:L8→Bool) (cs:List ConD) (N:L8→L8):Prop where
 mv:∀ z,N z≠z→hid z=true∧(named cs z∧z ≠ [])∧(named cs (N z)∧N z ≠ [])
def Hs (hid:L8→Bool):Prop:=∀ z,hid z=true→¬ ((rd z).2=0∧(rd z).1.kind=3)
theorem nodeB_nil:nodeB []=false:=by kernel_rfl
theorem two0 {p q:Bool}(h:(if p=false then (11:Int) else if q=false then 3 else 0)=0):p=true∧q=true:=by
 cases p <;> cases q <;> simp at h ⊢
theorem conE_0 {c:ConD}:conE c=0↔(1≤c.op∧c.op≤6)∧(if c.op=1 then nodeB c.a && placeB c.b else if c.op=6 then decide ((rd c.a).2=0∧(rd c.a).1.kind=3) && nodeB c.b else nodeB c.a && nodeB c.b)=true ∧
  (if c.op=6 then callB c else if c.op=5 then decide (c.args = []) && (decide (0≤c.k∧c.k≤64) && tagB c.tag) else decide (c.args = []) && (decide (c.k=0) && decide (c.tag = [])))=true:=by
 unfold conE
 by_cases h:c.op < 1∨c.op > 6
 ·rw [if_pos h]
  constructor
  ·intro h;cases h
  ·rintro ⟨h1,_⟩;omega
 ·rw [if_neg h]
  constructor
  ·intro h1
   obtain ⟨a,b⟩:=two0 h1
   exact ⟨by omega,a,b⟩
  ·rintro ⟨_,a,b⟩
   rw [a,b]
   rfl
theorem argsB_node {l r:L8}:∀ {as':List L8}{i:Nat},argsB l r i as'=true→∀ a∈as',a = []∨nodeB a=true
 | [],_,_=>by simp
 | a::as',i,h=>by
  unfold argsB at h
  rw [Bool.and_eq_true,Bool.or_eq_true,Bool.and_eq_true] at h
  intro z hz
  rcases List.mem_cons.1 hz with rfl | hz
  ·rcases h.1 with g | g
   ·exact .inl (of_decide_eq_true g)
   ·exact .inr g.2
  ·exact argsB_node h.2 z hz
theorem argsB_map {l r:L8}{N:L8→L8}(h0:N [] = []) (hn:∀ z,nodeB z=true→nodeB (N z)=true):∀ {as':List L8}{i:Nat},argsB l r i as'=true→argsB l r i (as'.map N)=true
 | [],_,_=>rfl
 | a::as',i,h=>by
  unfold argsB at h
  rw [Bool.and_eq_true,Bool.or_eq_true,Bool.and_eq_true] at h
  rw [List.map_cons]
  unfold argsB
  rw [Bool.and_eq_true,Bool.or_eq_true,Bool.and_eq_true]
  refine ⟨?_,argsB_map h0 hn h.2⟩
  rcases h.1 with g | ⟨g1,g2⟩
  ·have:=of_decide_eq_true g
   rw [this,h0]
   exact .inl (decide_eq_true rfl)
  ·exact .inr ⟨g1,hn a g2⟩
theorem kind3_node {z:L8}(h:(rd z).2=0∧(rd z).1.kind=3):nodeB z=true:=decide_eq_true ⟨h.1,.inl (by omega)⟩
theorem named_node {cs:List ConD}{z:L8}(h:∀ c∈cs,conE c=0) (hz:named cs z):z = []∨nodeB z=true:=by
 obtain ⟨c,hc,hn⟩:=hz
 obtain ⟨h1,h2,h3⟩:=conE_0.1 (h c hc)
 have two:nodeB c.a=true∧(c.op≠1→nodeB c.b=true):=by
  by_cases e1:c.op=1
  ·rw [if_pos e1,Bool.and_eq_true] at h2
   exact ⟨h2.1,fun h=>absurd e1 h⟩
  ·rw [if_neg e1] at h2
   by_cases e6:c.op=6
   ·rw [if_pos e6,Bool.and_eq_true] at h2
    exact ⟨kind3_node (of_decide_eq_true h2.1),fun _=>h2.2⟩
   ·rw [if_neg e6,Bool.and_eq_true] at h2
    exact ⟨h2.1,fun _=>h2.2⟩
 rcases hn with rfl | ⟨g,rfl⟩ | g
 ·exact .inr two.1
 ·exact .inr (two.2 g)
 ·by_cases e6:c.op=6
  ·rw [if_pos e6] at h3
   unfold callB at h3
   simp only [Bool.and_eq_true] at h3
   exact argsB_node h3.2.2.2.2.2 z g
  ·exfalso
   rw [if_neg e6] at h3
   have:c.args = []:=by
    split at h3
    ·rw [Bool.and_eq_true] at h3;exact of_decide_eq_true h3.1
    ·rw [Bool.and_eq_true] at h3;exact of_decide_eq_true h3.1
   rw [this] at g
   cases g
section
variable {hid:L8→Bool}{cs ys:List ConD}{N:L8→L8}{x:SysD}
theorem NOk.nil (h:NOk hid cs N):N [] = []:=Classical.byContradiction fun e=>(h.mv [] e).2.1.2 rfl
theorem NOk.node (h:NOk hid cs N) (hc:∀ c∈cs,conE c=0) {z:L8}(hz:nodeB z=true):nodeB (N z)=true:=by
 by_cases e:N z=z
 ·rw [e];exact hz
 ·obtain ⟨_,_,h1,h2⟩:=h.mv z e
  rcases named_node hc h1 with g | g
  ·exact absurd g h2
  ·exact g
theorem ren_con (h:NOk hid cs N) (hs:Hs hid) (hc:∀ c∈cs,conE c=0) {c:ConD}(hcc:c∈cs):conE (renC N c)=0:=by
 obtain ⟨h1,h2,h3⟩:=conE_0.1 (hc c hcc)
 refine conE_0.2 ⟨h1,?_,?_⟩
 ·show (if c.op=1 then nodeB (N c.a) && placeB (if c.op=1 then c.b else N c.b) else if c.op=6 then decide ((rd (N c.a)).2=0∧(rd (N c.a)).1.kind=3) && nodeB (if c.op=1 then c.b else N c.b) else nodeB (N c.a) && nodeB (if c.op=1 then c.b else N c.b))=true
  by_cases e1:c.op=1
  ·rw [if_pos e1,Bool.and_eq_true] at h2
   rw [if_pos e1,if_pos e1,Bool.and_eq_true]
   exact ⟨h.node hc h2.1,h2.2⟩
  ·rw [if_neg e1] at h2
   rw [if_neg e1,if_neg e1]
   by_cases e6:c.op=6
   ·rw [if_pos e6,Bool.and_eq_true] at h2
    rw [if_pos e6,Bool.and_eq_true]
    have e:N c.a=c.a:=Classical.byContradiction fun e=>hs _ (h.mv _ e).1 (of_decide_eq_true h2.1)
    rw [e]
    exact ⟨h2.1,h.node hc h2.2⟩
   ·rw [if_neg e6,Bool.and_eq_true] at h2
    rw [if_neg e6,Bool.and_eq_true]
    exact ⟨h.node hc h2.1,h.node hc h2.2⟩
 ·by_cases e6:c.op=6
  ·rw [if_pos e6] at h3
   show (if c.op=6 then callB (renC N c) else _)=true
   rw [if_pos e6]
   unfold callB at h3 ⊢
   simp only [Bool.and_eq_true] at h3 ⊢
   obtain ⟨a1,a2,a3,a4,a5,a6⟩:=h3
   refine ⟨a1,a2,a3,a4,?_,argsB_map h.nil (fun z hz=>h.node hc hz) a6⟩
   show decide ((c.args.map N).length=_)=true
   rw [List.length_map]
   exact a5
  ·rw [if_neg e6] at h3
   show (if c.op=6 then callB (renC N c) else if c.op=5 then decide (c.args.map N = []) && (decide (0≤c.k∧c.k≤64) && tagB c.tag) else decide (c.args.map N = []) && (decide (c.k=0) && decide (c.tag = [])))=true
   rw [if_neg e6]
   have e:decide (c.args.map N = [])=decide (c.args = []):=by
    rw [decide_eq_decide]
    exact List.map_eq_nil_iff
   rw [e]
   exact h3
theorem ren_check (h0:checkE x=0) (h:NOk hid x.cons N) (hs:Hs hid) (hy:IsCan cmpC (fun c=>c) (ren N x.cons) ys):checkE ⟨x.objs,x.fns,ys⟩=0∧ys.length≤x.cons.length:=by
 obtain ⟨q1,q2,q3,q4⟩:=checkE_0.1 h0
 have hlen:ys.length≤x.cons.length:=Nat.le_trans (hy.len linC) (ren_len _ _)
 refine ⟨checkE_0.2 ⟨?_,⟨q2.o,q2.f,fun c hc=>?_⟩,q3,hy.rising linC (oneK_c _)⟩,hlen⟩
 ·unfold bigS at *
  show ¬ (x.objs.length > 600∨x.fns.length > 600∨ys.length > 6000)
  omega
 ·obtain ⟨d,hd,rfl,_⟩:=ren_mem ((hy.mem c).1 hc)
  exact ren_con h hs q2.c hd
theorem name_len (hx:OkSys x) {z:L8}(hz:named x.cons z):z.length≤1048576:=by
 obtain ⟨c,hc,h⟩:=hz
 have:=hx.c.2 c hc
 rcases h with rfl | ⟨_,rfl⟩ | h
 ·exact this.1
 ·exact this.2.1
 ·exact this.2.2.2.2 z h
theorem NOk.len (hx:OkSys x) (h:NOk hid x.cons N) {z:L8}(hz:z.length≤1048576):(N z).length≤1048576:=by
 by_cases e:N z=z
 ·rw [e];exact hz
 ·exact name_len hx (h.mv z e).2.2.1
theorem ren_okC (hx:OkSys x) (h:NOk hid x.cons N) {c:ConD}(hc:okC c):okC (renC N c):=by
 obtain ⟨a,b,d,e,f⟩:=hc
 refine ⟨h.len hx a,?_,d,?_,fun z hz=>?_⟩
 ·show (if c.op=1 then c.b else N c.b).length≤_
  split
  ·exact b
  ·exact h.len hx b
 ·show (c.args.map N).length≤_
  rw [List.length_map];exact e
 ·obtain ⟨y,hy,rfl⟩:=List.mem_map.1 hz
  exact h.len hx (f y hy)
theorem ren_ok (hx:OkSys x) (h:NOk hid x.cons N) (hy:IsCan cmpC (fun c=>c) (ren N x.cons) ys):OkSys ⟨x.objs,x.fns,ys⟩:=by
 have:=hy.len linC
 have:=ren_len N x.cons
 have:=hx.c.1
 refine ⟨hx.o,hx.f,by show ys.length≤_;omega,fun c hc=>?_⟩
 obtain ⟨d,hd,rfl,_⟩:=ren_mem ((hy.mem c).1 hc)
 exact ren_okC hx h (hx.c.2 d hd)
theorem id_ok:NOk hid cs fun z=>z:=⟨fun z h=>absurd rfl h⟩
theorem copy_ne {c:ConD}(h:conE c=0) (h2:c.op=2):c.a ≠ []∧c.b ≠ []:=by
 obtain ⟨_,g,_⟩:=conE_0.1 h
 rw [if_neg (by omega),if_neg (by omega),Bool.and_eq_true] at g
 refine ⟨fun e=>?_,fun e=>?_⟩
 ·rw [e,nodeB_nil] at g
  cases g.1
 ·rw [e,nodeB_nil] at g
  cases g.2
theorem Rnd.ok (h:Rnd hid cs N) (h0:∀ c∈cs,conE c=0):NOk hid cs N:=⟨fun z hz=>by
 obtain ⟨a,b,c,d,e⟩:=h.mv z hz
 obtain ⟨_,p,hp,p2,_,rfl⟩:=d.2.last hz
 obtain ⟨_,q,hq,q2,_,e2⟩:=d.1.last fun e=>hz e.symm
 refine ⟨a,⟨b,(copy_ne (h0 p hp) p2).1⟩,c,?_⟩
 rw [← e2]
 exact (copy_ne (h0 q hq) q2).1⟩
end
inductive Onces (hid:L8→Bool) (nodes:List L8):List ConD→List L8→(L8→L8)→List ConD→Prop
 | done {cs:List ConD}:(∀ n∈nodes,hid n=true→∀ c,fed cs n = [c]→c.op≠2)→Onces hid nodes cs [] (fun z=>z) cs
 | step {cs ys ts:List ConD}{n:L8}{c:ConD}{l:List L8}{N:L8→L8}{j:Nat}:nodes[j]? = some n→(∀ m∈nodes.take j,hid m=true→∀ c,fed cs m = [c]→c.op≠2)→hid n=true→fed cs n = [c]→c.op=2→IsCan cmpC (fun c=>c) (ren (one n c.b) cs) ys→Onces hid nodes ys l N ts→Onces hid nodes cs (n::l) (fun z=>N (one n c.b z)) ts
section
variable {hid:L8→Bool}{nodes:List L8}{cs ts ys:List ConD}{l:List L8}{n:L8}{c:ConD}{x:SysD}{M:L8→L8}
theorem one_ok (h0:∀ c∈cs,conE c=0) (hh:hid n=true) (hf:fed cs n = [c]) (h2:c.op=2):NOk hid cs (one n c.b):=by
 obtain ⟨hc,ha⟩:=fed_in hf h2
 have hb:named cs c.b:=⟨c,hc,.inr (.inl ⟨by omega,rfl⟩)⟩
 refine ⟨fun z hz=>?_⟩
 unfold one at hz ⊢
 by_cases e:z=n
 ·rw [if_pos e]
  rw [e]
  exact ⟨hh,⟨⟨c,hc,.inl ha⟩,by rw [← ha];exact (copy_ne (h0 c hc) h2).1⟩,hb,(copy_ne (h0 c hc) h2).2⟩
 ·rw [if_neg e] at hz
  exact absurd rfl hz
theorem ren_stay {N:L8→L8}(hy:∀ d,d∈ys↔d∈ren N cs):∀ d∈ys,stayC d=true:=fun d hd=>(ren_mem ((hy d).1 hd)).choose_spec.2.2
structure Fin (hid:L8→Bool) (nodes:List L8) (ts:List ConD):Prop where
 iso:Iso hid ts
 stay:∀ c∈ts,stayC c=true
 no:∀ n∈nodes,hid n=true→∀ c,fed ts n = [c]→c.op≠2
 nm:∀ z,named ts z→z ≠ []→z∈nodes
 con:∀ c∈ts,conE c=0
theorem Onces.fin (h:Onces hid nodes cs l M ts):(∀ c∈cs,conE c=0)→Hs hid→Iso hid cs→(∀ c∈cs,stayC c=true)→(∀ z,named cs z→z ≠ []→z∈nodes)→Fin hid nodes ts:=by
 induction h with
 | done h=>exact fun h0 _ h1 h2 h3=>⟨h1,h2,h,h3,h0⟩
 | @step cs ys ts n c l N j hn _ hh hf h2 hy hr ih=>
  intro h0 hs h1 h3 h4
  have hok:=one_ok h0 hh hf h2
  refine ih (fun d hd=>?_) hs (once_iso h1 h3 hf h2 hy.mem) (ren_stay hy.mem) fun z hz hzn=>?_
  ·obtain ⟨e,he,rfl,_⟩:=ren_mem ((hy.mem d).1 hd)
   exact ren_con hok hs h0 he
  ·have:named (ren (one n c.b) cs) z:=by
    obtain ⟨d,hd,e⟩:=hz
    exact ⟨d,(hy.mem d).1 hd,e⟩
   obtain ⟨w,hw,rfl⟩:=ren_named this
   by_cases e:one n c.b w=w
   ·rw [e] at hzn ⊢
    exact h4 w hw hzn
   ·exact h4 _ (hok.mv w e).2.2.1 hzn
theorem Fin.again {nodes':List L8}(h:Fin hid nodes ts) (hn:∀ n∈nodes',n∈nodes∨¬ named ts n∨n = []) (hr:Onces hid nodes' ts l M ys):l = []∧∀ z,M z=z:=by
 cases hr with
 | done _=>exact ⟨rfl,fun _=>rfl⟩
 | @step _ _ _ n c _ _ j hnj _ hh hf h2 _ _=>
  exfalso
  have hnn:=List.mem_of_getElem? hnj
  obtain ⟨hc,ha⟩:=fed_in hf h2
  rcases hn n hnn with g | g | g
  ·exact h.no n g hh c hf h2
  ·exact g ⟨c,hc,.inl ha⟩
  ·exact (copy_ne (h.con c hc) h2).1 (by rw [ha,g])
theorem Fin.rnd {R:L8→L8}(h:Fin hid nodes ts) (hr:Rnd hid ts R) (z:L8):R z=z:=Classical.byContradiction fun e=>by
 obtain ⟨a,b,c,d,f⟩:=hr.mv z e
 exact h.iso z (R z) a (fun g=>e g.symm) d
def bestL (hid:L8→Bool) (l:List L8) (d:L8):L8:=match l.find? (fun y=>!hid y) with
 | some y=>y
 | none=>l.headD d
noncomputable def mutB (cs:List ConD) (z y:L8):Bool:=@decide (Mut cs z y) (Classical.propDecidable _)
theorem mutB_iff {cs:List ConD}{z y:L8}:mutB cs z y=true↔Mut cs z y:=@decide_eq_true_iff _ (Classical.propDecidable _)
def Rsp (hid:L8→Bool) (nodes:List L8) (cs:List ConD) (R:L8→L8):Prop:=∀ z,R z=if z∈nodes∧hid z=true then bestL hid (nodes.filter (mutB cs z)) z else z
structure EqR (hid:L8→Bool) (cs ts:List ConD) (out:List Swp):Prop where
 run:∃ (nodes:List L8) (R:L8→L8) (ys:List ConD) (l:List L8) (M:L8→L8),(∀ z,named (cs.filter stayC) z→z ≠ []→z∈nodes)∧Rnd hid (cs.filter stayC) R∧(∀ z,R z≠z→z∈nodes∧R z∈nodes)∧(Rising ltL nodes∧Rsp hid nodes (cs.filter stayC) R) ∧
  IsCan cmpC (fun c=>c) (ren R (cs.filter stayC)) ys∧Onces hid nodes ys l M ts∧(∀ a,(∃ w∈out,w.1=a)↔M (R a)≠a)∧∀ w∈out,w.2=M (R w.1)
 srt:out.Pairwise fun x y=>ltL x.1 y.1=true
 ok:∀ w∈out,hid w.1=true∧w.2≠w.1∧¬ named ts w.1
theorem EqR.fin {out:List Swp}(h:EqR hid cs ts out) (hs:Hs hid) (h0:∀ c∈cs,conE c=0):∃ nodes,Fin hid nodes ts:=by
 obtain ⟨nodes,R,ys,l,M,a2,a3,a4,_,a5,a6,_,_⟩:=h.run
 have h1:∀ c∈cs.filter stayC,conE c=0:=fun c hc=>h0 c (List.mem_filter.1 hc).1
 have hok:NOk hid (cs.filter stayC) R:=a3.ok h1
 refine ⟨nodes,a6.fin (fun c hc=>?_) hs (a3.iso a5.mem) (ren_stay a5.mem) fun z hz hzn=>?_⟩
 ·obtain ⟨d,hd,rfl,_⟩:=ren_mem ((a5.mem c).1 hc)
  exact ren_con hok hs h1 hd
 ·have:named (ren R (cs.filter stayC)) z:=by
   obtain ⟨d,hd,e⟩:=hz
   exact ⟨d,(a5.mem d).1 hd,e⟩
  obtain ⟨w,hw,rfl⟩:=ren_named this
  by_cases e:R w=w
  ·rw [e] at hzn ⊢
   exact a2 w hw hzn
  ·exact (a4 w e).2
theorem EqR.again {out:List Swp}{nodes:List L8}{us:List ConD}(hf:Fin hid nodes ts) (h:EqR hid ts us out) (hs:∀ c∈ts,IsCan cmpC (fun c=>c) ts ts):out = []:=by
 obtain ⟨nodes',R,ys,l,M,a2,a3,a4,_,a5,a6,a7,a8⟩:=h.run
 have e0:ts.filter stayC=ts:=List.filter_eq_self.2 hf.stay
 rw [e0] at a2 a3 a5
 have hR:∀ z,R z=z:=hf.rnd a3
 have eR:ren R ts=ts:=by
  have:R=fun z=>z:=funext hR
  rw [this,ren_id,e0]
 rw [eR] at a5
 have ey:ys=ts:=by
  cases ts with
  | nil=>exact List.eq_nil_iff_forall_not_mem.2 fun z hz=>by have:=(a5.mem z).1 hz;cases this
  | cons c l=>exact a5.uniq linC (hs c List.mem_cons_self)
 rw [ey] at a6
 obtain ⟨el,hM⟩:=hf.again (fun n hn=>by
  by_cases g:n∈nodes
  ·exact .inl g
  ·by_cases e:n = []
   ·exact .inr (.inr e)
   ·exact .inr (.inl fun h=>g (hf.nm n h e))) a6
 refine List.eq_nil_iff_forall_not_mem.2 fun w hw=>?_
 have:=(a7 w.1).1 ⟨w,hw,rfl⟩
 rw [hR,hM] at this
 exact this rfl
end
end Go.Proofs.YtjdhjgfmloaglaaGreatDoor.P21
end
section
namespace Go.V
attribute [local irreducible] Cvt ExtF CallF hrun
section
variable {σ τ : Type}{fl : τ→List Value}{f : σ→τ}{sz:Nat}{H:Hp}{s:Sl}{L:List σ}
theorem Rd.map (h:Rd fl sz H s (L.map f)):Rd (fun x=>fl (f x)) sz H s L:=
 ⟨by rw [h.len,List.length_map],h.le,fun i x k v hx hv=>h.el i (f x) k v (by rw [List.getElem?_map,hx];rfl) hv⟩
theorem Rd.unmap (h:Rd (fun x=>fl (f x)) sz H s L):Rd fl sz H s (L.map f):=by
 refine ⟨by rw [h.len,List.length_map],h.le,fun i x k v hx hv=>?_⟩
 rw [List.getElem?_map] at hx
 cases hL:L[i]? with
 | none=>rw [hL] at hx;cases hx
 | some y=>
  rw [hL] at hx
  have:f y=x:=by simpa using hx
  subst this
  exact h.el i y k v hL hv
end
def tagged {η χ : Type}(hs:List η) (xs:List χ):List ((η × χ) × Nat):=(hs.zip xs).zipIdx
section
variable {η χ : Type}{hs:List η}{xs:List χ}
theorem tagged_len (h:hs.length=xs.length):(tagged hs xs).length=xs.length:=by
 unfold tagged
 rw [List.length_zipIdx,List.length_zip,h,Nat.min_self]
theorem tagged_at (h:hs.length=xs.length) {x:(η × χ) × Nat}:x∈tagged hs xs↔hs[x.2]? = some x.1.1∧xs[x.2]? = some x.1.2:=by
 unfold tagged
 obtain ⟨⟨a,b⟩,n⟩:=x
 rw [List.mk_mem_zipIdx_iff_getElem?,List.getElem?_zip_eq_some]
theorem tagged_get {i:Nat}(h:hs.length=xs.length):(tagged hs xs)[i]? = (hs.zip xs)[i]?.map fun x=>(x,i):=by
 unfold tagged
 rw [List.getElem?_zipIdx,Nat.zero_add]
theorem tagged_fst (h:hs.length=xs.length):(tagged hs xs).map (fun x=>x.1.1)=hs:=by
 unfold tagged
 have e:(fun x:(η × χ) × Nat=>x.1.1)=Prod.fst ∘ Prod.fst:=rfl
 rw [e,← List.map_map,List.zipIdx_map_fst,List.map_fst_zip (by omega)]
theorem tagged_snd (h:hs.length=xs.length):(tagged hs xs).map (fun x=>x.1.2)=xs:=by
 unfold tagged
 have e:(fun x:(η × χ) × Nat=>x.1.2)=Prod.snd ∘ Prod.fst:=rfl
 rw [e,← List.map_map,List.zipIdx_map_fst,List.map_snd_zip (by omega)]
theorem tagged_idx (h:hs.length=xs.length):(tagged hs xs).map (fun x=>(x.1.2,x.2))=xs.zipIdx:=by
 apply List.ext_getElem?
 intro i
 rw [List.getElem?_map,tagged_get h,List.getElem?_zipIdx,Nat.zero_add]
 cases hx:xs[i]? with
 | none=>
  have:(hs.zip xs)[i]? = none:=by
   rw [List.getElem?_eq_none_iff] at hx ⊢
   rw [List.length_zip];omega
  rw [this];rfl
 | some x=>
  have hi:=(List.getElem?_eq_some_iff.1 hx).1
  have hh:hs[i]? = some (hs[i]'(by omega)):=List.getElem?_eq_getElem _
  have:(hs.zip xs)[i]? = some (hs[i]'(by omega),x):=List.getElem?_zip_eq_some.2 ⟨hh,hx⟩
  rw [this];rfl
theorem tagged_rise (h:hs.length=xs.length):(tagged hs xs).Pairwise fun x y=>x.2 < y.2:=by
 rw [List.pairwise_iff_getElem]
 intro i j hi hj hij
 have e1:=List.getElem?_eq_getElem hi
 have e2:=List.getElem?_eq_getElem hj
 rw [tagged_get h] at e1 e2
 obtain ⟨a,_,h1⟩:=Option.map_eq_some_iff.1 e1
 obtain ⟨b,_,h2⟩:=Option.map_eq_some_iff.1 e2
 rw [← h1,← h2]
 exact hij
end
end Go.V
end
section
namespace Go.V
section
variable {σ : Type}{vl : σ→Value}
def findI:List (L8 × σ)→L8→Nat→Option (Nat × σ)
 | [],_,_=>none
 | p::r,q,i=>if p.1=q then some (i,p.2) else findI r q (i+1)
def putK (kvs:List (L8 × σ)) (q:L8) (v : σ):List (L8 × σ):=match findI kvs q 0 with
 | some (i,_)=>kvs.set i (q,v)
 | none=>kvs ++ [(q,v)]
theorem findI_at:∀ {kvs:List (L8 × σ)}{q:L8}{i j:Nat}{v : σ},findI kvs q i=some (j,v)→i≤j∧kvs[j - i]? = some (q,v)
 | [],_,_,_,_,h=>by cases h
 | p::r,q,i,j,v,h=>by
  unfold findI at h
  split at h
  ·rename_i e
   have h:=Option.some_inj.1 h
   rw [Prod.mk.injEq] at h
   obtain ⟨rfl,rfl⟩:=h
   refine ⟨Nat.le_refl _,?_⟩
   rw [Nat.sub_self,← e]
   rfl
  ·obtain ⟨h1,h2⟩:=findI_at h
   refine ⟨by omega,?_⟩
   rw [show j - i=(j - (i+1))+1 by omega]
   exact h2
def EntsAre (vl : σ→Value) (es:List MapEntry) (kvs:List (L8 × σ)):Prop:=es.map (fun e=>(e.key,e.val))=kvs.map fun p=>(Value.string (str p.1),vl p.2)
theorem str_eq (a b:L8):((str a == str b)=true)↔a=b:=by
 rw [beqBA]
 exact ⟨str_inj,fun h=>by rw [h]⟩
theorem findNow_ok:∀ {es:List MapEntry}{kvs:List (L8 × σ)}{q:L8}{i:Nat},EntsAre vl es kvs→Instr.findNow .string (.string (str q)) es i=some ((findI kvs q i).map fun x=>(x.1,vl x.2))
 | [],[],_,_,_=>rfl
 | [],_::_,_,_,h=>by cases h
 | _::_,[],_,_,h=>by cases h
 | e::es,p::kvs,q,i,h=>by
  unfold EntsAre at h
  simp only [List.map_cons,List.cons.injEq,Prod.mk.injEq] at h
  obtain ⟨⟨h1,h2⟩,h3⟩:=h
  unfold Instr.findNow findI
  rw [h1]
  simp only [Instr.sameNow]
  by_cases hq:p.1=q
  ·have:(str q == str p.1)=true:=(str_eq _ _).2 hq.symm
   rw [this,if_pos hq,h2]
   rfl
  ·have:(str q == str p.1)=false:=by
    cases hh:str q == str p.1
    ·rfl
    ·exact absurd ((str_eq _ _).1 hh).symm hq
   rw [this,if_neg hq]
   exact findNow_ok h3
theorem ents_set {es:List MapEntry}{kvs:List (L8 × σ)}{q:L8}{v w : σ}{i:Nat}(h:EntsAre vl es kvs) (hi:kvs[i]? = some (q,w)) :
  EntsAre vl (es.modify i fun e=>{ e with key:=.string (str q),val:=vl v }) (kvs.set i (q,v)):=by
 unfold EntsAre at *
 apply List.ext_getElem?
 intro j
 have hj:=congrArg (fun l=>l[j]?) h
 simp only [List.getElem?_map] at hj ⊢
 rw [List.getElem?_modify,List.getElem?_set]
 have hlt:=(List.getElem?_eq_some_iff.1 hi).1
 by_cases hij:i=j
 ·subst hij
  simp only [if_true,hlt]
  cases he:es[i]? with
  | none=>
   rw [he,hi] at hj
   cases hj
  | some e=>rfl
 ·simp only [hij,if_false]
  cases he:es[j]? with
  | none=>rw [he] at hj;rw [← hj];rfl
  | some e=>rw [he] at hj;rw [← hj];rfl
theorem ents_push {es:List MapEntry}{kvs:List (L8 × σ)}{q:L8}{v : σ}{n:Nat}(h:EntsAre vl es kvs):EntsAre vl (es ++ [{ key:=.string (str q),val:=vl v,born:=n }]) (kvs ++ [(q,v)]):=by
 unfold EntsAre at *
 rw [List.map_append,List.map_append,h]
 rfl
def mapI (vl : σ→Value) (r:Nat) (kvs:List (L8 × σ)):It where
 ok H:=∃ es c,H[r]? = some (.map es c)∧EntsAre vl es.toList kvs
 fp i:=i=r
 lt h hi:=by
  obtain ⟨es,c,h,_⟩:=h
  subst hi
  exact lt_of_some h
 st h hs:=by
  obtain ⟨es,c,h,e⟩:=h
  exact ⟨es,c,(hs r rfl).trans h,e⟩
variable {H0 H H':Hp}{S:Nat→Prop}{L:List It}{P:Program}{t kt et:TypeId}{r k:Nat}{kvs:List (L8 × σ)}{q:L8}
theorem Sym.mnew (h:Sym H0 S H L) (hn:Newb H (.map #[] 0) r H'):Sym H0 S H' (mapI vl r []::L):=
 h.new hn.fr ⟨#[],0,by rw [hn.2,hn.1];simp,rfl⟩ fun i hi=>by have:=hn.eq;have:i=r:=hi;omega
theorem ck_str {e:Bool}{x:ByteArray}{H:Hp}{K:Unit→Hp→Prop}{Z:Value→Hp→Prop}(hk:P.underlying kt=some .string) (k:K () H):hrun P (Instr.checkKey e 10000 kt (.string x)) H K Z:=by
 show hrun P (Instr.checkKey e (9999+1) kt (.string x)) H K Z
 unfold Instr.checkKey
 exact hrun_pv (pv_underlying hk) k
theorem fk_str {es:List MapEntry}{H:Hp}{K:Option (Nat × Value)→Hp→Prop}{Z:Value→Hp→Prop}(hk:P.underlying kt=some .string) (he:EntsAre vl es kvs) (k:K ((findI kvs q 0).map fun x=>(x.1,vl x.2)) H):hrun P (Instr.findKey kt (.string (str q)) es) H K Z:=by
 unfold Instr.findKey
 refine hrun_pv (pv_underlying hk) ?_
 rw [findNow_ok he]
 exact k
theorem Sym.lkp {ok:Bool}{inf:TypeInfo}{z:Value}{K:Value→Hp→Prop}(h:Sym H0 S H L) (hL:L[k]? = some (mapI vl r kvs)) (hu:P.underlying t=some (.map kt et)) (hk:P.underlying kt=some .string) (hi:P.info? et=some inf) (hz:inf.zero=some z)
  (kk:K (if ok then .tuple #[((findI kvs q 0).map fun x=>vl x.2).getD z,.bool (findI kvs q 0).isSome] else ((findI kvs q 0).map fun x=>vl x.2).getD z) H):Lkp P t H (.map (some r)) (.string (str q)) ok K:=by
 obtain ⟨es,c,hr,he⟩:=h.get hL
 unfold Lkp Instr.lookup
 refine hrun_pv (pv_underlying hu) ?_
 simp only [getObj,bind,Sem.bind,hrun,pure]
 refine ⟨_,hr,rfl,?_⟩
 refine hrun_bind _ (ck_str hk ?_)
 refine hrun_bind _ (fk_str hk he ?_)
 cases hf:findI kvs q 0 with
 | none=>
  rw [hf] at kk
  simp only [Option.map_none]
  refine hrun_bind _ ?_
  refine hrun_pureV (zeroValue et) (pv_zero hi hz) ?_
  cases ok <;> exact kk
 | some x=>
  rw [hf] at kk
  simp only [Option.map_some]
  cases ok <;> exact kk
theorem Sym.mup {v : σ}{K:Hp→Prop}(h:Sym H0 S H L) (hL:L[k]? = some (mapI vl r kvs)) (hu:P.underlying t=some (.map kt et)) (hk:P.underlying kt=some .string)
  (kk:∀ H',Sym H0 S H' (L.set k (mapI vl r (putK kvs q v)))→K H'):MUp P t H (.map (some r)) (.string (str q)) (vl v) K:=by
 obtain ⟨es,c,hr,he⟩:=h.get hL
 have hlt:r < H.size:=lt_of_some hr
 have fin:∀ {es':Array MapEntry}{c':Nat},EntsAre vl es'.toList (putK kvs q v)→K (H.setIfInBounds r (.map es' c')):=by
  intro es' c' he'
  refine kk _ (h.setk (b:=mapI vl r (putK kvs q v)) hL ⟨by simp,fun i hi hn=>?_⟩ ⟨es',c',by rw [Array.getElem?_setIfInBounds];simp [hlt],he'⟩ fun i hi=>.inl hi)
  have hne:r≠i:=fun e=>hn e.symm
  rw [Array.getElem?_setIfInBounds,if_neg hne]
 unfold MUp Instr.mapUpdate
 refine hrun_pv (pv_underlying hu) ?_
 simp only [getObj,setObj,bind,Sem.bind,hrun,pure]
 refine ⟨_,hr,rfl,?_⟩
 refine hrun_bind _ (ck_str hk ?_)
 refine hrun_bind _ (fk_str hk he ?_)
 unfold putK at fin
 cases hf:findI kvs q 0 with
 | none=>
  rw [hf] at fin
  simp only [Option.map_none]
  refine ⟨⟨_,hr,rfl⟩,fin ?_⟩
  rw [Array.toList_push]
  exact ents_push he
 | some x=>
  obtain ⟨j,w⟩:=x
  rw [hf] at fin
  obtain ⟨_,hj⟩:=findI_at hf
  rw [Nat.sub_zero] at hj
  simp only [Option.map_some]
  have hkey:(es[j]?).map (·.key)=some (.string (str q)):=by
   have:=congrArg (fun l=>l[j]?) he
   simp only [List.getElem?_map,hj,Option.map_some] at this
   rw [Array.getElem?_toList] at this
   cases hes:es[j]? with
   | none=>rw [hes] at this;cases this
   | some e=>
    rw [hes] at this
    simp only [Option.map_some,Option.some.injEq,Prod.mk.injEq] at this
    rw [Option.map_some,this.1]
  rw [hkey]
  simp only [Option.getD_some]
  have hsame:Instr.sameBits 10000 (.string (str q)) (.string (str q))=true:=by
   show Instr.sameBits (9999+1) _ _=true
   simp only [Instr.sameBits]
   exact (str_eq q q).2 rfl
  unfold Instr.keyThatStays
  rw [if_pos hsame]
  simp only [pure,Sem.bind,hrun]
  refine ⟨⟨_,hr,rfl⟩,fin ?_⟩
  rw [Array.toList_modify]
  exact ents_set he hj
end
end Go.V
end
section
namespace Go.V
section
variable {τ : Type}{fl : τ→List Value}{sz:Nat}
variable {H0 H H':Hp}{S:Nat→Prop}{L:List It}{E:TypeId}{s:Sl}{l:List τ}
theorem setsL_take2:∀ (vs cs:List Value) (i:Nat),i+vs.length≤cs.length→(setsL cs i vs).take (i+vs.length)=cs.take i++vs:=by
 intro vs
 induction vs with
 | nil=>intro cs i h;simp [setsL]
 | cons v vs ih=>
  intro cs i h
  simp only [List.length_cons] at h
  rw [setsL,show i+(v::vs).length=(i+1)+vs.length by simp;omega,ih (cs.set i v) (i+1) (by simp;omega)]
  rw [List.take_set,List.take_succ_eq_append_getElem (by omega)]
  rw [List.set_append_right _ _ (by simp;omega)]
  have:i - (cs.take i).length=0:=by simp;omega
  rw [this]
  simp
end
end Go.V
end
