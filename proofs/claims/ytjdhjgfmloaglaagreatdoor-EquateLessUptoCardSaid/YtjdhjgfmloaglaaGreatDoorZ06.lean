import Derived.Test.YtjdhjgfmloaglaaGreatDoorZ05
import Derived.Lib.LaidTab
set_option linter.unusedVariables false
set_option linter.unusedSimpArgs false
section
namespace Go.V
attribute [local irreducible] Cvt ExtF CallF hrun
structure TyS (P:Program) (T E:TypeId) (sz bytes:Nat) (z:Value):Prop where
 u:P.underlying T=some (.slice E)
 i:(P.info? E).map (fun i=>(i.zero,i.size,i.bytes))=some (some z,sz,bytes)
 zc:z.cells.size=sz
 b:0 < bytes
theorem StL.mono {a:Addr}:∀ {vs:List Value}{i:Nat}{H:Hp}{K K':Hp→Prop},StL a i vs H K→(∀ H',K H'→K' H')→StL a i vs H K'
 | [],_,_,_,_,h,k=>k _ h
 | v::vs,_,_,_,_,h,k=>⟨h.1,h.2.1,h.2.2.1,StL.mono h.2.2.2 k⟩
section
variable {τ : Type}{fl : τ→List Value}{sz:Nat}
variable {H0 H H':Hp}{S:Nat→Prop}{L R:List It}{P:Program}{T E:TypeId}{by':Nat}{z:Value}{s t:Sl}{l m:List τ}
theorem Sym.appR {ty:TypeId}{k:Nat}{K:Sl→Hp→Prop}(ht:TyS P T E sz by' z) (h:Sym H0 S H L) (hf:Fl fl sz) (hsz:0 < sz) (hk:L[k]? = some (arr fl E sz s l)) (hy:Rd fl sz H t m) (hl:(s.n+m.length)*by'≤140737488355328)
  (kk:∀ s' H',s'.n=s.n+m.length→Sym H0 S H' (L.set k (arr fl E sz s' (l++m)))→K s' H'):App P #[T,T] ty H [.slice s.a s.n s.c,.slice t.a t.n t.c] K:=by
 obtain ⟨inf,i1,i2,i3,i4⟩:=info_of ht.i
 exact h.app hf hsz hk ht.u (by intro k;rw [ht.u];simp) ⟨_,ht.u⟩ i1 i2 (by rw [i3];exact ht.zc) (by rw [i4];exact ht.b) i3 (hy.src hf hsz) (by rw [i4];exact hl) kk
theorem Sym.app1 {ty:TypeId}{k b:Nat}{x : τ}{K:Sl→Hp→Prop}(ht:TyS P T E sz by' z) (h:Sym H0 S H L) (hf:Fl fl sz) (hsz:0 < sz) (hn:Newb H (.cells (fl x).toArray E) b H') (hk:L[k]? = some (arr fl E sz s l)) (hl:(s.n+1)*by'≤140737488355328)
  (kk:∀ s' H',s'.n=s.n+1→Sym H0 S H' (L.set k (arr fl E sz s' (l ++ [x])))→K s' H'):App P #[T,T] ty H' [.slice s.a s.n s.c,.slice (some ⟨b,0,none⟩) 1 1] K:=by
 have hx:flat fl [x]=fl x:=flat_sing x
 rw [← hx] at hn
 have h2:=h.lit hf hsz hn (show 1 = [x].length from rfl)
 have hr:=h2.rd (k:=0) hf hsz rfl
 refine Sym.appR (t:=⟨some ⟨b,0,none⟩,1,1⟩) (k:=k) ht (h2.drop) hf hsz hk hr (by simpa using hl) ?_
 exact kk
theorem Sym.make {n:Nat}{zt : τ}{zv:Value}{K:Sl→Hp→Prop}(ht:TyS P T E 1 by' zv) (h:Sym H0 S H L) (hf:Fl fl 1) (hfz:fl zt = [zv]) (hzc:zv.cells=#[zv])
  (hl:n*by'≤140737488355328) (kk:∀ s' H',s'.n=n→Fr no H H'→(∀ i,own s' i→H.size≤i)→Sym H0 S H' (arr fl E 1 s' (List.replicate n zt)::L)→K s' H'):MkS P T H (.int .i64 (n:Int)) (.int .i64 (n:Int)) K:=by
 obtain ⟨inf,i1,i2,i3,i4⟩:=info_of ht.i
 exact h.mks hf hfz ht.u i1 i2 hzc i3 (by rw [i4];exact ht.b) (by rw [i4];exact hl) kk
theorem Sym.st1 {k:Nat}{i:Int}{x y : τ}{v:Value}{K:Hp→Prop}(h:Sym H0 S H L) (hf:Fl fl 1) (hk:L[k]? = some (arr fl E 1 s l)) (h0:0≤i) (hx:l[i.toNat]? = some x) (hy:fl y = [v])
  (kk:∀ H',Sym H0 S H' (L.set k (arr fl E 1 s (l.set i.toNat y)))→K H'):IxA s.a s.n i 1 fun ad=>StL ad 0 [v] H K:=by
 have hl:=hf.len x
 have h2:=h.sta (i:=i) (j:=0) (y:=y) (v:=v) (K:=K) hf hk h0 hx (by decide) (by
  rw [hy]
  match hm:fl x with
  | []=>rw [hm] at hl;cases hl
  | [a]=>rfl
  | a::b::r=>rw [hm] at hl;simp at hl) kk
 obtain ⟨ad,e1,e2,e3⟩:=h2
 refine ⟨ad,e1,e2,?_⟩
 have e3':StL ((ad.add (i.toNat*1)).add 0) 0 [v] H K:=e3
 rw [add_zero'] at e3'
 exact e3'
theorem Rd.ix1 {i:Int}{x : τ}{K:Addr→Prop}(h:Rd fl 1 H s l) (hf:Fl fl 1) (h0:0≤i) (hx:l[i.toNat]? = some x) (k:∀ ad,hcell H ad=(fl x)[0]?→K ad):IxA s.a s.n i 1 K:=
 Rd.ix (by decide) hf h h0 hx fun ad _ e=>k ad e
theorem Rd.ixn {i:Nat}{x : τ}{K:Addr→Prop}(h:Rd fl 1 H s l) (hf:Fl fl 1) (hx:l[i]? = some x) (k:∀ ad,hcell H ad=(fl x)[0]?→K ad):IxA s.a s.n (i:Int) 1 K:=
 Rd.ix (by decide) hf h (by omega) (by simpa using hx) fun ad _ e=>k ad e
theorem Rd.at {i k:Nat}{x : τ}{v:Value}{base:Addr}(h:Rd fl sz H s l) (ha:s.a=some base) (hx:l[i]? = some x) (hv:(fl x)[k]? = some v):hcell H ((base.add (i*sz)).add k)=some v:=by
 obtain ⟨ad,e1,e2⟩:=h.el _ _ _ _ hx hv
 rw [ha] at e1
 cases e1
 rw [add_add]
 exact e2
theorem IxA.at {a:Option Addr}{n:Nat}{i:Int}{K:Addr→Prop}{base:Addr}(h:IxA a n i sz K) (ha:a=some base):K (base.add (i.toNat*sz)):=by
 obtain ⟨ad,e1,_,e3⟩:=h
 rw [ha] at e1
 cases e1
 exact e3
theorem Sym.stn {k:Nat}{i:Nat}{x y : τ}{v:Value}{K:Hp→Prop}(h:Sym H0 S H L) (hf:Fl fl 1) (hk:L[k]? = some (arr fl E 1 s l)) (hx:l[i]? = some x) (hy:fl y = [v])
  (kk:∀ H',Sym H0 S H' (L.set k (arr fl E 1 s (l.set i y)))→K H'):IxA s.a s.n (i:Int) 1 fun ad=>StL ad 0 [v] H K:=
 h.st1 hf hk (by omega) (by simpa using hx) hy (by simpa using kk)
end
theorem Sym.none2 {τ : Type}{fl : τ→List Value}{sz n:Nat}{H0 H:Hp}{S:Nat→Prop}{R:List It}{E1 E2:TypeId}{s:Sl}(h:Sym H0 S H (arr flS E1 1 s (List.replicate n ⟨none,0,0⟩)::R)) :
  Sym H0 S H (rows2 fl E1 E2 sz none s (List.replicate n ⟨none,0,0⟩) (List.replicate n [])::R):=by
 have hs:∀ {i:Nat}{si:Sl},(List.replicate n (⟨none,0,0⟩:Sl))[i]? = some si→si=⟨none,0,0⟩:=by
  intro i si hs
  rw [List.getElem?_replicate] at hs
  split at hs
  ·cases hs;rfl
  ·cases hs
 refine h.as (k:=0) rfl (fun hok=>⟨hok,by simp,?_,?_,?_⟩) ?_
 ·intro i si li _ h1 h2
  have hl:li = []:=by
   rw [List.getElem?_replicate] at h2
   split at h2
   ·cases h2;rfl
   ·cases h2
  rw [hs h1,hl]
  exact ⟨Row.nil _ _ _,by intro g o e;cases e⟩
 ·intro i j si sj _ _ _ h1 _ b hb
  rw [hs h1] at hb
  exact (own_none rfl hb).elim
 ·intro i si _ h1 b hb
  rw [hs h1] at hb
  exact (own_none rfl hb).elim
 ·rintro i (hi | ⟨j,sj,_,h1,hb⟩)
  ·exact hi
  ·rw [hs h1] at hb
   exact (own_none rfl hb).elim
theorem wi {n:Nat}(h:n≤1000000000000):w64 ((n:Int)+1)=((n+1:Nat):Int):=by rw [wrap64 (by omega) (by omega)];omega
theorem wd {n:Nat}(h:n≤1000000000000) (h0:0 < n):w64 ((n:Int) - 1)=((n - 1:Nat):Int):=by rw [wrap64 (by omega) (by omega)];omega
theorem wid {x:Int}(h1 : -1000000000000≤x) (h2:x≤1000000000000):w64 x=x:=wrap64 (by omega) (by omega)
theorem dlt {a b:Nat}(h:decide ((a:Int) < (b:Int))=true):a < b:=by have:=of_decide_eq_true h;omega
theorem dge {a b:Nat}(h:decide ((a:Int) < (b:Int))=false):b≤a:=by have:=of_decide_eq_false h;omega
end Go.V
end
section
namespace Go.V
attribute [local irreducible] Cvt ExtF CallF hrun
section
variable {τ : Type}{fl : τ→List Value}{sz:Nat}
variable {H0 H H':Hp}{S:Nat→Prop}{L R:List It}{P:Program}{T E E1 E2:TypeId}{by':Nat}{z:Value}{s t p si:Sl}{ss:List Sl}{l m li lp:List τ}{ls:List (List τ)}
end
end Go.V
end
section
namespace Go.V
attribute [local irreducible] Cvt ExtF CallF hrun
def str (l:List UInt8):ByteArray:=⟨l.toArray⟩
theorem str_of (s:ByteArray):s=str s.data.toList:=ByteArray.ext (by simp [str])
@[simp] theorem str_data (l:List UInt8):(str l).data.toList=l:=by simp [str]
theorem str_size (l:List UInt8):(str l).size=l.length:=by
 show l.toArray.size=_
 simp
theorem str_inj {a b:List UInt8}(h:str a=str b):a=b:=by
 have:=congrArg (fun s:ByteArray=>s.data.toList) h
 simpa using this
theorem str_app (a b:List UInt8):str a++str b=str (a++b):=by
 apply ByteArray.ext
 show (str a++str b).data=_
 rw [ByteArray.data_append]
 simp [str]
theorem beq_str (a b:List UInt8):beqS (str a) (str b)=decide (a=b):=by
 by_cases h:a=b
 ·subst h
  rw [decide_eq_true rfl]
  exact beqS_iff.2 rfl
 ·rw [decide_eq_false h]
  cases hb:beqS (str a) (str b) with
  | false=>rfl
  | true=>exact absurd (str_inj (beqS_iff.1 hb)) h
theorem lt_str (a b:List UInt8):ltS (str a) (str b)=Op.bytesLess a b:=by
 unfold ltS
 rw [ByteArray.toList_eq,ByteArray.toList_eq,str_data,str_data]
theorem str_nil:(⟨#[]⟩:ByteArray)=str []:=rfl
theorem bt_str {l:List UInt8}{i:Nat}{b:UInt8}(h:l[i]? = some b):bt (str l) (i:Int)=(b.toNat:Int):=by
 unfold bt
 rw [str_data,Int.toNat_natCast,List.getD_eq_getElem?_getD,h]
 rfl
theorem IxS.mk {l:List UInt8}{i:Nat}{b:UInt8}{K:Int→Prop}(h:l[i]? = some b) (k:K (b.toNat:Int)):IxS (str l) (i:Int) K:=by
 have hi:=(List.getElem?_eq_some_iff.1 h).1
 refine ⟨⟨by omega,by rw [str_size];omega⟩,?_⟩
 rw [bt_str h]
 exact k
theorem ext_str {l:List UInt8}{a b:Nat}:(str l).extract a b=str ((l.drop a).take (b - a)):=by
 apply ByteArray.ext
 rw [ByteArray.data_extract]
 apply Array.ext'
 rw [Array.toList_extract]
 simp [str,List.extract_eq_take_drop]
theorem SlS.mk {l:List UInt8}{lo hi:Nat}{K:ByteArray→Prop}(h1:lo≤hi) (h2:hi≤l.length) (k:K (str ((l.drop lo).take (hi - lo)))):SlS (str l) (lo:Int) (hi:Int) K:=by
 refine ⟨⟨by omega,by omega,by rw [str_size];omega⟩,?_⟩
 rw [Int.toNat_natCast,Int.toNat_natCast,ext_str]
 exact k
theorem SlS.to {l:List UInt8}{hi:Nat}{K:ByteArray→Prop}(h2:hi≤l.length) (k:K (str (l.take hi))):SlS (str l) 0 (hi:Int) K:=by
 have:=@SlS.mk l 0 hi K (by omega) h2 (by simpa using k)
 exact this
theorem SlS.from {l:List UInt8}{lo:Nat}{K:ByteArray→Prop}(h2:lo≤l.length) (k:K (str (l.drop lo))):SlS (str l) (lo:Int) ((str l).size:Int) K:=by
 rw [str_size]
 refine SlS.mk h2 (Nat.le_refl _) ?_
 have:(l.drop lo).take (l.length - lo)=l.drop lo:=List.take_of_length_le (by simp)
 rw [this]
 exact k
def TabH (P:Program) (H:Hp) (name:String) (k:IntKind) (zs:List Int):Prop:=∀ w:World,w.heap=H→Lib.TabIs P w name k zs
theorem TabH.of {P:Program}{w:World}{name:String}{k:IntKind}{zs:List Int}(h:Lib.TabIs P w name k zs):TabH P w.heap name k zs:=by
 intro w' hw
 unfold Lib.TabIs World.var? at h ⊢
 rw [hw]
 exact h
theorem TabH.more {P:Program}{H H':Hp}{name:String}{k:IntKind}{zs:List Int}(h:TabH P H name k zs) (hf:Fr no H H'):TabH P H' name k zs:=by
 intro w hw
 have h0:∃ w0:World,w0.heap=H:=⟨{ w with heap:=H },rfl⟩
 obtain ⟨w0,hw0⟩:=h0
 have h1:=h w0 hw0
 unfold Lib.TabIs World.var? at h1 ⊢
 cases hg:P.globalNamed name with
 | none=>rw [hg] at h1;cases h1
 | some g=>
  rw [hg] at h1
  simp only [Option.bind_some] at h1 ⊢
  rw [hw0] at h1
  rw [hw]
  cases hb:H[g]? with
  | none=>rw [hb] at h1;cases h1
  | some o=>
   rw [hb] at h1
   rw [hf.at hb fun h=>h]
   exact h1
theorem callF_below {P:Program}{f:FuncId}{args:Array Value}{H:Hp}{v:Value}{K:Value→Hp→Prop}{Z:List PanicEntry→Hp→Prop}(h:∀ w:World,w.heap=H→Calls P f args w fun e w'=>e = .returned v∧Go.RowKit.Below w.heap.size w w')
  (k:∀ H',Fr no H H'→K v H'):CallF P f args H K Z:=by
 unfold CallF
 intro w hw
 refine (h w hw).mono ?_
 rintro e w' ⟨rfl,hb⟩
 refine ⟨⟨hb.os,hb.tape,hb.output⟩,?_⟩
 refine k _ ⟨by rw [← hw];exact hb.size,fun i hi _=>?_⟩
 rw [← hw] at hi ⊢
 exact hb.block i hi
theorem callF_same {P:Program}{f:FuncId}{args:Array Value}{H:Hp}{v:Value}{K:Value→Hp→Prop}{Z:List PanicEntry→Hp→Prop}(h:∀ w:World,w.heap=H→Calls P f args w fun e w'=>e = .returned v∧w'=w)
  (k:K v H):CallF P f args H K Z:=by
 unfold CallF
 intro w hw
 refine (h w hw).mono ?_
 rintro e w' ⟨rfl,rfl⟩
 exact ⟨Lk.refl _,by rw [hw];exact k⟩
end Go.V
end
section
namespace Go.V
attribute [local irreducible] Cvt ExtF CallF hrun
def flL (l:List UInt8):List Value:=[.string (str l)]
theorem FlL:Fl flL 1:=⟨fun _=>rfl,fun x v hv=>by rw [List.mem_singleton.1 hv];rfl⟩
def ltL (a b:List UInt8):Bool:=Op.bytesLess a b
theorem linL:Lin ltL:=⟨bl_irr,bl_tr,bl_tot⟩
theorem lt_strL (a b:List UInt8):ltS (str a) (str b)=ltL a b:=lt_str a b
def rdI {τ : Type}(fl : τ→List Value) (sz:Nat) (s:Sl) (l:List τ):It where
 ok H:=Rd fl sz H s l∧∀ i,rown s i→i < H.size
 fp:=rown s
 lt h hi:=h.2 _ hi
 st:=by
  intro H H' h hs
  have hlt:∀ i,rown s i→i < H'.size:=by
   intro i hi
   have h1:=hs i hi
   have h2:=h.2 i hi
   rw [Array.getElem?_eq_getElem h2] at h1
   exact (Array.getElem?_eq_some_iff.1 h1).1
  refine ⟨⟨h.1.len,h.1.le,fun i x k v hx hv=>?_⟩,hlt⟩
  obtain ⟨ad,ha,hc⟩:=h.1.el i x k v hx hv
  refine ⟨ad,ha,?_⟩
  have hb:(ad.add (i*sz+k)).block=ad.block:=add_block _ _
  have h1:=hs ad.block ⟨ad,ha,rfl⟩
  unfold hcell at hc ⊢
  rw [hb] at hc ⊢
  rw [h1]
  exact hc
theorem rd_els {H:Hp}{s:Sl}{xs:List (List UInt8)}{val:ByteArray→Value}(hv:∀ x,val x = .string x) (h:Rd flL 1 H s xs):Els val H s (xs.map str):=by
 refine ⟨by rw [List.length_map];exact h.len,fun i x hx=>?_⟩
 rw [List.getElem?_map] at hx
 cases hxi:xs[i]? with
 | none=>rw [hxi] at hx;cases hx
 | some y=>
  rw [hxi] at hx
  simp only [Option.map_some,Option.some.injEq] at hx
  subst hx
  obtain ⟨ad,ha,hc⟩:=h.el i y 0 (.string (str y)) hxi rfl
  exact ⟨ad,ha,by rw [hv];exact hc⟩
theorem rising_map {ys:List ByteArray}(h:Rising ltS ys):Rising ltL (ys.map (·.data.toList)):=by
 unfold Rising at h ⊢
 rw [List.pairwise_map]
 refine h.imp ?_
 intro a b hab
 rw [str_of a,str_of b,lt_str] at hab
 exact hab
end Go.V
end
section
namespace Go.V
attribute [local irreducible] Cvt ExtF CallF hrun
section
variable {τ : Type}{fl : τ→List Value}{H0 H:Hp}{S:Nat→Prop}{L:List It}{P:Program}{T E:TypeId}{by':Nat}{z:Value}{s:Sl}{l:List τ}
end
section
variable {τ : Type}{val : τ→Value}{lt : τ→τ→Bool}{E EI:TypeId}
variable {H0 H H':Hp}{S:Nat→Prop}{L:List It}{k b o:Nat}{T:TypeId}{cs cs':List Value}{ts ts':List τ}{os os':List Nat}
end
end Go.V
end
section
namespace Go.V
attribute [local irreducible] Cvt ExtF CallF hrun
def BinV (P:Program) (fl fn:FuncId) (H:Hp) (x:Sl) (target:ByteArray) (K:Value→Hp→Prop) (Z:List PanicEntry→Hp→Prop):Prop:=
 ∃ I:Int→Int→Hp→Nat→Prop,(∃ m,I 0 (x.n:Int) H m)∧∀ (i:Int) (j:Int),∀ H1 m1,I i j H1 m1 →
  ∀ scr:Nat→Value,(((decide (i < j))=true→IxA x.a x.n (w64 (Int.fdiv (IntKind.wrap .u64 (w64 (i+j))) (2 ^ 1))) 1 fun ad=>
  (∃ x1:ByteArray,hcell H1 ad=some (.string x1)∧CallF P fl #[.string x1,.string target] H1 (fun r H2=>
  ∃ y:Bool,r = .bool y∧((y=true→(∃ m2,m2 < m1∧I (w64 ((w64 (Int.fdiv (IntKind.wrap .u64 (w64 (i+j))) (2 ^ 1)))+1)) j H2 m2)) ∧
  (y=false→(∃ m2,m2 < m1∧I i (w64 (Int.fdiv (IntKind.wrap .u64 (w64 (i+j))) (2 ^ 1))) H2 m2)))) Z)) ∧
  ((decide (i < j))=false→(((decide (i < (x.n:Int)))=true→IxA x.a x.n i 1 fun ad1=>(∃ x2:ByteArray,hcell H1 ad1=some (.string x2) ∧
  (((beqS x2 target)=true→K (.tuple #[.int .i64 i,.bool true]) H1)∧((beqS x2 target)=false →
  IxA x.a x.n i 1 fun ad2=>(∃ x3:ByteArray,hcell H1 ad2=some (.string x3)∧CallF P fn #[.string x3] H1 (fun r1 H3=>
  ∃ y1:Bool,r1 = .bool y1∧((y1=true→CallF P fn #[.string target] H3 (fun r2 H4=>
  ∃ y2:Bool,r2 = .bool y2∧K (.tuple #[.int .i64 i,.bool y2]) H4) Z)∧(y1=false→K (.tuple #[.int .i64 i,.bool false]) H3))) Z))))) ∧
  ((decide (i < (x.n:Int)))=false→K (.tuple #[.int .i64 i,.bool false]) H1))))
structure PartAt (xs:List (List UInt8)) (t:List UInt8) (p:Nat):Prop where
 le:p≤xs.length
 lo:∀ (i:Nat) (x:List UInt8),i < p→xs[i]? = some x→ltL x t=true
 hi:∀ (i:Nat) (x:List UInt8),p≤i→xs[i]? = some x→ltL x t=false
theorem PartAt.mem {xs:List (List UInt8)}{t:List UInt8}{p:Nat}(h:PartAt xs t p) (hr:Rising ltL xs):t∈xs↔xs[p]? = some t:=by
 constructor
 ·intro hm
  obtain ⟨i,hi⟩:=List.getElem?_of_mem hm
  rcases Nat.lt_trichotomy i p with hip | hip | hip
  ·have:=h.lo i t hip hi
   rw [linL.irr] at this
   cases this
  ·rw [← hip];exact hi
  ·obtain ⟨h2,e2⟩:=List.getElem?_eq_some_iff.1 hi
   have hp:p < xs.length:=by omega
   have hlt:=List.pairwise_iff_getElem.1 hr p i hp h2 hip
   rw [e2] at hlt
   have:=h.hi p _ (Nat.le_refl _) (List.getElem?_eq_getElem hp)
   rw [hlt] at this
   cases this
 ·exact fun hp=>List.mem_of_getElem? hp
theorem binv_ok {P:Program}{fl fn:FuncId}{H:Hp}{s:Sl}{xs:List (List UInt8)}{t:List UInt8}{K:Value→Hp→Prop}{Z:List PanicEntry→Hp→Prop}(h:Rd flL 1 H s xs) (hr:Rising ltL xs) (hbig:xs.length≤1000000000000)
  (hless:∀ (a b:ByteArray) (K':Value→Hp→Prop),K' (.bool (ltS a b)) H→CallF P fl #[.string a,.string b] H K' Z)
  (hnan:∀ (a:ByteArray) (K':Value→Hp→Prop),K' (.bool false) H→CallF P fn #[.string a] H K' Z)
  (k:∀ p:Nat,PartAt xs t p→K (.tuple #[.int .i64 (p:Int),.bool (decide (t∈xs))]) H):BinV P fl fn H s (str t) K Z:=by
 have hn:=h.len
 have mono:∀ {i j:Nat}{x y:List UInt8},i≤j→xs[i]? = some x→xs[j]? = some y→ltL y t=true→ltL x t=true:=by
  intro i j x y hij hx hy hlt
  rcases Nat.eq_or_lt_of_le hij with rfl | hij
  ·rw [hx] at hy;cases hy;exact hlt
  ·obtain ⟨h1,e1⟩:=List.getElem?_eq_some_iff.1 hx
   obtain ⟨h2,e2⟩:=List.getElem?_eq_some_iff.1 hy
   have:=List.pairwise_iff_getElem.1 hr i j h1 h2 hij
   rw [e1,e2] at this
   exact linL.tr _ _ _ this hlt
 unfold BinV
 refine ⟨fun i j A m=>∃ a b:Nat,A=H∧i=(a:Int)∧j=(b:Int)∧a≤b∧b≤xs.length∧m=b - a∧(∀ (i:Nat) x,i < a→xs[i]? = some x→ltL x t=true)∧(∀ (i:Nat) x,b≤i→xs[i]? = some x→ltL x t=false),
  ⟨_,0,xs.length,rfl,rfl,by rw [hn],Nat.zero_le _,Nat.le_refl _,rfl,fun i x hi=>by omega,fun i x hi hx=>by have:=(List.getElem?_eq_some_iff.1 hx).1;omega⟩,?_⟩
 rintro i j A m ⟨a,b,rfl,rfl,rfl,hab,hb,rfl,hlo,hhi⟩ scr
 refine ⟨fun hlt=>?_,fun hge=>?_⟩
 ·have hlt':a < b:=dlt hlt
  rw [mid_eq (by omega)]
  have hm1:a≤(a+b) / 2:=by omega
  have hm2:(a+b) / 2 < b:=by omega
  generalize (a+b) / 2=c at *
  have hv:xs[c]? = some (xs[c]'(by omega)):=List.getElem?_eq_getElem (by omega)
  generalize xs[c]'(by omega)=x at hv
  refine h.ixn FlL hv fun ad had=>⟨_,had,hless _ _ _ ⟨_,rfl,fun hy=>?_,fun hy=>?_⟩⟩
  ·rw [lt_strL] at hy
   refine ⟨b - (c+1),by omega,c+1,b,rfl,wi (by omega),rfl,by omega,hb,rfl,fun i y hi hy'=>mono (by omega) hy' hv hy,hhi⟩
  ·rw [lt_strL] at hy
   refine ⟨c - a,by omega,a,c,rfl,rfl,rfl,by omega,by omega,rfl,hlo,fun i y hi hy'=>?_⟩
   cases e:ltL y t with
   | false=>rfl
   | true=>rw [mono hi hv hy' e] at hy;cases hy
 ·have hab':a=b:=by have:=dge hge;omega
  subst hab'
  have hp:PartAt xs t a:=⟨hb,hlo,hhi⟩
  have hk:=k a hp
  refine ⟨fun hlt=>?_,fun hge2=>?_⟩
  ·have hlt':a < xs.length:=by have:=dlt hlt;omega
   have hv:xs[a]? = some (xs[a]'hlt'):=List.getElem?_eq_getElem hlt'
   generalize xs[a]'hlt'=x at hv
   refine h.ixn FlL hv fun ad had=>⟨_,had,fun he=>?_,fun he=>?_⟩
   ·have hx:x=t:=by rw [beq_str] at he;exact of_decide_eq_true he
    rw [decide_eq_true ((hp.mem hr).2 (by rw [hv,hx]))] at hk
    exact hk
   ·have hx:x≠t:=by rw [beq_str] at he;exact of_decide_eq_false he
    rw [decide_eq_false (fun hm=>hx (by have:=(hp.mem hr).1 hm;rw [hv] at this;exact Option.some.inj this))] at hk
    refine h.ixn FlL hv fun ad1 had1=>⟨_,had1,hnan _ _ ⟨_,rfl,(fun h=>by cases h),fun _=>hk⟩⟩
  ·have hge2':xs.length≤a:=by have:=dge hge2;omega
   rw [decide_eq_false (fun hm=>by
    have:=(hp.mem hr).1 hm
    rw [List.getElem?_eq_none hge2'] at this
    cases this)] at hk
   exact hk
end Go.V
end
section
namespace Go.V
attribute [local irreducible] Cvt ExtF CallF hrun
abbrev L8:=List UInt8
abbrev Mk:=Int × L8
structure ObjD where
 name:L8
 kinds:L8
 marks:List Mk
 deriving DecidableEq
structure FnD where
 name:L8
 kinds:L8
 ret:L8
 deriving DecidableEq
structure ConD where
 op:Int
 a:L8
 b:L8
 k:Int
 tag:L8
 args:List L8
 deriving DecidableEq
structure SysD where
 objs:List ObjD
 fns:List FnD
 cons:List ConD
 deriving DecidableEq
instance:Inhabited ObjD:=⟨⟨[],[],[]⟩⟩
instance:Inhabited FnD:=⟨⟨[],[],[]⟩⟩
instance:Inhabited ConD:=⟨⟨0,[],[],0,[],[]⟩⟩
def flM (x:Mk):List Value:=[.int .i64 x.1,.string (str x.2)]
theorem FlM:Fl flM 2:=⟨fun _=>rfl,fun x v hv=>by
 unfold flM at hv
 simp only [List.mem_cons,List.not_mem_nil,or_false] at hv
 rcases hv with rfl | rfl <;> rfl⟩
def flF (x:FnD):List Value:=[.string (str x.name),.string (str x.kinds),.string (str x.ret)]
theorem FlF:Fl flF 3:=⟨fun _=>rfl,fun x v hv=>by
 unfold flF at hv
 simp only [List.mem_cons,List.not_mem_nil,or_false] at hv
 rcases hv with rfl | rfl | rfl <;> rfl⟩
abbrev HO:=L8 × L8 × Sl
def flHO (h:HO):List Value:=[.string (str h.1),.string (str h.2.1),.slice h.2.2.a h.2.2.n h.2.2.c]
theorem FlHO:Fl flHO 3:=⟨fun _=>rfl,fun x v hv=>by
 unfold flHO at hv
 simp only [List.mem_cons,List.not_mem_nil,or_false] at hv
 rcases hv with rfl | rfl | rfl <;> rfl⟩
abbrev HC:=Int × L8 × L8 × Int × L8 × Sl
def flHC (h:HC):List Value:=[.int .i64 h.1,.string (str h.2.1),.string (str h.2.2.1),.int .i64 h.2.2.2.1,.string (str h.2.2.2.2.1),.slice h.2.2.2.2.2.a h.2.2.2.2.2.n h.2.2.2.2.2.c]
theorem FlHC:Fl flHC 6:=⟨fun _=>rfl,fun x v hv=>by
 unfold flHC at hv
 simp only [List.mem_cons,List.not_mem_nil,or_false] at hv
 rcases hv with rfl | rfl | rfl | rfl | rfl | rfl <;> rfl⟩
def HO.of (x:ObjD) (s:Sl):HO:=(x.name,x.kinds,s)
def HC.of (x:ConD) (s:Sl):HC:=(x.op,x.a,x.b,x.k,x.tag,s)
def InO (H:Hp) (h:HO) (x:ObjD):Prop:=h=HO.of x h.2.2∧Rd flM 2 H h.2.2 x.marks
def InC (H:Hp) (h:HC) (x:ConD):Prop:=h=HC.of x h.2.2.2.2.2∧Rd flL 1 H h.2.2.2.2.2 x.args
def RdX {η χ : Type}(fl : η→List Value) (sz:Nat) (In:Hp→η→χ→Prop) (H:Hp) (s:Sl) (xs:List χ):Prop:=
 ∃ hs:List η,Rd fl sz H s hs∧hs.length=xs.length∧∀ (i:Nat) h x,hs[i]? = some h→xs[i]? = some x→In H h x
abbrev RdO:=RdX flHO 3 InO
abbrev RdC:=RdX flHC 6 InC
theorem InO.more {H H':Hp}{h:HO}{x:ObjD}(k:InO H h x) (hf:Fr no H H'):InO H' h x:=⟨k.1,k.2.more hf⟩
theorem InC.more {H H':Hp}{h:HC}{x:ConD}(k:InC H h x) (hf:Fr no H H'):InC H' h x:=⟨k.1,k.2.more hf⟩
section
variable {η χ : Type}{fl : η→List Value}{sz:Nat}{In:Hp→η→χ→Prop}{H H':Hp}{s:Sl}{xs:List χ}
theorem RdX.more (hin:∀ {h x},In H h x→Fr no H H'→In H' h x) (k:RdX fl sz In H s xs) (hf:Fr no H H'):RdX fl sz In H' s xs:=by
 obtain ⟨hs,h1,h2,h3⟩:=k
 exact ⟨hs,h1.more hf,h2,fun i h x a b=>hin (h3 i h x a b) hf⟩
theorem RdX.len (k:RdX fl sz In H s xs):s.n=xs.length:=by
 obtain ⟨hs,h1,h2,h3⟩:=k
 rw [h1.len,h2]
theorem RdX.nil:RdX fl sz In H ⟨none,0,0⟩ ([]:List χ):=⟨[],Rd.nil,rfl,by simp⟩
theorem RdX.get (k:RdX fl sz In H s xs) {i:Nat}{x : χ}(hx:xs[i]? = some x):∃ h,In H h x∧∀ {hs:Fl fl sz}{hz:0 < sz}{K:Addr→Prop},(∀ ad,(∀ k v,(fl h)[k]? = some v→hcell H (ad.add k)=some v)→hcell H ad=(fl h)[0]?→K ad)→IxA s.a s.n (i:Int) sz K:=by
 obtain ⟨hs,h1,h2,h3⟩:=k
 have hi:=(List.getElem?_eq_some_iff.1 hx).1
 have hh:hs[i]? = some (hs[i]'(by omega)):=List.getElem?_eq_getElem _
 refine ⟨_,h3 i _ x hh hx,fun {hF hz K} kk=>h1.ix hz hF (by omega) (by simp [hh]) kk⟩
end
theorem RdO.more {H H':Hp}{s:Sl}{xs:List ObjD}(k:RdO H s xs) (hf:Fr no H H'):RdO H' s xs:=RdX.more (fun h hf=>h.more hf) k hf
theorem RdC.more {H H':Hp}{s:Sl}{xs:List ConD}(k:RdC H s xs) (hf:Fr no H H'):RdC H' s xs:=RdX.more (fun h hf=>h.more hf) k hf
structure RdSys (H:Hp) (s1 s2 s3:Sl) (x:SysD):Prop where
 o:RdO H s1 x.objs
 f:Rd flF 3 H s2 x.fns
 c:RdC H s3 x.cons
theorem RdSys.more {H H':Hp}{s1 s2 s3:Sl}{x:SysD}(k:RdSys H s1 s2 s3 x) (hf:Fr no H H'):RdSys H' s1 s2 s3 x:=⟨k.o.more hf,k.f.more hf,k.c.more hf⟩
section
variable {τ : Type}{fl : τ→List Value}{sz:Nat}
def rdsI (fl : τ→List Value) (sz:Nat) (ps:List (Sl × List τ)):It where
 ok H:=∀ p∈ps,(rdI fl sz p.1 p.2).ok H
 fp i:=∃ p∈ps,rown p.1 i
 lt:=by
  rintro H i h ⟨p,hp,hi⟩
  exact (rdI fl sz p.1 p.2).lt (h p hp) hi
 st:=by
  intro H H' h hs p hp
  exact (rdI fl sz p.1 p.2).st (h p hp) fun i hi=>hs i ⟨p,hp,hi⟩
variable {H0 H H':Hp}{S:Nat→Prop}{L R:List It}{E:TypeId}{s:Sl}{l:List τ}{ps:List (Sl × List τ)}
theorem Sym.nilrds (h:Sym H0 S H L) (fl : τ→List Value) (sz:Nat):Sym H0 S H (rdsI fl sz []::L):=
 h.new (Fr.refl _ _) (fun p hp=>by cases hp) fun i hi=>by obtain ⟨p,hp,_⟩:=hi;cases hp
theorem RowN.rdi (hf:Fl fl sz) (hsz:0 < sz) (h:RowN fl E sz H s l):(rdI fl sz s l).ok H:=by
 refine ⟨h.rd hf hsz,?_⟩
 rintro i ⟨ad,ha,rfl⟩
 rcases h.row.2 with h' | ⟨g,cs,fr,ha',hg,_⟩
 ·rw [h'.1] at ha;cases ha
 ·rw [ha'] at ha
  cases ha
  exact (Array.getElem?_eq_some_iff.1 hg).1
theorem rown_own {i:Nat}(h:RowN fl E sz H s l) (hi:rown s i):own s i:=by
 obtain ⟨ad,ha,rfl⟩:=hi
 rcases h.row.2 with h' | ⟨g,cs,fr,ha',hg,_⟩
 ·rw [h'.1] at ha;cases ha
 ·rw [ha'] at ha
  cases ha
  exact ⟨0,ha'⟩
theorem Sym.inrds (hf:Fl fl sz) (hsz:0 < sz) (h:Sym H0 S H (arr fl E sz s l::rdsI fl sz ps::R)):Sym H0 S H (rdsI fl sz ((s,l)::ps)::R):=by
 have h0:RowN fl E sz H s l:=h.get (k:=0) rfl
 have h1:(rdsI fl sz ps).ok H:=h.get (k:=1) rfl
 have hs:=h.sep
 rw [List.pairwise_cons,List.pairwise_cons] at hs
 have hfp:∀ i,(rdsI fl sz ((s,l)::ps)).fp i→own s i∨(rdsI fl sz ps).fp i:=by
  rintro i ⟨p,hp,hi⟩
  rcases List.mem_cons.1 hp with rfl | hp
  ·exact .inl (rown_own h0 hi)
  ·exact .inr ⟨p,hp,hi⟩
 refine ⟨h.fr,?_,?_,?_⟩
 ·intro a ha
  rcases List.mem_cons.1 ha with rfl | ha
  ·intro p hp
   rcases List.mem_cons.1 hp with rfl | hp
   ·exact h0.rdi hf hsz
   ·exact h1 p hp
  ·exact h.ok a (List.mem_cons_of_mem _ (List.mem_cons_of_mem _ ha))
 ·rw [List.pairwise_cons]
  refine ⟨?_,hs.2.2⟩
  intro a ha i hi hi2
  rcases hfp i hi with hi | hi
  ·exact hs.1 a (List.mem_cons_of_mem _ ha) i hi hi2
  ·exact hs.2.1 a ha i hi hi2
 ·intro a ha i hi
  rcases List.mem_cons.1 ha with rfl | ha
  ·rcases hfp i hi with hi | hi
   ·exact h.fp _ List.mem_cons_self i hi
   ·exact h.fp _ (List.mem_cons_of_mem _ List.mem_cons_self) i hi
  ·exact h.fp a (List.mem_cons_of_mem _ (List.mem_cons_of_mem _ ha)) i hi
end
end Go.V
end
section
namespace Go.V
attribute [local irreducible] Cvt ExtF CallF hrun
section
variable {H:Hp}{s:Sl}{i:Nat}{K:Addr→Prop}
theorem atM {xs:List Mk}{x:Mk}(h:Rd flM 2 H s xs) (hx:xs[i]? = some x) (k:∀ ad,hcell H ad=some (.int .i64 x.1)→hcell H (ad.add 1)=some (.string (str x.2))→K ad):IxA s.a s.n (i:Int) 2 K:=
 h.ix (by decide) FlM (by omega) (by simpa using hx) fun ad h1 h2=>k ad h2 (h1 1 _ rfl)
theorem atF {xs:List FnD}{x:FnD}(h:Rd flF 3 H s xs) (hx:xs[i]? = some x) (k:∀ ad,hcell H ad=some (.string (str x.name))→hcell H (ad.add 1)=some (.string (str x.kinds))→hcell H (ad.add 2)=some (.string (str x.ret))→K ad):IxA s.a s.n (i:Int) 3 K:=
 h.ix (by decide) FlF (by omega) (by simpa using hx) fun ad h1 h2=>k ad h2 (h1 1 _ rfl) (h1 2 _ rfl)
theorem atL {xs:List L8}{x:L8}(h:Rd flL 1 H s xs) (hx:xs[i]? = some x) (k:∀ ad,hcell H ad=some (.string (str x))→K ad):IxA s.a s.n (i:Int) 1 K:=h.ixn FlL hx fun ad e=>k ad e
theorem atO {xs:List ObjD}{x:ObjD}(h:RdO H s xs) (hx:xs[i]? = some x):∃ t:Sl,Rd flM 2 H t x.marks∧∀ {K:Addr→Prop},(∀ ad,hcell H ad=some (.string (str x.name))→hcell H (ad.add 1)=some (.string (str x.kinds))→hcell H (ad.add 2)=some (.slice t.a t.n t.c)→K ad)→IxA s.a s.n (i:Int) 3 K:=by
 obtain ⟨h1,⟨e,r⟩,g⟩:=RdX.get h hx
 refine ⟨h1.2.2,r,fun {K} k=>g (hs:=FlHO) (hz:=by decide) fun ad h2 h3=>?_⟩
 rw [e] at h2 h3
 exact k ad h3 (h2 1 _ rfl) (h2 2 _ rfl)
theorem atC {xs:List ConD}{x:ConD}(h:RdC H s xs) (hx:xs[i]? = some x):∃ t:Sl,Rd flL 1 H t x.args∧∀ {K:Addr→Prop},(∀ ad,hcell H ad=some (.int .i64 x.op)→hcell H (ad.add 1)=some (.string (str x.a))→hcell H (ad.add 2)=some (.string (str x.b))→hcell H (ad.add 3)=some (.int .i64 x.k) →
  hcell H (ad.add 4)=some (.string (str x.tag))→hcell H (ad.add 5)=some (.slice t.a t.n t.c)→K ad)→IxA s.a s.n (i:Int) 6 K:=by
 obtain ⟨h1,⟨e,r⟩,g⟩:=RdX.get h hx
 refine ⟨h1.2.2.2.2.2,r,fun {K} k=>g (hs:=FlHC) (hz:=by decide) fun ad h2 h3=>?_⟩
 rw [e] at h2 h3
 exact k ad h3 (h2 1 _ rfl) (h2 2 _ rfl) (h2 3 _ rfl) (h2 4 _ rfl) (h2 5 _ rfl)
end
theorem getN {α : Type}{xs:List α}{i:Nat}(h:i < xs.length):∃ x,xs[i]? = some x∧x∈xs:=⟨xs[i],List.getElem?_eq_getElem h,List.getElem_mem h⟩
theorem all_snoc {α : Type}{xs:List α}{i:Nat}{x : α}{P : α→Prop}(h:xs[i]? = some x) (h1:∀ y∈xs.take i,P y) (hx:P x):∀ y∈xs.take (i+1),P y:=by
 intro y hy
 rw [List.take_add_one,h] at hy
 rcases List.mem_append.1 hy with hy | hy
 ·exact h1 y hy
 ·rw [Option.toList_some,List.mem_singleton] at hy
  rw [hy]
  exact hx
def okO (o:ObjD):Prop:=o.name.length≤1048576∧o.kinds.length≤1048576∧o.marks.length≤1048576∧∀ m∈o.marks,m.2.length≤1048576
def okF (f:FnD):Prop:=f.name.length≤1048576∧f.kinds.length≤1048576∧f.ret.length≤1048576
def okC (c:ConD):Prop:=c.a.length≤1048576∧c.b.length≤1048576∧c.tag.length≤1048576∧c.args.length≤1048576∧∀ x∈c.args,x.length≤1048576
structure OkSys (x:SysD):Prop where
 o:x.objs.length≤1048576∧∀ o∈x.objs,okO o
 f:x.fns.length≤1048576∧∀ f∈x.fns,okF f
 c:x.cons.length≤1048576∧∀ c∈x.cons,okC c
theorem subset_len {α : Type} [DecidableEq α]:∀ {a b:List α},a.Nodup→(∀ z∈a,z∈b)→a.length≤b.length
 | [],b,_,_=>by simp
 | x::a,b,hn,h=>by
  rw [List.nodup_cons] at hn
  have hx:=h x List.mem_cons_self
  have ih:=subset_len (a:=a) (b:=b.erase x) hn.2 fun z hz=>(List.mem_erase_of_ne (by rintro rfl;exact hn.1 hz)).2 (h z (List.mem_cons_of_mem _ hz))
  rw [List.length_erase_of_mem hx] at ih
  have:=List.length_pos_of_mem hx
  rw [List.length_cons]
  omega
theorem rising_nodup {a:List L8}(h:Rising ltL a):a.Nodup:=by
 unfold Rising at h
 refine List.Pairwise.imp (fun hxy e=>?_) h
 subst e
 rw [linL.irr] at hxy
 cases hxy
structure LenSys (x:SysD):Prop where
 o:x.objs.length≤1048576∧∀ o∈x.objs,o.marks.length≤1048576
 f:x.fns.length≤1048576
 c:x.cons.length≤1048576∧∀ c∈x.cons,c.args.length≤1048576
theorem OkSys.len {x:SysD}(h:OkSys x):LenSys x:=⟨⟨h.o.1,fun o ho=>(h.o.2 o ho).2.2.1⟩,h.f.1,⟨h.c.1,fun c hc=>(h.c.2 c hc).2.2.2.1⟩⟩
structure Mild (most:Nat) (x:SysD):Prop where
 o:x.objs.length≤most∧∀ o∈x.objs,o.marks.length≤3000
 f:x.fns.length≤most
 c:x.cons.length≤most∧∀ c∈x.cons,c.args.length≤6000
end Go.V
end
