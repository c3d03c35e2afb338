import Derived.Test.YtjdhjgfmloaglaaGreatDoorZ04
import Derived.Laws.Strings
set_option linter.unusedVariables false
set_option linter.unusedSimpArgs false
section
namespace Go.V
def bv (l:List UInt8):List Value:=l.map fun b=>.int .u8 (b.toNat:Int)
theorem bv_append (l m:List UInt8):bv (l++m)=bv l++bv m:=by simp [bv]
theorem bv_length (l:List UInt8):(bv l).length=l.length:=by simp [bv]
theorem bv_one (l:List UInt8):∀ v∈bv l,v.oneCell=true:=by
 intro v hv
 obtain ⟨b,_,rfl⟩:=List.mem_map.1 hv
 rfl
theorem Src.str {H:Hp}(t:ByteArray):Src H 1 (.string t) t.size (bv t.data.toList):=by
 refine ⟨?_,rfl,rfl,rfl⟩
 rw [bv_length]
 simp
theorem loadBytes_ok {P:Program}{Z:Value→Hp→Prop}:∀ (l:List UInt8) (a:Addr) (acc:ByteArray) {H:Hp}{K:ByteArray→Hp→Prop},(∀ j x,l[j]? = some x→hcell H (a.add j)=some (.int .u8 x.toNat)) →
  K ⟨acc.data++l.toArray⟩ H→hrun P (loadBytes a acc l.length) H K Z
 | [],a,acc,H,K,_,k=>by
  unfold hrun
  simpa [loadBytes,pure] using k
 | x::l,a,acc,H,K,h,k=>by
  have h0:hcell H a=some (.int .u8 x.toNat):=by
   have:=h 0 x rfl
   simpa [Addr.add] using this
  have hx:((x.toNat:Int).toNat).toUInt8=x:=by simp
  simp only [List.length_cons,loadBytes]
  refine hrun_bind _ ?_
  unfold load hrun
  refine ⟨_,h0,?_⟩
  unfold hrun
  simp only [hx]
  refine loadBytes_ok l (a.add 1) (acc.push x) (fun j y hy=>?_) ?_
  ·have:=h (j+1) y (by simpa using hy)
   have e:(a.add 1).add j=a.add (j+1):=by
    unfold Addr.add
    by_cases hj:j=0
    ·subst hj;simp
    ·simp [hj];omega
   rw [e];exact this
  ·have e:(⟨(acc.push x).data++l.toArray⟩:ByteArray)=⟨acc.data++(x::l).toArray⟩:=by
    apply ByteArray.ext
    simp [ByteArray.push]
   rw [e]
   exact k
theorem info_of {x:Option TypeInfo}{z:Option Value}{a b:Nat}(h:(x.map fun i=>(i.zero,i.size,i.bytes))=some (z,a,b)):∃ inf:TypeInfo,x=some inf∧inf.zero=z∧inf.size=a∧inf.bytes=b:=by
 cases x with
 | none=>cases h
 | some i=>
  simp only [Option.map_some,Option.some.injEq,Prod.mk.injEq] at h
  exact ⟨i,rfl,h.1,h.2.1,h.2.2⟩
theorem hcell_lt {H:Hp}{a:Addr}{v:Value}(h:hcell H a=some v):a.block < H.size:=by
 unfold hcell at h
 cases hb:H[a.block]? with
 | none=>rw [hb] at h;cases h
 | some o=>exact lt_of_some hb
theorem hcell_eq {H H':Hp}{a:Addr}(h:H'[a.block]? = H[a.block]?):hcell H' a=hcell H a:=by
 unfold hcell
 rw [h]
theorem Fr.cell {S:Nat→Prop}{H H':Hp}(hf:Fr S H H') {a:Addr}{v:Value}(h:hcell H a=some v) (hs:¬ S a.block):hcell H' a=some v:=
 (hcell_eq (hf.keep _ (hcell_lt h) hs)).trans h
theorem add_block (a:Addr) (k:Nat):(a.add k).block=a.block:=by
 unfold Addr.add
 split <;> rfl
theorem add_zero' (a:Addr):a.add 0=a:=by
 unfold Addr.add
 simp
theorem callV_mono {P:Program}{v:Value}{args:List Value}{H:Hp}{K K':Value→Hp→Prop}{Z Z':List PanicEntry→Hp→Prop}
  (h:callV P v args H K Z) (hk:∀ v H',K v H'→K' v H') (hz:∀ v H',Z v H'→Z' v H'):callV P v args H K' Z':=by
 unfold callV at h ⊢
 split at h
 ·split at h
  ·rename_i h1;rw [if_pos h1];exact h.mono hk hz
  ·rename_i h1
   rw [if_neg h1]
   unfold ExtF at h ⊢
   refine hrun.mono _ h ?_ fun _ _ h=>h
   intro nx A hA
   cases nx <;> first | exact hk _ _ hA | exact hA
 ·obtain ⟨r,h1,h2,h3⟩:=h
  exact ⟨r,h1,h2,h3.mono hk⟩
 ·exact h.elim
end Go.V
end
section
namespace Go.V
theorem setsL_eq:∀ (vs cs:List Value) (o:Nat),o+vs.length≤cs.length→setsL cs o vs=cs.take o++vs++cs.drop (o+vs.length)
 | [],cs,o,h=>by simp [setsL]
 | v::vs,cs,o,h=>by
  simp only [List.length_cons] at h
  rw [setsL,setsL_eq vs (cs.set o v) (o+1) (by simp;omega)]
  rw [List.take_set,List.take_succ_eq_append_getElem (by omega),List.set_append_right _ _ (by simp;omega)]
  have e1:o - (cs.take o).length=0:=by simp;omega
  rw [e1,List.drop_set_of_lt (by omega)]
  simp only [List.set_cons_zero,List.length_cons,List.append_assoc,List.singleton_append,List.cons_append,List.nil_append]
  congr 3
  congr 1
  omega
theorem setsL_app {A B vs:List Value}{o:Nat}(ho:o=A.length) (h:vs.length≤B.length):setsL (A++B) o vs=A++(vs++B.drop vs.length):=by
 subst ho
 rw [setsL_eq _ _ _ (by simp;omega),List.take_left,List.drop_append,List.append_assoc]
 congr 2
 rw [List.drop_of_length_le (by omega),List.nil_append]
 congr 1
 omega
theorem first_cells {P:Program}{H:Hp}{g o sz k n c:Nat}{cs:List Value}{T:TypeId}{fr:Nat × Nat}(hg:H[g]? = some (.cells cs.toArray T fr)) (hl:o+k*sz≤cs.length) {K:Array Value→Hp→Prop}{Z:Value→Hp→Prop}
  (h:K ((cs.drop o).take (k*sz)).toArray H):hrun P (Builtin.firstCells sz k (.slice (some ⟨g,o,none⟩) n c)) H K Z:=by
 simp only [Builtin.firstCells,loadCells]
 have hlen:((cs.drop o).take (k*sz)).length=k*sz:=by simp;omega
 rw [← hlen]
 refine hrun_loadCells _ 0 #[] ?_ (by simpa using h)
 refine atL_of hg _ 0 ?_
 intro j hj
 rw [hlen] at hj
 rw [List.getElem?_take,if_pos hj,List.getElem?_drop]
 congr 1
theorem cpy_ok {P:Program}{T T2 E:TypeId}{inf:TypeInfo}{ty:TypeId}(hu:P.underlying T=some (.slice E)) (hi:P.info? E=some inf) {H:Hp}{g o n c m:Nat}{y:Value}{ys cs:List Value}{E':TypeId}{fr:Nat × Nat}{K:Int→Hp→Prop}
  (hlen:pureV P (Builtin.lenOf y)=some m) (hfirst:∀ {K:Array Value→Hp→Prop}{Z:Value→Hp→Prop},K ys.toArray H→hrun P (Builtin.firstCells inf.size (Nat.min m n) y) H K Z)
  (hg:H[g]? = some (.cells cs.toArray E' fr)) (hl:o+ys.length≤cs.length) (h1:∀ v∈ys,v.oneCell=true) (hfr:fr.2≤o∨fr.2≤fr.1)
  (k:∀ H',H'[g]? = some (.cells (setsL cs o ys).toArray E' fr)→Fr (fun j=>j=g) H H'→H'.size=H.size→K ((Nat.min m n:Nat):Int) H') :
  Cpy P #[T,T2] ty H [.slice (some ⟨g,o,none⟩) n c,y] K:=by
 unfold Cpy Builtin.copy_
 simp only [List.getElem?_toArray,List.getElem?_cons_zero,List.getElem?_cons_succ]
 refine hrun_pv (pv_underlying hu) ?_
 simp only
 refine hrun_pv hlen ?_
 refine hrun_pv (pv_sizeOf hi) ?_
 refine hrun_bind _ (hfirst ?_)
 refine hrun_bind _ (hrun_storeCells _ 0 ?_)
 have:=stL_cells (o:=o) ys 0 hg (by simpa using hl) h1 (by simpa using hfr) (K:=fun H'=>∃ r:Int,goInt (Nat.min m n) = .int .i64 r∧K r H') (fun H' h2 h3 h4=>⟨_,rfl,k H' (by simpa using h2) h3 h4⟩)
 simpa [hrun,pure] using this
theorem app_make {P:Program}{T T2 E:TypeId}{k2:IntKind}{inf:TypeInfo}{z:Value}{ty:TypeId}(hu:P.underlying T=some (.slice E)) (hu2:P.underlying T2=some (.int k2)) (hi:P.info? E=some inf) (hz:inf.zero=some z) (hzs:z.cells.size=inf.size) (hb:0 < inf.bytes)
  {H:Hp}{s:Sl}{xs:List Value}{m:Nat}{K:Sl→Hp→Prop}(hx:∀ {K:Array Value→Hp→Prop}{Z:Value→Hp→Prop},K xs.toArray H→hrun P (Builtin.firstCells inf.size s.n (.slice s.a s.n s.c)) H K Z) (hxl:xs.length=s.n*inf.size)
  (hm:0 < m*inf.size) (hc:s.c < s.n+m) (hl:(s.n+m)*inf.bytes≤140737488355328)
  (k:∀ g H' cap zs,Newb H (.cells (xs++zs).toArray E) g H'→s.n+m≤cap→(xs++zs).length=cap*inf.size→K ⟨some ⟨g,0,none⟩,s.n+m,cap⟩ H') :
  App P #[T,T2] ty H [.slice s.a s.n s.c,.int .i64 (m:Int)] K:=by
 have h63:IntKind.i64.max=9223372036854775807:=rfl
 have hbig:s.n+m≤140737488355328:=Nat.le_trans (Nat.le_mul_of_pos_right _ hb) hl
 have hw:IntKind.i64.wrap (m:Int)=(m:Int):=by
  simp only [IntKind.wrap,IntKind.bits,IntKind.signed,Int.reducePow,Nat.reduceSub,Bool.true_and,decide_eq_true_eq,ge_iff_le]
  by_cases h:9223372036854775808≤(m:Int) % 18446744073709551616
  ·rw [if_pos h];omega
  ·rw [if_neg h];omega
 have hmb:m*inf.bytes≤140737488355328:=Nat.le_trans (Nat.mul_le_mul_right _ (by omega)) hl
 have hgr:=growslice_fits (need:=s.n+m) (old:=s.c) (bytes:=inf.bytes) (by omega) hl
 unfold App Builtin.append_
 simp only [List.getElem?_toArray,List.getElem?_cons_zero,List.getElem?_cons_succ]
 refine hrun_pv (pv_underlying hu) ?_
 simp only
 refine hrun_pv (pv_sizeOf hi) ?_
 refine hrun_bind _ (hrun_pureV _ (pv_underlying hu2) ?_)
 simp only [pure,bind,Sem.bind,Bool.false_eq_true,if_false,Bool.not_false,if_true,Bool.not_true]
 refine hrun_bind _ ?_
 simp only [asInt,asIntOf,pure,bind,Sem.bind,hrun,hw]
 rw [if_neg (by omega)]
 refine hrun_bind _ (hrun_pureV _ (pv_typeInfo hi) ?_)
 have h248:(2:Int) ^ 48=281474976710656:=by decide
 have hmb':¬ ((m:Int)*(inf.bytes:Int) > 2 ^ 48):=by
  rw [h248]
  have:((m*inf.bytes:Nat):Int)=(m:Int)*(inf.bytes:Int):=by simp
  omega
 rw [if_neg hmb']
 have hmn:(m:Int).toNat=m:=by omega
 simp only [hmn]
 rw [if_neg (by omega)]
 refine hrun_bind _ (hrun_pureV _ (pv_typeInfo hi) ?_)
 have hcond:¬ (((s.n+m:Nat):Int) > IntKind.i64.max∧(True∨inf.bytes=0)):=by
  rintro ⟨h,_⟩
  rw [h63] at h
  omega
 rw [if_neg hcond]
 refine hrun_bind _ (hrun_pureV _ (pv_typeInfo hi) ?_)
 have hbig2:¬ (Builtin.nextslicecap (s.n+m) s.c*inf.bytes > 2 ^ 48):=by
  have:(2:Nat) ^ 48=281474976710656:=by decide
  omega
 rw [if_neg hbig2]
 refine hrun_bind _ ?_
 simp only [choose,hrun,Question.forced,Bool.false_eq_true,if_false,Question.cut]
 intro tp
 generalize hcap:s.n+m+tp % (2 ^ 63 - (s.n+m))=cap
 refine hrun_bind _ (hrun_pureV _ (pv_typeInfo hi) ?_)
 refine hrun_bind _ ?_
 have askr:∀ (n:Nat) {K:Unit→Hp→Prop}{Z:Value→Hp→Prop},K () H→hrun P (askRoom n) H K Z:=by
  intro n K Z hk
  unfold askRoom
  split
  ·exact hk
  ·exact hk
 refine askr _ ?_
 refine hrun_bind _ (hx ?_)
 rw [if_neg (by omega)]
 refine hrun_bind _ (hrun_bind _ (hrun_pureV _ (pv_zero hi hz) ?_))
 simp only [hrun]
 refine hrun_bind _ (hrun_pureV _ (pv_zero hi hz) ?_)
 refine hrun_bind _ ?_
 simp only [newRow,newObj,bind,Sem.bind,hrun,pure]
 intro g H' hn
 have hs1:(Builtin.zeroCells z.cells m).size=m*inf.size:=by rw [zeroCells_size,hzs]
 have hs2:(Builtin.zeroCells z.cells (cap - (s.n+m))).size=(cap - (s.n+m))*inf.size:=by rw [zeroCells_size,hzs]
 refine ⟨⟨some ⟨g,0,none⟩,s.n+m,cap⟩,rfl,k g H' cap ((Builtin.zeroCells z.cells m).toList++(Builtin.zeroCells z.cells (cap - (s.n+m))).toList) ?_ (by omega) ?_⟩
 ·have e:(xs++((Builtin.zeroCells z.cells m).toList++(Builtin.zeroCells z.cells (cap - (s.n+m))).toList)).toArray=xs.toArray++Builtin.zeroCells z.cells m++Builtin.zeroCells z.cells (cap - (s.n+m)):=by
   apply Array.ext'
   simp
  rw [e]
  exact hn
 ·simp only [List.length_append,Array.length_toList,hs1,hs2,hxl]
  rw [← Nat.add_mul,← Nat.add_mul]
  congr 1
  omega
end Go.V
end
section
namespace Go.V
attribute [local irreducible] Cvt ExtF CallF
theorem ov_ok {P:Program}{ov:FuncId}{T E:TypeId}{f:Func}{inf:TypeInfo}{ps rs:Array TypeId}(hf:P.funcs[ov]? = some f) (h1:(f.name == "runtime.NumGoroutine")=false) (h2:f.body.isNone=true) (h3:(Extern.findNext f).isNone=true)
  (h4:Extern.find f=some (Extern.SlicesOverlaps.overlaps ps rs)) (hp:ps[0]? = some T) (hu:P.underlying T=some (.slice E)) (hi:P.info? E=some inf)
  {H:Hp}{g1 g2 o1 o2 n1 n2 c1 c2:Nat}{cs1 cs2:List Value}{T1 T2:TypeId}(ha:Blk H g1 cs1 T1) (hb:Blk H g2 cs2 T2) (hne:g1≠g2) {K:Value→Hp→Prop}(k:K (.bool false) H) :
  ExtF P ov [.slice (some ⟨g1,o1,none⟩) n1 c1,.slice (some ⟨g2,o2,none⟩) n2 c2] H K:=by
 unfold ExtF callFunc
 simp only [program,bind,Sem.bind,hrun,hf,h1,h2,Bool.false_eq_true,if_false,if_true,mark]
 cases hx:Extern.findNext f with
 | some e=>rw [hx] at h3;cases h3
 | none=>
  simp only [h4]
  have hs1:hshape H g1=some (T1,cs1.length):=by
   unfold hshape
   have h':H[g1]? = some (.cells cs1.toArray T1 (0,0)):=ha
   rw [h']
   simp
  have hs2:hshape H g2=some (T2,cs2.length):=by
   unfold hshape
   have h':H[g2]? = some (.cells cs2.toArray T2 (0,0)):=hb
   rw [h']
   simp
  have f1:=ha.frozen
  have f2:=hb.frozen
  have hneb:(g1 == g2)=false:=by simpa using hne
  have hneb':(g1 != g2)=true:=by simpa using hne
  have hdef:Extern.SlicesOverlaps.overlaps ps rs #[.slice (some ⟨g1,o1,none⟩) n1 c1,.slice (some ⟨g2,o2,none⟩) n2 c2]=(do
    let some t:=ps[0]? | stuck "slices.overlaps: no parameter types"
    let .slice elem ← underlying t | stuck "slices.overlaps: slice type expected"
    let size ← sizeOf elem
    if n1=0∨n2=0∨size=0 then pure (.bool false)
    else if g1 != g2 && (← frozen ⟨g1,o1,none⟩) && (← frozen ⟨g2,o2,none⟩) then unsupported .addressObserved
    else do
     if g1 != g2 then do
      noView ⟨g1,o1,none⟩;noView ⟨g2,o2,none⟩
      if ← mayBeOne ⟨g1,o1,none⟩ ⟨g2,o2,none⟩ then return .bool ((← choose (.extern "sameAddr.stringBytes" 2)) == 1)
     pure (.bool (g1 == g2 && o1 < o2+n2*size && o2 < o1+n1*size))):=rfl
  rw [hdef,hp]
  simp only [bind,Sem.bind]
  refine hrun_bind _ (hrun_bind _ (hrun_pureV _ (pv_underlying hu) ?_))
  simp only
  refine hrun_bind _ (hrun_pureV _ (pv_sizeOf hi) ?_)
  split
  ·simp only [pure,hrun];exact k
  ·simp only [hneb',hneb,mayBeOne,noView,viewAt,stringish,shape,frozen,bind,Sem.bind,hrun,pure,f1,f2,hs1,hs2,Bool.and_false,Bool.false_and,Bool.false_eq_true,if_false,if_true,Option.isSome_some,Option.isSome_none]
   simpa [hrun] using k
def InsV (P:Program) (T Ti:TypeId) (ov rot:FuncId) (sz:Nat) (H:Hp) (s:Sl) (i:Int) (v:Sl) (K:Value→Hp→Prop) (Z:List PanicEntry→Hp→Prop):Prop:=
 (s.n≤s.c∧SlX s.a s.c i (s.n:Int) sz fun cut=>((((v.n:Int) == 0)=true→K (.slice s.a s.n s.c) H) ∧
  (((v.n:Int) == 0)=false→(((i == (s.n:Int))=true→App P #[T,T] T H [.slice s.a s.n s.c,.slice v.a v.n v.c] fun ap H1=>
  (K (.slice ap.a ap.n ap.c) H1))∧((i == (s.n:Int))=false→(((decide ((w64 ((s.n:Int)+(v.n:Int))) > (s.c:Int)))=true →
  (s.n≤s.c∧SlX s.a s.c 0 i sz fun cut1=>(App P #[T,Ti] T H [.slice cut1.a cut1.n cut1.c,.int .i64 (w64 ((w64 ((s.n:Int)+(v.n:Int))) - i))] fun ap1 H2=>
  (ap1.n≤ap1.c∧SlX ap1.a ap1.c i (ap1.n:Int) sz fun cut2=>(Cpy P #[T,T] Ti H2 [.slice cut2.a cut2.n cut2.c,.slice v.a v.n v.c] fun cp H3=>
  (ap1.n≤ap1.c∧SlX ap1.a ap1.c (w64 (i+(v.n:Int))) (ap1.n:Int) sz fun cut3=>(s.n≤s.c ∧
  SlX s.a s.c i (s.n:Int) sz fun cut4=>(Cpy P #[T,T] Ti H3 [.slice cut3.a cut3.n cut3.c,.slice cut4.a cut4.n cut4.c] fun cp1 H4=>
  (K (.slice ap1.a ap1.n ap1.c) H4)))))))))∧((decide ((w64 ((s.n:Int)+(v.n:Int))) > (s.c:Int)))=false →
  (s.n≤s.c∧SlX s.a s.c 0 (w64 ((s.n:Int)+(v.n:Int))) sz fun cut5=>(cut5.n≤cut5.c∧SlX cut5.a cut5.c (w64 (i+(v.n:Int))) (cut5.n:Int) sz fun cut6=>
  (ExtF P ov [.slice v.a v.n v.c,.slice cut6.a cut6.n cut6.c] H fun r H5=>∃ y:Bool,r = .bool y ∧
  (((!y)=true→(cut5.n≤cut5.c∧SlX cut5.a cut5.c (w64 (i+(v.n:Int))) (cut5.n:Int) sz fun cut7=>
  (cut5.n≤cut5.c∧SlX cut5.a cut5.c i (cut5.n:Int) sz fun cut8=>(Cpy P #[T,T] Ti H5 [.slice cut7.a cut7.n cut7.c,.slice cut8.a cut8.n cut8.c] fun cp2 H6=>
  (cut5.n≤cut5.c∧SlX cut5.a cut5.c i (cut5.n:Int) sz fun cut9=>(Cpy P #[T,T] Ti H6 [.slice cut9.a cut9.n cut9.c,.slice v.a v.n v.c] fun cp3 H7=>
  (K (.slice cut5.a cut5.n cut5.c) H7)))))))∧((!y)=false→(cut5.n≤cut5.c∧SlX cut5.a cut5.c (s.n:Int) (cut5.n:Int) sz fun cut10=>
  (Cpy P #[T,T] Ti H5 [.slice cut10.a cut10.n cut10.c,.slice v.a v.n v.c] fun cp4 H8=>(cut5.n≤cut5.c ∧
  SlX cut5.a cut5.c i (cut5.n:Int) sz fun cut11=>(CallF P rot #[.slice cut11.a cut11.n cut11.c,.int .i64 (v.n:Int)] H8 (fun r1 H9=>
  r1 = .tuple #[]∧K (.slice cut5.a cut5.n cut5.c) H9) Z))))))))))))))))
theorem cut_lo (a:Option Addr) (c hi sz:Nat):cut a c 0 hi sz=⟨a,hi,c⟩:=by
 unfold cut
 have:a.map (fun x=>x.add (0*sz))=a:=by
  cases a with
  | none=>rfl
  | some ad=>simp [add_zero']
 rw [this]
 split <;> rfl
theorem cut_at {g c lo hi sz:Nat}(h:lo < c):cut (some ⟨g,0,none⟩) c lo hi sz=⟨some ⟨g,lo*sz,none⟩,hi - lo,c - lo⟩:=by
 unfold cut
 rw [if_neg (by omega)]
 simp only [Option.map_some,add_mk,Nat.zero_add]
theorem ins_ok {P:Program}{T Ti E:TypeId}{k2:IntKind}{ov rot:FuncId}{f:Func}{inf:TypeInfo}{ps rs:Array TypeId}{z:Value}{sz:Nat}
  (hf:P.funcs[ov]? = some f) (h1:(f.name == "runtime.NumGoroutine")=false) (h2:f.body.isNone=true) (h3:(Extern.findNext f).isNone=true)
  (h4:Extern.find f=some (Extern.SlicesOverlaps.overlaps ps rs)) (hp:ps[0]? = some T) (hu:P.underlying T=some (.slice E)) (hu2:P.underlying Ti=some (.int k2)) (hi:P.info? E=some inf) (hz:inf.zero=some z) (hzs:z.cells.size=inf.size) (hb:0 < inf.bytes) (hsz:inf.size=sz) (hsz0:0 < sz)
  {H:Hp}{s:Sl}{xs vs:List Value}{i b1:Nat}{K:Value→Hp→Prop}{Z:List PanicEntry→Hp→Prop}(hr:Row H E sz s xs) (hnf:Nf H s) (hx1:∀ v∈xs,v.oneCell=true) (hv:Blk H b1 vs E) (hvl:vs.length=sz) (hv1:∀ v∈vs,v.oneCell=true) (hne:¬ own s b1)
  (hin:i≤s.n) (hbig:(s.n+1)*inf.bytes≤140737488355328)
  (k:∀ s' H',Row H' E sz s' (xs.take (i*sz)++vs++xs.drop (i*sz))→Nf H' s'→s'.n=s.n+1→Fr (own s) H H'→(∀ j,own s' j→own s j∨H.size≤j)→K (.slice s'.a s'.n s'.c) H') :
  InsV P T Ti ov rot sz H s (i:Int) ⟨some ⟨b1,0,none⟩,1,1⟩ K Z:=by
 have hle:=hr.le
 have hbn:s.n+1≤140737488355328:=Nat.le_trans (Nat.le_mul_of_pos_right _ hb) hbig
 have w1:∀ n:Nat,n≤140737488355328→w64 (n:Int)=(n:Int):=by
  intro n hn
  simp only [w64,IntKind.wrap,IntKind.bits,IntKind.signed,Int.reducePow,Nat.reduceSub,Bool.true_and,decide_eq_true_eq,ge_iff_le]
  by_cases h:9223372036854775808≤(n:Int) % 18446744073709551616
  ·rw [if_pos h];omega
  ·rw [if_neg h];omega
 have e1:w64 ((s.n:Int)+((1:Nat):Int))=((s.n+1:Nat):Int):=by rw [← w1 (s.n+1) hbn];rfl
 unfold InsV
 simp only [e1]
 refine ⟨hle,⟨⟨by omega,by omega,by omega⟩,?_⟩⟩
 refine ⟨fun h=>by simp at h,fun _=>⟨fun hend=>?_,fun hend=>?_⟩⟩
 ·have hend':i=s.n:=by
   have:(i:Int)=(s.n:Int):=by simpa using hend
   omega
  subst hsz
  refine app_row2 hu (by intro k;rw [hu];simp) ⟨_,hu⟩ hi hz hzs hb hr (Src.blk hv (by rw [hvl];simp)) hv1 hbig ?_
  intro s' H' hr' hn' hf' ho' hnf'
  refine k s' H' ?_ (hnf' hnf) hn' hf' ho'
  have hl:xs.length=i*inf.size:=by rw [hr.1,hend']
  rw [List.take_of_length_le (by omega),List.drop_of_length_le (by omega),List.append_nil]
  exact hr'
 have hlt:i < s.n:=by
  have:¬ (i:Int)=(s.n:Int):=by simpa using hend
  omega
 obtain ⟨g,hga⟩:=hr.some (by omega)
 rcases hr.2 with ⟨ha0,_⟩ | ⟨g',cs,fr,ha,hg,r1,r2,r3,r4⟩
 ·rw [hga] at ha0;cases ha0
 obtain rfl:g'=g:=by rw [hga] at ha;simpa using ha.symm
 have hfr0:fr=(0,0):=by
  obtain ⟨cs',T',hb'⟩:=hnf g' 0 hga
  rw [hg] at hb'
  simp only [Option.some.injEq,Obj.cells.injEq] at hb'
  exact hb'.2.2
 subst hfr0
 have hgb:b1≠g':=fun e=>hne ⟨0,by rw [hga,e]⟩
 have hxl:=hr.1
 have hmul:i*sz+(s.n - i)*sz=s.n*sz:=by rw [← Nat.add_mul];congr 1;omega
 have hmul1:(i+1)*sz=i*sz+sz:=Nat.succ_mul i sz
 have hmul2:(s.n+1)*sz=s.n*sz+sz:=Nat.succ_mul s.n sz
 have hcsn:s.n*sz≤cs.length:=by rw [r2];exact Nat.mul_le_mul_right _ r1
 have hdrop:(cs.drop (i*sz)).take ((s.n - i)*sz)=xs.drop (i*sz):=by
  rw [← r3,List.drop_take]
  congr 1
  omega
 have htake:cs.take (i*sz)=xs.take (i*sz):=by
  rw [← r3,List.take_take]
  congr 1
  omega
 refine ⟨fun hgrow=>?_,fun hroom=>?_⟩
 ·have hgrow':s.c < s.n+1:=by
   have:((s.n+1:Nat):Int) > (s.c:Int):=of_decide_eq_true hgrow
   omega
  have e2:w64 (((s.n+1:Nat):Int) - (i:Int))=((s.n+1 - i:Nat):Int):=by rw [← w1 (s.n+1 - i) (by omega)];congr 1;omega
  rw [e2]
  refine ⟨hle,⟨⟨by omega,by omega,by omega⟩,?_⟩⟩
  rw [show (0:Int).toNat=0 from rfl,Int.toNat_natCast,cut_lo]
  subst hsz
  have en:i+(s.n+1 - i)=s.n+1:=by omega
  refine app_make (s:=⟨s.a,i,s.c⟩) (m:=s.n+1 - i) hu hu2 hi hz hzs hb (xs:=xs.take (i*inf.size)) ?_ ?_ (Nat.mul_pos (by omega) hsz0) (by show s.c < i+(s.n+1 - i);omega) (by show (i+(s.n+1 - i))*inf.bytes≤_;rw [en];exact hbig) ?_
  ·intro K' Z' hk
   rw [hga]
   refine first_cells hg (by show 0+i*inf.size≤_;omega) ?_
   rw [List.drop_zero,htake]
   exact hk
  ·rw [List.length_take];show _=i*inf.size;omega
  intro g2 A cap zs hn hcap hzl
  have hA:=hn.blk
  have hfA:=hn.fr
  have hcap':s.n+1≤cap:=by have:i+(s.n+1 - i)≤cap:=hcap;omega
  have hcapl:(s.n+1)*inf.size≤cap*inf.size:=Nat.mul_le_mul_right _ hcap'
  simp only [en]
  have hg2:g2=H.size:=hn.eq
  have hglt:=lt_of_some hg
  have hb1lt:=hv.lt
  refine ⟨hcap',⟨⟨by omega,by omega,by omega⟩,?_⟩⟩
  rw [Int.toNat_natCast,Int.toNat_natCast,cut_at (by omega)]
  refine cpy_ok hu hi (m:=1) (ys:=vs) rfl ?_ hA (by rw [hvl,hzl];omega) hv1 (.inr (Nat.le_refl _)) ?_
  ·intro K' Z' hk
   have hm1:Nat.min 1 (s.n+1 - i)=1:=Nat.min_eq_left (by omega)
   show hrun P (Builtin.firstCells inf.size (Nat.min 1 (s.n+1 - i)) _) _ _ _
   rw [hm1]
   refine first_cells (hfA.blk hv fun h=>h) (by rw [hvl];omega) ?_
   rw [List.drop_zero,List.take_of_length_le (by rw [hvl];omega)]
   exact hk
  intro B hB hfB hsB
  have e3:w64 ((i:Int)+((1:Nat):Int))=((i+1:Nat):Int):=by rw [← w1 (i+1) (by omega)];rfl
  rw [e3]
  refine ⟨hcap',⟨⟨by omega,by omega,by omega⟩,?_⟩⟩
  refine ⟨hle,⟨⟨by omega,by omega,by omega⟩,?_⟩⟩
  simp only [Int.toNat_natCast]
  rw [hga,cut_at (by omega),cut_at (by omega)]
  have hgB:B[g']? = some (.cells cs.toArray E (0,0)):=hfB.at (hfA.at hg fun h=>h) (by omega)
  have hdl:(xs.drop (i*inf.size)).length=(s.n - i)*inf.size:=by rw [List.length_drop,hxl];omega
  refine cpy_ok hu hi (m:=s.n - i) (ys:=xs.drop (i*inf.size)) rfl ?_ hB ?_ (fun v hv=>hx1 v (List.mem_of_mem_drop hv)) (.inr (Nat.le_refl _)) ?_
  ·intro K' Z' hk
   have hm1:Nat.min (s.n - i) (s.n+1 - (i+1))=s.n - i:=Nat.min_eq_left (by omega)
   show hrun P (Builtin.firstCells inf.size (Nat.min (s.n - i) (s.n+1 - (i+1))) _) _ _ _
   rw [hm1]
   refine first_cells hgB (by omega) ?_
   rw [hdrop]
   exact hk
  ·rw [setsL_length,hzl,hdl];omega
  intro C hC hfC hsC
  have hti:(xs.take (i*inf.size)).length=i*inf.size:=by rw [List.length_take];omega
  have hzl':i*inf.size+zs.length=cap*inf.size:=by rw [← hzl,List.length_append,hti]
  rw [setsL_app hti.symm (by omega),← List.append_assoc,setsL_app (by rw [List.length_append,hti,hvl];omega) (by rw [hdl,List.length_drop];omega)] at hC
  have hlenC:(xs.take (i*inf.size)++vs++(xs.drop (i*inf.size)++(zs.drop vs.length).drop (xs.drop (i*inf.size)).length)).length=cap*inf.size:=by
   simp only [List.length_append,hti,hvl,hdl,List.length_drop]
   omega
  have hfin:(xs.take (i*inf.size)++vs++xs.drop (i*inf.size)).length=(s.n+1)*inf.size:=by
   simp only [List.length_append,hti,hvl,hdl]
   omega
  refine k ⟨some ⟨g2,0,none⟩,s.n+1,cap⟩ C ⟨hfin,.inr ⟨g2,_,(0,0),rfl,hC,hcap',hlenC,?_,Nat.zero_le _⟩⟩ ?_ rfl ?_ ?_
  ·rw [← List.append_assoc,← hfin,List.take_left]
  ·intro g0 o0 e0
   simp only [Option.some.injEq,Addr.mk.injEq] at e0
   exact ⟨_,_,by rw [← e0.1];exact hC⟩
  ·have:Fr no H A:=hfA
   refine ((this.of_no (S:=own s)).step hfB ?_).step hfC ?_
   ·intro j hj ej;omega
   ·intro j hj ej;omega
  ·rintro j ⟨o,ho⟩
   simp only [Option.some.injEq,Addr.mk.injEq] at ho
   exact .inr (by omega)
 ·have hroom':s.n+1≤s.c:=by
   have:¬ ((s.n+1:Nat):Int) > (s.c:Int):=of_decide_eq_false hroom
   omega
  have e3:w64 ((i:Int)+((1:Nat):Int))=((i+1:Nat):Int):=by rw [← w1 (i+1) (by omega)];rfl
  rw [e3]
  refine ⟨hle,⟨⟨by omega,by omega,by omega⟩,?_⟩⟩
  simp only [show (0:Int).toNat=0 from rfl,Int.toNat_natCast,cut_lo]
  refine ⟨hroom',⟨⟨by omega,by omega,by omega⟩,?_⟩⟩
  simp only [Int.toNat_natCast]
  have hcut:=@cut_at g' s.c (i+1) (s.n+1) sz
  rw [hga,cut_at (by omega)]
  refine ov_ok hf h1 h2 h3 h4 hp hu hi hv hg hgb ⟨false,rfl,fun _=>?_,fun h=>by simp at h⟩
  refine ⟨hroom',⟨⟨by omega,by omega,by omega⟩,hroom',⟨⟨by omega,by omega,by omega⟩,?_⟩⟩⟩
  simp only [Int.toNat_natCast]
  rw [cut_at (by omega),cut_at (by omega)]
  subst hsz
  have hdl:(xs.drop (i*inf.size)).length=(s.n - i)*inf.size:=by rw [List.length_drop,hxl];omega
  have hti:(xs.take (i*inf.size)).length=i*inf.size:=by rw [List.length_take];omega
  have hcl:(s.n+1)*inf.size≤cs.length:=by rw [r2];exact Nat.mul_le_mul_right _ hroom'
  refine cpy_ok hu hi (m:=s.n+1 - i) (ys:=xs.drop (i*inf.size)) rfl ?_ hg (by rw [hdl];omega) (fun v hv=>hx1 v (List.mem_of_mem_drop hv)) (.inr (Nat.le_refl _)) ?_
  ·intro K' Z' hk
   have hm1:Nat.min (s.n+1 - i) (s.n+1 - (i+1))=s.n - i:=by
    show min _ _=_
    omega
   show hrun P (Builtin.firstCells inf.size (Nat.min (s.n+1 - i) (s.n+1 - (i+1))) _) _ _ _
   rw [hm1]
   refine first_cells hg (by omega) ?_
   rw [hdrop]
   exact hk
  intro B hB hfB hsB
  refine ⟨hroom',⟨⟨by omega,by omega,by omega⟩,?_⟩⟩
  simp only [Int.toNat_natCast]
  rw [cut_at (by omega)]
  have hvB:Blk B b1 vs E:=hfB.blk hv hgb
  refine cpy_ok hu hi (m:=1) (ys:=vs) rfl ?_ hB (by rw [setsL_length,hvl];omega) hv1 (.inr (Nat.le_refl _)) ?_
  ·intro K' Z' hk
   have hm1:Nat.min 1 (s.n+1 - i)=1:=Nat.min_eq_left (by omega)
   show hrun P (Builtin.firstCells inf.size (Nat.min 1 (s.n+1 - i)) _) _ _ _
   rw [hm1]
   refine first_cells hvB (by rw [hvl];omega) ?_
   rw [List.drop_zero,List.take_of_length_le (by rw [hvl];omega)]
   exact hk
  intro C hC hfC hsC
  -- the cells: X,Y,what is behind
  generalize hR:cs.drop (s.n*inf.size)=R at *
  have hcs:cs=xs.take (i*inf.size)++(xs.drop (i*inf.size)++R):=by
   rw [← List.append_assoc,List.take_append_drop,← hR,← r3,List.take_append_drop]
  have hRl:inf.size≤R.length:=by
   rw [← hR,List.length_drop]
   omega
  generalize hQ:xs.drop (i*inf.size)++R=Q at *
  have hQl:Q.length=(s.n - i)*inf.size+R.length:=by rw [← hQ,List.length_append,hdl]
  have hcs2:cs=(xs.take (i*inf.size)++Q.take inf.size)++Q.drop inf.size:=by
   rw [List.append_assoc,List.take_append_drop]
   exact hcs
  have hQt:(Q.take inf.size).length=inf.size:=by rw [List.length_take];omega
  rw [hcs2,setsL_app (by rw [List.length_append,hti,hQt];omega) (by rw [hdl,List.length_drop];omega),List.append_assoc,setsL_app hti.symm (by rw [hvl,List.length_append,hQt];omega)] at hC
  have hdropq:(Q.take inf.size++(xs.drop (i*inf.size)++(Q.drop inf.size).drop (xs.drop (i*inf.size)).length)).drop vs.length=xs.drop (i*inf.size)++(Q.drop inf.size).drop (xs.drop (i*inf.size)).length:=by
   rw [hvl]
   conv=>lhs;arg 1;rw [← hQt]
   exact List.drop_left
  rw [hdropq] at hC
  have hfin:(xs.take (i*inf.size)++vs++xs.drop (i*inf.size)).length=(s.n+1)*inf.size:=by
   simp only [List.length_append,hti,hvl,hdl]
   omega
  have hlenC:(xs.take (i*inf.size)++(vs++(xs.drop (i*inf.size)++(Q.drop inf.size).drop (xs.drop (i*inf.size)).length))).length=s.c*inf.size:=by
   have hcc:=congrArg List.length hcs
   rw [List.length_append,hti,hQl] at hcc
   simp only [List.length_append,hti,hvl,hdl,List.length_drop,hQl]
   omega
  refine k ⟨some ⟨g',0,none⟩,s.n+1,s.c⟩ C ⟨hfin,.inr ⟨g',_,(0,0),rfl,hC,hroom',hlenC,?_,Nat.zero_le _⟩⟩ ?_ rfl ?_ ?_
  ·have e9:xs.take (i*inf.size)++(vs++(xs.drop (i*inf.size)++(Q.drop inf.size).drop (xs.drop (i*inf.size)).length))=(xs.take (i*inf.size)++vs++xs.drop (i*inf.size))++(Q.drop inf.size).drop (xs.drop (i*inf.size)).length:=by
    simp only [List.append_assoc]
   rw [e9,← hfin,List.take_left]
  ·intro g0 o0 e0
   simp only [Option.some.injEq,Addr.mk.injEq] at e0
   exact ⟨_,_,by rw [← e0.1];exact hC⟩
  ·refine (hfB.mono ?_).step hfC ?_
   ·intro j _ ej
    exact ⟨0,by rw [hga,ej]⟩
   ·intro j _ ej
    exact ⟨0,by rw [hga,ej]⟩
  ·rintro j ⟨o,ho⟩
   simp only [Option.some.injEq,Addr.mk.injEq] at ho
   exact .inl ⟨0,by rw [hga,ho.1]⟩
end Go.V
end
section
namespace Go.V
attribute [local irreducible] Cvt ExtF CallF hrun callV
theorem wrap64 {x:Int}(h1 : -9223372036854775808≤x) (h2:x≤9223372036854775807):w64 x=x:=by
 simp only [w64,IntKind.wrap,IntKind.bits,IntKind.signed,Int.reducePow,Nat.reduceSub,Bool.true_and,decide_eq_true_eq,ge_iff_le]
 by_cases h:9223372036854775808≤x % 18446744073709551616
 ·rw [if_pos h];omega
 ·rw [if_neg h];omega
theorem wrapu64 {x:Int}(h1:0≤x) (h2:x≤18446744073709551615):IntKind.wrap .u64 x=x:=by
 simp only [IntKind.wrap,IntKind.bits,IntKind.signed,Int.reducePow,Nat.reduceSub,Bool.false_and,Bool.false_eq_true,if_false]
 omega
theorem mid_eq {i j:Nat}(h:i+j≤9223372036854775807):w64 (Int.fdiv (IntKind.wrap .u64 (w64 ((i:Int)+(j:Int)))) (2 ^ 1))=(((i+j) / 2:Nat):Int):=by
 rw [wrap64 (x:=(i:Int)+(j:Int)) (by omega) (by omega),wrapu64 (by omega) (by omega),Int.fdiv_eq_ediv_of_nonneg _ (by decide)]
 have:((i:Int)+(j:Int)) / 2 ^ 1=(((i+j) / 2:Nat):Int):=by
  rw [show (2:Int) ^ 1=2 from rfl]
  omega
 rw [this,wrap64 (by omega) (by omega)]
def BsV (P:Program) (H:Hp) (x:Sl) (tgt cmp:Value) (K:Value→Hp→Prop) (Z:List PanicEntry→Hp→Prop):Prop:=
 ∃ I:Int→Int→Hp→Nat→Prop,(∃ m,I 0 (x.n:Int) H m)∧∀ (i:Int) (j:Int),∀ H1 m1,I i j H1 m1 →
  ∀ scr:Nat→Value,(((decide (i < j))=true→IxA x.a x.n (w64 (Int.fdiv (IntKind.wrap .u64 (w64 (i+j))) (2 ^ 1))) 1 fun ad=>
  (∃ x1:Int,hcell H1 ad=some (.int .i64 x1)∧callV P cmp [.int .i64 x1,tgt] H1 (fun r H2=>
  ∃ y:Int,r = .int .i64 y∧(((decide (y < 0))=true→(∃ m2,m2 < m1∧I (w64 ((w64 (Int.fdiv (IntKind.wrap .u64 (w64 (i+j))) (2 ^ 1)))+1)) j H2 m2)) ∧
  ((decide (y < 0))=false→(∃ m2,m2 < m1∧I i (w64 (Int.fdiv (IntKind.wrap .u64 (w64 (i+j))) (2 ^ 1))) H2 m2)))) Z)) ∧
  ((decide (i < j))=false→(((decide (i < (x.n:Int)))=true→IxA x.a x.n i 1 fun ad1=>(∃ x2:Int,hcell H1 ad1=some (.int .i64 x2) ∧
  callV P cmp [.int .i64 x2,tgt] H1 (fun r1 H3=>∃ y1:Int,r1 = .int .i64 y1 ∧
  K (.tuple #[.int .i64 i,.bool (y1 == 0)]) H3) Z))∧((decide (i < (x.n:Int)))=false→K (.tuple #[.int .i64 i,.bool false]) H1))))
structure Split (n:Nat) (c:Nat→Int) (p:Nat):Prop where
 le:p≤n
 lo:∀ j,j < p→c j < 0
 hi:∀ j,p≤j→j < n→0≤c j
theorem bs_ok {P:Program}{H:Hp}{x:Sl}{xs:List Int}{tgt cmp:Value}{c:Nat→Int}{K:Value→Hp→Prop}{Z:List PanicEntry→Hp→Prop}(hn:x.n=xs.length) (hbig:x.n≤1000000000000)
  (hel:∀ (i:Nat) (v:Int),xs[i]? = some v→∃ ad,x.a=some ad∧hcell H (ad.add (i*1))=some (.int .i64 v))
  (hc:∀ (i:Nat) (v:Int) (K':Value→Hp→Prop),xs[i]? = some v→K' (.int .i64 (c i)) H→callV P cmp [.int .i64 v,tgt] H K' Z)
  (mono:∀ i j,i≤j→j < x.n→c j < 0→c i < 0) (k:∀ p,Split x.n c p→K (.tuple #[.int .i64 (p:Int),.bool (decide (p < x.n) && (c p == 0))]) H):BsV P H x tgt cmp K Z:=by
 unfold BsV
 refine ⟨fun i j A m=>∃ a b:Nat,A=H∧i=(a:Int)∧j=(b:Int)∧a≤b∧b≤x.n∧m=b - a∧(∀ t,t < a→c t < 0)∧(∀ t,b≤t→t < x.n→0≤c t),⟨x.n,0,x.n,rfl,rfl,rfl,by omega,by omega,rfl,by omega,by omega⟩,?_⟩
 rintro i j A m ⟨a,b,rfl,rfl,rfl,hab,hb,rfl,hlo,hhi⟩ scr
 refine ⟨fun hlt=>?_,fun hge=>?_⟩
 ·have hlt':a < b:=by
   have:(a:Int) < (b:Int):=of_decide_eq_true hlt
   omega
  rw [mid_eq (by omega)]
  have hm1:a≤(a+b) / 2:=by omega
  have hm2:(a+b) / 2 < b:=by omega
  generalize (a+b) / 2=h at *
  have hv:xs[h]? = some (xs[h]'(by omega)):=List.getElem?_eq_getElem (by omega)
  obtain ⟨ad,ha,hcell⟩:=hel _ _ hv
  refine ⟨ad,ha,⟨by omega,by omega⟩,_,by rw [Int.toNat_natCast];exact hcell,hc _ _ _ hv ⟨_,rfl,fun hneg=>?_,fun hneg=>?_⟩⟩
  ·have hneg':c h < 0:=of_decide_eq_true hneg
   have e:w64 ((h:Int)+1)=((h+1:Nat):Int):=by rw [wrap64 (by omega) (by omega)];omega
   rw [e]
   refine ⟨b - (h+1),by omega,h+1,b,rfl,rfl,rfl,by omega,hb,rfl,?_,hhi⟩
   intro t ht
   exact mono t h (by omega) (by omega) hneg'
  ·have hneg':¬ c h < 0:=of_decide_eq_false hneg
   refine ⟨h - a,by omega,a,h,rfl,rfl,rfl,by omega,by omega,rfl,hlo,?_⟩
   intro t ht htn
   apply Classical.byContradiction
   intro hc'
   exact hneg' (mono h t ht htn (by omega))
 ·have hge':a=b:=by
   have:¬ (a:Int) < (b:Int):=of_decide_eq_false hge
   omega
  subst hge'
  have hk:=k a ⟨hb,hlo,hhi⟩
  refine ⟨fun hin=>?_,fun hin=>?_⟩
  ·have hin':a < x.n:=by
    have:(a:Int) < (x.n:Int):=of_decide_eq_true hin
    omega
   have hv:xs[a]? = some (xs[a]'(by omega)):=List.getElem?_eq_getElem (by omega)
   obtain ⟨ad,ha,hcell⟩:=hel _ _ hv
   refine ⟨ad,ha,⟨by omega,by omega⟩,_,by rw [Int.toNat_natCast];exact hcell,hc _ _ _ hv ⟨_,rfl,?_⟩⟩
   rw [decide_eq_true hin',Bool.true_and] at hk
   exact hk
  ·have hin':¬ a < x.n:=by
    have:¬ (a:Int) < (x.n:Int):=of_decide_eq_false hin
    omega
   rw [decide_eq_false hin',Bool.false_and] at hk
   exact hk
end Go.V
end
section
namespace Go.V
structure Lin {τ : Type}(lt : τ→τ→Bool):Prop where
 irr:∀ x,lt x x=false
 tr:∀ x y z,lt x y=true→lt y z=true→lt x z=true
 tot:∀ x y,lt x y=true∨x=y∨lt y x=true
theorem bl_irr:∀ x:List UInt8,Op.bytesLess x x=false
 | []=>rfl
 | a::x=>by simp [Op.bytesLess,bl_irr x]
theorem bl_tr:∀ x y z:List UInt8,Op.bytesLess x y=true→Op.bytesLess y z=true→Op.bytesLess x z=true
 | x,[],z,h,_=>by cases x <;> simp [Op.bytesLess] at h
 | x,b::y,[],_,h=>by simp [Op.bytesLess] at h
 | [],b::y,c::z,_,_=>rfl
 | a::x,b::y,c::z,h1,h2=>by
  simp only [Op.bytesLess,Bool.or_eq_true,decide_eq_true_eq,Bool.and_eq_true,beq_iff_eq] at h1 h2 ⊢
  rcases h1 with h1 | ⟨rfl,h1⟩
  ·rcases h2 with h2 | ⟨rfl,h2⟩
   ·exact .inl (UInt8.lt_trans h1 h2)
   ·exact .inl h1
  ·rcases h2 with h2 | ⟨rfl,h2⟩
   ·exact .inl h2
   ·exact .inr ⟨rfl,bl_tr x y z h1 h2⟩
theorem bl_tot:∀ x y:List UInt8,Op.bytesLess x y=true∨x=y∨Op.bytesLess y x=true
 | [],[]=>.inr (.inl rfl)
 | [],_::_=>.inl rfl
 | _::_,[]=>.inr (.inr rfl)
 | a::x,b::y=>by
  simp only [Op.bytesLess,Bool.or_eq_true,decide_eq_true_eq,Bool.and_eq_true,beq_iff_eq]
  rcases Nat.lt_trichotomy a.toNat b.toNat with h | h | h
  ·exact .inl (.inl (UInt8.lt_iff_toNat_lt.2 h))
  ·have:a=b:=UInt8.toNat_inj.1 h
   subst this
   rcases bl_tot x y with h | rfl | h
   ·exact .inl (.inr ⟨rfl,h⟩)
   ·exact .inr (.inl rfl)
   ·exact .inr (.inr (.inr ⟨rfl,h⟩))
  ·exact .inr (.inr (.inl (UInt8.lt_iff_toNat_lt.2 h)))
theorem linS:Lin ltS:=by
 refine ⟨fun x=>bl_irr _,fun x y z=>bl_tr _ _ _,fun x y=>?_⟩
 rcases bl_tot x.toList y.toList with h | h | h
 ·exact .inl h
 ·refine .inr (.inl ?_)
  rw [ByteArray.toList_eq,ByteArray.toList_eq] at h
  exact ByteArray.ext (Array.ext' h)
 ·exact .inr (.inr h)
theorem beqS_iff {x y:ByteArray}:beqS x y=true↔x=y:=by
 unfold beqS
 rw [ByteArray.toList_eq,ByteArray.toList_eq,beq_iff_eq]
 exact ⟨fun h=>ByteArray.ext (Array.ext' h),fun h=>by rw [h]⟩
section
variable {τ : Type}{lt : τ→τ→Bool}
def cmpT (lt : τ→τ→Bool) (x y : τ):Int:=if lt x y then -1 else if lt y x then 1 else 0
theorem cmpT_neg {x y : τ}:cmpT lt x y < 0↔lt x y=true:=by
 unfold cmpT
 split
 ·simp_all
 ·split <;> simp_all
theorem cmpT_zero (hl:Lin lt) {x y : τ}:cmpT lt x y=0↔x=y:=by
 unfold cmpT
 constructor
 ·intro h
  split at h
  ·cases h
  ·split at h
   ·cases h
   ·rcases hl.tot x y with h | h | h
    ·simp_all
    ·exact h
    ·simp_all
 ·rintro rfl
  simp [hl.irr]
def relT (lt : τ→τ→Bool) (ts:List τ) (a b:Nat):Prop:=∃ x y,ts[a]? = some x∧ts[b]? = some y∧lt x y=true
structure Tbl (lt : τ→τ→Bool) (ts:List τ) (os:List Nat):Prop where
 perm:os.Perm (List.range ts.length)
 inc:os.Pairwise (relT lt ts)
theorem Tbl.nil:Tbl lt ([]:List τ) []:=⟨List.Perm.refl _,List.Pairwise.nil⟩
theorem Tbl.len {ts:List τ}{os:List Nat}(h:Tbl lt ts os):os.length=ts.length:=by
 have:=h.perm.length_eq
 simpa using this
theorem Tbl.ltn {ts:List τ}{os:List Nat}(h:Tbl lt ts os) {j k:Nat}(hj:os[j]? = some k):k < ts.length:=by
 have:k∈List.range ts.length:=h.perm.mem_iff.1 (List.mem_of_getElem? hj)
 exact List.mem_range.1 this
theorem Tbl.at {ts:List τ}{os:List Nat}(h:Tbl lt ts os) {k:Nat}(hk:k < ts.length):∃ j:Nat,os[j]? = some k:=by
 have:k∈os:=h.perm.mem_iff.2 (List.mem_range.2 hk)
 exact List.getElem?_of_mem this
theorem Tbl.rel {ts:List τ}{os:List Nat}(h:Tbl lt ts os) {i j a b:Nat}(hij:i < j) (ha:os[i]? = some a) (hb:os[j]? = some b):relT lt ts a b:=by
 obtain ⟨hi,rfl⟩:=List.getElem?_eq_some_iff.1 ha
 obtain ⟨hj,rfl⟩:=List.getElem?_eq_some_iff.1 hb
 exact List.pairwise_iff_getElem.1 h.inc i j hi hj hij
def cAt (lt : τ→τ→Bool) (ts:List τ) (os:List Nat) (x : τ) (j:Nat):Int:=match os[j]? with
 | some k=>(match ts[k]? with | some y=>cmpT lt y x | none=>0)
 | none=>0
theorem cAt_eq {ts:List τ}{os:List Nat}{x y : τ}{j k:Nat}(h1:os[j]? = some k) (h2:ts[k]? = some y):cAt lt ts os x j=cmpT lt y x:=by
 unfold cAt
 rw [h1]
 simp only [h2]
theorem Tbl.get {ts:List τ}{os:List Nat}(h:Tbl lt ts os) {j:Nat}(hj:j < os.length):∃ k y,os[j]? = some k∧ts[k]? = some y:=by
 have h1:os[j]? = some os[j]:=List.getElem?_eq_getElem hj
 exact ⟨_,_,h1,List.getElem?_eq_getElem (h.ltn h1)⟩
theorem Tbl.mono (hl:Lin lt) {ts:List τ}{os:List Nat}(h:Tbl lt ts os) (x : τ):∀ i j,i≤j→j < os.length→cAt lt ts os x j < 0→cAt lt ts os x i < 0:=by
 intro i j hij hj hc
 rcases Nat.lt_or_eq_of_le hij with hlt | rfl
 ·obtain ⟨a,u,ha,hu⟩:=h.get (j:=i) (by omega)
  obtain ⟨b,v,hb,hv⟩:=h.get hj
  rw [cAt_eq hb hv,cmpT_neg] at hc
  rw [cAt_eq ha hu,cmpT_neg]
  obtain ⟨u',v',hu',hv',huv⟩:=h.rel hlt ha hb
  rw [hu] at hu'
  rw [hv] at hv'
  cases hu'
  cases hv'
  exact hl.tr _ _ _ huv hc
 ·exact hc
theorem Tbl.hit (hl:Lin lt) {ts:List τ}{os:List Nat}(h:Tbl lt ts os) {x : τ}{p:Nat}(hp:p < os.length) (hc:cAt lt ts os x p=0):∃ k,os[p]? = some k∧ts[k]? = some x:=by
 obtain ⟨k,y,h1,h2⟩:=h.get hp
 rw [cAt_eq h1 h2,cmpT_zero hl] at hc
 subst hc
 exact ⟨k,h1,h2⟩
theorem Tbl.miss (hl:Lin lt) {ts:List τ}{os:List Nat}(h:Tbl lt ts os) {x : τ}{p:Nat}(hs:Split os.length (cAt lt ts os x) p) (hc:¬ (p < os.length∧cAt lt ts os x p=0)):x∉ts:=by
 intro hx
 obtain ⟨k,hk⟩:=List.getElem?_of_mem hx
 obtain ⟨j,hj⟩:=h.at (List.getElem?_eq_some_iff.1 hk).1
 have hjl:j < os.length:=(List.getElem?_eq_some_iff.1 hj).1
 have hz:cAt lt ts os x j=0:=by rw [cAt_eq hj hk,cmpT_zero hl]
 have hpj:p≤j:=by
  apply Classical.byContradiction
  intro hn
  have:=hs.lo j (by omega)
  omega
 rcases Nat.lt_or_eq_of_le hpj with hlt | rfl
 ·obtain ⟨a,u,ha,hu⟩:=h.get (j:=p) (by omega)
  obtain ⟨u',v',hu',hv',huv⟩:=h.rel hlt ha hj
  rw [hu] at hu'
  rw [hk] at hv'
  cases hu'
  cases hv'
  have h1:=hs.hi p (Nat.le_refl _) (by omega)
  rw [cAt_eq ha hu] at h1
  have:=cmpT_neg.2 huv
  omega
 ·exact hc ⟨hjl,hz⟩
theorem Tbl.put (hl:Lin lt) {ts:List τ}{os:List Nat}(h:Tbl lt ts os) {x : τ}{p:Nat}(hs:Split os.length (cAt lt ts os x) p) (hc:¬ (p < os.length∧cAt lt ts os x p=0)):Tbl lt (ts ++ [x]) (os.take p ++ [ts.length]++os.drop p):=by
 have hlen:=h.len
 have ext:∀ a b,relT lt ts a b→relT lt (ts ++ [x]) a b:=by
  rintro a b ⟨u,v,hu,hv,huv⟩
  exact ⟨u,v,by rw [List.getElem?_append_left (List.getElem?_eq_some_iff.1 hu).1];exact hu,by rw [List.getElem?_append_left (List.getElem?_eq_some_iff.1 hv).1];exact hv,huv⟩
 have hnew:(ts ++ [x])[ts.length]? = some x:=by simp
 refine ⟨?_,?_⟩
 ·rw [List.length_append,List.length_singleton,List.range_succ]
  have h1:(os.take p ++ [ts.length]++os.drop p).Perm (os.take p++os.drop p ++ [ts.length]):=by
   rw [List.append_assoc,List.append_assoc]
   exact List.Perm.append_left _ List.perm_append_comm
  rw [List.take_append_drop] at h1
  exact h1.trans (h.perm.append_right _)
 ·have hinc:=h.inc
  rw [← List.take_append_drop p os,List.pairwise_append] at hinc
  obtain ⟨i1,i2,i3⟩:=hinc
  rw [List.append_assoc,List.pairwise_append]
  refine ⟨i1.imp (fun hab=>ext _ _ hab),?_,?_⟩
  ·rw [List.singleton_append,List.pairwise_cons]
   refine ⟨?_,i2.imp (fun hab=>ext _ _ hab)⟩
   intro b hb
   obtain ⟨j,hj⟩:=List.getElem?_of_mem hb
   rw [List.getElem?_drop] at hj
   have hjl:p+j < os.length:=(List.getElem?_eq_some_iff.1 hj).1
   have hv:ts[b]? = some (ts[b]'(h.ltn hj)):=List.getElem?_eq_getElem (h.ltn hj)
   have h0:=hs.hi (p+j) (by omega) hjl
   have hne:cAt lt ts os x (p+j)≠0:=by
    intro hz
    have hmem:x∈ts:=by
     rw [cAt_eq hj hv,cmpT_zero hl] at hz
     rw [← hz]
     exact List.getElem_mem _
    exact h.miss hl hs hc hmem
   rw [cAt_eq hj hv] at h0 hne
   refine ⟨x,_,hnew,by rw [List.getElem?_append_left (h.ltn hj)];exact hv,?_⟩
   unfold cmpT at h0 hne
   split at h0
   ·simp at h0
   ·split at hne
    ·simp_all
    ·split at hne
     ·assumption
     ·exact absurd rfl hne
  ·intro a ha b hb
   rw [List.singleton_append,List.mem_cons] at hb
   rcases hb with rfl | hb
   ·obtain ⟨j,hj⟩:=List.getElem?_of_mem ha
    rw [List.getElem?_take] at hj
    split at hj
    ·rename_i hjp
     have hv:ts[a]? = some (ts[a]'(h.ltn hj)):=List.getElem?_eq_getElem (h.ltn hj)
     have h0:=hs.lo j hjp
     rw [cAt_eq hj hv,cmpT_neg] at h0
     exact ⟨_,x,by rw [List.getElem?_append_left (h.ltn hj)];exact hv,hnew,h0⟩
    ·cases hj
   ·exact ext _ _ (i3 a ha b hb)
end
end Go.V
end
section
namespace Go.V
section
variable {τ : Type}
def numV (os:List Nat):List Value:=os.map fun (k:Nat)=>Value.int .i64 (k:Int)
theorem numV_one (os:List Nat):∀ v∈numV os,v.oneCell=true:=by
 intro v hv
 obtain ⟨b,_,rfl⟩:=List.mem_map.1 hv
 rfl
structure Els (val : τ→Value) (H:Hp) (s:Sl) (xs:List τ):Prop where
 len:s.n=xs.length
 el:∀ (i:Nat) (x : τ),xs[i]? = some x→∃ ad,s.a=some ad∧hcell H (ad.add (i*1))=some (val x)
theorem Els.keep {val : τ→Value}{S:Nat→Prop}{H H':Hp}{s:Sl}{xs:List τ}(h:Els val H s xs) (hf:Fr S H H') (hs:∀ i,i < H.size→¬ S i):Els val H' s xs:=by
 refine ⟨h.len,fun i p hp=>?_⟩
 obtain ⟨ad,h2,h3⟩:=h.el i p hp
 exact ⟨ad,h2,hf.cell h3 (hs _ (hcell_lt h3))⟩
def tOwn (cs:List Value) (o:Nat) (i:Nat):Prop:=∃ off n c,cs[o]? = some (.slice (some ⟨i,off,none⟩) n c)∨cs[o+1]? = some (.slice (some ⟨i,off,none⟩) n c)
structure TbS (val : τ→Value) (lt : τ→τ→Bool) (E EI:TypeId) (H:Hp) (b o:Nat) (T:TypeId) (cs:List Value) (ts:List τ) (os:List Nat):Prop where
 blk:Blk H b cs T
 rows:∃ s1 s2:Sl,cs[o]? = some (.slice s1.a s1.n s1.c)∧cs[o+1]? = some (.slice s2.a s2.n s2.c)∧Row H E 1 s1 (ts.map val)∧Row H EI 1 s2 (numV os)∧Nf H s2∧(∀ i,own s1 i→own s2 i→False)
 nob:¬ tOwn cs o b
 ok:Tbl lt ts os
structure TbTo (val : τ→Value) (lt : τ→τ→Bool) (E EI:TypeId) (H H':Hp) (b o:Nat) (T:TypeId) (cs cs':List Value) (ts:List τ) (os:List Nat):Prop where
 st:TbS val lt E EI H' b o T cs' ts os
 len:cs'.length=cs.length
 rest:∀ i,i≠o→i≠o+1→cs'[i]? = cs[i]?
 fr:Fr (fun i=>i=b∨tOwn cs o i) H H'
 own:∀ i,tOwn cs' o i→tOwn cs o i∨H.size≤i
variable {val : τ→Value}{lt : τ→τ→Bool}{E EI:TypeId}
theorem tOwn_iff {s1 s2:Sl}{cs:List Value}{o:Nat}(h1:cs[o]? = some (.slice s1.a s1.n s1.c)) (h2:cs[o+1]? = some (.slice s2.a s2.n s2.c)) (i:Nat):tOwn cs o i↔own s1 i∨own s2 i:=by
 unfold tOwn own
 rw [h1,h2]
 constructor
 ·rintro ⟨off,n,c,h | h⟩
  ·simp only [Option.some.injEq,Value.slice.injEq] at h
   exact .inl ⟨off,h.1⟩
  ·simp only [Option.some.injEq,Value.slice.injEq] at h
   exact .inr ⟨off,h.1⟩
 ·rintro (⟨off,h⟩ | ⟨off,h⟩)
  ·exact ⟨off,s1.n,s1.c,.inl (by rw [h])⟩
  ·exact ⟨off,s2.n,s2.c,.inr (by rw [h])⟩
section
variable {H:Hp}{b o:Nat}{T:TypeId}{cs:List Value}{ts:List τ}{os:List Nat}
theorem TbS.own_lt (h:TbS val lt E EI H b o T cs ts os) {i:Nat}(hi:tOwn cs o i):i < H.size:=by
 obtain ⟨s1,s2,h1,h2,r1,r2,nf,ap⟩:=h.rows
 rcases (tOwn_iff h1 h2 i).1 hi with h | h
 ·exact r1.lt h
 ·exact r2.lt h
theorem TbS.keep {S:Nat→Prop}{H':Hp}(h:TbS val lt E EI H b o T cs ts os) (hf:Fr S H H') (hb:¬ S b) (hs:∀ i,tOwn cs o i→¬ S i):TbS val lt E EI H' b o T cs ts os:=by
 obtain ⟨s1,s2,h1,h2,r1,r2,nf,ap⟩:=h.rows
 exact ⟨hf.blk h.blk hb,⟨s1,s2,h1,h2,r1.keep hf (fun i hi=>hs i ((tOwn_iff h1 h2 i).2 (.inl hi))),r2.keep hf (fun i hi=>hs i ((tOwn_iff h1 h2 i).2 (.inr hi))),nf.keep hf (fun i hi=>hs i ((tOwn_iff h1 h2 i).2 (.inr hi))),ap⟩,h.nob,h.ok⟩
theorem TbTo.refl (h:TbS val lt E EI H b o T cs ts os):TbTo val lt E EI H H b o T cs cs ts os:=⟨h,rfl,fun _ _ _=>rfl,Fr.refl _ _,fun _ h=>.inl h⟩
theorem TbTo.of_no {H':Hp}(h:TbS val lt E EI H b o T cs ts os) (hf:Fr no H H'):TbTo val lt E EI H H' b o T cs cs ts os:=⟨h.keep hf (fun h=>h) (fun _ _ h=>h),rfl,fun _ _ _=>rfl,hf.of_no,fun _ h=>.inl h⟩
theorem TbTo.trans {A B C:Hp}{c1 c2 c3:List Value}{t1 t2:List τ}{o1 o2:List Nat}(h:TbTo val lt E EI A B b o T c1 c2 t1 o1) (k:TbTo val lt E EI B C b o T c2 c3 t2 o2):TbTo val lt E EI A C b o T c1 c3 t2 o2:=by
 refine ⟨k.st,k.len.trans h.len,fun i h1 h2=>(k.rest i h1 h2).trans (h.rest i h1 h2),?_,?_⟩
 ·refine h.fr.step k.fr ?_
  intro i hi ht
  rcases ht with rfl | ht
  ·exact .inl rfl
  ·rcases h.own i ht with h' | h'
   ·exact .inr h'
   ·omega
 ·intro i hi
  rcases k.own i hi with h' | h'
  ·exact h.own i h'
  ·exact .inr (Nat.le_trans h.fr.size h')
theorem TbS.thing (h:TbS val lt E EI H b o T cs ts os) {s1:Sl}(hs:cs[o]? = some (.slice s1.a s1.n s1.c)):s1.n=ts.length∧∀ (i:Nat) (x : τ),ts[i]? = some x→∃ ad,s1.a=some ad∧hcell H (ad.add (i*1))=some (val x):=by
 obtain ⟨s1',s2,h1,h2,r1,r2,nf,ap⟩:=h.rows
 obtain rfl:s1'=s1:=by
  rw [hs] at h1
  cases s1;cases s1'
  simp only [Option.some.injEq,Value.slice.injEq] at h1
  simp [h1]
 have hl:=r1.1
 rw [List.length_map,Nat.mul_one] at hl
 refine ⟨hl.symm,fun i x hx=>?_⟩
 have hi:i < ts.length:=(List.getElem?_eq_some_iff.1 hx).1
 obtain ⟨g,hg⟩:=r1.some (by omega)
 refine ⟨_,hg,?_⟩
 rw [r1.ld hg (i*1) (by rw [List.length_map];omega),Nat.mul_one,List.getElem?_map,hx]
 rfl
theorem TbS.order (h:TbS val lt E EI H b o T cs ts os) {s2:Sl}(hs:cs[o+1]? = some (.slice s2.a s2.n s2.c)):s2.n=os.length∧∀ (i:Nat) (k:Nat),os[i]? = some k→∃ ad,s2.a=some ad∧hcell H (ad.add (i*1))=some (.int .i64 (k:Int)):=by
 obtain ⟨s1,s2',h1,h2,r1,r2,nf,ap⟩:=h.rows
 obtain rfl:s2'=s2:=by
  rw [hs] at h2
  cases s2;cases s2'
  simp only [Option.some.injEq,Value.slice.injEq] at h2
  simp [h2]
 have hl:=r2.1
 unfold numV at hl r2
 rw [List.length_map,Nat.mul_one] at hl
 refine ⟨hl.symm,fun i x hx=>?_⟩
 have hi:i < os.length:=(List.getElem?_eq_some_iff.1 hx).1
 obtain ⟨g,hg⟩:=r2.some (by omega)
 refine ⟨_,hg,?_⟩
 rw [r2.ld hg (i*1) (by rw [List.length_map];omega),Nat.mul_one,List.getElem?_map,hx]
 rfl
end
end
end Go.V
end
section
namespace Go.V
attribute [local irreducible] Cvt ExtF CallF hrun
section
variable {τ : Type}{lt : τ→τ→Bool}
def riseL (ts:List τ) (os:List Nat):List τ:=os.filterMap fun k=>ts[k]?
theorem Tbl.rise_len {ts:List τ}{os:List Nat}(h:Tbl lt ts os):∀ {j:Nat},j≤os.length→(riseL ts (os.take j)).length=j:=by
 have key:∀ l:List Nat,(∀ k∈l,k < ts.length)→(riseL ts l).length=l.length:=by
  intro l
  induction l with
  | nil=>intro _;rfl
  | cons k l ih=>
   intro hl
   have hk:ts[k]? = some (ts[k]'(hl k List.mem_cons_self)):=List.getElem?_eq_getElem _
   unfold riseL
   rw [List.filterMap_cons,hk]
   simp only [List.length_cons]
   exact congrArg (· + 1) (ih fun k hk=>hl k (List.mem_cons_of_mem _ hk))
 intro j hj
 rw [key,List.length_take,Nat.min_eq_left hj]
 intro k hk
 exact List.mem_range.1 (h.perm.mem_iff.1 (List.mem_of_mem_take hk))
theorem rise_succ {ts:List τ}{os:List Nat}{j k:Nat}{x : τ}(h1:os[j]? = some k) (h2:ts[k]? = some x):riseL ts (os.take (j+1))=riseL ts (os.take j) ++ [x]:=by
 obtain ⟨hj,rfl⟩:=List.getElem?_eq_some_iff.1 h1
 unfold riseL
 rw [List.take_succ_eq_append_getElem hj,List.filterMap_append]
 simp [h2]
theorem Tbl.rise_mem {ts:List τ}{os:List Nat}(h:Tbl lt ts os) (x : τ):x∈riseL ts os↔x∈ts:=by
 unfold riseL
 rw [List.mem_filterMap]
 constructor
 ·rintro ⟨k,_,hk⟩
  exact List.mem_of_getElem? hk
 ·intro hx
  obtain ⟨k,hk⟩:=List.getElem?_of_mem hx
  obtain ⟨j,hj⟩:=h.at (List.getElem?_eq_some_iff.1 hk).1
  exact ⟨k,List.mem_of_getElem? hj,hk⟩
def Rising (lt : τ→τ→Bool) (l:List τ):Prop:=l.Pairwise fun x y=>lt x y=true
theorem Tbl.rising {ts:List τ}{os:List Nat}(h:Tbl lt ts os):Rising lt (riseL ts os):=by
 have hinc:=h.inc
 unfold Rising riseL
 clear h
 induction os with
 | nil=>exact List.Pairwise.nil
 | cons k os ih=>
  rw [List.pairwise_cons] at hinc
  rw [List.filterMap_cons]
  cases hk:ts[k]? with
  | none=>exact ih hinc.2
  | some x=>
   simp only
   rw [List.pairwise_cons]
   refine ⟨?_,ih hinc.2⟩
   intro y hy
   rw [List.mem_filterMap] at hy
   obtain ⟨k',hk',hy'⟩:=hy
   obtain ⟨u,v,hu,hv,huv⟩:=hinc.1 k' hk'
   rw [hk] at hu
   rw [hy'] at hv
   cases hu
   cases hv
   exact huv
end
def CloneV (P:Program) (T E:TypeId) (H:Hp) (s:Sl) (K:Value→Hp→Prop) (Z:List PanicEntry→Hp→Prop):Prop:=
 (((Option.isNone s.a)=true→K (.slice none 0 0) H)∧((Option.isNone s.a)=false→∀ b H1,Newb H (.cells #[] E) b H1 →
  App P #[T,T] T H1 [.slice (some ⟨b,0,none⟩) 0 0,.slice s.a s.n s.c] fun ap H2=>(K (.slice ap.a ap.n ap.c) H2)))
theorem clone_ok {P:Program}{T E:TypeId}{inf:TypeInfo}{z:Value}(hu:P.underlying T=some (.slice E)) (hi:P.info? E=some inf) (hz:inf.zero=some z) (hzs:z.cells.size=inf.size) (hb:0 < inf.bytes)
  {H:Hp}{s:Sl}{xs:List Value}{K:Value→Hp→Prop}{Z:List PanicEntry→Hp→Prop}(hr:Row H E inf.size s xs) (h1:∀ v∈xs,v.oneCell=true) (hl:s.n*inf.bytes≤140737488355328)
  (k:∀ s' H',Row H' E inf.size s' xs→s'.n=s.n→Fr no H H'→(∀ i,own s' i→H.size≤i)→Nf H' s'→K (.slice s'.a s'.n s'.c) H'):CloneV P T E H s K Z:=by
 unfold CloneV
 refine ⟨fun hn=>?_,fun hs=>?_⟩
 ·have hn':s.a=none:=by simpa using hn
  rcases hr.2 with ⟨_,h2,h3⟩ | ⟨g,cs,fr,ha,_⟩
  ·have hx:xs = []:=List.eq_nil_of_length_eq_zero (by rw [hr.1,h2];simp)
   subst hx
   exact k ⟨none,0,0⟩ H (Row.nil _ _ _) h2.symm (Fr.refl _ _) (by rintro i ⟨o,h⟩;cases h) (by intro g o e;cases e)
  ·rw [hn'] at ha;cases ha
 ·intro b A hn
  have rA:Row A E inf.size ⟨some ⟨b,0,none⟩,0,0⟩ []:=by
   refine ⟨by simp,.inr ⟨b,[],(0,0),rfl,hn.get,Nat.le_refl _,by simp,by simp,Nat.zero_le _⟩⟩
  have nA:Nf A ⟨some ⟨b,0,none⟩,0,0⟩:=by
   intro g o e
   simp only [Option.some.injEq,Addr.mk.injEq] at e
   exact ⟨_,_,by rw [← e.1];exact hn.get⟩
  refine app_row2 (s:=⟨some ⟨b,0,none⟩,0,0⟩) hu (by intro k;rw [hu];simp) ⟨_,hu⟩ hi hz hzs hb rA (Src.row (hr.keep hn.fr fun _ _ h=>h)) h1 (by show (0+s.n)*inf.bytes≤_;rw [Nat.zero_add];exact hl) ?_
  intro s' B rB nB fB oB nfB
  refine k s' B (by simpa using rB) (by rw [nB];exact Nat.zero_add _) ?_ ?_ (nfB nA)
  ·refine hn.fr.step fB ?_
   rintro i hi ⟨o,ho⟩
   simp only [Option.some.injEq,Addr.mk.injEq] at ho
   have:=hn.eq
   omega
  ·intro i hi
   have:=hn.eq
   have:=hn.size
   rcases oB i hi with ⟨o,ho⟩ | h
   ·simp only [Option.some.injEq,Addr.mk.injEq] at ho
    omega
   ·omega
end Go.V
end
section
namespace Go.V
attribute [local irreducible] Cvt ExtF CallF hrun
theorem erase_perm {α : Type}:∀ {l:List α}{k:Nat}{a : α},l[k]? = some a→(a::l.eraseIdx k).Perm l
 | [],k,a,h=>by simp at h
 | x::l,0,a,h=>by
  simp only [List.getElem?_cons_zero,Option.some.injEq] at h
  subst h
  exact List.Perm.refl _
 | x::l,k+1,a,h=>by
  rw [List.getElem?_cons_succ] at h
  rw [List.eraseIdx_cons_succ]
  exact (List.Perm.swap _ _ _).trans ((erase_perm h).cons x)
structure It where
 ok:Hp→Prop
 fp:Nat→Prop
 lt:∀ {H:Hp}{i:Nat},ok H→fp i→i < H.size
 st:∀ {H H':Hp},ok H→(∀ i,fp i→H'[i]? = H[i]?)→ok H'
def apart (a b:It):Prop:=∀ i,a.fp i→b.fp i→False
theorem apart.symm {a b:It}(h:apart a b):apart b a:=fun i x y=>h i y x
structure Sym (H0:Hp) (S:Nat→Prop) (H:Hp) (l:List It):Prop where
 fr:Fr S H0 H
 ok:∀ a∈l,a.ok H
 sep:l.Pairwise apart
 fp:∀ a∈l,∀ i,a.fp i→S i∨H0.size≤i
theorem It.keep {a:It}{S:Nat→Prop}{H H':Hp}(h:a.ok H) (hf:Fr S H H') (hs:∀ i,a.fp i→¬ S i):a.ok H':=a.st h fun i hi=>hf.keep i (a.lt h hi) (hs i hi)
section
variable {H0 H H':Hp}{S T:Nat→Prop}{l R N its:List It}{a b:It}
theorem Sym.start (H:Hp):Sym H no H []:=⟨Fr.refl _ _,by simp,List.Pairwise.nil,by simp⟩
theorem Sym.start1 (h:a.ok H):Sym H a.fp H [a]:=⟨Fr.refl _ _,by simpa using h,by simp,by intro x hx i hi;rw [List.mem_singleton.1 hx] at hi;exact .inl hi⟩
theorem Sym.get (h:Sym H0 S H l) {k:Nat}(hk:l[k]? = some a):a.ok H:=h.ok a (List.mem_of_getElem? hk)
theorem Sym.apt (h:Sym H0 S H l) {i j:Nat}(hi:l[i]? = some a) (hj:l[j]? = some b) (hij:i≠j):apart a b:=by
 obtain ⟨h1,rfl⟩:=List.getElem?_eq_some_iff.1 hi
 obtain ⟨h2,rfl⟩:=List.getElem?_eq_some_iff.1 hj
 have hs:=List.pairwise_iff_getElem.1 h.sep
 rcases Nat.lt_or_gt_of_ne hij with h3 | h3
 ·exact hs i j h1 h2 h3
 ·exact (hs j i h2 h1 h3).symm
theorem Sym.perm (h:Sym H0 S H l) (hp:l.Perm R):Sym H0 S H R:=
 ⟨h.fr,fun a ha=>h.ok a (hp.mem_iff.2 ha),h.sep.perm hp apart.symm,fun a ha=>h.fp a (hp.mem_iff.2 ha)⟩
theorem Sym.sub (h:Sym H0 S H l) (hp:R.Sublist l):Sym H0 S H R:=
 ⟨h.fr,fun a ha=>h.ok a (hp.mem ha),h.sep.sublist hp,fun a ha=>h.fp a (hp.mem ha)⟩
theorem Sym.pick (h:Sym H0 S H l) {k:Nat}(hk:l[k]? = some a):Sym H0 S H (a::l.eraseIdx k):=by
 exact h.perm (erase_perm hk).symm
theorem Sym.swap (h:Sym H0 S H (a::b::l)):Sym H0 S H (b::a::l):=h.perm (List.Perm.swap _ _ _)
theorem Sym.drop (h:Sym H0 S H (a::l)):Sym H0 S H l:=h.sub (List.sublist_cons_self _ _)
theorem Sym.more (h:Sym H0 S H l) (hf:Fr no H H'):Sym H0 S H' l:=
 ⟨h.fr.step hf fun _ _ h=>h.elim,fun a ha=>It.keep (h.ok a ha) hf fun _ _ h=>h,h.sep,h.fp⟩
theorem Sym.absorb (h:Sym H0 S H (its++R)) (k:Sym H T H' N) (ht:∀ i,T i→∃ a∈its,a.fp i):Sym H0 S H' (N++R):=by
 have hsep:=h.sep
 rw [List.pairwise_append] at hsep
 obtain ⟨s1,s2,s3⟩:=hsep
 refine ⟨h.fr.step k.fr ?_,?_,?_,?_⟩
 ·intro i hi hti
  obtain ⟨a,ha,hf⟩:=ht i hti
  rcases h.fp a (List.mem_append.2 (.inl ha)) i hf with h1 | h1
  ·exact h1
  ·omega
 ·intro b hb
  rcases List.mem_append.1 hb with hb | hb
  ·exact k.ok b hb
  ·refine It.keep (h.ok b (List.mem_append.2 (.inr hb))) k.fr ?_
   intro i hi hti
   obtain ⟨a,ha,hf⟩:=ht i hti
   exact s3 a ha b hb i hf hi
 ·rw [List.pairwise_append]
  refine ⟨k.sep,s2,?_⟩
  intro x hx y hy i h1 h2
  rcases k.fp x hx i h1 with h3 | h3
  ·obtain ⟨a,ha,hf⟩:=ht i h3
   exact s3 a ha y hy i hf h2
  ·have:=y.lt (h.ok y (List.mem_append.2 (.inr hy))) h2
   omega
 ·intro b hb i hi
  rcases List.mem_append.1 hb with hb | hb
  ·rcases k.fp b hb i hi with h1 | h1
   ·obtain ⟨a,ha,hf⟩:=ht i h1
    exact h.fp a (List.mem_append.2 (.inl ha)) i hf
   ·exact .inr (Nat.le_trans h.fr.size h1)
  ·exact h.fp b (List.mem_append.2 (.inr hb)) i hi
theorem Sym.join (h:Sym H0 S H R) (k:Sym H no H' N):Sym H0 S H' (N++R):=Sym.absorb (its:=[]) (R:=R) h k fun _ h=>h.elim
theorem Sym.join1 (h:Sym H0 S H (a::R)) (k:Sym H a.fp H' N):Sym H0 S H' (N++R):=Sym.absorb (its:=[a]) (R:=R) h k fun i hi=>⟨a,List.mem_singleton.2 rfl,hi⟩
theorem Sym.upd (h:Sym H0 S H (a::R)) (hf:Fr a.fp H H') (hb:b.ok H') (hp:∀ i,b.fp i→a.fp i∨H.size≤i):Sym H0 S H' (b::R):=
 Sym.join1 (N:=[b]) h ⟨hf,by simpa using hb,by simp,by simpa using hp⟩
theorem Sym.setk (h:Sym H0 S H l) {k:Nat}(hk:l[k]? = some a) (hf:Fr a.fp H H') (hb:b.ok H') (hp:∀ i,b.fp i→a.fp i∨H.size≤i):Sym H0 S H' (l.set k b):=by
 have h1:=(h.pick hk).upd hf hb hp
 refine h1.perm ?_
 have h2:=(List.getElem?_eq_some_iff.1 hk).1
 have e:(l.set k b).eraseIdx k=l.eraseIdx k:=List.eraseIdx_set_eq ..
 have h3:(l.set k b)[k]? = some b:=List.getElem?_set_self h2
 have h4:=erase_perm h3
 rw [e] at h4
 exact h4
theorem Sym.new (h:Sym H0 S H l) (hf:Fr no H H') (hb:b.ok H') (hp:∀ i,b.fp i→H.size≤i):Sym H0 S H' (b::l):=
 Sym.join (N:=[b]) h ⟨hf,by simpa using hb,by simp,by intro x hx i hi;rw [List.mem_singleton.1 hx] at hi;exact .inr (hp i hi)⟩
theorem Sym.as (h:Sym H0 S H l) {k:Nat}(hk:l[k]? = some a) (hb:a.ok H→b.ok H) (hp:∀ i,b.fp i→a.fp i):Sym H0 S H (l.set k b):=
 h.setk hk (Fr.refl _ _) (hb (h.get hk)) fun i hi=>.inl (hp i hi)
theorem Sym.frno (h:Sym H0 no H l):Fr no H0 H:=h.fr
end
def blk (b:Nat) (cs:List Value) (T:TypeId):It where
 ok H:=Blk H b cs T
 fp i:=i=b
 lt h hi:=by subst hi;exact h.lt
 st h hs:=(hs b rfl).trans h
section
variable {H0 H H':Hp}{S:Nat→Prop}{l:List It}
theorem Sym.newb {b:Nat}{cs:List Value}{T:TypeId}(h:Sym H0 S H l) (hn:Newb H (.cells cs.toArray T) b H'):Sym H0 S H' (blk b cs T::l):=
 h.new hn.fr hn.blk fun i hi=>by have:=hn.eq;have:i=b:=hi;omega
theorem Sym.ld {b k:Nat}{cs:List Value}{T:TypeId}(h:Sym H0 S H l) (hk:l[k]? = some (blk b cs T)) (i:Nat):hcell H ⟨b,i,none⟩=cs[i]?:=
 Blk.ld (h.get hk) i
theorem Sym.stb {b i k:Nat}{v:Value}{cs:List Value}{T:TypeId}{K:Hp→Prop}(h:Sym H0 S H l) (hk:l[k]? = some (blk b cs T)) (hi:i < cs.length) (hv:v.oneCell=true)
  (kk:∀ H',Sym H0 S H' (l.set k (blk b (cs.set i v) T))→K H'):StL ⟨b,i,none⟩ 0 [v] H K:=
 st_blk (h.get hk) hi hv fun H' h1 h2 _=>kk H' (h.setk hk h2 h1 fun i hi=>.inl hi)
theorem Sym.stbs {b i k:Nat}{vs:List Value}{cs:List Value}{T:TypeId}{K:Hp→Prop}(h:Sym H0 S H l) (hk:l[k]? = some (blk b cs T)) (hi:i+vs.length≤cs.length) (hv:∀ v∈vs,v.oneCell=true)
  (kk:∀ H',Sym H0 S H' (l.set k (blk b (setsL cs i vs) T))→K H'):StL ⟨b,i,none⟩ 0 vs H K:=by
 refine stL_cells (o:=i) vs 0 (h.get hk) (by omega) hv (.inr (Nat.le_refl _)) fun H' h1 h2 _=>kk H' (h.setk hk h2 h1 fun i hi=>.inl hi)
end
section
variable {τ : Type}
def flat (fl : τ→List Value) (l:List τ):List Value:=l.flatMap fl
structure Fl (fl : τ→List Value) (sz:Nat):Prop where
 len:∀ x,(fl x).length=sz
 one:∀ x,∀ v∈fl x,v.oneCell=true
variable {fl : τ→List Value}{sz:Nat}
theorem flat_len (hf:Fl fl sz):∀ l:List τ,(flat fl l).length=l.length*sz
 | []=>by simp [flat]
 | x::l=>by
  have:=flat_len hf l
  unfold flat at this ⊢
  rw [List.flatMap_cons,List.length_append,this,hf.len,List.length_cons,Nat.succ_mul]
  omega
theorem flat_one (hf:Fl fl sz) {l:List τ}:∀ v∈flat fl l,v.oneCell=true:=by
 intro v hv
 obtain ⟨x,_,hx⟩:=List.mem_flatMap.1 hv
 exact hf.one x v hx
theorem flat_app (l m:List τ):flat fl (l++m)=flat fl l++flat fl m:=by simp [flat]
theorem flat_sing (x : τ):flat fl [x]=fl x:=by simp [flat]
theorem flat_get (hf:Fl fl sz):∀ {l:List τ}{i:Nat}{x : τ}{k:Nat},l[i]? = some x→k < sz→(flat fl l)[i*sz+k]? = (fl x)[k]?
 | [],i,x,k,h,_=>by simp at h
 | y::l,0,x,k,h,hk=>by
  simp only [List.getElem?_cons_zero,Option.some.injEq] at h
  subst h
  unfold flat
  rw [List.flatMap_cons,Nat.zero_mul,Nat.zero_add,List.getElem?_append_left (by rw [hf.len];exact hk)]
 | y::l,i+1,x,k,h,hk=>by
  rw [List.getElem?_cons_succ] at h
  have:=flat_get hf h hk
  unfold flat at this ⊢
  rw [List.flatMap_cons,List.getElem?_append_right (by rw [hf.len,Nat.succ_mul];omega),hf.len]
  rw [← this]
  congr 1
  rw [Nat.succ_mul]
  omega
theorem flat_set (hf:Fl fl sz):∀ {l:List τ}{i:Nat}{x y : τ}{k:Nat}{v:Value},l[i]? = some x→k < sz→fl y=(fl x).set k v→(flat fl l).set (i*sz+k) v=flat fl (l.set i y)
 | [],i,x,y,k,v,h,_,_=>by simp at h
 | z::l,0,x,y,k,v,h,hk,e=>by
  simp only [List.getElem?_cons_zero,Option.some.injEq] at h
  subst h
  unfold flat
  rw [List.flatMap_cons,Nat.zero_mul,Nat.zero_add,List.set_append_left _ _ (by rw [hf.len];exact hk),List.set_cons_zero,List.flatMap_cons,e]
 | z::l,i+1,x,y,k,v,h,hk,e=>by
  rw [List.getElem?_cons_succ] at h
  have:=flat_set hf h hk e
  unfold flat at this ⊢
  rw [List.flatMap_cons,List.set_append_right _ _ (by rw [hf.len,Nat.succ_mul];omega),hf.len,List.set_cons_succ,List.flatMap_cons,← this]
  congr 2
  rw [Nat.succ_mul]
  omega
theorem flat_take (hf:Fl fl sz):∀ (l:List τ) (k:Nat),(flat fl l).take (k*sz)=flat fl (l.take k)
 | [],k=>by simp [flat]
 | x::l,0=>by simp [flat]
 | x::l,k+1=>by
  have:=flat_take hf l k
  unfold flat at this ⊢
  rw [List.take_succ_cons,List.flatMap_cons,List.flatMap_cons,← this,Nat.succ_mul,Nat.add_comm,← hf.len x,List.take_append,List.take_of_length_le (by omega)]
  congr 2
  omega
theorem flat_drop (hf:Fl fl sz):∀ (l:List τ) (k:Nat),(flat fl l).drop (k*sz)=flat fl (l.drop k)
 | [],k=>by simp [flat]
 | x::l,0=>by simp [flat]
 | x::l,k+1=>by
  have:=flat_drop hf l k
  unfold flat at this ⊢
  rw [List.drop_succ_cons,List.flatMap_cons,← this,Nat.succ_mul,Nat.add_comm,← hf.len x,List.drop_append,List.drop_of_length_le (by omega),List.nil_append]
  congr 1
  omega
structure Rd (fl : τ→List Value) (sz:Nat) (H:Hp) (s:Sl) (l:List τ):Prop where
 len:s.n=l.length
 le:s.n≤s.c
 el:∀ (i:Nat) (x : τ) (k:Nat) (v:Value),l[i]? = some x→(fl x)[k]? = some v→∃ ad,s.a=some ad∧hcell H (ad.add (i*sz+k))=some v
theorem add_add (ad:Addr) (i k:Nat):(ad.add i).add k=ad.add (i+k):=by
 unfold Addr.add
 by_cases hk:k=0
 ·simp [hk]
 ·by_cases hi:i=0
  ·simp [hi,hk]
  ·have:i+k≠0:=by omega
   simp [hi,hk,this]
   omega
def rown (s:Sl) (i:Nat):Prop:=∃ ad,s.a=some ad∧ad.block=i
theorem Rd.keep {S:Nat→Prop}{H H':Hp}{s:Sl}{l:List τ}(h:Rd fl sz H s l) (hf:Fr S H H') (hs:∀ i,rown s i→¬ S i):Rd fl sz H' s l:=by
 refine ⟨h.len,h.le,fun i x k v h1 h2=>?_⟩
 obtain ⟨ad,ha,hc⟩:=h.el i x k v h1 h2
 refine ⟨ad,ha,hf.cell hc ?_⟩
 rw [add_block]
 exact hs _ ⟨ad,ha,rfl⟩
theorem Rd.more {H H':Hp}{s:Sl}{l:List τ}(h:Rd fl sz H s l) (hf:Fr no H H'):Rd fl sz H' s l:=h.keep hf fun _ _ h=>h
theorem Rd.nil {H:Hp}:Rd fl sz H ⟨none,0,0⟩ []:=⟨rfl,Nat.le_refl _,by simp⟩
theorem Rd.ix {H:Hp}{s:Sl}{l:List τ}{i:Int}{x : τ}{K:Addr→Prop}(hsz:0 < sz) (hf:Fl fl sz) (h:Rd fl sz H s l) (h0:0≤i) (hx:l[i.toNat]? = some x)
  (k:∀ ad,(∀ k v,(fl x)[k]? = some v→hcell H (ad.add k)=some v)→hcell H ad=(fl x)[0]?→K ad):IxA s.a s.n i sz K:=by
 have hi:=(List.getElem?_eq_some_iff.1 hx).1
 have hl:=h.len
 have h00:(fl x)[0]? = some ((fl x)[0]'(by rw [hf.len];exact hsz)):=List.getElem?_eq_getElem _
 obtain ⟨ad,ha,hc⟩:=h.el _ _ _ _ hx h00
 refine ⟨ad,ha,⟨h0,by omega⟩,k _ ?_ ?_⟩
 ·intro k v hv
  obtain ⟨ad',ha',hc'⟩:=h.el _ _ _ _ hx hv
  rw [ha] at ha'
  cases ha'
  rw [add_add]
  exact hc'
 ·rw [h00]
  exact hc
theorem Rd.part {H:Hp}{s:Sl}{l:List τ}(hf:Fl fl sz) (h:Rd fl sz H s l) {lo hi:Nat}(h1:lo≤hi) (h2:hi≤s.n):Rd fl sz H (cut s.a s.c lo hi sz) ((l.drop lo).take (hi - lo)):=by
 have hl:=h.len
 have hle:=h.le
 refine ⟨?_,?_,?_⟩
 ·show hi - lo=_
  rw [List.length_take,List.length_drop]
  omega
 ·show hi - lo≤s.c - lo
  omega
 ·intro i x k v hx hv
  rw [List.getElem?_take] at hx
  split at hx
  ·rename_i hlt
   rw [List.getElem?_drop] at hx
   obtain ⟨ad,ha,hc⟩:=h.el _ _ _ _ hx hv
   have hlo:s.c≠lo:=by omega
   refine ⟨ad.add (lo*sz),?_,?_⟩
   ·unfold cut
    rw [if_neg hlo,ha]
    rfl
   ·rw [add_add]
    have:lo*sz+(i*sz+k)=(lo+i)*sz+k:=by rw [Nat.add_mul];omega
    rw [this]
    exact hc
  ·cases hx
structure RowN (fl : τ→List Value) (E:TypeId) (sz:Nat) (H:Hp) (s:Sl) (l:List τ):Prop where
 row:Row H E sz s (flat fl l)
 nf:Nf H s
theorem own_iff {s:Sl}{g o i:Nat}(h:s.a=some ⟨g,o,none⟩):own s i↔i=g:=by
 unfold own
 rw [h]
 constructor
 ·rintro ⟨o',e⟩
  simp only [Option.some.injEq,Addr.mk.injEq] at e
  exact e.1.symm
 ·rintro rfl
  exact ⟨o,rfl⟩
theorem own_none {s:Sl}{i:Nat}(h:s.a=none):¬ own s i:=by
 rintro ⟨o,e⟩
 rw [h] at e
 cases e
theorem RowN.len (hf:Fl fl sz) (hsz:0 < sz) {E:TypeId}{H:Hp}{s:Sl}{l:List τ}(h:RowN fl E sz H s l):s.n=l.length:=by
 have:=h.row.1
 rw [flat_len hf] at this
 exact (Nat.eq_of_mul_eq_mul_right hsz this).symm
theorem RowN.rd (hf:Fl fl sz) (hsz:0 < sz) {E:TypeId}{H:Hp}{s:Sl}{l:List τ}(h:RowN fl E sz H s l):Rd fl sz H s l:=by
 have hn:=h.len hf hsz
 refine ⟨hn,h.row.le,fun i x k v hx hv=>?_⟩
 have hi:=(List.getElem?_eq_some_iff.1 hx).1
 obtain ⟨g,hg⟩:=h.row.some (by omega)
 have hk:k < sz:=by have:=(List.getElem?_eq_some_iff.1 hv).1;rw [hf.len] at this;exact this
 refine ⟨_,hg,?_⟩
 have hlen:=flat_len hf l
 have hb:i*sz+k < l.length*sz:=by
  have:(i+1)*sz≤l.length*sz:=Nat.mul_le_mul_right _ hi
  rw [Nat.succ_mul] at this
  omega
 rw [h.row.ld hg _ (by omega),flat_get hf hx hk]
 exact hv
def arr (fl : τ→List Value) (E:TypeId) (sz:Nat) (s:Sl) (l:List τ):It where
 ok H:=RowN fl E sz H s l
 fp i:=own s i
 lt h hi:=h.row.lt hi
 st:=by
  intro H H' h hs
  refine ⟨⟨h.row.1,?_⟩,?_⟩
  ·rcases h.row.2 with h' | ⟨g,cs,fr,ha,hg,h'⟩
   ·exact .inl h'
   ·exact .inr ⟨g,cs,fr,ha,(hs g ⟨0,ha⟩).trans hg,h'⟩
  ·intro g o hg
   obtain ⟨cs,T,hb⟩:=h.nf g o hg
   exact ⟨cs,T,(hs g ⟨o,hg⟩).trans hb⟩
section
variable {H0 H H':Hp}{S:Nat→Prop}{L:List It}{E:TypeId}{s:Sl}{l:List τ}
theorem Sym.rd {k:Nat}(h:Sym H0 S H L) (hf:Fl fl sz) (hsz:0 < sz) (hk:L[k]? = some (arr fl E sz s l)):Rd fl sz H s l:=RowN.rd hf hsz (h.get hk)
theorem Sym.nilrow (h:Sym H0 S H L) (fl : τ→List Value) (E:TypeId) (sz:Nat):Sym H0 S H (arr fl E sz ⟨none,0,0⟩ []::L):=
 h.new (Fr.refl _ _) ⟨Row.nil _ _ _,by intro g o e;cases e⟩ fun i hi=>(own_none rfl hi).elim
theorem Sym.sta {k:Nat}{i:Int}{j:Nat}{x y : τ}{v:Value}{K:Hp→Prop}(h:Sym H0 S H L) (hf:Fl fl sz) (hk:L[k]? = some (arr fl E sz s l)) (h0:0≤i) (hx:l[i.toNat]? = some x) (hj:j < sz) (hy:fl y=(fl x).set j v)
  (kk:∀ H',Sym H0 S H' (L.set k (arr fl E sz s (l.set i.toNat y)))→K H'):IxA s.a s.n i sz fun ad=>StL (ad.add j) 0 [v] H K:=by
 have hok:RowN fl E sz H s l:=h.get hk
 have hi:=(List.getElem?_eq_some_iff.1 hx).1
 have hn:=hok.len hf (by omega)
 obtain ⟨g,hg⟩:=hok.row.some (by omega)
 rcases hok.row.2 with ⟨ha,_⟩ | ⟨g',cs,fr,ha,hb,h1,h2,h3,h4⟩
 ·rw [hg] at ha;cases ha
 rw [hg] at ha
 cases ha
 refine ⟨_,hg,⟨h0,by omega⟩,?_⟩
 show StL (((⟨g,0,none⟩:Addr).add (i.toNat*sz)).add j) 0 [v] H K
 rw [add_mk,add_mk,Nat.zero_add]
 have hlen:=flat_len hf l
 have hb1:i.toNat*sz+j < l.length*sz:=by
  have:(i.toNat+1)*sz≤l.length*sz:=Nat.mul_le_mul_right _ hi
  rw [Nat.succ_mul] at this
  omega
 have hc1:l.length*sz≤cs.length:=by rw [h2,← hn];exact Nat.mul_le_mul_right _ h1
 have hfr:fr=(0,0):=by
  obtain ⟨cs',T',hb'⟩:=hok.nf g 0 hg
  rw [hb] at hb'
  simp only [Option.some.injEq,Obj.cells.injEq] at hb'
  exact hb'.2.2
 subst hfr
 have hv1:v.oneCell=true:=by
  refine hf.one y v ?_
  rw [hy]
  have:=hf.len x
  exact List.mem_iff_getElem?.2 ⟨j,by rw [List.getElem?_set_self (by omega)]⟩
 refine stL_cells (o:=i.toNat*sz+j) [v] 0 hb (by simp;omega) (by simpa using hv1) (.inr (Nat.le_refl _)) fun H' g1 g2 g3=>kk H' (h.setk hk (g2.mono fun q _ e=>⟨0,by rw [e];exact hg⟩) ⟨⟨?_,.inr ⟨g,_,(0,0),hg,g1,h1,?_,?_,Nat.zero_le _⟩⟩,?_⟩ fun q hq=>.inl hq)
 ·rw [flat_len hf,List.length_set,hn]
 ·rw [setsL_length]
  exact h2
 ·rw [← flat_set hf hx hj hy,← h3]
  simp only [setsL,Nat.add_zero]
  rw [List.take_set]
 ·intro g' o' e
  rw [hg] at e
  simp only [Option.some.injEq,Addr.mk.injEq] at e
  exact ⟨_,_,by rw [← e.1];exact g1⟩
theorem Rd.src (hf:Fl fl sz) (hsz:0 < sz) {m:List τ}{t:Sl}(h:Rd fl sz H t m):Src H sz (.slice t.a t.n t.c) m.length (flat fl m):=by
 refine ⟨flat_len hf m,?_⟩
 have hl:=h.len
 cases hm:t.a with
 | none=>
  refine ⟨hl,?_⟩
  apply Classical.byContradiction
  intro hne
  have hx:m[0]? = some (m[0]'(by omega)):=List.getElem?_eq_getElem _
  have hv:(fl (m[0]'(by omega)))[0]? = some ((fl (m[0]'(by omega)))[0]'(by rw [hf.len];exact hsz)):=List.getElem?_eq_getElem _
  obtain ⟨ad,ha,_⟩:=h.el _ _ _ _ hx hv
  rw [hm] at ha
  cases ha
 | some ad=>
  refine ⟨hl,?_⟩
  have key:∀ (n i:Nat),n=(flat fl m).length - i→AtL H ad i ((flat fl m).drop i):=by
   intro n
   induction n with
   | zero=>
    intro i hi
    rw [List.drop_of_length_le (by omega)]
    trivial
   | succ n ih=>
    intro i hi
    have hil:i < (flat fl m).length:=by omega
    rw [List.drop_eq_getElem_cons hil]
    refine ⟨?_,ih (i+1) (by omega)⟩
    have hd:i=i / sz*sz+i % sz:=by rw [Nat.mul_comm];exact (Nat.div_add_mod i sz).symm
    have hr:=Nat.mod_lt i hsz
    have hq:i / sz < m.length:=by
     rw [flat_len hf] at hil
     exact Nat.div_lt_of_lt_mul (by rw [Nat.mul_comm];exact hil)
    have hx:m[i / sz]? = some (m[i / sz]'hq):=List.getElem?_eq_getElem _
    have hg:=flat_get hf hx hr
    rw [← hd,List.getElem?_eq_getElem hil] at hg
    obtain ⟨ad',ha',hc⟩:=h.el _ _ _ _ hx hg.symm
    rw [hm] at ha'
    cases ha'
    rw [← hd] at hc
    exact hc
  have:=key _ 0 rfl
  rwa [List.drop_zero] at this
theorem Sym.app {P:Program}{T T2:TypeId}{inf:TypeInfo}{z:Value}{ty:TypeId}{k:Nat}{y:Value}{m:List τ}{K:Sl→Hp→Prop}(h:Sym H0 S H L) (hf:Fl fl sz) (hsz0:0 < sz) (hk:L[k]? = some (arr fl E sz s l))
  (hu:P.underlying T=some (.slice E)) (hu2:∀ k,P.underlying T2≠some (.int k)) (hu2':∃ d,P.underlying T2=some d) (hi:P.info? E=some inf) (hz:inf.zero=some z) (hzs:z.cells.size=inf.size) (hb:0 < inf.bytes) (hs:inf.size=sz)
  (hy:Src H sz y m.length (flat fl m)) (hl:(s.n+m.length)*inf.bytes≤140737488355328)
  (kk:∀ s' H',s'.n=s.n+m.length→Sym H0 S H' (L.set k (arr fl E sz s' (l++m)))→K s' H'):App P #[T,T2] ty H [.slice s.a s.n s.c,y] K:=by
 have hok:RowN fl E sz H s l:=h.get hk
 subst hs
 refine app_row2 hu hu2 hu2' hi hz hzs hb hok.row hy (flat_one hf) hl ?_
 intro s' H' h1 h2 h3 h4 h5
 refine kk s' H' h2 (h.setk hk h3 ⟨?_,h5 hok.nf⟩ h4)
 rw [flat_app]
 exact h1
end
end
end Go.V
end
section
namespace Go.V
theorem wmul {n b:Nat}(h:n*b≤140737488355328) (hb:0 < b):n≤140737488355328:=Nat.le_trans (Nat.le_mul_of_pos_right _ hb) h
theorem mks_cells {P:Program}{T E:TypeId}{inf:TypeInfo}{zv:Value}(hu:P.underlying T=some (.slice E)) (hi:P.info? E=some inf) (hz:inf.zero=some zv) (hzc:zv.cells=#[zv]) (hs:inf.size=1) (hb:0 < inf.bytes)
  {H:Hp}{n:Nat}{K:Sl→Hp→Prop}(hl:n*inf.bytes≤140737488355328)
  (k:∀ b H',Newb H (.cells (List.replicate n zv).toArray E) b H'→K ⟨some ⟨b,0,none⟩,n,n⟩ H'):MkS P T H (.int .i64 (n:Int)) (.int .i64 (n:Int)) K:=by
 have hn:=wmul hl hb
 have hw:IntKind.i64.wrap (n:Int)=(n:Int):=by
  have:=@wrap64 (n:Int) (by omega) (by omega)
  exact this
 unfold MkS Instr.makeSlice
 refine hrun_pv (pv_underlying hu) ?_
 simp only [asInt,asIntOf,pure,bind,Sem.bind]
 refine hrun_bind _ (hrun_pureV _ (pv_typeInfo hi) ?_)
 simp only [hw]
 have h248:(2:Int) ^ 48=281474976710656:=by decide
 have hml:¬ ((inf.bytes:Int)*(n:Int) > 2 ^ 48):=by
  rw [h248]
  have:((n*inf.bytes:Nat):Int)=(inf.bytes:Int)*(n:Int):=by rw [Nat.mul_comm];simp
  omega
 rw [if_neg (by
  simp only [Bool.or_eq_true,decide_eq_true_eq]
  omega)]
 have hask:∀ (n:Nat) {K:Unit→Hp→Prop}{Z:Value→Hp→Prop},K () H→hrun P (askRoom n) H K Z:=by
  intro n K Z hk
  unfold askRoom
  split
  ·exact hk
  ·exact hk
 refine hrun_bind _ (hask _ ?_)
 refine hrun_bind _ (hrun_pureV _ (pv_sizeOf hi) ?_)
 have hnn:(n:Int).toNat=n:=by omega
 rw [hnn,hs,Nat.mul_one]
 have hfin:∀ (zs:Array Value),(n=0∨zs=#[zv])→hrun P (newRow E ((Array.range n).map (fun i=>zs[i % zs.size]!)) >>= fun a=>Sem.pure (Value.slice (some a) n n)) H (fun r H'=>∃ s:Sl,r = .slice s.a s.n s.c∧K s H') (fun _ _=>False):=by
  intro zs hzs
  simp only [newRow,newObj,bind,Sem.bind,hrun,pure]
  intro b H' hnb
  refine ⟨⟨some ⟨b,0,none⟩,n,n⟩,rfl,k b H' ?_⟩
  have e:((Array.range n).map fun i=>zs[i % zs.size]!)=(List.replicate n zv).toArray:=by
   apply Array.ext
   ·simp
   ·intro i h1 h2
    simp at h1
    rcases hzs with h0 | rfl
    ·omega
    ·simp [Nat.mod_one]
  rw [← e]
  exact hnb
 by_cases h0:n=0
 ·rw [if_pos h0]
  exact hfin _ (.inl h0)
 ·rw [if_neg h0]
  have hz':pureV P (zeroValue E)=some zv:=pv_zero hi hz
  refine hrun_bind _ (hrun_pureV (zeroValue E) hz' ?_)
  exact hfin _ (.inr hzc)
theorem flat_rep {τ : Type}{fl : τ→List Value}{z : τ}{zv:Value}(h:fl z = [zv]):∀ n:Nat,flat fl (List.replicate n z)=List.replicate n zv
 | 0=>rfl
 | n+1=>by
  have:=flat_rep h n
  unfold flat at this ⊢
  rw [List.replicate_succ,List.flatMap_cons,this,h,List.replicate_succ]
  rfl
section
variable {τ : Type}{fl : τ→List Value}{sz:Nat}
variable {H0 H H':Hp}{S:Nat→Prop}{L R:List It}{E:TypeId}{s:Sl}{l:List τ}
theorem rowN_lit {b n:Nat}(hf:Fl fl sz) (hsz:0 < sz) (hb:Blk H b (flat fl l) E) (hn:n=l.length):RowN fl E sz H ⟨some ⟨b,0,none⟩,n,n⟩ l:=by
 subst hn
 refine ⟨⟨flat_len hf l,.inr ⟨b,_,(0,0),rfl,hb,Nat.le_refl _,flat_len hf l,?_,Nat.zero_le _⟩⟩,?_⟩
 ·show (flat fl l).take (l.length*sz)=_
  rw [← flat_len hf l,List.take_length]
 ·intro g o e
  simp only [Option.some.injEq,Addr.mk.injEq] at e
  exact ⟨_,_,by rw [← e.1];exact hb⟩
theorem Sym.lit {b n:Nat}(h:Sym H0 S H L) (hf:Fl fl sz) (hsz:0 < sz) (hn:Newb H (.cells (flat fl l).toArray E) b H') (hl:n=l.length):Sym H0 S H' (arr fl E sz ⟨some ⟨b,0,none⟩,n,n⟩ l::L):=
 h.new hn.fr (rowN_lit hf hsz hn.blk hl) fun i hi=>by
  have:=(own_iff rfl).1 hi
  have:=hn.eq
  omega
theorem Sym.mks {P:Program}{T:TypeId}{inf:TypeInfo}{z : τ}{zv:Value}{n:Nat}{K:Sl→Hp→Prop}(h:Sym H0 S H L) (hf:Fl fl 1) (hfz:fl z = [zv]) (hu:P.underlying T=some (.slice E)) (hi:P.info? E=some inf) (hz:inf.zero=some zv) (hzc:zv.cells=#[zv]) (hs:inf.size=1) (hb:0 < inf.bytes)
  (hl:n*inf.bytes≤140737488355328) (kk:∀ s' H',s'.n=n→Fr no H H'→(∀ i,own s' i→H.size≤i)→Sym H0 S H' (arr fl E 1 s' (List.replicate n z)::L)→K s' H'):MkS P T H (.int .i64 (n:Int)) (.int .i64 (n:Int)) K:=by
 refine mks_cells hu hi hz hzc hs hb hl ?_
 intro b H' hn
 rw [← flat_rep hfz] at hn
 refine kk _ H' rfl hn.fr ?_ (h.lit hf (by decide) hn (by simp))
 intro i hi
 have:=(own_iff rfl).1 hi
 have:=hn.eq
 omega
theorem Sym.trunc {k hi:Nat}{K:Sl→Prop}(h:Sym H0 S H L) (hf:Fl fl sz) (hsz:0 < sz) (hk:L[k]? = some (arr fl E sz s l)) (h1:hi≤l.length)
  (kk:Sym H0 S H (L.set k (arr fl E sz ⟨s.a,hi,s.c⟩ (l.take hi)))→K ⟨s.a,hi,s.c⟩):s.n≤s.c∧SlX s.a s.c 0 (hi:Int) sz K:=by
 have hok:RowN fl E sz H s l:=h.get hk
 have hn:=hok.len hf hsz
 have hle:=hok.row.le
 refine ⟨hle,⟨by omega,by omega,by omega⟩,?_⟩
 rw [show (0:Int).toNat=0 from rfl,Int.toNat_natCast,cut_lo]
 refine kk (h.as hk (fun hok=>⟨⟨?_,?_⟩,?_⟩) fun i hi=>hi)
 ·rw [flat_len hf,List.length_take,Nat.min_eq_left h1]
 ·rcases hok.row.2 with ⟨h2,h3,h4⟩ | ⟨g,cs,fr,h2,h3,h4,h5,h6,h7⟩
  ·exact .inl ⟨h2,by show hi=0;omega,h4⟩
  ·have hfr:fr=(0,0):=by
    obtain ⟨cs',T',hb'⟩:=hok.nf g 0 h2
    rw [h3] at hb'
    simp only [Option.some.injEq,Obj.cells.injEq] at hb'
    exact hb'.2.2
   refine .inr ⟨g,cs,fr,h2,h3,by show hi≤s.c;omega,h5,?_,by rw [hfr];exact Nat.zero_le _⟩
   show cs.take (hi*sz)=_
   rw [← flat_take hf,← h6,List.take_take,Nat.min_eq_left (Nat.mul_le_mul_right _ (by omega))]
 ·exact hok.nf
end
theorem Sym.re {H0 H:Hp}{S:Nat→Prop}{l:List It}(h:Sym H0 S H l) (idx:List Nat) (hn:idx.Nodup):Sym H0 S H (idx.filterMap (l[·]?)):=by
 refine ⟨h.fr,fun a ha=>?_,?_,fun a ha=>?_⟩
 ·obtain ⟨i,_,hi⟩:=List.mem_filterMap.1 ha
  exact h.ok a (List.mem_of_getElem? hi)
 ·induction idx with
  | nil=>simp
  | cons i idx ih=>
   rw [List.nodup_cons] at hn
   rw [List.filterMap_cons]
   cases hi:l[i]? with
   | none=>exact ih hn.2
   | some a=>
    simp only
    rw [List.pairwise_cons]
    refine ⟨?_,ih hn.2⟩
    intro b hb
    obtain ⟨j,hj,hjb⟩:=List.mem_filterMap.1 hb
    exact h.apt hi hjb (fun e=>hn.1 (e ▸ hj))
 ·obtain ⟨i,_,hi⟩:=List.mem_filterMap.1 ha
  exact h.fp a (List.mem_of_getElem? hi)
def flS (s:Sl):List Value:=[.slice s.a s.n s.c]
theorem FlS:Fl flS 1:=⟨fun _=>rfl,fun x v hv=>by rw [List.mem_singleton.1 hv];rfl⟩
def flI (x:Int):List Value:=[.int .i64 x]
theorem FlI:Fl flI 1:=⟨fun _=>rfl,fun x v hv=>by rw [List.mem_singleton.1 hv];rfl⟩
def flN (x:Nat):List Value:=[.int .i64 (x:Int)]
theorem FlN:Fl flN 1:=⟨fun _=>rfl,fun x v hv=>by rw [List.mem_singleton.1 hv];rfl⟩
def flB (x:Bool):List Value:=[.bool x]
theorem FlB:Fl flB 1:=⟨fun _=>rfl,fun x v hv=>by rw [List.mem_singleton.1 hv];rfl⟩
def flT (x:ByteArray):List Value:=[.string x]
section
variable {τ : Type}{fl : τ→List Value}{sz:Nat}{E1 E2:TypeId}
structure Rows2 (fl : τ→List Value) (E1 E2:TypeId) (sz:Nat) (but:Option Nat) (H:Hp) (s:Sl) (ss:List Sl) (ls:List (List τ)):Prop where
 out:RowN flS E1 1 H s ss
 len:ss.length=ls.length
 row:∀ i si li,but≠some i→ss[i]? = some si→ls[i]? = some li→RowN fl E2 sz H si li
 ap:∀ i j si sj,but≠some i→but≠some j→i≠j→ss[i]? = some si→ss[j]? = some sj→∀ b,own si b→own sj b→False
 ao:∀ i si,but≠some i→ss[i]? = some si→∀ b,own si b→own s b→False
def rows2 (fl : τ→List Value) (E1 E2:TypeId) (sz:Nat) (but:Option Nat) (s:Sl) (ss:List Sl) (ls:List (List τ)):It where
 ok H:=Rows2 fl E1 E2 sz but H s ss ls
 fp b:=own s b∨∃ (i:Nat) (si:Sl),but≠some i∧ss[i]? = some si∧own si b
 lt {H b} h hb:=by
  rcases hb with hb | ⟨i,si,hi,hs,hb⟩
  ·exact h.out.row.lt hb
  ·have h1:=(List.getElem?_eq_some_iff.1 hs).1
   have h2:=h.len
   exact (h.row i si _ hi hs (List.getElem?_eq_getElem (by omega))).row.lt hb
 st {H H'} h hs:=by
  refine ⟨(arr flS E1 1 s ss).st h.out fun i hi=>hs i (.inl hi),h.len,fun i si li hi h1 h2=>?_,h.ap,h.ao⟩
  exact (arr fl E2 sz si li).st (h.row i si li hi h1 h2) fun b hb=>hs b (.inr ⟨i,si,hi,h1,hb⟩)
section
variable {H0 H H':Hp}{S:Nat→Prop}{L R:List It}{s:Sl}{ss:List Sl}{ls:List (List τ)}
theorem Rows2.rd (h:Rows2 fl E1 E2 sz none H s ss ls) (hf:Fl fl sz) (hsz:0 < sz):Rd flS 1 H s ss∧∀ (i:Nat) (si:Sl) (li:List τ),ss[i]? = some si→ls[i]? = some li→Rd fl sz H si li:=
 ⟨h.out.rd FlS (by decide),fun i si li h1 h2=>(h.row i si li (fun e=>by cases e) h1 h2).rd hf hsz⟩
theorem Sym.out2 {i:Nat}{si:Sl}{li:List τ}(h:Sym H0 S H (rows2 fl E1 E2 sz none s ss ls::R)) (hs:ss[i]? = some si) (hl:ls[i]? = some li) :
  Sym H0 S H (arr fl E2 sz si li::rows2 fl E1 E2 sz (some i) s ss ls::R):=by
 have hok:Rows2 fl E1 E2 sz none H s ss ls:=h.get (k:=0) rfl
 have hp:∀ j:Nat,(none:Option Nat)≠some j:=fun j e=>by cases e
 have hne:∀ {j:Nat},(some i:Option Nat)≠some j→i≠j:=fun h e=>h (by rw [e])
 have h1:=h.sep
 rw [List.pairwise_cons] at h1
 refine ⟨h.fr,?_,?_,?_⟩
 ·intro a ha
  rcases List.mem_cons.1 ha with rfl | ha
  ·exact hok.row i si li (hp i) hs hl
  ·rcases List.mem_cons.1 ha with rfl | ha
   ·exact ⟨hok.out,hok.len,fun j sj lj hj=>hok.row j sj lj (hp j),fun j k sj sk _ _=>hok.ap j k sj sk (hp j) (hp k),fun j sj _=>hok.ao j sj (hp j)⟩
   ·exact h.ok a (List.mem_cons_of_mem _ ha)
 ·rw [List.pairwise_cons,List.pairwise_cons]
  refine ⟨?_,?_,h1.2⟩
  ·intro a ha b hb1 hb2
   rcases List.mem_cons.1 ha with rfl | ha
   ·rcases hb2 with hb2 | ⟨j,sj,hj,hsj,hb2⟩
    ·exact hok.ao i si (hp i) hs b hb1 hb2
    ·exact hok.ap i j si sj (hp i) (hp j) (hne hj) hs hsj b hb1 hb2
   ·exact h1.1 a ha b (.inr ⟨i,si,hp i,hs,hb1⟩) hb2
  ·intro a ha b hb1 hb2
   refine h1.1 a ha b ?_ hb2
   rcases hb1 with hb1 | ⟨j,sj,hj,hsj,hb1⟩
   ·exact .inl hb1
   ·exact .inr ⟨j,sj,hp j,hsj,hb1⟩
 ·intro a ha b hb
  rcases List.mem_cons.1 ha with rfl | ha
  ·exact h.fp _ List.mem_cons_self b (.inr ⟨i,si,hp i,hs,hb⟩)
  ·rcases List.mem_cons.1 ha with rfl | ha
   ·refine h.fp _ List.mem_cons_self b ?_
    rcases hb with hb | ⟨j,sj,hj,hsj,hb⟩
    ·exact .inl hb
    ·exact .inr ⟨j,sj,hp j,hsj,hb⟩
   ·exact h.fp a (List.mem_cons_of_mem _ ha) b hb
theorem Sym.in2 {i:Nat}{si:Sl}{li:List τ}(h:Sym H0 S H (arr fl E2 sz si li::rows2 fl E1 E2 sz (some i) s ss ls::R)) (hs:ss[i]? = some si) (hl:i < ls.length) :
  Sym H0 S H (rows2 fl E1 E2 sz none s ss (ls.set i li)::R):=by
 have ho:Rows2 fl E1 E2 sz (some i) H s ss ls:=h.get (k:=1) rfl
 have hr:RowN fl E2 sz H si li:=h.get (k:=0) rfl
 have h1:=h.sep
 rw [List.pairwise_cons,List.pairwise_cons] at h1
 have h01:=h1.1 _ List.mem_cons_self
 have hd:∀ (j:Nat) (sj:Sl),ss[j]? = some sj→(j=i∧sj=si)∨(some i:Option Nat)≠some j:=by
  intro j sj hj
  by_cases e:j=i
  ·subst e
   rw [hs] at hj
   cases hj
   exact .inl ⟨rfl,rfl⟩
  ·exact .inr fun e'=>e (by simpa using e'.symm)
 have hfp:∀ b,(rows2 fl E1 E2 sz none s ss (ls.set i li)).fp b→own si b∨(rows2 fl E1 E2 sz (some i) s ss ls).fp b:=by
  rintro b (hb | ⟨j,sj,hj,hsj,hb⟩)
  ·exact .inr (.inl hb)
  ·rcases hd j sj hsj with ⟨rfl,rfl⟩ | hne
   ·exact .inl hb
   ·exact .inr (.inr ⟨j,sj,hne,hsj,hb⟩)
 refine ⟨h.fr,?_,?_,?_⟩
 ·intro a ha
  rcases List.mem_cons.1 ha with rfl | ha
  ·refine ⟨ho.out,by rw [ho.len,List.length_set],?_,?_,?_⟩
   ·intro j sj lj _ hj hlj
    rcases hd j sj hj with ⟨rfl,rfl⟩ | hne
    ·rw [List.getElem?_set_self hl] at hlj
     cases hlj
     exact hr
    ·rw [List.getElem?_set_ne (by intro e;exact hne (by rw [e]))] at hlj
     exact ho.row j sj lj hne hj hlj
   ·intro j k sj sk _ _ hjk hj hk b h2 h3
    rcases hd j sj hj with ⟨rfl,rfl⟩ | hne
    ·rcases hd k sk hk with ⟨rfl,rfl⟩ | hne'
     ·exact hjk rfl
     ·exact h01 b h2 (.inr ⟨k,sk,hne',hk,h3⟩)
    ·rcases hd k sk hk with ⟨rfl,rfl⟩ | hne'
     ·exact h01 b h3 (.inr ⟨j,sj,hne,hj,h2⟩)
     ·exact ho.ap j k sj sk hne hne' hjk hj hk b h2 h3
   ·intro j sj _ hj b h2 h3
    rcases hd j sj hj with ⟨rfl,rfl⟩ | hne
    ·exact h01 b h2 (.inl h3)
    ·exact ho.ao j sj hne hj b h2 h3
  ·exact h.ok a (List.mem_cons_of_mem _ (List.mem_cons_of_mem _ ha))
 ·rw [List.pairwise_cons]
  refine ⟨?_,h1.2.2⟩
  intro a ha b hb1 hb2
  rcases hfp b hb1 with h2 | h2
  ·exact h1.1 a (List.mem_cons_of_mem _ ha) b h2 hb2
  ·exact h1.2.1 a ha b h2 hb2
 ·intro a ha b hb
  rcases List.mem_cons.1 ha with rfl | ha
  ·rcases hfp b hb with h2 | h2
   ·exact h.fp _ List.mem_cons_self b h2
   ·exact h.fp _ (List.mem_cons_of_mem _ List.mem_cons_self) b h2
  ·exact h.fp a (List.mem_cons_of_mem _ (List.mem_cons_of_mem _ ha)) b hb
theorem Sym.st2 {k i:Nat}{t u:Sl}{K:Hp→Prop}(h:Sym H0 S H L) (hk:L[k]? = some (rows2 fl E1 E2 sz (some i) s ss ls)) (hs:ss[i]? = some u)
  (kk:∀ H',Sym H0 S H' (L.set k (rows2 fl E1 E2 sz (some i) s (ss.set i t) ls))→K H'):IxA s.a s.n (i:Int) 1 fun ad=>StL ad 0 [.slice t.a t.n t.c] H K:=by
 have hok:Rows2 fl E1 E2 sz (some i) H s ss ls:=h.get hk
 have h1:Sym H (arr flS E1 1 s ss).fp H [arr flS E1 1 s ss]:=Sym.start1 hok.out
 have h2:=h1.sta (k:=0) (i:=(i:Int)) (j:=0) (y:=t) (v:=.slice t.a t.n t.c) (K:=K) FlS rfl (by omega) (by simpa using hs) (by decide) rfl ?_
 ·obtain ⟨ad,e1,e2,e3⟩:=h2
  refine ⟨ad,e1,e2,?_⟩
  have e3':StL ((ad.add ((i:Int).toNat*1)).add 0) 0 [.slice t.a t.n t.c] H K:=e3
  rw [add_zero'] at e3'
  exact e3'
 intro H' hS
 rw [Int.toNat_natCast] at hS
 have hS1:Sym H (arr flS E1 1 s ss).fp H' [arr flS E1 1 s (ss.set i t)]:=hS
 have hr:RowN flS E1 1 H' s (ss.set i t):=hS1.get (k:=0) rfl
 have hii:∀ j:Nat,(some i:Option Nat)≠some j→(ss.set i t)[j]? = ss[j]?:=fun j hj=>List.getElem?_set_ne (by intro e;exact hj (by rw [e]))
 refine kk H' (h.setk hk ?_ ?_ ?_)
 ·exact hS1.fr.mono fun b _ hb=>.inl hb
 ·refine ⟨hr,by rw [List.length_set];exact hok.len,?_,?_,?_⟩
  ·intro j sj lj hj h3 h4
   rw [hii j hj] at h3
   refine (arr fl E2 sz sj lj).st (hok.row j sj lj hj h3 h4) ?_
   intro b hb
   have hb':own sj b:=hb
   exact hS1.fr.keep b ((hok.row j sj lj hj h3 h4).row.lt hb') fun hb2=>hok.ao j sj hj h3 b hb' hb2
  ·intro j k sj sk hj hk' hjk h3 h4
   rw [hii j hj] at h3
   rw [hii k hk'] at h4
   exact hok.ap j k sj sk hj hk' hjk h3 h4
  ·intro j sj hj h3
   rw [hii j hj] at h3
   exact hok.ao j sj hj h3
 ·rintro b (hb | ⟨j,sj,hj,h3,hb⟩)
  ·exact .inl (.inl hb)
  ·rw [hii j hj] at h3
   exact .inl (.inr ⟨j,sj,hj,h3,hb⟩)
end
end
end Go.V
end
