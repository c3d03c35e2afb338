import Derived.Test.YtjdhjgfmloaglaaGreatDoorZ22
import Derived.Test.YtjdhjgfmloaglaaGreatDoorRows
import Derived.WalkKit
import Derived.ProofKit
import Derived.OpenShut
import Derived.JoinedCond
import Derived.Carry
import Derived.Deep.Slices
import Derived.Deep.Fields
set_option linter.unusedVariables false
set_option linter.unusedSimpArgs false
section
namespace Go.Proofs.YtjdhjgfmloaglaaGreatDoor.Opn
open Go Go.V Go.Proofs Go.ChangeShapes Go.WideShapes Go.ChangeAt Go.RowKit
theorem cell_eq {w:World}(a:Addr):w.cell? a=hcell w.heap a:=by
 unfold World.cell? hcell
 rfl
theorem trodAll_keep {H:Type}{enc:TypeId × Value→H}{P:Program}(hl:laidOutB P=true) {W W':World}(hb:Below W.heap.size W W') {sp:Nat→Bool} :
  ∀ {ts:List TypeId}{vs:List Value}{ds:List (DataW H)}{p:List MemPlace},(∀ t∈ts,P.readableRec t=true∧t < P.types.size)→DataW.TrodAll enc P W 0 (fun _=>true) true ts vs ds p →
   (∀ x∈p,x.block < W.heap.size)→(∀ x∈p,sp x.block=true)→DataW.TrodAll enc P W' 0 sp true ts vs ds p
 | [],_,_,_,_,h,_,_=>by
  obtain ⟨rfl,rfl,rfl⟩:=trodAll_nil h
  exact rfl
 | t::ts,_,_,_,ht,h,hlt,hsp=>by
  obtain ⟨v,vs1,d,ds1,a,b,rfl,rfl,rfl,h1,h2⟩:=trodAll_cons h
  obtain ⟨r1,r2⟩:=ht t List.mem_cons_self
  refine ⟨a,b,WideElems.Trod_stays hl r1 r2 h1 (fun x hx=>hb.same (hlt x (List.mem_append.2 (.inl hx)))) (fun x hx=>hsp x (List.mem_append.2 (.inl hx))),?_,rfl⟩
  exact trodAll_keep hl hb (fun t h=>ht t (List.mem_cons_of_mem _ h)) h2 (fun x hx=>hlt x (List.mem_append.2 (.inr hx))) (fun x hx=>hsp x (List.mem_append.2 (.inr hx)))
theorem post_true {H:Type}{enc:TypeId × Value→H}{P:Program}{f:Func}{s:ChangeSpec}{apart fresh handsOn again:Bool}{W W':World}{args:Array Value}{ds gs:List (DataW H)}{before:List MemPlace}{tb:TypeId}
  (hW:DataW.Whole enc P f.params.toList s.vars apart W args.toList ds gs before) (hb:Below W.heap.size W W') (hl:laidOutB P=true) (hr:∀ t∈f.params.toList,P.readableRec t=true∧t < P.types.size)
  (hv:s.vars = []) (h1:(s.fn H (ds++gs)).results = [.lit (.bool true)]) (h2:(s.fn H (ds++gs)).args=ds) (h3:(s.fn H (ds++gs)).vars = [])
  (hf:f.resultTypes=#[tb]) (htb:P.underlying tb=some .bool):s.post enc P f apart fresh handsOn again W args (.bool true) W':=by
 have hlt:=fun p (hp:p∈before)=>hW.lt p hp
 have hW':=hW
 obtain ⟨p,q,hA,hV,rfl,hz,hn⟩:=hW
 rw [hv] at hV
 obtain ⟨rfl,rfl⟩:=trodVars_none hV
 simp only [List.append_nil] at *
 have hres:∀ (b:Nat) (sp:Nat→Bool) (hd:Bool),DataW.TrodAll enc P W' b sp hd f.resultTypes.toList ((Value.bool true).resultList f.resultTypes.size) (s.fn H ds).results []:=by
  intro b sp hd
  rw [h1,hf]
  exact trodAll_cons_mk (p:=[]) (p':=[]) (shut_bool htb _) trodAll_mk0
 have hargs:∀ sp:Nat→Bool,(∀ x∈p,sp x.block=true)→DataW.TrodAll enc P W' 0 sp true f.params.toList args.toList (s.fn H ds).args p:=by
  intro sp hsp
  rw [h2]
  exact trodAll_keep hl hb hr hA hlt hsp
 have hvars:∀ sp:Nat→Bool,DataW.TrodVars enc P W' sp s.vars (s.fn H ds).vars []:=by
  intro sp
  rw [hv,h3]
  exact rfl
 have hds:ds ++ []=ds:=List.append_nil ds
 rw [← hds] at hres hargs hvars
 have hlt':∀ x∈p,(fun b=>decide (b < W.heap.size)) x.block=true:=fun x hx=>by simpa using hlt x hx
 refine ⟨ds,[],p,[],p,[],by simpa using hW',hres _ _ _,hargs _ hlt',hvars _,World.keptBut_mono (fun x hx=>⟨hx,.inr (.inl hx)⟩) (hb.frame _),fun _=>?_⟩
 refine ⟨ok_one hf rfl (okWide_bool_mk htb _),_,_,([]++p) ++ [],⟨[]++p,[],trodAll_append (hargs _ (fun _ _=>rfl)) (hres _ _ _),hvars _,rfl,?_,?_⟩,?_⟩
 ·intro b off hp
  have hp':MemPlace.cell b off∈p:=by simpa using hp
  rw [hb.frozen (hlt _ hp')]
  exact hz b off hp'
 ·intro ha
  simpa using hn ha
 ·intro x hx _
  simpa using hx
theorem lk_below {W W':World}(h:Lk W W') (hf:Fr no W.heap W'.heap):Below W.heap.size W W':=⟨h.1,h.2.1,h.2.2,hf.size,fun k hk=>hf.keep k hk fun h=>h⟩
theorem calls_of {P:Program}{f:FuncId}{args:Array Value}{W:World}(h:CallF P f args W.heap (fun v H'=>v = .bool true∧Fr no W.heap H') (fun _ _=>False)) :
  Calls P f args W fun e W'=>e = .returned (.bool true)∧Below W.heap.size W W':=by
 refine (h W rfl).mono ?_
 rintro e W' ⟨hl,he⟩
 cases e with
 | returned v=>exact ⟨by rw [he.1],lk_below hl he.2⟩
 | panicked ch=>exact he.elim
 | outgrown=>exact he.elim
theorem one_le {H:Type}(d:DataW H):1≤Rows.uptoBulk d:=by
 cases d with
 | lit l=>cases l <;> simp [Rows.uptoBulk]
 | nil=>simp [Rows.uptoBulk]
 | ptr d=>simp [Rows.uptoBulk]
 | slice elems spare=>simp [Rows.uptoBulk]
 | agg parts=>simp [Rows.uptoBulk]
 | iface t d=>simp [Rows.uptoBulk]
 | map entries=>simp [Rows.uptoBulk]
 | held h=>simp [Rows.uptoBulk]
theorem part_le {H:Type}{d:DataW H}{l:List (DataW H)}(h:d∈l):Rows.uptoBulk d≤Rows.uptoBulkAll l:=by
 induction l with
 | nil=>cases h
 | cons x r ih=>
  simp only [Rows.uptoBulkAll]
  cases List.mem_cons.1 h with
  | inl e=>subst e;omega
  | inr e=>have:=ih e;omega
theorem length_le {H:Type}(l:List (DataW H)):l.length≤Rows.uptoBulkAll l:=by
 induction l with
 | nil=>simp [Rows.uptoBulkAll]
 | cons x r ih=>have:=one_le x;simp only [Rows.uptoBulkAll,List.length_cons];omega
theorem bound {H:Type}{l:List (DataW H)}(hk:Rows.uptoSmall H l=true):Rows.uptoBulkAll l≤1048576:=of_decide_eq_true hk
section
variable {H:Type}{enc:TypeId × Value→H}{P:Program}{w:World}
theorem rd_slice {t e:TypeId}{fuel:Nat}{cs:List Value}{x:DataW H × List MemPlace}(ht:P.underlying t=some (.slice e)) (h:DataW.trod enc P w 0 (fun _=>true) true fuel t cs=some x) :
  ∃ (s:Sl) (n:Nat) (D:Nat→DataW H × List MemPlace),cs = [.slice s.a s.n s.c]∧s.n≤s.c∧s.n+1≤Rows.uptoBulk x.1 ∧
   ∀ i,i < s.n→Rows.uptoBulk (D i).1+s.n≤Rows.uptoBulk x.1∧∃ ad cs',s.a=some ad∧cs'.length=P.cellsOf e∧(∀ j,j < P.cellsOf e→hcell w.heap ((ad.add (i*P.cellsOf e)).add j)=cs'[j]?)∧DataW.trod enc P w 0 (fun _=>true) true n e cs'=some (D i):=by
 rcases Go.Deep.open_slice ht h with ⟨rfl,rfl⟩ | ⟨a,len,cap,m,n,D,Pl,rfl,hb,hl,hm,hmm,rfl,hi⟩
 ·exact ⟨⟨none,0,0⟩,0,fun _=>(.nil,[]),rfl,Nat.le_refl _,by simp [Rows.uptoBulk],fun i hi=>absurd hi (Nat.not_lt_zero _)⟩
 ·have hlen:=length_le ((List.range len).map D)
  rw [List.length_map,List.length_range] at hlen
  refine ⟨⟨some a,len,cap⟩,n,fun i=>(D i,Pl i),rfl,hl,?_,?_⟩
  ·simp only [Rows.uptoBulk];omega
  intro i him
  have him':i < m:=by rw [hmm];simp;exact Nat.lt_of_lt_of_le him hl
  obtain ⟨cs',h1,h2⟩:=hi i him'
  obtain ⟨_,k1,k2⟩:=World.cells?_some h1
  refine ⟨?_,a,cs',rfl,k1,fun j hj=>by rw [← cell_eq];exact k2 j hj,h2⟩
  have key:∀ (l:List (DataW H)) (d:DataW H),d∈l→Rows.uptoBulk d+l.length≤Rows.uptoBulkAll l+1:=by
   intro l
   induction l with
   | nil=>intro d hd;cases hd
   | cons y r ih=>
    intro d hd
    simp only [Rows.uptoBulkAll,List.length_cons]
    have hr:=length_le r
    have hy:=one_le y
    cases List.mem_cons.1 hd with
    | inl e=>subst e;omega
    | inr e=>have:=ih d e;omega
  have:=key ((List.range len).map D) (D i) (List.mem_map.2 ⟨i,List.mem_range.2 him,rfl⟩)
  rw [List.length_map,List.length_range] at this
  simp only [Rows.uptoBulk]
  omega
theorem rd_field {t:TypeId}{fs:Array Field}{fuel:Nat}{cs:List Value}{x:DataW H × List MemPlace}(ht:P.underlying t=some (.struct fs)) (h:DataW.trod enc P w 0 (fun _=>true) true fuel t cs=some x) :
  ∃ n,∀ (i:Nat) (f:Field),fs[i]? = some f→∃ y,DataW.trod enc P w 0 (fun _=>true) true n f.type ((cs.drop f.offset).take (P.cellsOf f.type))=some y∧Rows.uptoBulk y.1≤Rows.uptoBulk x.1:=by
 obtain ⟨xs,n,rfl,rfl,h1,h2,h3⟩:=DataW.trod_struct ht h
 refine ⟨n,fun i f hf=>?_⟩
 have hi:i < xs.length:=by rw [h2];exact (Array.getElem?_eq_some_iff.1 hf).1
 refine ⟨xs[i],by rw [h3 i f hf];exact List.getElem?_eq_getElem hi,?_⟩
 have:=part_le (d:=xs[i].1) (l:=xs.map (·.1)) (List.mem_map.2 ⟨_,List.getElem_mem hi,rfl⟩)
 simp only [Rows.uptoBulk]
 omega
end
end Go.Proofs.YtjdhjgfmloaglaaGreatDoor.Opn
end
section
namespace Go.Proofs.YtjdhjgfmloaglaaGreatDoor.Opr
open Go Go.V Go.Proofs Go.ChangeShapes Go.WideShapes Go.ChangeAt Go.RowKit Opn
def fieldsOk (P:Program) (t:TypeId) (l:List (TypeId × Nat)):Bool:=match P.underlying t with
 | some (.struct fs)=>(fs.map fun f=>(f.type,f.offset)).toList == l
 | _=>false
section
variable {H:Type}{enc:TypeId × Value→H}{P:Program}{w:World}
def Rdb (enc:TypeId × Value→H) (P:Program) (w:World) {τ : Type}(t:TypeId) (fl : τ→List Value) (Q : τ→Prop):Prop:=
 ∀ (fuel:Nat) (cs:List Value) (x:DataW H × List MemPlace),DataW.trod enc P w 0 (fun _=>true) true fuel t cs=some x→Rows.uptoBulk x.1≤1048576→∃ v : τ,Q v∧∀ (k:Nat) (c:Value),(fl v)[k]? = some c→cs[k]? = some c
theorem rdb_int {t:TypeId}(hu:P.underlying t=some (.int .i64)):Rdb enc P w t flI (fun v=>-9223372036854775808≤v∧v≤9223372036854775807):=by
 intro fuel cs x h _
 obtain ⟨y,rfl,he,hw⟩:=DataW.trod_int hu h
 exact ⟨y,by simpa [Lit.wf,IntKind.min,IntKind.max,IntKind.signed,IntKind.bits] using hw,fun k c h=>h⟩
theorem rdb_str {t:TypeId}(hu:P.underlying t=some .string):Rdb enc P w t flT (fun v=>v.size≤1048576):=by
 intro fuel cs x h hb
 obtain ⟨y,rfl,he,_⟩:=DataW.trod_string hu h
 refine ⟨y,?_,fun k c h=>h⟩
 rw [he] at hb
 simp only [Rows.uptoBulk] at hb
 have:y.data.toList.length=y.size:=by simp
 omega
theorem rdb_field {τ : Type}{t ft:TypeId}{l:List (TypeId × Nat)}{i o:Nat}{fl : τ→List Value}{Q : τ→Prop}(hf:fieldsOk P t l=true) (hi:l[i]? = some (ft,o)) (hr:Rdb enc P w ft fl Q) {fuel:Nat}{cs:List Value}{x:DataW H × List MemPlace}
  (h:DataW.trod enc P w 0 (fun _=>true) true fuel t cs=some x) (hb:Rows.uptoBulk x.1≤1048576):∃ v : τ,Q v∧∀ (k:Nat) (c:Value),(fl v)[k]? = some c→cs[o+k]? = some c:=by
 unfold fieldsOk at hf
 cases e:P.underlying t with
 | none=>rw [e] at hf;cases hf
 | some d=>
  rw [e] at hf
  cases d <;> first | (cases hf;done) | skip
  rename_i fs
  simp only [beq_iff_eq] at hf
  obtain ⟨m,hm⟩:=rd_field e h
  rw [← hf] at hi
  rw [Array.getElem?_toList,Array.getElem?_map] at hi
  cases hfi:fs[i]? with
  | none=>rw [hfi] at hi;cases hi
  | some f=>
   rw [hfi] at hi
   simp only [Option.map_some,Option.some.injEq,Prod.mk.injEq] at hi
   obtain ⟨y,h1,h2⟩:=hm i f hfi
   rw [hi.1,hi.2] at h1
   obtain ⟨v,q,hv⟩:=hr m _ _ h1 (Nat.le_trans h2 hb)
   refine ⟨v,q,fun k c hk=>?_⟩
   have:=hv k c hk
   rw [List.getElem?_take] at this
   split at this
   ·rw [List.getElem?_drop] at this
    exact this
   ·cases this
theorem open_row {τ : Type} [Inhabited τ] {t e:TypeId}{fl : τ→List Value}{sz:Nat}{Q : τ→Prop}(hu:P.underlying t=some (.slice e)) (hc:P.cellsOf e=sz) (hf:Fl fl sz) (hr:Rdb enc P w e fl Q) {fuel:Nat}{cs:List Value}{x:DataW H × List MemPlace}
  (h:DataW.trod enc P w 0 (fun _=>true) true fuel t cs=some x) (hk:Rows.uptoBulk x.1≤1048576):∃ (s:Sl) (xs:List τ),cs = [.slice s.a s.n s.c]∧Rd fl sz w.heap s xs∧xs.length≤1048576∧∀ y∈xs,Q y:=by
 obtain ⟨s,n,D,hcs,hsc,hb,hi⟩:=rd_slice hu h
 have el:∀ i,i < s.n→∃ v : τ,Q v∧∀ (k:Nat) (c:Value),(fl v)[k]? = some c→∃ ad,s.a=some ad∧hcell w.heap (ad.add (i*sz+k))=some c:=by
  intro i him
  obtain ⟨hbd,ad,c,ha,hcl,hcell,ht⟩:=hi i him
  obtain ⟨v,q,hv⟩:=hr n c (D i) ht (by omega)
  refine ⟨v,q,fun k c' hk'=>⟨ad,ha,?_⟩⟩
  have h1:=(List.getElem?_eq_some_iff.1 hk').1
  rw [hf.len] at h1
  have h2:=hcell k (by omega)
  rw [add_add,hc] at h2
  rw [h2]
  exact hv k c' hk'
 refine ⟨s,(List.range s.n).map fun i=>if h:i < s.n then (el i h).choose else default,hcs,⟨by simp,hsc,?_⟩,by simp;omega,?_⟩
 ·intro i p k v hp hv
  rw [List.getElem?_map] at hp
  by_cases him:i < s.n
  ·rw [List.getElem?_range him] at hp
   simp only [Option.map_some,Option.some.injEq,dif_pos him] at hp
   rw [← hp] at hv
   exact (el i him).choose_spec.2 k v hv
  ·rw [List.getElem?_eq_none (by simp;omega)] at hp
   cases hp
 ·intro y hy
  obtain ⟨i,hi',rfl⟩:=List.mem_map.1 hy
  have him:=List.mem_range.1 hi'
  rw [dif_pos him]
  exact (el i him).choose_spec.1
end
end Go.Proofs.YtjdhjgfmloaglaaGreatDoor.Opr
end
section
namespace Go.Proofs.YtjdhjgfmloaglaaGreatDoor.OpA
open Go Go.V Go.Proofs Go.ChangeShapes Go.WideShapes Go.ChangeAt Go.RowKit Opn Opr
theorem struct_of {P:Program}{t:TypeId}{l:List (TypeId × Nat)}(h:fieldsOk P t l=true):∃ fs:Array Field,P.underlying t=some (.struct fs):=by
 unfold fieldsOk at h
 cases e:P.underlying t with
 | none=>rw [e] at h;cases h
 | some d=>
  rw [e] at h
  cases d <;> first | (cases h;done) | exact ⟨_,rfl⟩
theorem uStr:Tryz.prog.underlying 9=some .string:=by kernel_rfl
theorem uInt:Tryz.prog.underlying 3=some (.int .i64):=by kernel_rfl
theorem uOp:Tryz.prog.underlying 3=some (.int .i64):=by kernel_rfl
theorem uStrs:Tryz.prog.underlying 27=some (.slice 9):=by kernel_rfl
theorem uObjs:Tryz.prog.underlying 22=some (.slice 52):=by kernel_rfl
theorem uFns:Tryz.prog.underlying 23=some (.slice 56):=by kernel_rfl
theorem uCons:Tryz.prog.underlying 24=some (.slice 36):=by kernel_rfl
theorem uMarks:Tryz.prog.underlying 50=some (.slice 54):=by kernel_rfl
theorem cStr:Tryz.prog.cellsOf 9=1:=by kernel_rfl
theorem cObj:Tryz.prog.cellsOf 52=3:=by kernel_rfl
theorem cFn:Tryz.prog.cellsOf 56=3:=by kernel_rfl
theorem cCon:Tryz.prog.cellsOf 36=6:=by kernel_rfl
theorem cMark:Tryz.prog.cellsOf 54=2:=by kernel_rfl
theorem cSys:Tryz.prog.cellsOf 26=3:=by kernel_rfl
theorem fObj:fieldsOk Tryz.prog 52 [(9,0),(9,1),(50,2)]=true:=by kernel_rfl
theorem fFn:fieldsOk Tryz.prog 56 [(9,0),(9,1),(9,2)]=true:=by kernel_rfl
theorem fCon:fieldsOk Tryz.prog 36 [(3,0),(9,1),(9,2),(3,3),(9,4),(27,5)]=true:=by kernel_rfl
theorem fMark:fieldsOk Tryz.prog 54 [(3,0),(9,1)]=true:=by kernel_rfl
theorem fSys:fieldsOk Tryz.prog 26 [(22,0),(23,1),(24,2)]=true:=by kernel_rfl
theorem uSys:∃ fs:Array Field,Tryz.prog.underlying 26=some (.struct fs):=struct_of fSys
theorem sz {s:ByteArray}(h:s.size≤1048576):s.data.toList.length≤1048576:=by
 have:s.data.toList.length=s.size:=by simp
 omega
def flS1 (s:Sl):List Value:=[.slice s.a s.n s.c]
section
variable {H:Type}{enc:TypeId × Value→H}{w:World}
theorem rdb_l8:Rdb enc Tryz.prog w 9 flL (fun v=>v.length≤1048576):=by
 intro fuel cs x h hb
 obtain ⟨v,hv,hc⟩:=rdb_str uStr fuel cs x h hb
 refine ⟨v.data.toList,sz hv,fun k c hk=>hc k c ?_⟩
 unfold flL at hk
 rw [← str_of] at hk
 exact hk
theorem rdb_row {τ : Type} [Inhabited τ] {P:Program}{t e:TypeId}{fl : τ→List Value}{sz:Nat}{Q : τ→Prop}(hu:P.underlying t=some (.slice e)) (hc:P.cellsOf e=sz) (hf:Fl fl sz) (hr:Rdb enc P w e fl Q) :
  Rdb enc P w t flS1 (fun s=>∃ xs:List τ,Rd fl sz w.heap s xs∧xs.length≤1048576∧∀ y∈xs,Q y):=by
 intro fuel cs x h hb
 obtain ⟨s,xs,rfl,h1,h2,h3⟩:=open_row hu hc hf hr h hb
 exact ⟨s,⟨xs,h1,h2,h3⟩,fun k c hk=>hk⟩
theorem rdb_strs:Rdb enc Tryz.prog w 27 flS1 (fun s=>∃ xs:List L8,Rd flL 1 w.heap s xs∧xs.length≤1048576∧∀ y∈xs,y.length≤1048576):=rdb_row uStrs cStr FlL rdb_l8
theorem rdb_mark:Rdb enc Tryz.prog w 54 flM (fun m=>m.2.length≤1048576):=by
 intro fuel cs x h hb
 obtain ⟨a,_,ha⟩:=rdb_field (i:=0) fMark rfl (rdb_int uOp) h hb
 obtain ⟨b,hb1,hb'⟩:=rdb_field (i:=1) fMark rfl rdb_l8 h hb
 refine ⟨(a,b),hb1,fun k c hk=>?_⟩
 match k,hk with
 | 0,hk=>exact ha 0 c hk
 | 1,hk=>exact hb' 0 c hk
 | k+2,hk=>simp [flM] at hk
theorem rdb_marks:Rdb enc Tryz.prog w 50 flS1 (fun s=>∃ xs:List Mk,Rd flM 2 w.heap s xs∧xs.length≤1048576∧∀ y∈xs,y.2.length≤1048576):=rdb_row uMarks cMark FlM rdb_mark
theorem rdb_obj:Rdb enc Tryz.prog w 52 flHO (fun h=>∃ x,InO w.heap h x∧okO x):=by
 intro fuel cs x h hb
 obtain ⟨a,ha1,ha⟩:=rdb_field (i:=0) fObj rfl rdb_l8 h hb
 obtain ⟨b,hb1,hb'⟩:=rdb_field (i:=1) fObj rfl rdb_l8 h hb
 obtain ⟨s,⟨xs,h1,h2,h3⟩,hs⟩:=rdb_field (i:=2) fObj rfl rdb_marks h hb
 refine ⟨(a,b,s),⟨⟨a,b,xs⟩,⟨rfl,h1⟩,⟨ha1,hb1,h2,h3⟩⟩,fun k c hk=>?_⟩
 match k,hk with
 | 0,hk=>exact ha 0 c hk
 | 1,hk=>exact hb' 0 c hk
 | 2,hk=>exact hs 0 c hk
 | k+3,hk=>simp [flHO] at hk
theorem rdb_fn:Rdb enc Tryz.prog w 56 flF okF:=by
 intro fuel cs x h hb
 obtain ⟨a,ha1,ha⟩:=rdb_field (i:=0) fFn rfl rdb_l8 h hb
 obtain ⟨b,hb1,hb'⟩:=rdb_field (i:=1) fFn rfl rdb_l8 h hb
 obtain ⟨c,hc1,hc'⟩:=rdb_field (i:=2) fFn rfl rdb_l8 h hb
 refine ⟨⟨a,b,c⟩,⟨ha1,hb1,hc1⟩,fun k c hk=>?_⟩
 match k,hk with
 | 0,hk=>exact ha 0 c hk
 | 1,hk=>exact hb' 0 c hk
 | 2,hk=>exact hc' 0 c hk
 | k+3,hk=>simp [flF] at hk
theorem rdb_con:Rdb enc Tryz.prog w 36 flHC (fun h=>∃ x,InC w.heap h x∧okC x):=by
 intro fuel cs x h hb
 obtain ⟨o,_,ho⟩:=rdb_field (i:=0) fCon rfl (rdb_int uOp) h hb
 obtain ⟨a,ha1,ha⟩:=rdb_field (i:=1) fCon rfl rdb_l8 h hb
 obtain ⟨b,hb1,hb'⟩:=rdb_field (i:=2) fCon rfl rdb_l8 h hb
 obtain ⟨n,_,hn⟩:=rdb_field (i:=3) fCon rfl (rdb_int uInt) h hb
 obtain ⟨t,ht1,ht⟩:=rdb_field (i:=4) fCon rfl rdb_l8 h hb
 obtain ⟨s,⟨xs,h1,h2,h3⟩,hs⟩:=rdb_field (i:=5) fCon rfl rdb_strs h hb
 refine ⟨(o,a,b,n,t,s),⟨⟨o,a,b,n,t,xs⟩,⟨rfl,h1⟩,⟨ha1,hb1,ht1,h2,h3⟩⟩,fun k c hk=>?_⟩
 match k,hk with
 | 0,hk=>exact ho 0 c hk
 | 1,hk=>exact ha 0 c hk
 | 2,hk=>exact hb' 0 c hk
 | 3,hk=>exact hn 0 c hk
 | 4,hk=>exact ht 0 c hk
 | 5,hk=>exact hs 0 c hk
 | k+6,hk=>simp [flHC] at hk
instance:Inhabited HO:=⟨([],[],⟨none,0,0⟩)⟩
instance:Inhabited HC:=⟨(0,[],[],0,[],⟨none,0,0⟩)⟩
theorem all_in {η χ : Type}{In : η→χ→Prop}{ok : χ→Prop}:∀ hs:List η,(∀ h∈hs,∃ x,In h x∧ok x)→∃ xs:List χ,hs.length=xs.length∧(∀ (i:Nat) h x,hs[i]? = some h→xs[i]? = some x→In h x)∧∀ x∈xs,ok x
 | [],_=>⟨[],rfl,by simp,by simp⟩
 | h::hs,hh=>by
  obtain ⟨x,h1,h2⟩:=hh h List.mem_cons_self
  obtain ⟨xs,g1,g2,g3⟩:=all_in hs fun y hy=>hh y (List.mem_cons_of_mem _ hy)
  refine ⟨x::xs,by simp [g1],fun i a y ha hy=>?_,fun y hy=>?_⟩
  ·cases i with
   | zero=>
    simp only [List.getElem?_cons_zero,Option.some.injEq] at ha hy
    subst ha
    subst hy
    exact h1
   | succ i=>
    simp only [List.getElem?_cons_succ] at ha hy
    exact g2 i a y ha hy
  ·rcases List.mem_cons.1 hy with rfl | hy
   ·exact h2
   ·exact g3 y hy
theorem rdb_objs:Rdb enc Tryz.prog w 22 flS1 (fun s=>∃ xs:List ObjD,RdO w.heap s xs∧xs.length≤1048576∧∀ y∈xs,okO y):=by
 intro fuel cs x h hb
 obtain ⟨s,⟨hs,h1,h2,h3⟩,hc⟩:=rdb_row (enc:=enc) (w:=w) uObjs cObj FlHO rdb_obj fuel cs x h hb
 obtain ⟨xs,g1,g2,g3⟩:=all_in hs h3
 exact ⟨s,⟨xs,⟨hs,h1,g1,g2⟩,by omega,g3⟩,hc⟩
theorem rdb_fns:Rdb enc Tryz.prog w 23 flS1 (fun s=>∃ xs:List FnD,Rd flF 3 w.heap s xs∧xs.length≤1048576∧∀ y∈xs,okF y):=by
 have:Inhabited FnD:=⟨⟨[],[],[]⟩⟩
 exact rdb_row uFns cFn FlF rdb_fn
theorem rdb_cons:Rdb enc Tryz.prog w 24 flS1 (fun s=>∃ xs:List ConD,RdC w.heap s xs∧xs.length≤1048576∧∀ y∈xs,okC y):=by
 intro fuel cs x h hb
 obtain ⟨s,⟨hs,h1,h2,h3⟩,hc⟩:=rdb_row (enc:=enc) (w:=w) uCons cCon FlHC rdb_con fuel cs x h hb
 obtain ⟨xs,g1,g2,g3⟩:=all_in hs h3
 exact ⟨s,⟨xs,⟨hs,h1,g1,g2⟩,by omega,g3⟩,hc⟩
def flS3 (s:Sl × Sl × Sl):List Value:=[.slice s.1.a s.1.n s.1.c,.slice s.2.1.a s.2.1.n s.2.1.c,.slice s.2.2.a s.2.2.n s.2.2.c]
theorem rdb_sys:Rdb enc Tryz.prog w 26 flS3 (fun s=>∃ x,RdSys w.heap s.1 s.2.1 s.2.2 x∧OkSys x):=by
 intro fuel cs x h hb
 obtain ⟨s1,⟨o,o1,o2,o3⟩,ho⟩:=rdb_field (i:=0) fSys rfl rdb_objs h hb
 obtain ⟨s2,⟨f,f1,f2,f3⟩,hf⟩:=rdb_field (i:=1) fSys rfl rdb_fns h hb
 obtain ⟨s3,⟨c,c1,c2,c3⟩,hc⟩:=rdb_field (i:=2) fSys rfl rdb_cons h hb
 refine ⟨(s1,s2,s3),⟨⟨o,f,c⟩,⟨o1,f1,c1⟩,⟨⟨o2,o3⟩,⟨f2,f3⟩,⟨c2,c3⟩⟩⟩,fun k c hk=>?_⟩
 match k,hk with
 | 0,hk=>exact ho 0 c hk
 | 1,hk=>exact hf 0 c hk
 | 2,hk=>exact hc 0 c hk
 | k+3,hk=>simp [flS3] at hk
theorem agg_list (cs:Array Value):(Value.agg cs).cells.toList=cs.toList:=by simp [Value.cells]
theorem agg_eq {cs:Array Value}{l:List Value}(hz:cs.size=l.length) (h:∀ (i:Nat) v,l[i]? = some v→cs.toList[i]? = some v):cs=l.toArray:=by
 apply Array.ext'
 apply List.ext_getElem?
 intro i
 show cs.toList[i]? = l[i]?
 by_cases hi:i < l.length
 ·rw [List.getElem?_eq_getElem hi]
  exact h i _ (List.getElem?_eq_getElem hi)
 ·have:cs.toList.length=cs.size:=by simp
  rw [List.getElem?_eq_none (by omega),List.getElem?_eq_none (by omega)]
theorem open_sys {fuel:Nat}{cs:Array Value}{x:DataW H × List MemPlace}(hz:cs.size=Tryz.prog.cellsOf 26) (h:DataW.trod enc Tryz.prog w 0 (fun _=>true) true fuel 26 (Value.agg cs).cells.toList=some x) (hb:Rows.uptoBulk x.1≤1048576) :
  ∃ a:SysD × Sl × Sl × Sl,(RdSys w.heap a.2.1 a.2.2.1 a.2.2.2 a.1∧OkSys a.1)∧cs=#[.slice a.2.1.a a.2.1.n a.2.1.c,.slice a.2.2.1.a a.2.2.1.n a.2.2.1.c,.slice a.2.2.2.a a.2.2.2.n a.2.2.2.c]:=by
 obtain ⟨s,⟨y,h1,h2⟩,hs⟩:=rdb_sys fuel _ x h hb
 refine ⟨(y,s),⟨h1,h2⟩,agg_eq (l:=flS3 s) (by rw [hz,cSys];rfl) fun i v hv=>?_⟩
 rw [← agg_list]
 exact hs i v hv
theorem open_strs {fuel:Nat}{cs:List Value}{x:DataW H × List MemPlace}(h:DataW.trod enc Tryz.prog w 0 (fun _=>true) true fuel 27 cs=some x) (hk:Rows.uptoBulk x.1≤1048576) :
  ∃ (s:Sl) (xs:List L8),cs = [.slice s.a s.n s.c]∧Rd flL 1 w.heap s xs∧xs.length≤1048576∧∀ y∈xs,y.length≤1048576:=open_row uStrs cStr FlL rdb_l8 h hk
end
end Go.Proofs.YtjdhjgfmloaglaaGreatDoor.OpA
end
