import Derived.Test.YtdaenijbokialaaGreatOwn6
import Derived.ChangeKeysEq
import Derived.Maps.RangeRun
set_option linter.unusedSimpArgs false
set_option linter.unusedVariables false
set_option linter.unusedSectionVars false
namespace Go.D
theorem runGet {P:Program} {w:World} {r:Nat} {es:Array MapEntry} {clock:Nat} (h:w.heap[r]?=some (.map es clock)):(getObj r).run P w=.ok (.map es clock) w:=by simp [getObj,Sem.run,h]
theorem bytesEq (a b:ByteArray):(a==b)=decide (a=b):=by
 have h:(a==b)=true↔a=b:=by
  obtain⟨x⟩:=a
  obtain⟨y⟩:=b
  constructor
  ·intro h
   have e:x=y:=by simpa using (show (x==y)=true from h)
   rw[e]
  ·intro h
   cases h
   show (x==x)=true
   simp
 by_cases e:a=b
 ·rw[h.2 e,decide_eq_true e]
 ·rw[decide_eq_false e,Bool.eq_false_iff];exact fun h2=>e (h.1 h2)
def Stamp (es:List MapEntry) (clock:Nat):Prop:=(∀e∈es,e.born<clock)∧(es.map (·.born)).Nodup
theorem Stamp.nil:Stamp [] 0:=⟨by simp,by simp⟩
theorem Stamp.push {es:List MapEntry} {clock:Nat} (h:Stamp es clock) (k v:Value):Stamp (es++[{ key:=k,val:=v,born:=clock }]) (clock+1):=by
 refine⟨fun e he=>?_,?_⟩
 ·rcases List.mem_append.1 he with he | he
  ·have:=h.1 e he;omega
  ·simp at he;subst he;simp
 ·rw[List.map_append,List.nodup_append]
  refine⟨h.2,by simp,fun a ha b hb=>?_⟩
  simp at hb
  subst hb
  obtain⟨e,he,rfl⟩:=List.mem_map.1 ha
  have:=h.1 e he
  omega
theorem Stamp.modify {es:List MapEntry} {clock:Nat} (h:Stamp es clock) (j:Nat) (f:MapEntry→MapEntry) (hf:∀e,(f e).born=e.born):Stamp (es.modify j f) clock:=by
 have e:(es.modify j f).map (·.born)=es.map (·.born):=by
  apply List.ext_getElem?
  intro i
  rw[List.getElem?_map,List.getElem?_map,List.getElem?_modify]
  cases es[i]? with
  | none=>rfl
  | some x=>simp only[Option.map_some];split <;> simp [hf]
 refine⟨fun x hx=>?_,by rw[e];exact h.2⟩
 have:x.born∈(es.modify j f).map (·.born):=List.mem_map_of_mem hx
 rw[e] at this
 obtain⟨y,hy,h2⟩:=List.mem_map.1 this
 have h2:y.born=x.born:=h2
 rw[←h2];exact h.1 y hy
theorem Stamp.sub {es es':List MapEntry} {clock:Nat} (h:Stamp es clock) (hs:es'.Sublist es):Stamp es' clock:=
 ⟨fun e he=>h.1 e (hs.subset he),(hs.map _).nodup h.2⟩
def MapAt {κ:Type} (w:World) (r:Nat) (inj:κ→Value) (M:List (κ×Value)):Prop:=
 ∃es clock,w.heap[r]?=some (.map es clock)∧Stamp es.toList clock∧es.toList.map (fun e=>(e.key,e.val))=M.map (fun x=>(inj x.1,x.2))
theorem MapAt.lt {κ:Type} {w:World} {r:Nat} {inj:κ→Value} {M:List (κ×Value)} (h:MapAt w r inj M):r<w.heap.size:=by
 obtain⟨es,clock,h,_⟩:=h
 exact(Array.getElem?_eq_some_iff.1 h).1
theorem MapAt.upd {κ:Type} {w w':World} {r:Nat} {inj:κ→Value} {M:List (κ×Value)} {F:List Nat} (h:MapAt w r inj M) (u:Upd F w w') (hr:r∉F):MapAt w' r inj M:=by
 have hlt:=h.lt
 obtain⟨es,clock,h,hs,hm⟩:=h
 exact⟨es,clock,by rw[u.blk r hlt hr];exact h,hs,hm⟩
theorem MapAt.new {κ:Type} {w:World} {r:Nat} (inj:κ→Value) (h:w.heap[r]?=some (.map #[] 0)):MapAt w r inj []:=⟨#[],0,h,Stamp.nil,rfl⟩
section
variable {κ:Type} [DecidableEq κ]
def spot (k:κ):List (κ×Value)→Nat→Option (Nat×Value)
 | [],_=>none
 | x::r,i=>if k=x.1 then some (i,x.2) else spot k r (i+1)
def look (k:κ) (M:List (κ×Value)):Option Value:=(spot k M 0).map (·.2)
def put (k:κ) (v:Value):List (κ×Value)→List (κ×Value)
 | []=>[(k,v)]
 | x::r=>if k=x.1 then (x.1,v)::r else x::put k v r
def drop1 (k:κ):List (κ×Value)→List (κ×Value)
 | []=>[]
 | x::r=>if k=x.1 then r else x::drop1 k r
theorem ZqD (k:κ):∀(M:List (κ×Value)) (i:Nat),spot k M i=(spot k M 0).map (fun y=>(y.1+i,y.2))
 | [],i=>rfl
 | x::r,i=>by
  unfold spot
  split
  ·simp
  ·rw[ZqD k r (i+1),ZqD k r (0+1),Option.map_map]
   congr 1
   funext y;simp;omega
@[simp] theorem look_nil (k:κ):look k []=none:=rfl
theorem ZdS (k:κ) (x:κ×Value) (r:List (κ×Value)):look k (x::r)=if k=x.1 then some x.2 else look k r:=by
 unfold look
 rw[spot]
 split
 ·rfl
 ·rw[ZqD k r (0+1),Option.map_map];rfl
theorem ZfL (k j:κ) (v:Value):∀M:List (κ×Value),look j (put k v M)=if j=k then some v else look j M
 | []=>by
  simp only[put,ZdS,look_nil]
 | x::r=>by
  unfold put
  by_cases h:k=x.1
  ·rw[if_pos h,ZdS,ZdS]
   by_cases hj:j=x.1
   ·simp [hj,h]
   ·simp [hj,h]
  ·rw[if_neg h,ZdS,ZdS,ZfL k j v r]
   by_cases hj:j=x.1
   ·have:j≠k:=by rintro rfl;exact h hj
    simp [hj];intro h2;exact absurd h2.symm h
   ·simp [hj]
theorem ZlM (k:κ) (v:Value):∀M:List (κ×Value),(put k v M).length=if (look k M).isSome then M.length else M.length+1
 | []=>by simp [put]
 | x::r=>by
  unfold put
  rw[ZdS]
  by_cases h:k=x.1
  ·simp [h]
  ·simp only[if_neg h,List.length_cons,ZlM k v r];split <;> simp
def Once (M:List (κ×Value)):Prop:=(M.map (·.1)).Nodup
theorem Zuy (k:κ) (v:Value):∀M:List (κ×Value),(put k v M).map (·.1)=if (look k M).isSome then M.map (·.1) else M.map (·.1)++[k]
 | []=>by simp [put]
 | x::r=>by
  unfold put
  rw[ZdS]
  by_cases h:k=x.1
  ·simp [h]
  ·simp only[if_neg h,List.map_cons,Zuy k v r];split <;> simp
theorem Znj (k:κ):∀M:List (κ×Value),(look k M).isSome=true↔k∈M.map (·.1)
 | []=>by simp
 | x::r=>by
  rw[ZdS]
  by_cases h:k=x.1
  ·simp [h]
  ·rw[if_neg h,Znj k r,List.map_cons,List.mem_cons];simp [h]
theorem Once.put {k:κ} {v:Value} {M:List (κ×Value)} (h:Once M):Once (put k v M):=by
 unfold Once at *
 rw[Zuy]
 split
 ·exact h
 ·rename_i hk
  rw[Znj] at hk
  rw[List.nodup_append]
  exact⟨h,by simp,by intro a ha b hb;simp at hb;subst hb;rintro rfl;exact hk ha⟩
theorem Zsn (k:κ):∀M:List (κ×Value),(drop1 k M).map (·.1)=(M.map (·.1)).erase k
 | []=>rfl
 | x::r=>by
  unfold drop1
  by_cases h:k=x.1
  ·simp [h]
  ·rw[if_neg h,List.map_cons,Zsn k r,List.map_cons,List.erase_cons_tail (by simp;exact fun e=>h e.symm)]
theorem Once.drop1 {k:κ} {M:List (κ×Value)} (h:Once M):Once (drop1 k M):=by
 unfold Once at *
 rw[Zsn]
 exact h.erase k
theorem ZqA {d:TypeDesc} {inj:κ→Value} (hs:∀a b,Instr.sameNow d (inj a) (inj b)=some (decide (a=b))) (k:κ) :
  ∀(es:List MapEntry) (M:List (κ×Value)) (i:Nat),es.map (fun e=>(e.key,e.val))=M.map (fun x=>(inj x.1,x.2))→Instr.findNow d (inj k) es i=some (spot k M i)
 | [],[],_,_=>rfl
 | [],_::_,_,h=>by simp at h
 | _::_,[],_,h=>by simp at h
 | e::es,x::M,i,h=>by
  simp only[List.map_cons,List.cons.injEq,Prod.mk.injEq] at h
  unfold Instr.findNow spot
  rw[h.1.1,hs k x.1]
  by_cases hk:k=x.1
  ·simp [hk,h.1.2]
  ·simp only[hk,decide_false,if_false]
   exact ZqA hs k es M (i+1) h.2
structure KeyOf (P:Program) (kt:TypeId) {κ:Type} [DecidableEq κ] (inj:κ→Value):Prop where
 und:∃d,P.underlying kt=some d
 chk:∀e n k (w:World),(Instr.checkKey e (n+2) kt (inj k)).run P w=.ok () w
 find:∀(w:World) (k:κ) (es:List MapEntry) (M:List (κ×Value)),es.map (fun e=>(e.key,e.val))=M.map (fun x=>(inj x.1,x.2))→(Instr.findKey kt (inj k) es).run P w=.ok (spot k M 0) w
 same:∀a n,Instr.sameBits (n+2) (inj a) (inj a)=true
theorem keyInt {P:Program} {kt:TypeId} {k:IntKind} (h:P.underlying kt=some (.int k)):KeyOf P kt (fun a:Int=>.int k a):=by
 refine⟨⟨_,h⟩,fun e n k w=>by simp [Instr.checkKey,Zaa h],fun w k es M hM=>?_,fun a n=>by simp [Instr.sameBits]⟩
 have hs:∀a b:Int,∀k':IntKind,Instr.sameNow (.int k') (.int k' a) (.int k' b)=some (decide (a=b)):=fun a b k'=>by by_cases hab:a=b <;> simp [Instr.sameNow,hab]
 simp [Instr.findKey,Zaa h,ZqA (inj:=fun a:Int=>Value.int _ a) (fun a b=>hs a b _) k es M 0 hM]
theorem keyString {P:Program} {kt:TypeId} (h:P.underlying kt=some .string):KeyOf P kt (fun a:ByteArray=>.string a):=by
 refine⟨⟨_,h⟩,fun e n k w=>by simp [Instr.checkKey,Zaa h],fun w k es M hM=>?_,fun a n=>by simp [Instr.sameBits,bytesEq]⟩
 have hs:∀a b:ByteArray,Instr.sameNow .string (.string a) (.string b)=some (decide (a=b)):=fun a b=>by by_cases hab:a=b <;> simp [Instr.sameNow,hab,bytesEq]
 simp [Instr.findKey,Zaa h,ZqA (inj:=fun a:ByteArray=>Value.string a) hs k es M 0 hM]
theorem ZnN {P:Program} {kt:TypeId} {inj:κ→Value} (hK:KeyOf P kt inj) {w:World} (k:κ) {es:List MapEntry} {M:List (κ×Value)} (h:es.map (fun e=>(e.key,e.val))=M.map (fun x=>(inj x.1,x.2))) :
  (Instr.findKey kt (inj k) es).run P w=.ok (spot k M 0) w:=hK.find w k es M h
theorem Zmg {P:Program} {mt kt et:TypeId} {inj:κ→Value} (hK:KeyOf P kt inj) (hm:P.underlying mt=some (.map kt et)) {z:Value} (hz:∃i,P.info? et=some i∧i.zero=some z)
  {w:World} {r:Nat} {M:List (κ×Value)} (h:MapAt w r inj M) {k:κ} {K:Value→World→Prop} (hk:K ((look k M).getD z) w):Run P (Instr.lookup mt (.map (some r)) (inj k) false) w K:=by
 obtain⟨es,clock,hh,hS,hM⟩:=h
 obtain⟨i,hi,hzi⟩:=hz
 obtain⟨d,hd⟩:=hK.und
 have hc:=hK.chk
 have hzv:∀w,(zeroValue et).run P w=.ok z w:=fun w=>by simp [zeroValue,typeInfo,hi,hzi]
 have hf:=ZnN hK (w:=w) k (by simpa using hM)
 have hrun:(Instr.lookup mt (.map (some r)) (inj k) false).run P w=.ok ((look k M).getD z) w:=by
  simp only[Instr.lookup]
  rcases hsp:spot k M 0 with _ | ⟨j,v⟩
  ·rw[hsp] at hf
   simp [Zaa hm,runGet hh,hc,hf,hzv,look,hsp]
  ·rw[hsp] at hf
   simp [Zaa hm,runGet hh,hc,hf,look,hsp]
 unfold Run
 rw[hrun];exact hk
theorem ZkT {P:Program} {mt kt et:TypeId} {inj:κ→Value} (hK:KeyOf P kt inj) (hm:P.underlying mt=some (.map kt et)) {z:Value} (hz:∃i,P.info? et=some i∧i.zero=some z)
  {w:World} {r:Nat} {M:List (κ×Value)} (h:MapAt w r inj M) {k:κ} {K:Value→World→Prop} (hk:K (.tuple #[(look k M).getD z,.bool (look k M).isSome]) w):Run P (Instr.lookup mt (.map (some r)) (inj k) true) w K:=by
 obtain⟨es,clock,hh,hS,hM⟩:=h
 obtain⟨i,hi,hzi⟩:=hz
 obtain⟨d,hd⟩:=hK.und
 have hc:=hK.chk
 have hzv:∀w,(zeroValue et).run P w=.ok z w:=fun w=>by simp [zeroValue,typeInfo,hi,hzi]
 have hf:=ZnN hK (w:=w) k (by simpa using hM)
 have hrun:(Instr.lookup mt (.map (some r)) (inj k) true).run P w=.ok (.tuple #[(look k M).getD z,.bool (look k M).isSome]) w:=by
  simp only[Instr.lookup]
  rcases hsp:spot k M 0 with _ | ⟨j,v⟩
  ·rw[hsp] at hf
   simp [Zaa hm,runGet hh,hc,hf,hzv,look,hsp]
  ·rw[hsp] at hf
   simp [Zaa hm,runGet hh,hc,hf,look,hsp]
 unfold Run
 rw[hrun];exact hk
theorem ZrF (k:κ):∀(M:List (κ×Value)) (i j:Nat) (v:Value),spot k M i=some (j,v)→i≤j∧j<i+M.length∧(M[j-i]?).map (·.1)=some k
 | [],_,_,_,h=>by simp [spot] at h
 | x::r,i,j,v,h=>by
  unfold spot at h
  split at h
  ·rename_i hk
   simp at h
   obtain⟨rfl,rfl⟩:=h
   simp [hk]
  ·obtain⟨h1,h2,h3⟩:=ZrF k r (i+1) j v h
   refine⟨by omega,by simp;omega,?_⟩
   rw[show j-i=(j-(i+1))+1 by omega,List.getElem?_cons_succ]
   exact h3
theorem Znn (k:κ) (v:Value):∀(M:List (κ×Value)) (i:Nat),spot k M i=none→put k v M=M++[(k,v)]
 | [],_,_=>rfl
 | x::r,i,h=>by
  unfold spot at h
  split at h
  ·cases h
  ·rename_i hk
   unfold put
   rw[if_neg hk,Znn k v r (i+1) h];rfl
theorem Zud (k:κ) (v:Value):∀(M:List (κ×Value)) (i j:Nat) (u:Value),spot k M i=some (j,u)→put k v M=M.modify (j-i) (fun x=>(x.1,v))
 | [],_,_,_,h=>by simp [spot] at h
 | x::r,i,j,u,h=>by
  unfold spot at h
  unfold put
  split at h
  ·rename_i hk
   simp at h
   obtain⟨rfl,rfl⟩:=h
   simp [hk]
  ·rename_i hk
   obtain⟨h1,_,_⟩:=ZrF k r (i+1) j u h
   rw[if_neg hk,Zud k v r (i+1) j u h,show j-i=(j-(i+1))+1 by omega]
   rfl
theorem ZoY {P:Program} {w:World} {r:Nat} {es:Array MapEntry} {clock:Nat} (h:w.heap[r]?=some (.map es clock)) (o:Obj):(setObj r o).run P w=.ok () { w with heap:=w.heap.setIfInBounds r o }:=by simp [setObj,Sem.run,h]
theorem ZoT (w:World) (r:Nat) (o:Obj):Upd [r] w { w with heap:=w.heap.setIfInBounds r o }:=by
 refine⟨rfl,rfl,rfl,by simp,fun k hk hr=>?_⟩
 simp at hr
 show (w.heap.setIfInBounds r o)[k]?=_
 rw[Array.getElem?_setIfInBounds_ne (fun e=>hr e.symm)]
theorem Zie {P:Program} {mt kt et:TypeId} {inj:κ→Value} (hK:KeyOf P kt inj) (hm:P.underlying mt=some (.map kt et))
  {w:World} {r:Nat} {M:List (κ×Value)} (h:MapAt w r inj M) {k:κ} {v:Value} {K:World→Prop} (hk:∀w',MapAt w' r inj (put k v M)→Upd [r] w w'→K w'):MUp P mt (.map (some r)) (inj k) v w K:=by
 have hlt:=h.lt
 obtain⟨es,clock,hh,hS,hM⟩:=h
 obtain⟨d,hd⟩:=hK.und
 have hc:=hK.chk
 have hf:=ZnN hK (w:=w) k (by simpa using hM)
 unfold MUp Run
 rcases hsp:spot k M 0 with _ | ⟨j,u⟩
 ·rw[hsp] at hf
  have hrun:(Instr.mapUpdate mt (.map (some r)) (inj k) v).run P w=.ok () { w with heap:=w.heap.setIfInBounds r (.map (es.push { key:=inj k,val:=v,born:=clock }) (clock+1)) }:=by
   simp [Instr.mapUpdate,Zaa hm,runGet hh,hc,hf,ZoY hh]
  rw[hrun]
  refine hk _ ⟨_,_,by show (w.heap.setIfInBounds r _)[r]?=_;rw[Array.getElem?_setIfInBounds_self_of_lt hlt],by simpa using hS.push (inj k) v,?_⟩ (ZoT w r _)
  rw[Znn k v M 0 hsp]
  simp [hM]
 ·rw[hsp] at hf
  obtain⟨h1,h2,h3⟩:=ZrF k M 0 j u hsp
  simp only[Nat.sub_zero,Nat.zero_add] at h2 h3
  have hl:es.size=M.length:=by
   have:=congrArg List.length hM;simpa using this
  have hej:j<es.size:=by omega
  have hkey:es[j].key=inj k:=by
   have h4:(es.toList.map (fun e=>(e.key,e.val)))[j]?=(M.map (fun x=>(inj x.1,x.2)))[j]?:=by rw[hM]
   rw[List.getElem?_map,List.getElem?_map,List.getElem?_eq_getElem (by simpa using hej),List.getElem?_eq_getElem h2] at h4
   rw[List.getElem?_eq_getElem h2] at h3
   simp at h3 h4
   rw[h4.1,h3]
  have hstay:∀w,(Instr.keyThatStays (inj k) (inj k)).run P w=.ok (inj k) w:=fun w=>by
   simp [Instr.keyThatStays,hK.same k 9998]
  have hrun:(Instr.mapUpdate mt (.map (some r)) (inj k) v).run P w=.ok () { w with heap:=w.heap.setIfInBounds r (.map (es.modify j fun e=>{ e with key:=inj k,val:=v }) clock) }:=by
   simp [Instr.mapUpdate,Zaa hm,runGet hh,hc,hf,hej,hkey,hstay,ZoY hh]
  rw[hrun]
  refine hk _ ⟨_,_,by show (w.heap.setIfInBounds r _)[r]?=_;rw[Array.getElem?_setIfInBounds_self_of_lt hlt],by rw[Array.toList_modify];exact hS.modify _ _ fun _=>rfl,?_⟩ (ZoT w r _)
  rw[Zud k v M 0 j u hsp,Nat.sub_zero]
  apply List.ext_getElem?
  intro i
  have h4:(es.toList.map (fun e=>(e.key,e.val)))[i]?=(M.map (fun x=>(inj x.1,x.2)))[i]?:=by rw[hM]
  rw[List.getElem?_map,List.getElem?_map] at h4
  rw[List.getElem?_map,List.getElem?_map,Array.toList_modify,List.getElem?_modify,List.getElem?_modify]
  by_cases hij:j=i
  ·subst hij
   rw[List.getElem?_eq_getElem h2] at h3 ⊢
   rw[List.getElem?_eq_getElem (by simpa using hej)]
   simp at h3
   simp [h3]
  ·simp only[hij,if_false]
   simpa [Option.map_map] using h4
theorem Zw6 {P:Program} {mt kt et:TypeId} {inj:κ→Value} (hK:KeyOf P kt inj) (hm:P.underlying mt=some (.map kt et)) {kt' ty:TypeId}
  {w:World} {r:Nat} {M:List (κ×Value)} (h:MapAt w r inj M) {k:κ} {K:Value→World→Prop} (hk:∀v w',MapAt w' r inj (drop1 k M)→Upd [r] w w'→K v w'):Del P #[mt,kt'] ty #[.map (some r),inj k] w K:=by
 have hlt:=h.lt
 obtain⟨es,clock,hh,hS,hM⟩:=h
 obtain⟨d,hd⟩:=hK.und
 have hc:=hK.chk
 have hf:=ZnN hK (w:=w) k (by simpa using hM)
 have hdrop:∀(M:List (κ×Value)) (i:Nat),drop1 k M=match spot k M i with | some (j,_)=>M.eraseIdx (j-i) | none=>M:=by
  intro M
  induction M with
  | nil=>intro i;rfl
  | cons x r ih=>
   intro i
   unfold drop1 spot
   by_cases hkx:k=x.1
   ·simp [hkx]
   ·simp only[hkx,if_false]
    rw[ih (i+1)]
    rcases hsp:spot k r (i+1) with _ | ⟨j,u⟩
    ·rfl
    ·obtain⟨h1,_,_⟩:=ZrF k r (i+1) j u hsp
     simp only
     rw[show j-i=(j-(i+1))+1 by omega];rfl
 unfold Del Run
 rcases hsp:spot k M 0 with _ | ⟨j,u⟩
 ·rw[hsp] at hf
  have hrun:(Builtin.delete_ #[mt,kt'] ty #[.map (some r),inj k]).run P w=.ok (.tuple #[]) { w with heap:=w.heap.setIfInBounds r (.map es clock) }:=by
   simp [Builtin.delete_,Zaa hm,runGet hh,hc,hf,ZoY hh]
  rw[hrun]
  refine hk _ _ ⟨_,_,by show (w.heap.setIfInBounds r _)[r]?=_;rw[Array.getElem?_setIfInBounds_self_of_lt hlt],hS,?_⟩ (ZoT w r _)
  rw[hdrop M 0,hsp];exact hM
 ·rw[hsp] at hf
  have hrun:(Builtin.delete_ #[mt,kt'] ty #[.map (some r),inj k]).run P w=.ok (.tuple #[]) { w with heap:=w.heap.setIfInBounds r (.map (es.eraseIdxIfInBounds j) clock) }:=by
   simp [Builtin.delete_,Zaa hm,runGet hh,hc,hf,ZoY hh]
  rw[hrun]
  obtain⟨h1,h2,h3⟩:=ZrF k M 0 j u hsp
  simp only[Nat.zero_add] at h2
  have hl:es.size=M.length:=by
   have:=congrArg List.length hM;simpa using this
  have e:(es.eraseIdxIfInBounds j).toList=es.toList.eraseIdx j:=by
   simp [Array.eraseIdxIfInBounds,show j<es.size by omega]
  refine hk _ _ ⟨_,_,by show (w.heap.setIfInBounds r _)[r]?=_;rw[Array.getElem?_setIfInBounds_self_of_lt hlt],by rw[e];exact hS.sub (List.eraseIdx_sublist _ _),?_⟩ (ZoT w r _)
  rw[hdrop M 0,hsp]
  simp only[Nat.sub_zero]
  have e2:∀{α β:Type} (g:α→β) (l:List α) (i:Nat),(l.eraseIdx i).map g=(l.map g).eraseIdx i:=by
   intro α β g l
   induction l with
   | nil=>intro i;simp
   | cons a l ih=>intro i;cases i <;> simp [ih]
  rw[e,e2,hM,e2]
end
end Go.D
set_option linter.unusedSimpArgs false
set_option linter.unusedVariables false
namespace Go.D
section
variable {α β:Type}
theorem ZfJ {f:α→List β} {k:Nat} (hk:∀x,(f x).length=k):∀l:List α,(l.flatMap f).length=l.length*k
 | []=>by simp
 | x::l=>by rw[List.flatMap_cons,List.length_append,ZfJ hk l,hk,List.length_cons,Nat.add_mul];omega
theorem Zug {f:α→List β} {k:Nat} (hk:∀x,(f x).length=k):∀(l:List α) (i j:Nat),j<k→(l.flatMap f)[i*k+j]?=(l[i]?).bind fun x=>(f x)[j]?
 | [],i,j,_=>by simp
 | x::l,0,j,hj=>by
  rw[List.flatMap_cons,Nat.zero_mul,Nat.zero_add,List.getElem?_append_left (by rw[hk];exact hj)];rfl
 | x::l,i+1,j,hj=>by
  rw[List.flatMap_cons,List.getElem?_append_right (by rw[hk,Nat.add_mul];omega),hk,List.getElem?_cons_succ,←Zug hk l i j hj]
  congr 1
  rw[Nat.add_mul];omega
theorem ZhX {f:α→List β} {k:Nat} (hk:∀x,(f x).length=k) {l:List α} {i j:Nat} (hi:i<l.length) (hj:j<k):(l.flatMap f)[i*k+j]?=(f l[i])[j]?:=by
 rw[Zug hk l i j hj,List.getElem?_eq_getElem hi];rfl
theorem ZrR {f:α→List β} {k:Nat} (hk:∀x,(f x).length=k):∀(l:List α) (i:Nat),(l.flatMap f).take (i*k)=(l.take i).flatMap f
 | [],i=>by simp
 | x::l,0=>by simp
 | x::l,i+1=>by
  rw[List.flatMap_cons,List.take_succ_cons,List.flatMap_cons,List.take_append,hk,List.take_of_length_le (by rw[hk,Nat.add_mul];omega),←ZrR hk l i]
  congr 2
  rw[Nat.add_mul];omega
theorem Ztx {f:α→List β} {k:Nat} (hk:∀x,(f x).length=k):∀(l:List α) (i:Nat),(l.flatMap f).drop (i*k)=(l.drop i).flatMap f
 | [],i=>by simp
 | x::l,0=>by simp
 | x::l,i+1=>by
  rw[List.flatMap_cons,List.drop_succ_cons,List.drop_append,hk,List.drop_of_length_le (by rw[hk,Nat.add_mul];omega),List.nil_append,←Ztx hk l i]
  congr 1
  rw[Nat.add_mul];omega
theorem Zrm {f:α→List β} {k:Nat} (hk:∀x,(f x).length=k) {l:List α} {i j:Nat} {v:β} {y:α} (hi:i<l.length) (hj:j<k) (h:f y=(f l[i]).set j v):(l.flatMap f).set (i*k+j) v=(l.set i y).flatMap f:=by
 apply List.ext_getElem?
 intro m
 by_cases hm:m<l.length*k
 ·have hkp:0<k:=by omega
  obtain⟨a,b,hb,rfl⟩:∃a b,b<k∧m=a*k+b:=⟨m / k,m % k,Nat.mod_lt _ hkp,by rw[Nat.mul_comm];exact(Nat.div_add_mod m k).symm⟩
  have ha:a<l.length:=by
   by_cases h2:a<l.length
   ·exact h2
   ·have:=Nat.mul_le_mul_right k (Nat.le_of_not_lt h2);omega
  rw[ZhX hk (by simpa using ha) hb,List.getElem?_set]
  by_cases hai:a=i
  ·subst hai
   simp only[List.getElem_set_self,h]
   by_cases hbj:b=j
   ·subst hbj
    rw[if_pos rfl,if_pos (by rw[ZfJ hk];exact hm),List.getElem?_set_self (by rw[hk];exact hj)]
   ·rw[if_neg (by omega),ZhX hk ha hb,List.getElem?_set_ne (fun e=>hbj e.symm)]
  ·have hne:¬(i*k+j=a*k+b):=by
    intro e
    rcases Nat.lt_or_ge i a with h2 | h2
    ·have h3:=Nat.mul_le_mul_right k (show i+1≤a from h2)
     rw[Nat.add_mul] at h3;omega
    ·have h3:=Nat.mul_le_mul_right k (show a+1≤i by omega)
     rw[Nat.add_mul] at h3;omega
   rw[if_neg hne,ZhX hk ha hb]
   congr 2
   rw[List.getElem_set_ne (fun e=>hai e.symm)]
 ·rw[List.getElem?_eq_none (by rw[List.length_set,ZfJ hk];omega),List.getElem?_eq_none (by rw[ZfJ hk,List.length_set];omega)]
end
theorem foldSet (cs:List Value):∀(j off:Nat) (arr:Array Value),off+j+cs.length≤arr.size→
  ((cs.zipIdx j).foldl (fun a x=>a.setIfInBounds (off+x.2) x.1) arr).toList=arr.toList.take (off+j)++cs++arr.toList.drop (off+j+cs.length):=by
 induction cs with
 | nil=>intro j off arr h;simp
 | cons c cs ih=>
  intro j off arr h
  simp only[List.length_cons] at h
  rw[List.zipIdx_cons,List.foldl_cons,ih (j+1) off _ (by simp;omega)]
  simp only[Array.toList_setIfInBounds,List.length_cons]
  have hlt:off+j<arr.toList.length:=by simp;omega
  rw[show off+(j+1)=off+j+1 by omega,List.take_succ_eq_append_getElem (by simpa using hlt),List.take_set_of_le (Nat.le_refl _),List.getElem_set_self,List.drop_set_of_lt (by omega)]
  simp;congr 1;omega
theorem Zuv (k:Nat):∀(vs:List Value) (i0:Nat) (arr:Array Value),(∀v∈vs,v.cells.size=k)→arr.size=i0*k+vs.length*k→
  Instr.fill (fun i=>some (i*k,k)) arr ((vs.zipIdx i0).map fun x=>(x.2,x.1))=some (arr.toList.take (i0*k)++vs.flatMap (fun v=>v.cells.toList)).toArray
 | [],i0,arr,_,h=>by
  simp at h
  simp [Instr.fill]
  apply Array.ext'
  simp [List.take_of_length_le,h]
 | v::vs,i0,arr,hv,h=>by
  have hk:=hv v (by simp)
  simp only[List.length_cons,Nat.add_mul,Nat.one_mul] at h
  rw[List.zipIdx_cons,List.map_cons]
  unfold Instr.fill
  simp only
  rw[if_neg (by simp [hk];omega)]
  have hf:=foldSet v.cells.toList 0 (i0*k) arr (by simp [hk];omega)
  have harr:(Array.foldl (fun cs x=>cs.setIfInBounds (i0*k+x.2) x.1) arr v.cells.zipIdx)=(arr.toList.take (i0*k)++v.cells.toList++arr.toList.drop (i0*k+v.cells.toList.length)).toArray:=by
   apply Array.ext'
   rw[←Array.foldl_toList,Array.toList_zipIdx]
   simpa using hf
  have hcl:v.cells.toList.length=k:=by simp [hk]
  have e2:=Zuv k vs (i0+1) (arr.toList.take (i0*k)++v.cells.toList++arr.toList.drop (i0*k+v.cells.toList.length)).toArray (fun x hx=>hv x (by simp [hx])) (by
   simp [hcl,hk,Nat.add_mul];omega)
  have e3:(fun (cs:Array Value) (x:Value×Nat)=>match x with | (c,j)=>cs.setIfInBounds (i0*k+j) c)=fun cs x=>cs.setIfInBounds (i0*k+x.2) x.1:=by
   funext cs x;rfl
  rw[e3,harr,e2]
  congr 1
  apply Array.ext'
  simp only[List.toList_toArray,List.flatMap_cons]
  have hl1:(arr.toList.take (i0*k)).length=i0*k:=by simp;omega
  have g1:(arr.toList.take (i0*k)).take ((i0+1)*k)=arr.toList.take (i0*k):=List.take_of_length_le (by rw[hl1,Nat.add_mul];omega)
  have g2:v.cells.toList.take k=v.cells.toList:=List.take_of_length_le (by omega)
  rw[List.append_assoc,List.take_append,g1,hl1,List.take_append,hcl,show (i0+1)*k-i0*k=k by rw[Nat.add_mul];omega,g2]
  simp
theorem Za3 {P:Program} {S E:TypeId} {sz by_:Nat} {zc:Array Value} (hE:ElemOf P S E sz by_ zc) {w:World} {len:Nat} {ps:List (Nat×Value)} (vs:List Value) (hps:ps=(vs.zipIdx 0).map fun x=>(x.2,x.1)) (hv:∀v∈vs,v.cells.size=sz) (hl:len=vs.length) (hb:len*sz≤2^24)
  {K:Option Addr→Nat→Nat→World→Prop}
  (hK:∀w',SlAt w' sz (some ⟨w.heap.size,0,none⟩) len len (vs.flatMap (fun v=>v.cells.toList)) [w.heap.size]→Upd [] w w'→K (some ⟨w.heap.size,0,none⟩) len len w'):BSl P S len ps w K:=by
 subst hl
 have hs:∀l:List Value,(∀v∈l,v.cells.size=sz)→(l.flatMap (fun v=>v.cells.toList)).length=l.length*sz:=by
  intro l hl
  induction l with
  | nil=>simp
  | cons x l ih=>rw[List.flatMap_cons,List.length_append,ih (fun v hv=>hl v (by simp [hv])),List.length_cons,Nat.add_mul];simp [hl x (by simp)];omega
 refine Zui (cs:=vs.flatMap (fun v=>v.cells.toList)) hE ?_ (hs vs hv) hb hK
 rw[hps,Zuv sz vs 0 _ hv (by simp)]
 simp
end Go.D
set_option linter.unusedSimpArgs false
set_option linter.unusedVariables false
namespace Go.D
open Go
end Go.D
set_option linter.unusedSimpArgs false
set_option linter.unusedVariables false
namespace Go.D
open Go
def leafSame (P:Program) (t:TypeId) (a b:Value):Prop:=
 P.plainKey t=true∧∀(w:World) (d:Nat),∃r:Bool,(Op.equalIn (d+1) t a b).run P w=.ok r w∧(r=true↔a=b)
theorem Zup {P:Program} {t:TypeId} {k q:IntKind} (h:P.underlying t=some (.int q)) (a b:Int):leafSame P t (.int k a) (.int k b):=by
 refine⟨by unfold Program.plainKey;rw[h],fun w d=>⟨_,run_equalIn_int w d t k q a b h,by simp⟩⟩
def leafFields (P:Program):List Field→Nat→List Value→List Value→Prop
 | [],_,[],[]=>True
 | f :: fs, off, a :: as, b :: bs => f.name ≠ "_" ∧ f.offset=off ∧ leafSame P f.type a b ∧ leafFields P fs (off + 1) as bs
 | _,_,_,_=>False
theorem Zpc {P:Program} {w:World} {d:Nat} {xs ys:Array Value}:∀(fs:List Field) (off:Nat) (as bs:List Value),leafFields P fs off as bs→
  (∀i,i<as.length→xs[off+i]?=as[i]?)→(∀i,i<bs.length→ys[off+i]?=bs[i]?)→
  ∃r:Bool,(Op.eqFields (d+1) xs ys fs).run P w=.ok r w∧(r=true↔as=bs)
 | [],off,[],[],hf,hx,hy=>⟨true,by simp [Op.eqFields],by simp⟩
 | [],off,a::as,bs,hf,hx,hy=>by cases bs <;> exact hf.elim
 | [],off,[],b::bs,hf,hx,hy=>hf.elim
 | f::fs,off,[],bs,hf,hx,hy=>by cases bs <;> exact hf.elim
 | f::fs,off,a::as,[],hf,hx,hy=>hf.elim
 | f::fs,off,a::as,b::bs,⟨hn,ho,⟨hp,hl⟩,hr⟩,hx,hy=>by
  have h0:=hx 0 (by simp)
  have h1:=hy 0 (by simp)
  simp at h0 h1
  obtain⟨r,hr1,hr2⟩:=hl w d
  obtain⟨q,ih1,ih2⟩:=Zpc (P:=P) (w:=w) (d:=d) (xs:=xs) (ys:=ys) fs (off+1) as bs hr (fun i hi=>by have:=hx (i+1) (by simp;omega);rw[show off+(i+1)=off+1+i by omega] at this;simpa using this)
   (fun i hi=>by have:=hy (i+1) (by simp;omega);rw[show off+(i+1)=off+1+i by omega] at this;simpa using this)
  unfold Op.eqFields
  rw[if_pos hn,ho]
  simp only[Sem.run_bind,run_part_plain w hp h0,run_part_plain w hp h1,Result.andThen_ok,hr1]
  cases r with
  | true=>exact⟨q,by simpa using ih1,by rw[ih2];simp [hr2.1 rfl]⟩
  | false=>exact⟨false,by simp,by simp;intro h;simpa using hr2.2 h⟩
def plainFields (P:Program):List Field→Nat→Nat→Bool
 | [],_,n=>n==0
 | _::_,_,0=>false
 | f::fs,off,n+1=>(f.offset==off)&&P.plainKey f.type&&plainFields P fs (off+1) n
theorem Zp1 {P:Program} {t:TypeId} (h:P.plainKey t=true) (e:Bool) (n:Nat) (v:Value) (w:World):(Instr.checkKey e (n+1) t v).run P w=.ok () w:=by
 unfold Program.plainKey at h
 cases hu:P.underlying t with
 | none=>simp [hu] at h
 | some d=>cases d <;> simp [hu] at h <;> simp [Instr.checkKey,Zaa hu]
theorem keyStruct {P:Program} {kt:TypeId} {κ:Type} [DecidableEq κ] {inj:κ→Value} (cells:κ→List Value) (m:Nat) (hi:∀k,inj k=.agg (cells k).toArray) (hm:∀k,(cells k).length=m) (hinj:∀a b,cells a=cells b→a=b)
  (ht:P.underlying kt=some (.struct (P.fieldsOf kt))) (hp:P.stoodInHeld kt=false) (hf:plainFields P (P.fieldsOf kt).toList 0 m=true) (hl:∀a b,leafFields P (P.fieldsOf kt).toList 0 (cells a) (cells b))
  (hsb:∀k,∀v∈cells k,∀n,Instr.sameBits (n+1) v v=true):KeyOf P kt inj:=by
 have heq:∀(w:World) (a b:κ),(Op.equal kt (inj a) (inj b)).run P w=.ok (decide (a=b)) w:=by
  intro w a b
  rw[hi,hi]
  unfold Op.equal Op.maxDepth
  rw[run_equalIn_struct w 9999 kt _ _ ht hp]
  obtain⟨r,h1,h2⟩:=Zpc (w:=w) (d:=9998) (xs:=(cells a).toArray) (ys:=(cells b).toArray) (P.fieldsOf kt).toList 0 (cells a) (cells b) (hl a b) (fun i hi=>by simp) (fun i hi=>by simp)
  rw[h1]
  congr 1
  by_cases hab:a=b
  ·simp [hab];rw[h2,hab]
  ·simp [hab]
   cases r with
   | false=>rfl
   | true=>exact absurd (hinj a b (h2.1 rfl)) hab
 refine⟨⟨_,ht⟩,fun e n k w=>?_,fun w k es M hM=>?_,fun a n=>?_⟩
 ·rw[hi]
  unfold Instr.checkKey
  simp only[Sem.run_bind,Zaa ht,Result.andThen_ok]
  rw[←Array.forIn_toList]
  have hs:0+m≤(cells k).toArray.size:=by simp [hm]
  clear hsb hl heq hm
  generalize (cells k).toArray=cs at hs ⊢
  generalize (P.fieldsOf kt).toList=fs at hf ⊢
  generalize 0=off at hf hs
  induction fs generalizing off m with
  | nil=>simp
  | cons f fs ih=>
   cases m with
   | zero=>simp [plainFields] at hf
   | succ m=>
    simp [plainFields] at hf
    obtain⟨⟨ho,hp⟩,hr⟩:=hf
    have hx:cs[off]?=some cs[off]:=Array.getElem?_eq_getElem (by omega)
    have ih:=ih m (off+1) hr (by omega)
    rw[List.forIn_cons,ho]
    by_cases hn : f.name = "_"
    ·simp only[hn,ne_eq,not_true_eq_false,if_false,Sem.run_bind,Sem.run_pure,Result.andThen_ok]
     simpa using ih
    ·simp only[ne_eq,hn,not_false_eq_true,if_true,Sem.run_bind,Sem.run_pure,Result.andThen_ok,run_part_plain w hp hx,Zp1 hp]
     simpa using ih
 ·have hask:∀(es:List MapEntry) (M:List (κ×Value)) (i:Nat),es.map (fun e=>(e.key,e.val))=M.map (fun x=>(inj x.1,x.2))→(Instr.findAsking kt (inj k) es i).run P w=.ok (spot k M i) w:=by
   intro es
   induction es with
   | nil=>
    intro M i h
    cases M with
    | nil=>simp [Instr.findAsking,spot]
    | cons x M=>simp at h
   | cons e es ih=>
    intro M i h
    cases M with
    | nil=>simp at h
    | cons x M=>
     simp only[List.map_cons,List.cons.injEq,Prod.mk.injEq] at h
     have:=heq w k x.1
     rw[←h.1.1] at this
     unfold Instr.findAsking spot
     simp only[Sem.run_bind,this,Result.andThen_ok]
     by_cases hk:k=x.1
     ·simp [hk,h.1.2]
     ·simp only[hk,decide_false,if_false,Bool.false_eq_true]
      exact ih M (i+1) h.2
  unfold Instr.findKey
  simp only[Sem.run_bind,Zaa ht,Result.andThen_ok]
  cases es with
  | nil=>
   cases M with
   | nil=>simp [Instr.findNow,spot]
   | cons x M=>simp at hM
  | cons e es=>
   have:Instr.findNow (.struct (P.fieldsOf kt)) (inj k) (e::es) 0=none:=by
    unfold Instr.findNow
    simp [Instr.sameNow]
   rw[this]
   exact hask (e::es) M 0 hM
 ·rw[hi]
  simp only[Instr.sameBits,beq_self_eq_true,Bool.true_and]
  rw[List.all_eq_true]
  rintro⟨x,y⟩ hxy
  have h1:=List.of_mem_zip hxy
  have:x=y:=by
   obtain⟨i,hi,he⟩:=List.getElem_of_mem hxy
   rw[List.getElem_zip] at he
   simp at he
   exact he.1.symm.trans he.2
  subst this
  exact hsb a x (by simpa using h1.1) n
end Go.D
set_option linter.unusedSimpArgs false
set_option linter.unusedVariables false
namespace Go.D
open Go
theorem Zva {P:Program} {S E ty:TypeId} {sz by_:Nat} {zc:Array Value} (hE:ElemOf P S E sz by_ zc) {w:World} {p q:Option Addr} {N n c m d:Nat} {xs ys:List Value} {F G:List Nat}
  (hS:SlAt w sz p N c xs F) (hn:n+m≤N) (hT:SlAt w sz q m d ys G) (hone:∀v∈ys,v.oneCell'=true) {K:Option Addr→Nat→Nat→World→Prop}
  (hK:∀w',SlAt w' sz p N c (xs.take (n*sz)++ys++xs.drop ((n+m)*sz)) F→Upd F w w'→K p (n+m) c w') :
  App P #[S,S] ty #[.slice p n c,.slice q m d] w K:=by
 obtain⟨i,hi,hsz,hby,z,hz,hzc⟩:=hE.info
 have hy:=Zde (P:=P) hT
 have hyl:=hT.1
 have hxl:=hS.1
 have h1:(n+m)*sz=n*sz+m*sz:=Nat.add_mul ..
 have h2:(n+m)*sz≤N*sz:=Nat.mul_le_mul_right _ hn
 have h21:=hS.2.1
 have h3:N*sz≤c*sz:=Nat.mul_le_mul_right _ h21
 have hroom:n+m≤c:=by omega
 unfold App Run
 rcases hS.2.2 with ⟨rfl,rfl,rfl⟩ | ⟨b,off,arr,rfl,rfl,hblk,hs,hc⟩
 ·obtain rfl:n=0:=by omega
  obtain rfl:m=0:=by omega
  have hys:ys=[]:=by simpa using hyl
  subst hys
  have hrun:(Builtin.append_ #[S,S] ty #[.slice none 0 0,.slice q 0 d]).run P w=.ok (.slice none 0 0) w:=by
   simp [Builtin.append_,Zaa hE.und,sizeOf,typeInfo,hi,hsz,Builtin.lenOf,hy]
  rw[hrun]
  exact⟨_,_,_,rfl,hK w (by simpa using hS) (Upd.refl _ _)⟩
 ·obtain⟨w',arr',hr,hu,hb',hsz',g1,g2⟩:=ZkG (P:=P) ys (off+n*sz) 0 w arr hblk (by omega) hone
  have hrun:(Builtin.append_ #[S,S] ty #[.slice (some ⟨b,off,none⟩) n c,.slice q m d]).run P w=.ok (.slice (some ⟨b,off,none⟩) (n+m) c) w':=by
   simp [Builtin.append_,Zaa hE.und,sizeOf,typeInfo,hi,hsz,Builtin.lenOf,hroom,hy,addN,hr]
  rw[hrun]
  refine⟨_,_,_,rfl,hK w' ⟨?_,h21,.inr ⟨b,off,arr',rfl,rfl,hb',by omega,fun i hi=>?_⟩⟩ hu⟩
  ·rw[List.length_append,List.length_append,hyl,List.length_take,List.length_drop];omega
  ·have htl:(xs.take (n*sz)).length=n*sz:=by rw[List.length_take];omega
   by_cases ha:i<n*sz
   ·rw[List.append_assoc,List.getElem?_append_left (by omega),List.getElem?_take_of_lt ha,g2 (off+i) (.inl (by omega))]
    exact hc i hi
   ·by_cases hb2:i<(n+m)*sz
    ·rw[List.append_assoc,List.getElem?_append_right (by omega),List.getElem?_append_left (by omega)]
     have:=g1 (i-n*sz) (by omega)
     rw[show off+n*sz+0+(i-n*sz)=off+i by omega] at this
     rw[this,htl]
    ·rw[List.getElem?_append_right (by rw[List.length_append];omega),List.getElem?_drop,g2 (off+i) (.inr (by omega)),hc i hi,List.length_append,htl,hyl]
     congr 1;omega
end Go.D
set_option linter.unusedSimpArgs false
set_option linter.unusedVariables false
namespace Go.D
open Go
end Go.D
