import Derived.Test.YtdaenijbokialaaGreatGenC
import Derived.Tactics
import Derived.Tactics2
import Derived.Defers
import Derived.Laws.Pointers
import Derived.Laws.LoneSync
import Derived.RegionTactic
import Derived.RegionCalls
import Derived.ChangeAlike
import Derived.Test.YtdaenijbokialaaGreatOwn12
import Derived.Test.YtdaenijbokialaaGreatGenAll
namespace Go.Proofs.YtdaenijbokialaaGreat
open Go Go.Proofs
set_option linter.unusedVariables false
theorem disable (w:World):(callFunc 180 #[]).run Tryz.prog w=.ok (.value (.tuple #[])) w:=run_call_mark0 Tryz.func180 (by kernel_rfl) (by kernel_rfl) (by kernel_rfl) .disable (by kernel_rfl) w
theorem enable (w:World):(callFunc 182 #[]).run Tryz.prog w=.ok (.value (.tuple #[])) w:=run_call_mark0 Tryz.func182 (by kernel_rfl) (by kernel_rfl) (by kernel_rfl) .enable (by kernel_rfl) w
theorem acquire (a:Addr) (w:World):(callFunc 183 #[.pointer (some a)]).run Tryz.prog w=.ok (.value (.tuple #[])) w:=run_call_marked Tryz.func183 (by kernel_rfl) (by kernel_rfl) (by kernel_rfl) .acquire (by kernel_rfl) a w
theorem releaseMerge (a:Addr) (w:World):(callFunc 185 #[.pointer (some a)]).run Tryz.prog w=.ok (.value (.tuple #[])) w:=run_call_marked Tryz.func185 (by kernel_rfl) (by kernel_rfl) (by kernel_rfl) .releaseMerge (by kernel_rfl) a w
set_option maxRecDepth 100000 in
theorem Zr8 (a:Addr) (x:Value) (u:FrameMode) (w:World) (hc:w.cell? a=some x) (hz:w.frozen? a=false) :
  CallsD Tryz.prog 175 #[.pointer (some a),.bool true] u w fun e u' w'=>u'=u∧(e=.returned (.tuple #[])∧w'=w.drew.setCell a (.int .u32 1)):=by
 have hc':w.drew.cell? a=some x:=by go_simp
 have hz':w.drew.frozen? a=false:=by go_simp
 have hst:=run_call_store (P:=Tryz.prog) Tryz.func178 (by kernel_rfl) (by kernel_rfl) (by kernel_rfl) (by kernel_rfl) (k:=.u32) (y:=1) hc' hz'
 go_enter_d Tryz.func175,Tryz.ntmps175
 go_wp2
 go_region_calls
 all_goals (go_end0;exact⟨rfl,rfl⟩)
set_option maxRecDepth 100000 in
theorem ZrY (a:Addr) (u:FrameMode) (w:World) (hc:w.cell? a=some (.int .i32 1)) (hz:w.frozen? a=false) :
  CallsD Tryz.prog 174 #[.pointer (some a)] u w fun e u' w'=>u'=u∧(e=.returned (.tuple #[])∧w'=w.setCell a (.int .i32 0)):=by
 have hd:=disable
 have he:=enable
 have hr:=releaseMerge
 have hadd:=run_call_add (P:=Tryz.prog) Tryz.func186 (by kernel_rfl) (by kernel_rfl) (by kernel_rfl) .i32 (by kernel_rfl) (y:=-1) (s:=0) hc hz (by simp [go_sem];rfl)
 have hcv:=run_convert_to_unsafe (P:=Tryz.prog) (src:=250) (dst:=254) Tryz.underlying250 Tryz.underlying254 (by kernel_rfl) hc
 go_enter_d Tryz.func174,Tryz.ntmps174
 go_wp2
 go_end0
 go_wp2
 go_end0
 exact⟨rfl,rfl⟩
set_option maxRecDepth 100000 in
theorem ZvM (a:Addr) (w:World) (hc:w.cell? a=some (.int .i32 0)) (hz:w.frozen? a=false) :
  Calls Tryz.prog 173 #[.pointer (some a)] w fun e w'=>e=.returned (.tuple #[])∧w'=w.setCell a (.int .i32 1):=by
 have hd:=disable
 have he:=enable
 have ha:=acquire
 have hcas:=run_call_cas_hit (P:=Tryz.prog) Tryz.func181 (by kernel_rfl) (by kernel_rfl) (by kernel_rfl) .i32 (by kernel_rfl) (y:=1) hc hz
 have hc':(w.setCell a (.int .i32 1)).cell? a=some (.int .i32 1):=World.cell?_setCell_same w a _ hc
 have hcv:=run_convert_to_unsafe (P:=Tryz.prog) (src:=250) (dst:=254) Tryz.underlying250 Tryz.underlying254 (by kernel_rfl) hc'
 go_enter Tryz.func173,Tryz.ntmps173
 go_wp2
 first | go_end0 | (simp only[Exit.inBlock,Exit.then];refine bodyPost_ret (results_none rfl _ _ _) rfl ?_) | refine bodyPost_ret (results_none rfl _ _ _) rfl ?_
 go_wp2
 go_end0
 exact⟨rfl,rfl⟩
set_option maxRecDepth 100000 in
set_option maxHeartbeats 1600000 in
theorem Zw7 (b:Nat) (w:World) (Q:World→Prop)
  (h0:w.cell? ⟨b,0,none⟩=some (.int .u32 0)) (h1:w.cell? ⟨b,1,none⟩=some (.int .i32 0)) (f0:w.frozen? ⟨b,0,none⟩=false) (f1:w.frozen? ⟨b,1,none⟩=false)
  (hf:Calls Tryz.prog 157 #[.pointer (some ⟨b,0,none⟩)] (w.setCell ⟨b,1,none⟩ (.int .i32 1)) fun e w'=>e=.returned (.tuple #[])∧Q w')
  (hQ:∀w',Q w'→w'.cell? ⟨b,0,none⟩=some (.int .u32 0)∧w'.cell? ⟨b,1,none⟩=some (.int .i32 1)∧w'.frozen? ⟨b,0,none⟩=false∧w'.frozen? ⟨b,1,none⟩=false) :
  Calls Tryz.prog 168 #[.pointer (some ⟨b,0,none⟩),.func (.func 157) #[.pointer (some ⟨b,0,none⟩)] #[]] w fun e w'=>e=.returned (.tuple #[])∧
   ∃w2,Q w2∧w'=(w2.drew.setCell ⟨b,0,none⟩ (.int .u32 1)).setCell ⟨b,1,none⟩ (.int .i32 0):=by
 have hl:=run_call_load (P:=Tryz.prog) Tryz.func172 (by kernel_rfl) (by kernel_rfl) (by kernel_rfl) .u32 (by kernel_rfl) (w:=w.setCell ⟨b,1,none⟩ (.int .i32 1)) (a:=⟨b,0,none⟩) (x:=0) ((World.cell?_setCell_other _ ⟨b,1,none⟩ ⟨b,0,none⟩ _ (by simp)).trans h0)
 have hnot:∀(x:Bool) (w:World),(Op.unary .not (.bool x)).run Tryz.prog w=.ok (.bool (!x)) w:=fun _ _=>rfl
 go_enter_defers Tryz.func168,Tryz.ntmps168
 go_wp2_with (first
  | (go_at_call 173;refine(ZvM ⟨b,1,none⟩ _ (by go_simp) (by go_simp)).mono ?_;rintro e w' ⟨rfl,rfl⟩)
  | (go_at_call 157;refine hf.mono ?_;rintro e w' ⟨rfl,hq⟩)
  | go_in)
 obtain⟨q0,q1,z0,z1⟩:=hQ _ hq
 unfold bodyPostD
 refine leaves_cons (f:=175) (args:=#[.pointer (some ⟨b,0,none⟩),.bool true]) (by simp) (by simp [go_sem]) ?_
 refine(Zr8 ⟨b,0,none⟩ (.int .u32 0) .returning _ q0 z0).mono ?_
 rintro e u' w'' ⟨rfl,rfl,rfl⟩
 refine leaves_cons (f:=174) (args:=#[.pointer (some ⟨b,1,none⟩)]) (by simp [settle]) (by simp [go_sem]) ?_
 refine(ZrY ⟨b,1,none⟩ _ _ ?_ (by simp [z1])).mono ?_
 ·refine(World.cell?_setCell_other _ ⟨b,0,none⟩ ⟨b,1,none⟩ _ (by simp)).trans ?_
  rw[World.cell?_drew]
  exact q1
 rintro e u' w'' ⟨rfl,rfl,rfl⟩
 simp only[Leaves,settle,results,Tryz.results168]
 refine⟨.tuple #[],?_,?_⟩
 ·simp
 ·exact⟨rfl,_,hq,rfl⟩
open Go.D
set_option linter.unusedSimpArgs false
set_option maxRecDepth 8000
structure Slot where
 name:ByteArray
 is:Bool
 mark:Bool
instance:Inhabited Slot:=⟨⟨⟨#[]⟩,false,false⟩⟩
def slC (s:Slot):List Value:=[.string s.name,.bool s.is,.bool s.mark]
theorem ZhH (s:Slot):(slC s).length=3:=rfl
def resL:List ByteArray:=[⟨#[91,93]⟩,⟨#[46]⟩,⟨#[123,125]⟩,⟨#[45]⟩,⟨#[44]⟩,⟨#[59]⟩,⟨#[45,62]⟩,⟨#[58,45]⟩,⟨#[124]⟩,⟨#[33]⟩,⟨#[92,43]⟩,⟨#[116,114,117,101]⟩,⟨#[102,97,105,108]⟩,⟨#[99,97,108,108]⟩,⟨#[101,114,114,111,114]⟩]
def initL:List Slot:=resL.map fun n=>⟨n,true,false⟩
def cntIs (L:List Slot):Int:=(L.map fun s=>if s.is then (1:Int) else 0).sum
theorem ZoE {L:List Slot}:∀{i:Nat} (hi:i<L.length) (y:Slot),cntIs (L.set i y)=cntIs L-(if L[i].is then 1 else 0)+(if y.is then 1 else 0):=by
 induction L with
 | nil=>intro i hi;simp at hi
 | cons r rs ih=>
  intro i hi y
  unfold cntIs at *
  cases i with
  | zero=>simp only[List.set_cons_zero,List.map_cons,List.sum_cons,List.getElem_cons_zero];omega
  | succ i=>simp only[List.set_cons_succ,List.map_cons,List.sum_cons,List.getElem_cons_succ];rw[ih (by simpa using hi)];omega
theorem ZoF (L:List Slot) (y:Slot):cntIs (L++[y])=cntIs L+if y.is then 1 else 0:=by
 unfold cntIs;simp [List.sum_append]
structure AtM (L:List Slot) (M:List (ByteArray×Value)) (E:List Int):Prop where
 res:∀i,i<15→∃m,L[i]?=some ⟨resL[i]?.getD ⟨#[]⟩,true,m⟩
 once:Once M
 ml:(M.length:Int)=cntIs L
 look1:∀i s,L[i]?=some s→s.is=true→Go.D.look s.name M=some (.int .i64 (i:Nat))
 look2:∀n v,Go.D.look n M=some v→∃i s,L[i]?=some s∧s.is=true∧s.name=n∧v=.int .i64 (i:Nat)
 nodup:E.Nodup
 emem:∀k:Int,k∈E↔∃(i:Nat) (s:Slot),k=i∧L[i]?=some s∧s.is=false
theorem AtM.len {L:List Slot} {M:List (ByteArray×Value)} {E:List Int} (h:AtM L M E):15≤L.length:=by
 obtain⟨m,hm⟩:=h.res 14 (by omega)
 obtain⟨hl,_⟩:=List.getElem?_eq_some_iff.1 hm
 omega
theorem Zp4 {M:List (ByteArray×Value)} {n:ByteArray} (h:∀v,Go.D.look n M≠some v):Go.D.look n M=none:=by
 cases hl:Go.D.look n M with
 | none=>rfl
 | some v=>exact absurd hl (h v)
section
variable {L:List Slot} {M:List (ByteArray×Value)} {E:List Int}
theorem AtM.one (h:AtM L M E) {i j:Nat} {s t:Slot} (hi:L[i]?=some s) (hj:L[j]?=some t) (hs:s.is=true) (ht:t.is=true) (hn:s.name=t.name):i=j:=by
 have a:=h.look1 i s hi hs
 have b:=h.look1 j t hj ht
 rw[hn,b] at a
 simp at a
 omega
theorem AtM.mark {i:Nat} {s:Slot} {m:Bool} (h:AtM L M E) (hi:L[i]?=some s):AtM (L.set i ⟨s.name,s.is,m⟩) M E:=by
 obtain⟨hil,he⟩:=List.getElem?_eq_some_iff.1 hi
 have get:∀(j:Nat) (t:Slot),(L.set i ⟨s.name,s.is,m⟩)[j]?=some t→∃u:Slot,L[j]?=some u∧u.name=t.name∧u.is=t.is:=fun j t ht=>by
  by_cases hij:i=j
  ·subst hij
   rw[List.getElem?_set_self hil] at ht
   rw[←Option.some.inj ht];exact⟨s,hi,rfl,rfl⟩
  ·rw[List.getElem?_set_ne hij] at ht
   exact⟨t,ht,rfl,rfl⟩
 have get':∀(j:Nat) (u:Slot),L[j]?=some u→∃t:Slot,(L.set i ⟨s.name,s.is,m⟩)[j]?=some t∧u.name=t.name∧u.is=t.is:=fun j u hu=>by
  by_cases hij:i=j
  ·subst hij
   rw[hi] at hu
   rw[List.getElem?_set_self hil,←Option.some.inj hu];exact⟨_,rfl,rfl,rfl⟩
  ·rw[List.getElem?_set_ne hij]
   exact⟨u,hu,rfl,rfl⟩
 refine⟨fun j hj=>?_,h.once,?_,fun j t ht his=>?_,fun n v hv=>?_,h.nodup,fun k=>?_⟩
 ·obtain⟨m',hm'⟩:=h.res j hj
  obtain⟨t,ht,h1,h2⟩:=get' j _ hm'
  exact⟨t.mark,by rw[ht];cases t;simp_all⟩
 ·rw[ZoE hil,he,h.ml];simp only;split <;> omega
 ·obtain⟨u,hu,h1,h2⟩:=get j t ht
  rw[←h1];exact h.look1 j u hu (by rw[h2];exact his)
 ·obtain⟨j,u,hu,h1,h2,h3⟩:=h.look2 n v hv
  obtain⟨t,ht,h4,h5⟩:=get' j u hu
  exact⟨j,t,ht,by rw[←h5];exact h1,by rw[←h4];exact h2,h3⟩
 ·rw[h.emem k]
  constructor
  ·rintro⟨j,u,hk,hu,h1⟩
   obtain⟨t,ht,h4,h5⟩:=get' j u hu
   exact⟨j,t,hk,ht,by rw[←h5];exact h1⟩
  ·rintro⟨j,t,hk,ht,h1⟩
   obtain⟨u,hu,h4,h5⟩:=get j t ht
   exact⟨j,u,hk,hu,by rw[h5];exact h1⟩
theorem AtM.fill {i:Nat} {s:Slot} {n:ByteArray} (h:AtM L M ((i:Int)::E)) (hi:L[i]?=some s) (his:s.is=false) (hn:Go.D.look n M=none):AtM (L.set i ⟨n,true,false⟩) (put n (.int .i64 (i:Nat)) M) E:=by
 obtain⟨hil,he⟩:=List.getElem?_eq_some_iff.1 hi
 have hnd:=List.nodup_cons.1 h.nodup
 refine⟨fun j hj=>?_,h.once.put,?_,fun j t ht hj=>?_,fun m v hv=>?_,hnd.2,fun k=>?_⟩
 ·have hij:¬i=j:=fun e=>by
   subst e
   obtain⟨m,hm⟩:=h.res i hj
   rw[hi] at hm
   rw[Option.some.inj hm] at his;cases his
  rw[List.getElem?_set_ne hij];exact h.res j hj
 ·have h2:=h.ml
  rw[ZlM,hn,ZoE hil,he,his];simp;omega
 ·by_cases hij:i=j
  ·subst hij
   rw[List.getElem?_set_self hil] at ht
   rw[←Option.some.inj ht,ZfL,if_pos rfl]
  ·rw[List.getElem?_set_ne hij] at ht
   have h1:=h.look1 j t ht hj
   rw[ZfL,if_neg fun e=>by rw[e,hn] at h1;cases h1]
   exact h1
 ·rw[ZfL] at hv
  split at hv
  ·rename_i hm
   refine⟨i,⟨n,true,false⟩,List.getElem?_set_self hil,rfl,hm.symm,(Option.some.inj hv).symm⟩
  ·obtain⟨j,t,ht,h1,h2,h3⟩:=h.look2 m v hv
   refine⟨j,t,?_,h1,h2,h3⟩
   rw[List.getElem?_set_ne fun hij=>?_]
   ·exact ht
   ·subst hij
    rw[hi] at ht
    rw[←Option.some.inj ht,his] at h1;cases h1
 ·have hk:=h.emem k
  constructor
  ·intro hx
   obtain⟨j,t,h1,ht,h2⟩:=hk.1 (List.mem_cons_of_mem _ hx)
   refine⟨j,t,h1,?_,h2⟩
   rw[List.getElem?_set_ne fun hij=>?_]
   ·exact ht
   ·subst hij
    rw[h1] at hx;exact hnd.1 hx
  ·rintro⟨j,t,h1,ht,h2⟩
   by_cases hij:i=j
   ·subst hij
    rw[List.getElem?_set_self hil] at ht
    rw[←Option.some.inj ht] at h2;cases h2
   ·rw[List.getElem?_set_ne hij] at ht
    rcases List.mem_cons.1 (hk.2 ⟨j,t,h1,ht,h2⟩) with e | e
    ·omega
    ·exact e
theorem AtM.grow {n:ByteArray} (h:AtM L M E) (hn:Go.D.look n M=none):AtM (L++[⟨n,true,false⟩]) (put n (.int .i64 (L.length:Nat)) M) E:=by
 have hl:=h.len
 have get:∀j t,(L++[⟨n,true,false⟩])[j]?=some t→(j<L.length∧L[j]?=some t)∨(j=L.length∧t=⟨n,true,false⟩):=fun j t ht=>by
  by_cases hj:j<L.length
  ·rw[List.getElem?_append_left hj] at ht;exact .inl ⟨hj,ht⟩
  ·rw[List.getElem?_append_right (by omega)] at ht
   obtain⟨h1,h2⟩:=List.getElem?_eq_some_iff.1 ht
   simp at h1
   right
   refine⟨by omega,?_⟩
   have:j-L.length=0:=by omega
   simp [this] at h2;exact h2.symm
 have old:∀j t,L[j]?=some t→(L++[⟨n,true,false⟩])[j]?=some t:=fun j t ht=>by
  rw[List.getElem?_append_left (List.getElem?_eq_some_iff.1 ht).1];exact ht
 refine⟨fun j hj=>?_,h.once.put,?_,fun j t ht hj=>?_,fun m v hv=>?_,h.nodup,fun k=>?_⟩
 ·obtain⟨m,hm⟩:=h.res j hj
  exact⟨m,old j _ hm⟩
 ·have h2:=h.ml
  rw[ZlM,hn,ZoF];simp;omega
 ·rcases get j t ht with ⟨_,h1⟩ | ⟨h1,rfl⟩
  ·have h2:=h.look1 j t h1 hj
   rw[ZfL,if_neg fun e=>by rw[e,hn] at h2;cases h2]
   exact h2
  ·rw[ZfL,if_pos rfl,h1]
 ·rw[ZfL] at hv
  split at hv
  ·rename_i hm
   refine⟨L.length,⟨n,true,false⟩,by rw[List.getElem?_append_right (Nat.le_refl _)];simp,rfl,hm.symm,(Option.some.inj hv).symm⟩
  ·obtain⟨j,t,ht,h1,h2,h3⟩:=h.look2 m v hv
   exact⟨j,t,old j t ht,h1,h2,h3⟩
 ·rw[h.emem k]
  constructor
  ·rintro⟨j,t,h1,ht,h2⟩;exact⟨j,t,h1,old j t ht,h2⟩
  ·rintro⟨j,t,h1,ht,h2⟩
   rcases get j t ht with ⟨_,h3⟩ | ⟨h3,rfl⟩
   ·exact⟨j,t,h1,h3,h2⟩
   ·cases h2
def findN (L:List Slot) (n:ByteArray):Option Nat:=L.findIdx? fun s=>s.is&&decide (s.name=n)
def freeN (L:List Slot):Option Nat:=L.findIdx? fun s=>!s.is
theorem AtM.find (h:AtM L M E) (n:ByteArray):Go.D.look n M=(findN L n).map fun i=>.int .i64 (i:Nat):=by
 unfold findN
 rcases hf:L.findIdx? _ with _ | i
 ·rw[List.findIdx?_eq_none_iff] at hf
  refine Zp4 fun v hv=>?_
  obtain⟨i,s,hi,his,hn,_⟩:=h.look2 n v hv
  have:=hf s (List.mem_of_getElem? hi)
  simp [his,hn] at this
 ·rw[List.findIdx?_eq_some_iff_getElem] at hf
  obtain⟨hi,hp,_⟩:=hf
  simp at hp
  have:=h.look1 i _ (List.getElem?_eq_getElem hi) hp.1
  rw[hp.2] at this
  exact this
theorem AtM.free_none (h:AtM L M []):freeN L=none:=by
 unfold freeN
 rw[List.findIdx?_eq_none_iff]
 intro s hs
 obtain⟨i,hi,rfl⟩:=List.getElem_of_mem hs
 cases hb:L[i].is with
 | true=>rfl
 | false=>
  have:=(h.emem i).2 ⟨i,_,rfl,List.getElem?_eq_getElem hi,hb⟩
  cases this
theorem AtM.free_some {k:Int} (h:AtM L M (k::E)) (ha:(k::E).Pairwise (· < ·)):∃i s,k=(i:Nat)∧freeN L=some i∧L[i]?=some s∧s.is=false:=by
 obtain⟨i,s,hk,hi,his⟩:=(h.emem k).1 (by simp)
 refine⟨i,s,hk,?_,hi,his⟩
 obtain⟨hil,he⟩:=List.getElem?_eq_some_iff.1 hi
 unfold freeN
 rw[List.findIdx?_eq_some_iff_getElem]
 refine⟨hil,by rw[he,his];rfl,fun j hj=>?_⟩
 cases hb:(L[j]'(by omega)).is with
 | true=>simp
 | false=>
  have:=(h.emem j).2 ⟨j,_,rfl,List.getElem?_eq_getElem (by omega),hb⟩
  rcases List.mem_cons.1 this with e | e
  ·omega
  ·have:=(List.pairwise_cons.1 ha).1 _ e;omega
end
def resM:Nat→List (ByteArray×Value)
 | 0=>[]
 | i+1=>put (resL[i]?.getD ⟨#[]⟩) (.int .i64 (i:Nat)) (resM i)
theorem Zvt:∀i j,i<15→j<15→resL[i]?=resL[j]?→i=j:=by
 have h:resL.Nodup:=by decide
 intro i j hi hj he
 have h1:resL.length=15:=rfl
 have:=(List.getElem?_inj (by omega) h).1 he
 exact this
theorem Zvs:∀i,i≤15→Once (resM i)∧(resM i).length=i∧(∀j,j<i→Go.D.look (resL[j]?.getD ⟨#[]⟩) (resM i)=some (.int .i64 (j:Nat)))∧∀n v,Go.D.look n (resM i)=some v→∃j,j<i∧n=resL[j]?.getD ⟨#[]⟩∧v=.int .i64 (j:Nat)
 | 0,_=>⟨List.nodup_nil,rfl,fun j hj=>by omega,fun n v hv=>by cases hv⟩
 | i+1,hi=>by
  obtain⟨h1,h2,h3,h4⟩:=Zvs i (by omega)
  have h15:resL.length=15:=rfl
  have inj:∀j,j≤i→resL[j]?.getD ⟨#[]⟩=resL[i]?.getD ⟨#[]⟩→j=i:=fun j hj he=>by
   rw[List.getElem?_eq_getElem (show j<resL.length by omega),List.getElem?_eq_getElem (show i<resL.length by omega)] at he
   refine Zvt j i (by omega) (by omega) ?_
   rw[List.getElem?_eq_getElem (show j<resL.length by omega),List.getElem?_eq_getElem (show i<resL.length by omega)]
   simpa using he
  have hno:Go.D.look (resL[i]?.getD ⟨#[]⟩) (resM i)=none:=Zp4 fun v hv=>by
   obtain⟨j,hj,hn,_⟩:=h4 _ v hv
   have:=inj j (by omega) hn.symm;omega
  refine⟨h1.put,?_,fun j hj=>?_,fun n v hv=>?_⟩
  ·show (put _ _ (resM i)).length=_
   rw[ZlM,hno];simp [h2]
  ·show Go.D.look _ (put _ _ (resM i))=_
   rw[ZfL]
   by_cases hji:j=i
   ·subst hji;rw[if_pos rfl]
   ·rw[if_neg fun e=>hji (inj j (by omega) e)]
    exact h3 j (by omega)
  ·have hv:Go.D.look n (put _ _ (resM i))=some v:=hv
   rw[ZfL] at hv
   split at hv
   ·rename_i hn
    exact⟨i,by omega,hn,(Option.some.inj hv).symm⟩
   ·obtain⟨j,hj,hn⟩:=h4 n v hv
    exact⟨j,by omega,hn⟩
theorem Zp9 {i:Nat} (hi:i<15):initL[i]?=some ⟨resL[i]?.getD ⟨#[]⟩,true,false⟩:=by
 have h15:resL.length=15:=rfl
 unfold initL
 rw[List.getElem?_map,List.getElem?_eq_getElem (by omega)];rfl
theorem Zv4:AtM initL (resM 15) []:=by
 obtain⟨h1,h2,h3,h4⟩:=Zvs 15 (Nat.le_refl _)
 have hl:initL.length=15:=rfl
 refine⟨fun i hi=>⟨false,Zp9 hi⟩,h1,by rw[h2];rfl,fun i s hs his=>?_,fun n v hv=>?_,List.nodup_nil,fun k=>?_⟩
 ·have hi:=(List.getElem?_eq_some_iff.1 hs).1
  rw[Zp9 (by omega)] at hs
  rw[←Option.some.inj hs]
  exact h3 i (by omega)
 ·obtain⟨j,hj,hn,hv⟩:=h4 n v hv
  exact⟨j,_,Zp9 hj,rfl,hn.symm,hv⟩
 ·constructor
  ·intro h;cases h
  ·rintro⟨i,s,_,hs,his⟩
   have hi:=(List.getElem?_eq_some_iff.1 hs).1
   rw[Zp9 (by omega)] at hs
   rw[←Option.some.inj hs] at his;cases his
open Go.D
structure AtD where
 b:Nat
 lp:Option Addr
 ln:Nat
 lc:Nat
 r:Nat
 gp:Option Addr
 gn:Nat
 gc:Nat
 made:Int
 lim:Int
 L:List Slot
 M:List (ByteArray×Value)
 E:List Int
 GL:List Nat
 GE:List Nat
def AtD.a (d:AtD):Option Addr:=some ⟨d.b,0,none⟩
def AtD.FT (d:AtD):List Nat:=d.b::d.r::(d.GL++d.GE)
def nV (a:ByteArray):Value:=.string a
def atBlk (once lock made lim:Int) (lp:Option Addr) (ln lc:Nat) (r:Option Nat) (gp:Option Addr) (gn gc:Nat):Array Value:=
 #[.int .u32 once,.int .i32 lock,.int .u32 0,.int .i64 made,.int .i64 lim,.slice lp ln lc,.map r,.slice gp gn gc]
structure Tb' (once lock:Int) (w:World) (d:AtD):Prop where
 blk:Blk w d.b (atBlk once lock d.made d.lim d.lp d.ln d.lc (some d.r) d.gp d.gn d.gc)
 l:SlAt w 3 d.lp d.ln d.lc (d.L.flatMap slC) d.GL
 map:MapAt w d.r nV d.M
 e:SlAt w 1 d.gp d.gn d.gc (d.E.map (.int .i64)) d.GE
 br:d.b≠d.r
 bL:d.b∉d.GL
 bE:d.b∉d.GE
 rL:d.r∉d.GL
 rE:d.r∉d.GE
 LE:Dis d.GL d.GE
abbrev Tb:=Tb' 1 0
structure AtOk (d:AtD):Prop where
 at':AtM d.L d.M d.E
 asc:d.E.Pairwise (· < ·)
 ll:d.L.length≤d.lim
 lim:d.lim≤16384
 made:0≤d.made∧d.made≤2^40
theorem keyName:KeyOf Tryz.prog 9 nV:=keyString (by rfl)
section
variable {w:World} {d:AtD} {on lo:Int}
theorem Tb'.upd {w':World} {F:List Nat} (h:Tb' on lo w d) (u:Upd F w w') (hd:Dis d.FT F):Tb' on lo w' d:=
 ⟨h.blk.upd u (hd _ (by simp [AtD.FT])),h.l.upd u (fun k hk=>hd k (by simp [AtD.FT,hk])),h.map.upd u (hd _ (by simp [AtD.FT])),h.e.upd u (fun k hk=>hd k (by simp [AtD.FT,hk])),h.br,h.bL,h.bE,h.rL,h.rE,h.LE⟩
theorem Tb'.keep {w':World} (h:Tb' on lo w d) (u:Upd [] w w'):Tb' on lo w' d:=h.upd u (by intro k _ h;cases h)
theorem Tb'.inn (h:Tb' on lo w d):In d.FT w:=fun k hk=>by
 rcases List.mem_cons.1 hk with rfl | hk
 ·exact h.blk.lt
 rcases List.mem_cons.1 hk with rfl | hk
 ·exact h.map.lt
 rcases List.mem_append.1 hk with hk | hk
 ·exact h.l.inn k hk
 ·exact h.e.inn k hk
theorem Tb'.len (h:Tb' on lo w d):d.ln=d.L.length:=by
 have:=h.l.1
 rw[ZfJ ZhH] at this;omega
theorem Tb'.elen (h:Tb' on lo w d):d.gn=d.E.length:=by have:=h.e.1;simp at this;exact this.symm
theorem Tb'.slot (h:Tb' on lo w d) {i:Nat} (hi:i<d.L.length):∃b off,d.lp=some ⟨b,off,none⟩∧w.cell? ⟨b,off+i*3,none⟩=some (.string d.L[i].name)∧w.cell? ⟨b,off+i*3+1,none⟩=some (.bool d.L[i].is)∧w.cell? ⟨b,off+i*3+2,none⟩=some (.bool d.L[i].mark):=by
 have hn:=h.len
 rcases h.l.2.2 with ⟨_,hc,_⟩ | ⟨b,off,arr,hp,hG,hb,hs,hc⟩
 ·have:=h.l.2.1;omega
 ·refine⟨b,off,hp,?_,?_,?_⟩
  ·rw[hb.cell,hc _ (by omega),←Nat.add_zero (i*3),ZhX ZhH hi (by omega)];rfl
  ·rw[hb.cell,Nat.add_assoc,hc _ (by omega),ZhX ZhH hi (by omega)];rfl
  ·rw[hb.cell,Nat.add_assoc,hc _ (by omega),ZhX ZhH hi (by omega)];rfl
theorem Zuj {b o:Nat} {x y:Int} {arr:Array Value} {K:Int→World→Prop} (h:Blk w b arr) (ho:arr[o]?=some (.int .i64 x)) (hb:-2^60≤x+y∧x+y≤2^60) (hK:∀w',Upd [b] w w'→Blk w' b (arr.setIfInBounds o (.int .i64 (x+y)))→K (x+y) w'):ZaK (some ⟨b,o,none⟩) y w K:=by
 apply ZaK.of
 unfold ZfK
 simp only[Zch,addN,Nat.add_zero]
 obtain⟨ho1,_⟩:=Array.getElem?_eq_some_iff.1 ho
 have hrun:=run_call_add (P:=Tryz.prog) Tryz.func158 (by kernel_rfl) (by kernel_rfl) (by kernel_rfl) .i64 (by kernel_rfl) (a:=⟨b,o,none⟩) (x:=x) (y:=y) (s:=IntKind.i64.wrap (x+y)) (w:=w) (by rw[h.cell];exact ho) (h.frozen ho1) rfl
 rw[i64id (by omega) (by omega)] at hrun
 exact⟨_,_,hrun,x+y,rfl,hK _ (Zkz w b o _) (h.set o _)⟩
theorem Zrz {b o:Nat} {x:Int} {K:Bool→World→Prop} (hc:w.cell? ⟨b,o,none⟩=some (.int .u32 x)) (hK:K (x != 0) w):ZaM (some ⟨b,o,none⟩) w K:=by
 apply ZaM.of
 unfold ZfU
 simp only[Zch,addN,Nat.add_zero]
 refine⟨_,w,run_call_load (P:=Tryz.prog) Tryz.func172 (by kernel_rfl) (by kernel_rfl) (by kernel_rfl) .u32 (by kernel_rfl) (a:=⟨b,o,none⟩) (x:=x) hc,x,rfl,hK⟩
theorem Zpq {K:Option Addr→Nat→Nat→World→Prop} (hK:∀w',SlAt w' 1 (some ⟨w.heap.size,0,none⟩) 15 15 (resL.map .string) [w.heap.size]→Upd [] w w'→K (some ⟨w.heap.size,0,none⟩) 15 15 w'):ZcI w K:=by
 apply ZcI.of
 unfold ZlU
 refine Za3 Zx3 (resL.map .string) (by rfl) (by simp [Value.cells,resL]) (by rfl) (by omega) fun w1 hs u=>hK w1 ?_ u
 have e:(resL.map Value.string).flatMap (fun v=>v.cells.toList)=resL.map Value.string:=by rfl
 rw[e] at hs
 exact hs
theorem Zwu {b:Nat} {lim:Int} {R:World→Prop} (hb:Blk w b (atBlk 0 1 0 lim none 0 0 none none 0 0)) (hR:∀w' d,Tb' 0 1 w' d→d.b=b→d.L=initL→d.M=resM 15→d.E=[]→d.made=0→d.lim=lim→Upd [b] w w'→Sub d.FT [b] w→R w'):ZcE (some ⟨b,0,none⟩) w R:=by
 apply ZcE.of
 unfold Zjm Zhi
 unfold atBlk at hb
 have hlt:=hb.lt
 refine ZmQ fun r w1 hr u1 hm0=>?_
 have hm1:=MapAt.new nV hm0
 have hb1:=hb.upd u1 (by simp)
 simp only[Zch,addN,Nat.zero_add]
 refine Zbi hb1 (by simp) rfl fun w2 u2 hb2=>?_
 simp at hb2
 have hm2:=hm1.upd u2 (by simp;omega)
 refine Zpq fun w3 hs3 u3=>?_
 have hb3:=hb2.upd u3 (by simp)
 have hm3:=hm2.upd u3 (by simp)
 have V3:Upd [b] w w3:=(u1.after u2).before u3
 have hsz3:=u3.size
 have hsz2:=u2.size
 have hsz1:=u1.size
 have hrlt:=hm1.lt
 have h15:resL.length=15:=rfl
 refine⟨fun s v=>0≤s.t10∧s.t10≤15∧∃lp ln lc GL,Blk v b #[.int .u32 0,.int .i32 1,.int .u32 0,.int .i64 0,.int .i64 lim,.slice lp ln lc,.map (some r),.slice none 0 0]∧SlAt v 3 lp ln lc ((initL.take s.t10.toNat).flatMap slC) GL∧MapAt v r nV (resM s.t10.toNat)∧SlAt v 1 (some ⟨w2.heap.size,0,none⟩) 15 15 (resL.map .string) [w2.heap.size]∧Since GL w3∧Upd [b,r] w3 v,fun s _=>(15-s.t10).toNat,
  ⟨by simp,by simp,none,0,0,[],hb3,SlAt.nil _ _,hm3,hs3,(by intro k hk;cases hk),Upd.refl _ _⟩,?_⟩
 rintro⟨i⟩ v ⟨hi0,hi1,lp,ln,lc,GL,hbv,hl,hm,hs,hG,U⟩
 dsimp only at hi0 hi1 hl hm
 unfold Zg2
 dsimp only
 have hln:ln=i.toNat:=by
  have:=hl.1
  rw[ZfJ ZhH,List.length_take] at this
  have e:initL.length=15:=rfl
  omega
 have hszU:=U.size
 have hbG:b∉GL:=fun hx=>by have:=hG b hx;omega
 have hrG:r∉GL:=fun hx=>by have:=hG r hx;omega
 refine ifC (fun hc=>?_) (fun hc=>?_)
 ·simp at hc
  obtain⟨x,hx,hcx⟩:=hs.rd.at (i:=i.toNat) (by omega)
  rw[List.getElem?_map,List.getElem?_eq_getElem (show i.toNat<resL.length by omega)] at hcx
  simp only[Option.map_some] at hcx
  rw[Option.some.injEq] at hx
  subst hx
  have hbl:v.cell? ⟨b,5,none⟩=some (.slice lp ln lc):=by rw[hbv.cell];rfl
  simp only[addN,Nat.zero_add] at hcx
  simp only[Zch,addN,Nat.zero_add,Nat.mul_one,Nat.add_zero,hcx,exStr,hbl,exS]
  refine⟨hi0,hc,Za3 ZuF [.agg #[.string resL[i.toNat],.bool true,.bool false]] (by rfl) (by simp [Value.cells]) (by rfl) (by omega) fun v1 hs1 uv1=>?_⟩
  refine Ze1 (hE:=ZuF) (hl.upd uv1 (by intro k _ h;cases h)) hs1 (by simp [Value.cells,Value.oneCell']) (by omega) fun p' c' G' v2 hs2 uv2 s2=>?_
  have V2:Upd GL v v2:=uv1.after uv2
  have hG':Since G' w3:=hG.step s2 (Nat.le_trans U.size uv1.size)
  have hbG':b∉G':=fun hx=>by have:=hG' b hx;omega
  have hrG':r∉G':=fun hx=>by have:=hG' r hx;omega
  refine Zbi (hbv.upd V2 hbG) (by simp) rfl fun v3 uv3 hb3'=>?_
  simp at hb3'
  have hm3':=(hm.upd V2 hrG).upd uv3 (by simp;omega)
  have hr3:v3.cell? ⟨b,6,none⟩=some (.map (some r)):=by rw[hb3'.cell];rfl
  simp only[hr3,exM]
  refine Zie (κ:=ByteArray) (kt:=9) (et:=3) (inj:=nV) (k:=resL[i.toNat]) keyName (by rfl) hm3' fun v4 hm4 uv4=>?_
  have nb:∀(F:List Nat) (c:Nat),c∉F→Dis F [c]:=fun F c hF k hk hy=>by simp at hy;subst hy;exact hF hk
  have hs4:=(hs2.upd uv3 (nb _ _ hbG')).upd uv4 (nb _ _ hrG')
  have hb4:=hb3'.upd uv4 (by simp;omega)
  have hq:Dis [w2.heap.size] GL:=fun k hk hx=>by simp at hk;subst hk;have:=hG _ hx;have:=hs3.inn w2.heap.size (by simp);omega
  have hqb:Dis [w2.heap.size] [b]:=fun k hk hx=>by simp at hk hx;omega
  have hqr:Dis [w2.heap.size] [r]:=fun k hk hx=>by simp at hk hx;omega
  rw[i64id (x:=i+1) (by omega) (by omega)]
  refine⟨⟨by omega,by omega,p',ln+1,c',G',hb4,?_,?_,((hs.upd V2 hq).upd uv3 hqb).upd uv4 hqr,hG',?_⟩,by omega⟩
  ·rw[show (i+1).toNat=i.toNat+1 by omega]
   have e:initL.length=15:=rfl
   rw[List.take_succ_eq_append_getElem (by omega),List.flatMap_append]
   have e2:initL[i.toNat]'(by omega)=⟨resL[i.toNat],true,false⟩:=by
    have:=Zp9 (i:=i.toNat) (by omega)
    rw[List.getElem?_eq_getElem (by omega),List.getElem?_eq_getElem (show i.toNat<resL.length by omega)] at this
    exact Option.some.inj this
   rw[e2]
   simpa [Value.cells,slC] using hs4
  ·rw[show (i+1).toNat=i.toNat+1 by omega]
   show MapAt v4 r nV (put (resL[i.toNat]?.getD ⟨#[]⟩) (.int .i64 (i.toNat:Nat)) (resM i.toNat))
   rw[List.getElem?_eq_getElem (show i.toNat<resL.length by omega),show ((i.toNat:Nat):Int)=i by omega]
   exact hm4
  ·refine((U.trans V2 (fun k hk=>.inl hk) (fun k hk=>.inr (hG k hk))).both (uv3.mono fun k hk=>.inl ?_)).both (uv4.mono fun k hk=>.inl ?_)
   ·simp at hk;simp [hk]
   ·simp at hk;simp [hk]
 ·simp at hc
  obtain rfl:i=15:=by omega
  have hl':SlAt v 3 lp ln lc (initL.flatMap slC) GL:=hl
  refine hR v ⟨b,lp,ln,lc,r,none,0,0,0,lim,initL,resM 15,[],GL,[]⟩ ⟨hbv,hl',hm,SlAt.nil _ _,by show b≠r;omega,hbG,by simp,hrG,by simp,by intro k _ h;cases h⟩ rfl rfl rfl rfl rfl rfl ?_ ?_
  ·refine V3.trans U (fun k hk=>.inl hk) fun k hk=>?_
   simp at hk
   rcases hk with rfl | rfl
   ·left;simp
   ·right;omega
  ·intro k hk
   simp [AtD.FT] at hk
   rcases hk with rfl | rfl | hk
   ·left;simp
   ·right;omega
   ·right;have:=hG k hk;omega
def Raw (w:World) (b:Nat) (lim:Int):Prop:=Blk w b (atBlk 0 0 0 lim none 0 0 none none 0 0)∧15≤lim∧lim≤16384
def Has (w:World) (a:Option Addr) (FT:List Nat) (L:List Slot) (made lim:Int):Prop:=
 (∃d,Tb w d∧AtOk d∧d.a=a∧d.FT=FT∧d.L=L∧d.made=made∧d.lim=lim)∨(∃b,Raw w b lim∧a=some ⟨b,0,none⟩∧FT=[b]∧L=initL∧made=0)
theorem Tb'.has (h:Tb w d) (ok:AtOk d):Has w d.a d.FT d.L d.made d.lim:=.inl ⟨d,h,ok,rfl,rfl,rfl,rfl,rfl⟩
theorem ZwC {a:Option Addr} {FT:List Nat} {L:List Slot} {made lim:Int} {K:Bool→World→Prop} (h:Has w a FT L made lim)
  (hK:∀w' d,Tb w' d→AtOk d→d.a=a→d.L=L→d.made=made→d.lim=lim→Upd FT w w'→Sub d.FT FT w→K true w'):ZaJ a w K:=by
 apply ZaJ.of
 unfold ZjQ
 rcases h with ⟨d,ht,ok,rfl,rfl,rfl,rfl,rfl⟩ | ⟨b,⟨hb,h1,h2⟩,rfl,rfl,rfl,rfl⟩
 ·have hlen:=ok.at'.len
  have hll:=ok.ll
  refine ifF rfl ?_
  have hl:w.cell? ⟨d.b,4,none⟩=some (.int .i64 d.lim):=by rw[ht.blk.cell];rfl
  simp only[AtD.a,Zch,addN,Nat.zero_add,Nat.add_zero,hl,exI]
  refine ifF (by simp;omega) ?_
  apply Zei.of
  unfold ZkD
  simp only[Zch,addN,Nat.zero_add,Nat.add_zero]
  refine Zrz (x:=1) (by rw[ht.blk.cell];rfl) (ifF rfl ?_)
  exact hK w d ht ok rfl rfl rfl rfl (Upd.refl _ _) (Sub.refl _ _)
 ·refine ifF rfl ?_
  have hl:w.cell? ⟨b,4,none⟩=some (.int .i64 lim):=by rw[hb.cell];rfl
  simp only[Zch,addN,Nat.zero_add,Nat.add_zero,hl,exI]
  refine ifF (by simp;omega) ?_
  apply Zei.of
  unfold ZkD
  simp only[Zch,addN,Nat.zero_add,Nat.add_zero]
  refine Zrz (x:=0) (by rw[hb.cell];rfl) (ifT rfl ?_)
  have hb1:=hb.set 1 (.int .i32 1)
  have u1:=Zkz w b 1 (.int .i32 1)
  have e1:(atBlk 0 0 0 lim none 0 0 none none 0 0).setIfInBounds 1 (.int .i32 1)=atBlk 0 1 0 lim none 0 0 none none 0 0:=rfl
  rw[e1] at hb1
  have main:=Zw7 b w (fun w'=>∃d,Tb' 0 1 w' d∧d.b=b∧d.L=initL∧d.M=resM 15∧d.E=[]∧d.made=0∧d.lim=lim∧Upd [b] (w.setCell ⟨b,1,none⟩ (.int .i32 1)) w'∧Sub d.FT [b] (w.setCell ⟨b,1,none⟩ (.int .i32 1)))
   (by rw[hb.cell];rfl) (by rw[hb.cell];rfl) (hb.frozen (by simp [atBlk])) (hb.frozen (by simp [atBlk]))
   (Calls.mono (Zwu hb1 (R:=fun w'=>∃d,Tb' 0 1 w' d∧d.b=b∧d.L=initL∧d.M=resM 15∧d.E=[]∧d.made=0∧d.lim=lim∧Upd [b] (w.setCell ⟨b,1,none⟩ (.int .i32 1)) w'∧Sub d.FT [b] (w.setCell ⟨b,1,none⟩ (.int .i32 1))) fun w' d h1 h2 h3 h4 h5 h6 h7 h8 h9=>⟨d,h1,h2,h3,h4,h5,h6,h7,h8,h9⟩) fun e w' h=>h)
   (fun w' ⟨d,h,hdb,_⟩=>by
    subst hdb
    exact⟨by rw[h.blk.cell];rfl,by rw[h.blk.cell];rfl,h.blk.frozen (by simp [atBlk]),h.blk.frozen (by simp [atBlk])⟩)
  refine Calls.mono main fun e w' ⟨he,w2,⟨d,h,hdb,hdL,hdM,hdE,hdm,hdl,hu,hsub⟩,hw'⟩=>⟨he,?_⟩
  subst hdb
  have hb2:=(h.blk.drw.set 0 (.int .u32 1)).set 1 (.int .i32 0)
  have u2:Upd [d.b] w2 w':=by
   rw[hw']
   exact((Zah w2).after (Zkz _ d.b 0 _)).both (Zkz _ d.b 1 _)
  have hb3:Blk w' d.b (atBlk 1 0 d.made d.lim d.lp d.ln d.lc (some d.r) d.gp d.gn d.gc):=by rw[hw'];exact hb2
  have nb:∀F:List Nat,d.b∉F→Dis F [d.b]:=fun F hF k hk hy=>by simp at hy;subst hy;exact hF hk
  have ht:Tb w' d:=⟨hb3,h.l.upd u2 (nb _ h.bL),h.map.upd u2 (by simp;exact fun e=>h.br e.symm),h.e.upd u2 (nb _ h.bE),h.br,h.bL,h.bE,h.rL,h.rE,h.LE⟩
  have ok:AtOk d:=⟨by rw[hdL,hdM,hdE];exact Zv4,by rw[hdE];exact List.Pairwise.nil,by rw[hdL,hdl];exact h1,by rw[hdl];exact h2,by rw[hdm];omega⟩
  refine hK w' d ht ok rfl hdL hdm hdl ((u1.both hu).both u2) fun k hk=>?_
  rcases hsub k hk with e | e
  ·exact .inl e
  ·right
   have:=u1.size
   omega
end
open Go.D
structure Nx (w w':World) (a:Option Addr) (FT:List Nat) (lim:Int) (d:AtD):Prop where
 tb:Tb w' d
 ok:AtOk d
 a:d.a=a
 lim:d.lim=lim
 U:Upd FT w w'
 S:Sub d.FT FT w
def isN (L:List Slot) (id:Int):Bool:=decide (0≤id)&&match L[id.toNat]? with | some s=>s.is | none=>false
section
variable {w:World} {a:Option Addr} {FT:List Nat} {L:List Slot} {made lim:Int}
theorem Nx.keep {w' w'':World} {d:AtD} (n:Nx w w' a FT lim d) (u:Upd [] w' w''):Nx w w'' a FT lim d:=⟨n.tb.keep u,n.ok,n.a,n.lim,n.U.before u,n.S⟩
theorem Nx.then {w1 w2:World} {d d':AtD} (n:Nx w w1 a FT lim d) (m:Nx w1 w2 a d.FT lim d'):Nx w w2 a FT lim d':=
 ⟨m.tb,m.ok,m.a,m.lim,n.U.trans m.U (fun x hx=>.inl hx) (fun x hx=>n.S x hx),n.S.trans m.S n.U.size⟩
theorem Nx.has {w':World} {d:AtD} (n:Nx w w' a FT lim d):Has w' a d.FT d.L d.made lim:=.inl ⟨d,n.tb,n.ok,n.a,rfl,rfl,rfl,n.lim⟩
theorem Has.upd {w':World} {F:List Nat} (h:Has w a FT L made lim) (u:Upd F w w') (hd:Dis FT F):Has w' a FT L made lim:=by
 rcases h with ⟨d,ht,ok,h1,h2,h3,h4,h5⟩ | ⟨b,⟨hb,h1,h2⟩,h3,h4,h5⟩
 ·subst h2
  exact .inl ⟨d,ht.upd u hd,ok,h1,rfl,h3,h4,h5⟩
 ·subst h4
  exact .inr ⟨b,⟨hb.upd u (hd b (by simp)),h1,h2⟩,h3,rfl,h5⟩
theorem Has.keep {w':World} (h:Has w a FT L made lim) (u:Upd [] w w'):Has w' a FT L made lim:=h.upd u (by intro k _ h;cases h)
theorem Has.inn (h:Has w a FT L made lim):In FT w:=by
 rcases h with ⟨d,ht,ok,h1,h2,h3,h4,h5⟩ | ⟨b,⟨hb,h1,h2⟩,h3,h4,h5⟩
 ·subst h2;exact ht.inn
 ·subst h4
  intro k hk;simp at hk;subst hk;exact hb.lt
theorem ZsQ {K:Bool→World→Prop} (h:Has w a FT L made lim) (hK:∀w' d,Nx w w' a FT lim d→d.L=L→d.made=made→K true w'):ZaJ a w K:=
 ZwC h fun w' d h1 h2 h3 h4 h5 h6 h7 h8=>hK w' d ⟨h1,h2,h3,h6,h7,h8⟩ h4 h5
theorem New_ok {K:Option Addr→Int→World→Prop} (h0:15≤lim) (h1:lim≤16384) (hK:∀w' b,Has w' (some ⟨b,0,none⟩) [b] initL 0 lim→Upd [] w w'→w.heap.size≤b→K (some ⟨b,0,none⟩) 0 w'):Zfm lim w K:=by
 apply Zfm.of
 unfold ZoL
 refine Zpq fun w1 hs1 u1=>ifF (by simp;omega) (ifF (by simp;omega) (Zai fun b w2 hb u2 hb2=>?_))
 have:=u1.size
 exact hK w2 b (.inr ⟨b,⟨hb2,h0,h1⟩,rfl,rfl,rfl,rfl⟩) (u1.after u2) (by omega)
theorem New_bad {K:Option Addr→Int→World→Prop} (h:lim<15∨16384<lim) (hK:∀w',Upd [] w w'→K none 1 w'):Zfm lim w K:=by
 apply Zfm.of
 unfold ZoL
 refine Zpq fun w1 hs1 u1=>?_
 by_cases h0:lim<15
 ·exact ifT (by simp;omega) (hK w1 u1)
 ·exact ifF (by simp;omega) (ifT (by simp;omega) (hK w1 u1))
theorem isN_get {id:Int} (h:isN L id=true):0≤id∧∃hi:id.toNat<L.length,L[id.toNat].is=true:=by
 unfold isN at h
 simp only[Bool.and_eq_true,decide_eq_true_eq] at h
 refine⟨h.1,?_⟩
 have h2:=h.2
 split at h2
 ·rename_i s hs
  obtain⟨hl,rfl⟩:=List.getElem?_eq_some_iff.1 hs
  exact⟨hl,h2⟩
 ·cases h2
theorem Zv7 {id:Int} {K:Bool→World→Prop} (h:Has w a FT L made lim) (hK:∀w' d,Nx w w' a FT lim d→d.L=L→d.made=made→K (isN L id) w'):Zc0 a id w K:=by
 apply Zc0.of
 unfold Zlr ZfQ
 refine ZsQ h fun w1 d n hL hm=>ifT rfl ?_
 have hk:=hK w1 d n hL hm
 unfold isN at hk
 refine ifC (fun hc=>?_) (fun hc=>?_)
 ·simp at hc
  rw[←n.a]
  have hr:w1.cell? ⟨d.b,5,none⟩=some (.slice d.lp d.ln d.lc):=by rw[n.tb.blk.cell];rfl
  simp only[AtD.a,Zch,addN,Nat.zero_add,hr,exS]
  have hln:=n.tb.len
  rw[decide_eq_true hc] at hk
  refine ifC (fun hc2=>?_) (fun hc2=>?_)
  ·simp at hc2
   have hil:id.toNat<d.L.length:=by omega
   obtain⟨b,off,hp,c0,c1,c2⟩:=n.tb.slot hil
   simp only[hp,Zch,addN,c1,exB]
   refine⟨hc,hc2,?_⟩
   subst hL
   rw[List.getElem?_eq_getElem hil] at hk
   exact hk
  ·simp at hc2
   subst hL
   rw[List.getElem?_eq_none (by omega)] at hk
   exact hk
 ·simp at hc
  rw[decide_eq_false (by omega)] at hk
  exact hk
theorem may_ok {id:Int} {K:Int→World→Prop} (h:Has w a FT L made lim) (hK:∀w' d,Nx w w' a FT lim d→d.L=L→d.made=made→K (if isN L id then 0 else 4) w'):ZcR a id w K:=by
 apply ZcR.of
 unfold Zly
 refine ZsQ h fun w1 d n hL hm=>ifF rfl ?_
 refine Zv7 n.has fun w2 d2 n2 hL2 hm2=>?_
 have hk:=hK w2 d2 (n.then n2) (hL2.trans hL) (hm2.trans hm)
 rw[hL]
 cases hb:isN L id with
 | true=>rw[hb] at hk;exact ifF rfl hk
 | false=>rw[hb] at hk;exact ifT rfl hk
theorem ZxL {id:Int} {K:ByteArray→Int→World→Prop} (h:Has w a FT L made lim)
  (hno:isN L id=false→∀w' d,Nx w w' a FT lim d→d.L=L→d.made=made→K ⟨#[]⟩ 4 w')
  (hK:isN L id=true→∀(hi:id.toNat<L.length) w' d,Nx w w' a FT lim d→d.L=L→d.made=made→K L[id.toNat].name 0 w'):ZaC a id w K:=by
 apply ZaC.of
 unfold Zky
 refine may_ok (id:=id) h fun w1 d n hL hm=>?_
 cases hb:isN L id with
 | false=>exact ifT rfl (hno hb w1 d n hL hm)
 | true=>
  refine ifF rfl ?_
  obtain⟨h0,hi,his⟩:=isN_get hb
  rw[←n.a]
  have hr:w1.cell? ⟨d.b,5,none⟩=some (.slice d.lp d.ln d.lc):=by rw[n.tb.blk.cell];rfl
  simp only[AtD.a,Zch,addN,Nat.zero_add,hr,exS]
  have hln:=n.tb.len
  subst hL
  obtain⟨b,off,hp,c0,c1,c2⟩:=n.tb.slot hi
  simp only[hp,Zch,addN,Nat.add_zero,c0,exStr]
  exact⟨h0,by omega,hK hb hi w1 d n rfl hm⟩
theorem setSlot {p:Option Addr} {n c i j b off:Nat} {y:Slot} {v:Value} {F:List Nat} {K:World→Prop} (h:SlAt w 3 p n c (L.flatMap slC) F) (hi:i<L.length) (hp:p=some ⟨b,off,none⟩) (hj:j<3) (hv:v.oneCell'=true) (hy:slC y=(slC L[i]).set j v)
  (hK:∀w',SlAt w' 3 p n c ((L.set i y).flatMap slC) F→Upd F w w'→K w'):St w ⟨b,off+i*3+j,none⟩ v K:=by
 have hn:n=L.length:=by have:=h.1;rw[ZfJ ZhH] at this;omega
 rw[Nat.add_assoc]
 refine ZsP h hp (k:=i*3+j) (by omega) hv fun w' hs u=>hK w' ?_ u
 have h3:=Zrm ZhH (l:=L) (i:=i) (j:=j) (v:=v) (y:=y) hi hj hy
 rw[h3] at hs
 exact hs
theorem setSlot3 {p:Option Addr} {n c i b off:Nat} {y:Slot} {F:List Nat} {K:World→Prop} (h:SlAt w 3 p n c (L.flatMap slC) F) (hi:i<L.length) (hp:p=some ⟨b,off,none⟩)
  (hK:∀w',SlAt w' 3 p n c ((L.set i y).flatMap slC) F→Upd F w w'→K w'):St w ⟨b,off+i*3,none⟩ (.string y.name) fun w1=>St w1 ⟨b,off+i*3+1,none⟩ (.bool y.is) fun w2=>St w2 ⟨b,off+i*3+2,none⟩ (.bool y.mark) K:=by
 rw[←Nat.add_zero (off+i*3)]
 refine setSlot (j:=0) (y:=⟨y.name,L[i].is,L[i].mark⟩) h hi hp (by omega) rfl (by rfl) fun w1 h1 u1=>?_
 rw[Nat.add_zero]
 refine setSlot (j:=1) (y:=⟨y.name,y.is,L[i].mark⟩) h1 (by simpa using hi) hp (by omega) rfl (by simp [slC]) fun w2 h2 u2=>?_
 refine setSlot (j:=2) (y:=y) h2 (by simpa using hi) hp (by omega) rfl (by simp [slC]) fun w3 h3 u3=>?_
 rw[List.set_set,List.set_set] at h3
 exact hK w3 h3 ((u1.both u2).both u3)
end
open Go.D
section
variable {w:World} {a:Option Addr} {FT:List Nat} {L:List Slot} {made lim:Int}
theorem ZvU {name:ByteArray} {K:Int→Int→World→Prop} (h:Has w a FT L made lim) (hmade:made<2^40)
  (hlong:64<name.size→∀w' d,Nx w w' a FT lim d→d.L=L→d.made=made→K 0 3 w')
  (hfound:name.size≤64→∀i,findN L name=some i→∀w' d,Nx w w' a FT lim d→d.L=L→d.made=made→K i 0 w')
  (hfree:name.size≤64→findN L name=none→∀i,freeN L=some i→∀w' d,Nx w w' a FT lim d→d.L=L.set i ⟨name,true,false⟩→d.made=made+1→K i 0 w')
  (hfull:name.size≤64→findN L name=none→freeN L=none→lim≤L.length→∀w' d,Nx w w' a FT lim d→d.L=L→d.made=made→K 0 2 w')
  (hgrow:name.size≤64→findN L name=none→freeN L=none→L.length<lim→∀w' d,Nx w w' a FT lim d→d.L=L++[⟨name,true,false⟩]→d.made=made+1→K L.length 0 w'):ZaE a name w K:=by
 apply ZaE.of
 unfold ZiJ Zgc
 refine ZsQ h fun w1 d n hL hm=>ifF rfl (ifC (fun hc=>hlong (by simp at hc;omega) w1 d n hL hm) (fun hc=>?_))
 have hsz:name.size≤64:=by simp at hc;omega
 have hr:∀{w'},Tb w' d→w'.cell? ⟨d.b,6,none⟩=some (.map (some d.r)):=fun t=>by rw[t.blk.cell];rfl
 have hl:∀{w'},Tb w' d→w'.cell? ⟨d.b,5,none⟩=some (.slice d.lp d.ln d.lc):=fun t=>by rw[t.blk.cell];rfl
 have hg:∀{w'},Tb w' d→w'.cell? ⟨d.b,7,none⟩=some (.slice d.gp d.gn d.gc):=fun t=>by rw[t.blk.cell];rfl
 have hli:∀{w'},Tb w' d→w'.cell? ⟨d.b,4,none⟩=some (.int .i64 d.lim):=fun t=>by rw[t.blk.cell];rfl
 have ea:∀(Q:Addr→Prop),NN a Q=NN (some ⟨d.b,0,none⟩) Q:=fun Q=>by rw[←n.a];rfl
 have tb:=n.tb
 simp only[ea,Zch,addN,Nat.zero_add,Nat.add_zero,hr tb,exM]
 refine ZkT (κ:=ByteArray) (kt:=9) (et:=3) (inj:=nV) (z:=.int .i64 0) (k:=name) keyName (by rfl) ⟨_,rfl,rfl⟩ tb.map ?_
 have hfind:=n.ok.at'.find name
 rw[hfind,hL]
 have nbd:∀F:List Nat,d.b∉F→Dis F [d.b]:=fun F hF k hk hy=>by simp at hy;subst hy;exact hF hk
 have nrd:∀F:List Nat,d.r∉F→Dis F [d.r]:=fun F hF k hk hy=>by simp at hy;subst hy;exact hF hk
 have hmd:=n.ok.made
 have hbr:d.b∉[d.r]:=by simp;exact tb.br
 have hrb:d.r∉[d.b]:=by simp;exact fun e=>tb.br e.symm
 have ib:∀x∈[d.b],x∈d.FT:=by intro x hx;simp at hx;subst hx;simp [AtD.FT]
 have ir:∀x∈[d.r],x∈d.FT:=by intro x hx;simp at hx;subst hx;simp [AtD.FT]
 have iL:∀x∈d.GL,x∈d.FT:=fun x hx=>by simp [AtD.FT,hx]
 have iE:∀x∈d.GE,x∈d.FT:=fun x hx=>by simp [AtD.FT,hx]
 rcases hf:findN L name with _ | i
 ·refine⟨_,_,rfl,ifF rfl ?_⟩
  have hlook:Go.D.look name d.M=none:=by rw[hfind,hL,hf];rfl
  simp only[hl tb,hg tb,hli tb,exS,exI]
  have hel:=tb.elen
  have hln:=tb.len
  have hll:=n.ok.ll
  have hlim:=n.ok.lim
  refine ifC (fun hc2=>?_) (fun hc2=>?_)
  ·-- a free one
   obtain⟨k,E',hE⟩:∃k E',d.E=k::E':=by
    cases hE:d.E with
    | nil=>rw[hE] at hel;simp at hel;simp [hel] at hc2
    | cons k E'=>exact⟨k,E',rfl⟩
   have hat:=n.ok.at'
   have hasc:=n.ok.asc
   rw[hE] at hat hasc
   obtain⟨i,s,hk,hfr,hi,his⟩:=hat.free_some hasc
   have hil:i<d.L.length:=(List.getElem?_eq_some_iff.1 hi).1
   have hpe:=tb.e
   rw[hE] at hpe hel
   obtain⟨bg,og,hpg,hcg⟩:=hpe.cell (i:=0) (by simp at hel;omega)
   simp only[List.map_cons,List.getElem?_cons_zero] at hcg
   have eg:∀(Q:Addr→Prop),NN d.gp Q=NN (some ⟨bg,og,none⟩) Q:=fun Q=>by rw[hpg]
   have hd:=hpe.drop (k:=1) (by simp at hel;omega)
   simp only[eg,Zch,addN,Int.toNat_zero,Nat.zero_mul,Nat.add_zero,show og+0=og from rfl] at hcg ⊢
   simp only[hcg,exI]
   have t1:(1:Int).toNat=1:=rfl
   rw[t1]
   refine⟨by omega,by simp at hel;omega,by omega,by simp at hel;omega,Zbi tb.blk (by simp [atBlk]) rfl fun w2 u2 hb2=>?_⟩
   have hb2:Blk w2 d.b (atBlk 1 0 d.made d.lim d.lp d.ln d.lc (some d.r) (adv d.gp d.gc 1 1) (d.gn-1) (d.gc-1)):=hb2
   have hl2:w2.cell? ⟨d.b,5,none⟩=some (.slice d.lp d.ln d.lc):=by rw[hb2.cell];rfl
   obtain⟨bl,ol,hpl,_,_,_⟩:=tb.slot hil
   have el:∀(Q:Addr→Prop),NN d.lp Q=NN (some ⟨bl,ol,none⟩) Q:=fun Q=>by rw[hpl]
   rw[hk]
   simp only[hl2,exS,el,Zch,addN,Int.toNat_natCast,Nat.add_zero]
   refine⟨by omega,by omega,?_⟩
   have hls2:=tb.l.upd u2 (nbd _ tb.bL)
   refine setSlot3 (y:=⟨name,true,false⟩) hls2 hil hpl fun w3 hls3 u3=>?_
   have hb3:=hb2.upd u3 tb.bL
   have hr3:w3.cell? ⟨d.b,6,none⟩=some (.map (some d.r)):=by rw[hb3.cell];rfl
   simp only[hr3,exM]
   have hm3:=(tb.map.upd u2 hrb).upd u3 tb.rL
   refine Zie (κ:=ByteArray) (kt:=9) (et:=3) (inj:=nV) (k:=name) keyName (by rfl) hm3 fun w4 hm4 u4=>?_
   have hb4:=hb3.upd u4 hbr
   refine Zuj (x:=d.made) (y:=1) hb4 (by rfl) (by omega) fun w5 u5 hb5=>?_
   have hd5:=(((hd.upd u2 (nbd _ tb.bE)).upd u3 tb.LE.symm).upd u4 (nrd _ tb.rE)).upd u5 (nbd _ tb.bE)
   have hl5:=(hls3.upd u4 (nrd _ tb.rL)).upd u5 (nbd _ tb.bL)
   have hm5:=hm4.upd u5 hrb
   have e1:((k::E').map (Value.int .i64)).drop (1*1)=E'.map (Value.int .i64):=by simp
   rw[e1] at hd5
   have U5:Upd d.FT w1 w5:=(((u2.mono fun x hx=>.inl (ib x hx)).both (u3.mono fun x hx=>.inl (iL x hx))).both (u4.mono fun x hx=>.inl (ir x hx))).both (u5.mono fun x hx=>.inl (ib x hx))
   have hfr':freeN L=some i:=by rw[←hL];exact hfr
   refine hfree hsz hf i hfr' w5 { d with L:=d.L.set i ⟨name,true,false⟩,M:=put name (.int .i64 (i:Nat)) d.M,E:=E',made:=d.made+1,gp:=adv d.gp d.gc 1 1,gn:=d.gn-1,gc:=d.gc-1 } ⟨⟨hb5,hl5,hm5,hd5,tb.br,tb.bL,tb.bE,tb.rL,tb.rE,tb.LE⟩,⟨?_,(List.pairwise_cons.1 hasc).2,by simpa using hll,hlim,by show 0≤d.made+1∧d.made+1≤2^40;omega⟩,n.a,n.lim,n.U.trans U5 (fun x hx=>.inl hx) (fun x hx=>n.S x hx),n.S⟩ (by show d.L.set i _=_;rw[hL]) (by show d.made+1=_;rw[hm])
   exact AtM.fill (by rw[←hk];exact hat) hi his hlook
  ·-- none is free
   have hE:d.E=[]:=by
    have:d.E.length=0:=by simp at hc2;omega
    simpa using this
   have hat:=n.ok.at'
   rw[hE] at hat
   have hfr:freeN L=none:=by rw[←hL];exact hat.free_none
   refine ifC (fun hc3=>hfull hsz hf hfr (by simp at hc3;have:=n.lim;rw[←hL];omega) w1 d n hL hm) (fun hc3=>?_)
   have hlt:(d.L.length:Int)<d.lim:=by simp at hc3;omega
   refine Za3 ZuF [.agg #[.string name,.bool true,.bool false]] (by rfl) (by simp [Value.cells]) (by rfl) (by omega) fun w2 hs2 u2=>?_
   have tb2:=tb.keep u2
   refine Ze1 (hE:=ZuF) tb2.l hs2 (by simp [Value.cells,Value.oneCell']) (by omega) fun p' c' G' w3 hs3 u3 s3=>?_
   have V3:Upd d.GL w1 w3:=u2.after u3
   have hsz1:=u2.size
   have hG':∀y∈G',y∈d.GL∨w1.heap.size≤y:=fun y hy=>by
    rcases s3 y hy with e | e
    ·exact .inl e
    ·right;omega
   have nG:∀c,c<w1.heap.size→c∉d.GL→c∉G':=fun c hcl hcn hx=>by
    rcases hG' c hx with e | e
    ·exact hcn e
    ·omega
   have hbG:=nG d.b tb.blk.lt tb.bL
   have hrG:=nG d.r tb.map.lt tb.rL
   have hGE:Dis G' d.GE:=fun k hk hx=>by
    rcases hG' k hk with e | e
    ·exact tb.LE k e hx
    ·have:=tb.e.inn k hx;omega
   refine Zbi (tb.blk.upd V3 tb.bL) (by simp [atBlk]) rfl fun w4 u4 hb4=>?_
   have hb4:Blk w4 d.b (atBlk 1 0 d.made d.lim p' (d.ln+1) c' (some d.r) d.gp d.gn d.gc):=hb4
   have hr4:w4.cell? ⟨d.b,6,none⟩=some (.map (some d.r)):=by rw[hb4.cell];rfl
   simp only[hr4,exM]
   have hm4:=(tb.map.upd V3 tb.rL).upd u4 hrb
   refine Zie (κ:=ByteArray) (kt:=9) (et:=3) (inj:=nV) (k:=name) keyName (by rfl) hm4 fun w5 hm5 u5=>?_
   have hb5:=hb4.upd u5 hbr
   refine Zuj (x:=d.made) (y:=1) hb5 (by rfl) (by omega) fun w6 u6 hb6=>?_
   have hl6:=((hs3.upd u4 (nbd _ hbG)).upd u5 (nrd _ hrG)).upd u6 (nbd _ hbG)
   have he6:=(((tb.e.upd V3 tb.LE.symm).upd u4 (nbd _ tb.bE)).upd u5 (nrd _ tb.rE)).upd u6 (nbd _ tb.bE)
   have hm6:=hm5.upd u6 hrb
   have hl6:SlAt w6 3 p' (d.ln+1) c' ((d.L++[(⟨name,true,false⟩:Slot)]).flatMap slC) G':=by
    rw[List.flatMap_append]
    simpa [Value.cells,slC] using hl6
   have U6:Upd d.FT w1 w6:=(((V3.mono fun x hx=>.inl (iL x hx)).both (u4.mono fun x hx=>.inl (ib x hx))).both (u5.mono fun x hx=>.inl (ir x hx))).both (u6.mono fun x hx=>.inl (ib x hx))
   have S6:Sub (d.b::d.r::(G' ++ d.GE)) FT w:=fun x hx=>by
    have hx':x∈d.FT∨w1.heap.size≤x:=by
     rcases List.mem_cons.1 hx with rfl | hx
     ·left;simp [AtD.FT]
     rcases List.mem_cons.1 hx with rfl | hx
     ·left;simp [AtD.FT]
     rcases List.mem_append.1 hx with hx | hx
     ·exact(hG' x hx).imp (iL x) (fun e=>e)
     ·exact .inl (iE x hx)
    rcases hx' with e | e
    ·exact n.S x e
    ·have:=n.U.size;right;omega
   have ell:(d.ln:Int)=L.length:=by rw[hln,hL]
   rw[ell]
   refine hgrow hsz hf hfr (by rw[←hL,←n.lim];exact hlt) w6 { d with L:=d.L++[⟨name,true,false⟩],M:=put name (.int .i64 (d.L.length:Nat)) d.M,made:=d.made+1,lp:=p',ln:=d.ln+1,lc:=c',GL:=G' } ⟨⟨hb6,hl6,?_,he6,tb.br,hbG,tb.bE,hrG,tb.rE,hGE⟩,⟨n.ok.at'.grow hlook,n.ok.asc,by simp;omega,hlim,by show 0≤d.made+1∧d.made+1≤2^40;omega⟩,n.a,n.lim,n.U.trans U6 (fun x hx=>.inl hx) (fun x hx=>n.S x hx),S6⟩ (by show d.L++_=_;rw[hL]) (by show d.made+1=_;rw[hm])
   rw[hln] at hm6
   exact hm6
 ·exact⟨_,_,rfl,ifT rfl (hfound hsz i hf w1 d n hL hm)⟩
end
open Go.D
open Go.D
def Far (X:List Nat) (v v':World):Prop:=∃F,Upd F v v'∧Dis X F
theorem Far.keep {X:List Nat} {v v':World} (u:Upd [] v v'):Far X v v':=⟨[],u,by intro k _ h;cases h⟩
theorem Far.sl {X:List Nat} {v v':World} (f:Far X v v') {sz:Nat} {p:Option Addr} {n c:Nat} {cs:List Value} {G:List Nat} (h:SlAt v sz p n c cs G) (hG:∀x∈G,x∈X):SlAt v' sz p n c cs G:=by
 obtain⟨F,u,d⟩:=f
 exact h.upd u fun k hk=>d k (hG k hk)
def Tl (w v:World) (X:List Nat) (a:Option Addr) (L:List Slot) (made lim:Int):Prop:=∃FT,Has v a FT L made lim∧Since FT w∧Upd [] w v∧Dis X FT∧In X v
section
variable {w v:World} {X:List Nat} {a:Option Addr} {L:List Slot} {made lim:Int}
theorem Tl.U (t:Tl w v X a L made lim):Upd [] w v:=by
 obtain⟨_,_,_,u,_⟩:=t
 exact u
theorem Tl.keep {v':World} (t:Tl w v X a L made lim) (u:Upd [] v v'):Tl w v' X a L made lim:=by
 obtain⟨FT,h,s,u0,d,i⟩:=t
 exact⟨FT,h.keep u,s,u0.after u,d,i.upd u⟩
theorem Tl.own {v':World} {F Y:List Nat} (t:Tl w v X a L made lim) (u:Upd F v v') (hF:∀x∈F,x∈X) (hX:Since X w) (hY:Sub Y X v) (hin:In Y v'):Tl w v' Y a L made lim:=by
 obtain⟨FT,h,s,u0,d,i⟩:=t
 refine⟨FT,h.upd u fun k hk hx=>d k (hF k hx) hk,s,u0.fresh u fun k hk=>hX k (hF k hk),fun k hk hx=>?_,hin⟩
 rcases hY k hk with e | e
 ·exact d k e hx
 ·have:=h.inn k hx;omega
theorem Tl.watch {v':World} {Y:List Nat} (t:Tl w v X a L made lim) (u:Upd [] v v') (hY:Since Y v) (hin:In Y v'):Tl w v' (Y++X) a L made lim:=by
 obtain⟨FT,h,s,u0,d,i⟩:=t
 refine⟨FT,h.keep u,s,u0.after u,fun k hk hx=>?_,fun k hk=>?_⟩
 ·rcases List.mem_append.1 hk with e | e
  ·have:=hY k e;have:=h.inn k hx;omega
  ·exact d k e hx
 ·rcases List.mem_append.1 hk with e | e
  ·exact hin k e
  ·exact i.upd u k e
theorem Tl.next {FT:List Nat} {v':World} {d:AtD} (h:Has v a FT L made lim) (s:Since FT w) (u:Upd [] w v) (dx:Dis X FT) (ix:In X v) (n:Nx v v' a FT lim d):Tl w v' X a d.L d.made lim∧Far X v v':=by
 refine⟨⟨d.FT,n.has,s.step n.S u.size,u.fresh n.U s,fun k hk hx=>?_,ix.upd n.U⟩,FT,n.U,dx⟩
 rcases n.S k hx with e | e
 ·exact dx k hk e
 ·have:=ix k hk;omega
theorem Tl.new {K:Option Addr→Int→World→Prop} (u:Upd [] w v) (h0:15≤lim) (h1:lim≤16384) (hK:∀v' b,Tl w v' [] (some ⟨b,0,none⟩) initL 0 lim→K (some ⟨b,0,none⟩) 0 v'):Zfm lim v K:=
 New_ok h0 h1 fun v' b h u' hb=>hK v' b ⟨[b],h,fun x hx=>by simp at hx;subst hx;have:=u.size;omega,u.after u',(by intro k hk;cases hk),(by intro k hk;cases hk)⟩
theorem Tl.name {id:Int} {K:ByteArray→Int→World→Prop} (t:Tl w v X a L made lim) (hno:isN L id=false→∀v',Tl w v' X a L made lim→Far X v v'→K ⟨#[]⟩ 4 v')
  (hK:isN L id=true→∀(hi:id.toNat<L.length) v',Tl w v' X a L made lim→Far X v v'→K L[id.toNat].name 0 v'):ZaC a id v K:=by
 obtain⟨FT,h,s,u,dx,ix⟩:=t
 refine ZxL h (fun hb v' d n hL hm=>?_) (fun hb hi v' d n hL hm=>?_)
 ·have:=Tl.next h s u dx ix n
  rw[hL,hm] at this
  exact hno hb v' this.1 this.2
 ·have:=Tl.next h s u dx ix n
  rw[hL,hm] at this
  exact hK hb hi v' this.1 this.2
theorem Tl.intern {name:ByteArray} {K:Int→Int→World→Prop} (t:Tl w v X a L made lim) (hmade:made<2^40)
  (hlong:64<name.size→∀v',Tl w v' X a L made lim→Far X v v'→K 0 3 v')
  (hfound:name.size≤64→∀i,findN L name=some i→∀v',Tl w v' X a L made lim→Far X v v'→K i 0 v')
  (hfree:name.size≤64→findN L name=none→∀i,freeN L=some i→∀v',Tl w v' X a (L.set i ⟨name,true,false⟩) (made+1) lim→Far X v v'→K i 0 v')
  (hfull:name.size≤64→findN L name=none→freeN L=none→lim≤L.length→∀v',Tl w v' X a L made lim→Far X v v'→K 0 2 v')
  (hgrow:name.size≤64→findN L name=none→freeN L=none→L.length<lim→∀v',Tl w v' X a (L++[⟨name,true,false⟩]) (made+1) lim→Far X v v'→K L.length 0 v'):ZaE a name v K:=by
 obtain⟨FT,h,s,u,dx,ix⟩:=t
 have go:∀{v':World} {d:AtD} {L':List Slot} {m':Int},Nx v v' a FT lim d→d.L=L'→d.made=m'→Tl w v' X a L' m' lim∧Far X v v':=fun n hL hm=>by
  rw[←hL,←hm];exact Tl.next h s u dx ix n
 exact ZvU h hmade (fun h1 v' d n hL hm=>hlong h1 v' (go n hL hm).1 (go n hL hm).2) (fun h1 i h2 v' d n hL hm=>hfound h1 i h2 v' (go n hL hm).1 (go n hL hm).2) (fun h1 h2 i h3 v' d n hL hm=>hfree h1 h2 i h3 v' (go n hL hm).1 (go n hL hm).2) (fun h1 h2 h3 h4 v' d n hL hm=>hfull h1 h2 h3 h4 v' (go n hL hm).1 (go n hL hm).2) (fun h1 h2 h3 h4 v' d n hL hm=>hgrow h1 h2 h3 h4 v' (go n hL hm).1 (go n hL hm).2)
end
open Go.D
structure RtD where
 b:Nat
 lp:Option Addr
 ln:Nat
 lc:Nat
 lim:Int
 made:Int
 L:List Slot
 G:List Nat
def RtD.a (x:RtD):Option Addr:=some ⟨x.b,0,none⟩
def RtD.FT (x:RtD):List Nat:=x.b::x.G
end Go.Proofs.YtdaenijbokialaaGreat
