import Derived.Test.YtdaenijbokialaaGreatRefA
import Derived.Test.YtdaenijbokialaaGreatOwn12
namespace Go.Proofs.YtdaenijbokialaaGreat.Fn
open Go Go.D Go.Proofs Go.Proofs.YtdaenijbokialaaGreat
set_option linter.unusedSimpArgs false
set_option linter.unusedVariables false
set_option maxRecDepth 8000
abbrev Key:=Int×Int
structure Slot where
 key:Key
 is:Bool
 mark:Bool
instance:Inhabited Slot:=⟨⟨(0,0),false,false⟩⟩
def kcs (k:Key):List Value:=[.int .i64 k.1,.int .i64 k.2]
def nV (k:Key):Value:=.agg (kcs k).toArray
def slC (s:Slot):List Value:=[.int .i64 s.key.1,.int .i64 s.key.2,.bool s.is,.bool s.mark]
theorem ZhH (s:Slot):(slC s).length=4:=rfl
def cntIs (L:List Slot):Int:=(L.map fun s=>if s.is then (1:Int) else 0).sum
theorem ZoE {L:List Slot}:∀{i:Nat} (hi:i<L.length) (y:Slot),cntIs (L.set i y)=cntIs L-(if L[i].is then 1 else 0)+(if y.is then 1 else 0):=by
 induction L with
 | nil=>intro i hi;simp at hi
 | cons r rs ih=>
  intro i hi y
  unfold cntIs at *
  cases i with
  | zero=>simp only[List.set_cons_zero,List.map_cons,List.sum_cons,List.getElem_cons_zero];omega
  | succ i=>simp only[List.set_cons_succ,List.map_cons,List.sum_cons,List.getElem_cons_succ];rw[ih (by simpa using hi)];omega
theorem ZoF (L:List Slot) (y:Slot):cntIs (L++[y])=cntIs L+if y.is then 1 else 0:=by
 unfold cntIs;simp [List.sum_append]
structure AtM (L:List Slot) (M:List (Key×Value)) (E:List Int):Prop where
 once:Once M
 ml:(M.length:Int)=cntIs L
 look1:∀i s,L[i]?=some s→s.is=true→Go.D.look s.key M=some (.int .i64 (i:Nat))
 look2:∀n v,Go.D.look n M=some v→∃i s,L[i]?=some s∧s.is=true∧s.key=n∧v=.int .i64 (i:Nat)
 nodup:E.Nodup
 emem:∀k:Int,k∈E↔∃(i:Nat) (s:Slot),k=i∧L[i]?=some s∧s.is=false
theorem Zp4 {M:List (Key×Value)} {n:Key} (h:∀v,Go.D.look n M≠some v):Go.D.look n M=none:=by
 cases hl:Go.D.look n M with
 | none=>rfl
 | some v=>exact absurd hl (h v)
section
variable {L:List Slot} {M:List (Key×Value)} {E:List Int}
theorem AtM.one (h:AtM L M E) {i j:Nat} {s t:Slot} (hi:L[i]?=some s) (hj:L[j]?=some t) (hs:s.is=true) (ht:t.is=true) (hn:s.key=t.key):i=j:=by
 have a:=h.look1 i s hi hs
 have b:=h.look1 j t hj ht
 rw[hn,b] at a
 simp at a
 omega
theorem AtM.mark {i:Nat} {s:Slot} {m:Bool} (h:AtM L M E) (hi:L[i]?=some s):AtM (L.set i ⟨s.key,s.is,m⟩) M E:=by
 obtain⟨hil,he⟩:=List.getElem?_eq_some_iff.1 hi
 have get:∀(j:Nat) (t:Slot),(L.set i ⟨s.key,s.is,m⟩)[j]?=some t→∃u:Slot,L[j]?=some u∧u.key=t.key∧u.is=t.is:=fun j t ht=>by
  by_cases hij:i=j
  ·subst hij
   rw[List.getElem?_set_self hil] at ht
   rw[←Option.some.inj ht];exact⟨s,hi,rfl,rfl⟩
  ·rw[List.getElem?_set_ne hij] at ht
   exact⟨t,ht,rfl,rfl⟩
 have get':∀(j:Nat) (u:Slot),L[j]?=some u→∃t:Slot,(L.set i ⟨s.key,s.is,m⟩)[j]?=some t∧u.key=t.key∧u.is=t.is:=fun j u hu=>by
  by_cases hij:i=j
  ·subst hij
   rw[hi] at hu
   rw[List.getElem?_set_self hil,←Option.some.inj hu];exact⟨_,rfl,rfl,rfl⟩
  ·rw[List.getElem?_set_ne hij]
   exact⟨u,hu,rfl,rfl⟩
 refine⟨h.once,?_,fun j t ht his=>?_,fun n v hv=>?_,h.nodup,fun k=>?_⟩
 ·rw[ZoE hil,he,h.ml];simp only;split <;> omega
 ·obtain⟨u,hu,h1,h2⟩:=get j t ht
  rw[←h1];exact h.look1 j u hu (by rw[h2];exact his)
 ·obtain⟨j,u,hu,h1,h2,h3⟩:=h.look2 n v hv
  obtain⟨t,ht,h4,h5⟩:=get' j u hu
  exact⟨j,t,ht,by rw[←h5];exact h1,by rw[←h4];exact h2,h3⟩
 ·rw[h.emem k]
  constructor
  ·rintro⟨j,u,hk,hu,h1⟩
   obtain⟨t,ht,h4,h5⟩:=get' j u hu
   exact⟨j,t,hk,ht,by rw[←h5];exact h1⟩
  ·rintro⟨j,t,hk,ht,h1⟩
   obtain⟨u,hu,h4,h5⟩:=get j t ht
   exact⟨j,u,hk,hu,by rw[h5];exact h1⟩
theorem AtM.fill {i:Nat} {s:Slot} {n:Key} (h:AtM L M ((i:Int)::E)) (hi:L[i]?=some s) (his:s.is=false) (hn:Go.D.look n M=none):AtM (L.set i ⟨n,true,false⟩) (put n (.int .i64 (i:Nat)) M) E:=by
 obtain⟨hil,he⟩:=List.getElem?_eq_some_iff.1 hi
 have hnd:=List.nodup_cons.1 h.nodup
 refine⟨h.once.put,?_,fun j t ht hj=>?_,fun m v hv=>?_,hnd.2,fun k=>?_⟩
 ·have h2:=h.ml
  rw[ZlM,hn,ZoE hil,he,his];simp;omega
 ·by_cases hij:i=j
  ·subst hij
   rw[List.getElem?_set_self hil] at ht
   rw[←Option.some.inj ht,ZfL,if_pos rfl]
  ·rw[List.getElem?_set_ne hij] at ht
   have h1:=h.look1 j t ht hj
   rw[ZfL,if_neg fun e=>by rw[e,hn] at h1;cases h1]
   exact h1
 ·rw[ZfL] at hv
  split at hv
  ·rename_i hm
   refine⟨i,⟨n,true,false⟩,List.getElem?_set_self hil,rfl,hm.symm,(Option.some.inj hv).symm⟩
  ·obtain⟨j,t,ht,h1,h2,h3⟩:=h.look2 m v hv
   refine⟨j,t,?_,h1,h2,h3⟩
   rw[List.getElem?_set_ne fun hij=>?_]
   ·exact ht
   ·subst hij
    rw[hi] at ht
    rw[←Option.some.inj ht,his] at h1;cases h1
 ·have hk:=h.emem k
  constructor
  ·intro hx
   obtain⟨j,t,h1,ht,h2⟩:=hk.1 (List.mem_cons_of_mem _ hx)
   refine⟨j,t,h1,?_,h2⟩
   rw[List.getElem?_set_ne fun hij=>?_]
   ·exact ht
   ·subst hij
    rw[h1] at hx;exact hnd.1 hx
  ·rintro⟨j,t,h1,ht,h2⟩
   by_cases hij:i=j
   ·subst hij
    rw[List.getElem?_set_self hil] at ht
    rw[←Option.some.inj ht] at h2;cases h2
   ·rw[List.getElem?_set_ne hij] at ht
    rcases List.mem_cons.1 (hk.2 ⟨j,t,h1,ht,h2⟩) with e | e
    ·omega
    ·exact e
theorem AtM.grow {n:Key} (h:AtM L M E) (hn:Go.D.look n M=none):AtM (L++[⟨n,true,false⟩]) (put n (.int .i64 (L.length:Nat)) M) E:=by
 have get:∀j t,(L++[⟨n,true,false⟩])[j]?=some t→(j<L.length∧L[j]?=some t)∨(j=L.length∧t=⟨n,true,false⟩):=fun j t ht=>by
  by_cases hj:j<L.length
  ·rw[List.getElem?_append_left hj] at ht;exact .inl ⟨hj,ht⟩
  ·rw[List.getElem?_append_right (by omega)] at ht
   obtain⟨h1,h2⟩:=List.getElem?_eq_some_iff.1 ht
   simp at h1
   right
   refine⟨by omega,?_⟩
   have:j-L.length=0:=by omega
   simp [this] at h2;exact h2.symm
 have old:∀j t,L[j]?=some t→(L++[⟨n,true,false⟩])[j]?=some t:=fun j t ht=>by
  rw[List.getElem?_append_left (List.getElem?_eq_some_iff.1 ht).1];exact ht
 refine⟨h.once.put,?_,fun j t ht hj=>?_,fun m v hv=>?_,h.nodup,fun k=>?_⟩
 ·have h2:=h.ml
  rw[ZlM,hn,ZoF];simp;omega
 ·rcases get j t ht with ⟨_,h1⟩ | ⟨h1,rfl⟩
  ·have h2:=h.look1 j t h1 hj
   rw[ZfL,if_neg fun e=>by rw[e,hn] at h2;cases h2]
   exact h2
  ·rw[ZfL,if_pos rfl,h1]
 ·rw[ZfL] at hv
  split at hv
  ·rename_i hm
   refine⟨L.length,⟨n,true,false⟩,by rw[List.getElem?_append_right (Nat.le_refl _)];simp,rfl,hm.symm,(Option.some.inj hv).symm⟩
  ·obtain⟨j,t,ht,h1,h2,h3⟩:=h.look2 m v hv
   exact⟨j,t,old j t ht,h1,h2,h3⟩
 ·rw[h.emem k]
  constructor
  ·rintro⟨j,t,h1,ht,h2⟩;exact⟨j,t,h1,old j t ht,h2⟩
  ·rintro⟨j,t,h1,ht,h2⟩
   rcases get j t ht with ⟨_,h3⟩ | ⟨h3,rfl⟩
   ·exact⟨j,t,h1,h3,h2⟩
   ·cases h2
def findN (L:List Slot) (n:Key):Option Nat:=L.findIdx? fun s=>s.is&&decide (s.key=n)
def freeN (L:List Slot):Option Nat:=L.findIdx? fun s=>!s.is
theorem AtM.find (h:AtM L M E) (n:Key):Go.D.look n M=(findN L n).map fun i=>.int .i64 (i:Nat):=by
 unfold findN
 rcases hf:L.findIdx? _ with _ | i
 ·rw[List.findIdx?_eq_none_iff] at hf
  refine Zp4 fun v hv=>?_
  obtain⟨i,s,hi,his,hn,_⟩:=h.look2 n v hv
  have:=hf s (List.mem_of_getElem? hi)
  simp [his,hn] at this
 ·rw[List.findIdx?_eq_some_iff_getElem] at hf
  obtain⟨hi,hp,_⟩:=hf
  simp at hp
  have:=h.look1 i _ (List.getElem?_eq_getElem hi) hp.1
  rw[hp.2] at this
  exact this
theorem AtM.free_none (h:AtM L M []):freeN L=none:=by
 unfold freeN
 rw[List.findIdx?_eq_none_iff]
 intro s hs
 obtain⟨i,hi,rfl⟩:=List.getElem_of_mem hs
 cases hb:L[i].is with
 | true=>rfl
 | false=>
  have:=(h.emem i).2 ⟨i,_,rfl,List.getElem?_eq_getElem hi,hb⟩
  cases this
theorem AtM.free_some {k:Int} (h:AtM L M (k::E)) (ha:(k::E).Pairwise (· < ·)):∃i s,k=(i:Nat)∧freeN L=some i∧L[i]?=some s∧s.is=false:=by
 obtain⟨i,s,hk,hi,his⟩:=(h.emem k).1 (by simp)
 refine⟨i,s,hk,?_,hi,his⟩
 obtain⟨hil,he⟩:=List.getElem?_eq_some_iff.1 hi
 unfold freeN
 rw[List.findIdx?_eq_some_iff_getElem]
 refine⟨hil,by rw[he,his];rfl,fun j hj=>?_⟩
 cases hb:(L[j]'(by omega)).is with
 | true=>simp
 | false=>
  have:=(h.emem j).2 ⟨j,_,rfl,List.getElem?_eq_getElem (by omega),hb⟩
  rcases List.mem_cons.1 this with e | e
  ·omega
  ·have:=(List.pairwise_cons.1 ha).1 _ e;omega
end
theorem Zx4:AtM [] [] []:=⟨List.nodup_nil,rfl,(fun i s h=>by simp at h),(fun n v h=>by cases h),List.nodup_nil,fun k=>⟨(fun h=>by cases h),(fun ⟨i,s,_,h,_⟩=>by simp at h)⟩⟩
end Go.Proofs.YtdaenijbokialaaGreat.Fn
namespace Go.Proofs.YtdaenijbokialaaGreat.Fn
open Go Go.D Go.Proofs Go.Proofs.YtdaenijbokialaaGreat
set_option linter.unusedSimpArgs false
set_option linter.unusedVariables false
set_option maxRecDepth 8000
structure FtD where
 b:Nat
 atoms:Option Addr
 lim:Int
 lp:Option Addr
 ln:Nat
 lc:Nat
 r:Nat
 gp:Option Addr
 gn:Nat
 gc:Nat
 L:List Slot
 M:List (Key×Value)
 E:List Int
 GL:List Nat
 GE:List Nat
def FtD.a (d:FtD):Option Addr:=some ⟨d.b,0,none⟩
def FtD.FT (d:FtD):List Nat:=d.b::d.r::(d.GL++d.GE)
def ftBlk (atoms:Option Addr) (lim:Int) (lp:Option Addr) (ln lc:Nat) (r:Option Nat) (gp:Option Addr) (gn gc:Nat):Array Value:=
 #[.pointer atoms,.int .i64 lim,.slice lp ln lc,.map r,.slice gp gn gc]
structure Ft (w:World) (d:FtD):Prop where
 blk:Blk w d.b (ftBlk d.atoms d.lim d.lp d.ln d.lc (some d.r) d.gp d.gn d.gc)
 l:SlAt w 4 d.lp d.ln d.lc (d.L.flatMap slC) d.GL
 map:MapAt w d.r nV d.M
 e:SlAt w 1 d.gp d.gn d.gc (d.E.map (.int .i64)) d.GE
 br:d.b≠d.r
 bL:d.b∉d.GL
 bE:d.b∉d.GE
 rL:d.r∉d.GL
 rE:d.r∉d.GE
 LE:Dis d.GL d.GE
structure FtOk (d:FtD):Prop where
 at':AtM d.L d.M d.E
 asc:d.E.Pairwise (· < ·)
 ll:d.L.length≤d.lim
 lim:1≤d.lim∧d.lim≤16384
theorem keyKey:KeyOf Tryz.prog 204 nV:=by
 refine keyStruct kcs 2 (fun k=>rfl) (fun k=>rfl) ?_ (by kernel_rfl) (by kernel_rfl) (by kernel_rfl) ?_ ?_
 ·rintro⟨a,b⟩ ⟨a',b'⟩ h
  simp [kcs] at h
  simp [h]
 ·rintro⟨a,b⟩ ⟨a',b'⟩
  exact⟨by decide,rfl,Zup (by rfl) _ _,by decide,rfl,Zup (by rfl) _ _,trivial⟩
 ·intro k v hv n
  simp [kcs] at hv
  rcases hv with rfl | rfl <;> simp [Instr.sameBits]
structure Nx (w w':World) (d d':FtD):Prop where
 ft:Ft w' d'
 ok:FtOk d'
 b:d'.b=d.b
 atoms:d'.atoms=d.atoms
 lim:d'.lim=d.lim
 U:Upd d.FT w w'
 S:Sub d'.FT d.FT w
def isN (L:List Slot) (id:Int):Bool:=decide (0≤id)&&match L[id.toNat]? with | some s=>s.is | none=>false
structure FR where
 i:Int
 e:Int
 L:List Slot
def addS (lim:Int) (L:List Slot) (k:Key):FR:=match freeN L with
 | some i=>⟨(i:Nat),0,L.set i ⟨k,true,false⟩⟩
 | none=>if lim≤(L.length:Nat) then ⟨0,2,L⟩ else ⟨(L.length:Nat),0,L++[⟨k,true,false⟩]⟩
def putS (lim:Int) (L:List Slot) (k:Key):FR:=match findN L k with
 | some i=>⟨(i:Nat),0,L⟩
 | none=>addS lim L k
section
variable {w:World} {d:FtD}
theorem Ft.upd {w':World} {F:List Nat} (h:Ft w d) (u:Upd F w w') (hd:Dis d.FT F):Ft w' d:=
 ⟨h.blk.upd u (hd _ (by simp [FtD.FT])),h.l.upd u (fun k hk=>hd k (by simp [FtD.FT,hk])),h.map.upd u (hd _ (by simp [FtD.FT])),h.e.upd u (fun k hk=>hd k (by simp [FtD.FT,hk])),h.br,h.bL,h.bE,h.rL,h.rE,h.LE⟩
theorem Ft.keep {w':World} (h:Ft w d) (u:Upd [] w w'):Ft w' d:=h.upd u (by intro k _ h;cases h)
theorem Ft.inn (h:Ft w d):In d.FT w:=fun k hk=>by
 rcases List.mem_cons.1 hk with rfl | hk
 ·exact h.blk.lt
 rcases List.mem_cons.1 hk with rfl | hk
 ·exact h.map.lt
 rcases List.mem_append.1 hk with hk | hk
 ·exact h.l.inn k hk
 ·exact h.e.inn k hk
theorem Ft.len (h:Ft w d):d.ln=d.L.length:=by
 have:=h.l.1
 rw[ZfJ ZhH] at this;omega
theorem Ft.elen (h:Ft w d):d.gn=d.E.length:=by have:=h.e.1;simp at this;exact this.symm
theorem Ft.c0 (h:Ft w d):w.cell? ⟨d.b,0,none⟩=some (.pointer d.atoms):=by rw[h.blk.cell];rfl
theorem Ft.c1 (h:Ft w d):w.cell? ⟨d.b,1,none⟩=some (.int .i64 d.lim):=by rw[h.blk.cell];rfl
theorem Ft.c2 (h:Ft w d):w.cell? ⟨d.b,2,none⟩=some (.slice d.lp d.ln d.lc):=by rw[h.blk.cell];rfl
theorem Ft.c3 (h:Ft w d):w.cell? ⟨d.b,3,none⟩=some (.map (some d.r)):=by rw[h.blk.cell];rfl
theorem Ft.c4 (h:Ft w d):w.cell? ⟨d.b,4,none⟩=some (.slice d.gp d.gn d.gc):=by rw[h.blk.cell];rfl
theorem Zxy {p:Option Addr} {n c:Nat} {L:List Slot} {F:List Nat} (h:SlAt w 4 p n c (L.flatMap slC) F) {i:Nat} (hi:i<L.length):∃b off,p=some ⟨b,off,none⟩∧w.cell? ⟨b,off+i*4,none⟩=some (.int .i64 L[i].key.1)∧w.cell? ⟨b,off+i*4+1,none⟩=some (.int .i64 L[i].key.2)∧w.cell? ⟨b,off+i*4+2,none⟩=some (.bool L[i].is)∧w.cell? ⟨b,off+i*4+3,none⟩=some (.bool L[i].mark):=by
 have hn:n=L.length:=by have:=h.1;rw[ZfJ ZhH] at this;omega
 rcases h.2.2 with ⟨_,hc,_⟩ | ⟨b,off,arr,hp,hG,hb,hs,hc⟩
 ·have:=h.2.1;omega
 ·refine⟨b,off,hp,?_,?_,?_,?_⟩
  ·rw[hb.cell,hc _ (by omega),←Nat.add_zero (i*4),ZhX ZhH hi (by omega)];rfl
  ·rw[hb.cell,Nat.add_assoc,hc _ (by omega),ZhX ZhH hi (by omega)];rfl
  ·rw[hb.cell,Nat.add_assoc,hc _ (by omega),ZhX ZhH hi (by omega)];rfl
  ·rw[hb.cell,Nat.add_assoc,hc _ (by omega),ZhX ZhH hi (by omega)];rfl
theorem Ft.slot (h:Ft w d) {i:Nat} (hi:i<d.L.length):∃b off,d.lp=some ⟨b,off,none⟩∧w.cell? ⟨b,off+i*4,none⟩=some (.int .i64 d.L[i].key.1)∧w.cell? ⟨b,off+i*4+1,none⟩=some (.int .i64 d.L[i].key.2)∧w.cell? ⟨b,off+i*4+2,none⟩=some (.bool d.L[i].is)∧w.cell? ⟨b,off+i*4+3,none⟩=some (.bool d.L[i].mark):=Zxy h.l hi
theorem isN_get {L:List Slot} {id:Int} (h:isN L id=true):0≤id∧∃hi:id.toNat<L.length,L[id.toNat].is=true:=by
 unfold isN at h
 simp only[Bool.and_eq_true,decide_eq_true_eq] at h
 refine⟨h.1,?_⟩
 have h2:=h.2
 split at h2
 ·rename_i s hs
  obtain⟨hl,rfl⟩:=List.getElem?_eq_some_iff.1 hs
  exact⟨hl,h2⟩
 ·cases h2
theorem made_ok {K:Bool→World→Prop} (h:Ft w d) (hK:K true w):ZaY d.a w K:=by
 apply ZaY.of
 unfold Zh3
 refine ifT rfl ?_
 simp only[FtD.a,Zch,addN,Nat.zero_add,h.c3,exM]
 exact hK
theorem New_ok {lim:Int} {ab:Addr} {K:Option Addr→Int→World→Prop} (h0:1≤lim) (h1:lim≤16384)
  (hK:∀w' d,Ft w' d→FtOk d→d.atoms=some ab→d.L=[]→d.lim=lim→Upd [] w w'→Since d.FT w→K d.a 0 w'):ZcD lim (some ab) w K:=by
 apply ZcD.of
 unfold ZlJ
 refine ifF (by simp;omega) (ifF (by simp;omega) (ifF rfl (ZmQ fun r w1 hr u1 hm0=>Zai fun b w2 hb u2 hb2=>?_)))
 have hm:=(MapAt.new nV hm0).upd u2 (by simp)
 have:=u1.size
 have hlt:r<w1.heap.size:=(MapAt.new nV hm0).lt
 refine hK w2 ⟨b,some ab,lim,none,0,0,r,none,0,0,[],[],[],[],[]⟩ ⟨hb2,SlAt.nil _ _,hm,SlAt.nil _ _,by show b≠r;omega,by simp,by simp,by simp,by simp,by intro k hk;cases hk⟩ ⟨Zx4,List.Pairwise.nil,by show ((0:Nat):Int)≤lim;omega,h0,h1⟩ rfl rfl rfl (u1.after u2) fun k hk=>?_
 simp [FtD.FT] at hk
 rcases hk with rfl | rfl <;> omega
theorem New_bad {lim:Int} {a:Option Addr} {K:Option Addr→Int→World→Prop} (h:lim<1∨16384<lim∨a=none) (hK:K none 1 w):ZcD lim a w K:=by
 apply ZcD.of
 unfold ZlJ Zlm
 refine ifC (fun _=>hK) fun h1=>ifC (fun _=>hK) fun h2=>?_
 simp at h1 h2
 rcases h with h | h | h
 ·omega
 ·omega
 ·subst h;exact ifT rfl hK
theorem may_ok {id:Int} {K:Int→World→Prop} (h:Ft w d) (hK:K (if isN d.L id then 0 else 4) w):ZbP d.a id w K:=by
 apply ZbP.of
 unfold ZiR Zgb
 have hln:=h.len
 refine made_ok h (ifF rfl ?_)
 refine ifC (fun hc=>?_) (fun hc=>?_)
 ·simp at hc
  have:isN d.L id=false:=by unfold isN;rw[decide_eq_false (by omega)];rfl
  rw[this] at hK;exact hK
 ·simp at hc
  simp only[FtD.a,Zch,addN,Nat.zero_add,h.c2,exS]
  refine ifC (fun hc2=>?_) (fun hc2=>?_)
  ·simp at hc2
   have:isN d.L id=false:=by unfold isN;rw[List.getElem?_eq_none (by omega)];simp
   rw[this] at hK;exact hK
  ·simp at hc2
   have hil:id.toNat<d.L.length:=by omega
   obtain⟨b,off,hp,q0,q1,q2,q3⟩:=h.slot hil
   have e:isN d.L id=d.L[id.toNat].is:=by unfold isN;rw[List.getElem?_eq_getElem hil];simp [hc]
   rw[e] at hK
   simp only[hp,Zch,addN,q2,exB]
   refine⟨hc,hc2,ifC (fun hb=>?_) (fun hb=>?_)⟩
   ·simp at hb
    rw[hb] at hK;exact hK
   ·simp at hb
    rw[hb] at hK;exact hK
theorem setSlot {L:List Slot} {p:Option Addr} {n c i j b off:Nat} {y:Slot} {v:Value} {F:List Nat} {K:World→Prop} (h:SlAt w 4 p n c (L.flatMap slC) F) (hi:i<L.length) (hp:p=some ⟨b,off,none⟩) (hj:j<4) (hv:v.oneCell'=true) (hy:slC y=(slC L[i]).set j v)
  (hK:∀w',SlAt w' 4 p n c ((L.set i y).flatMap slC) F→Upd F w w'→K w'):St w ⟨b,off+i*4+j,none⟩ v K:=by
 have hn:n=L.length:=by have:=h.1;rw[ZfJ ZhH] at this;omega
 rw[Nat.add_assoc]
 refine ZsP h hp (k:=i*4+j) (by omega) hv fun w' hs u=>hK w' ?_ u
 have h3:=Zrm ZhH (l:=L) (i:=i) (j:=j) (v:=v) (y:=y) hi hj hy
 rw[h3] at hs
 exact hs
theorem setSlot4 {L:List Slot} {p:Option Addr} {n c i b off:Nat} {y:Slot} {F:List Nat} {K:World→Prop} (h:SlAt w 4 p n c (L.flatMap slC) F) (hi:i<L.length) (hp:p=some ⟨b,off,none⟩)
  (hK:∀w',SlAt w' 4 p n c ((L.set i y).flatMap slC) F→Upd F w w'→K w'):St w ⟨b,off+i*4,none⟩ (.int .i64 y.key.1) fun w1=>St w1 ⟨b,off+i*4+1,none⟩ (.int .i64 y.key.2) fun w2=>St w2 ⟨b,off+i*4+2,none⟩ (.bool y.is) fun w3=>St w3 ⟨b,off+i*4+3,none⟩ (.bool y.mark) K:=by
 rw[←Nat.add_zero (off+i*4)]
 refine setSlot (j:=0) (y:=⟨(y.key.1,L[i].key.2),L[i].is,L[i].mark⟩) h hi hp (by omega) rfl (by rfl) fun w1 h1 u1=>?_
 rw[Nat.add_zero]
 refine setSlot (j:=1) (y:=⟨y.key,L[i].is,L[i].mark⟩) h1 (by simpa using hi) hp (by omega) rfl (by simp [slC]) fun w2 h2 u2=>?_
 refine setSlot (j:=2) (y:=⟨y.key,y.is,L[i].mark⟩) h2 (by simpa using hi) hp (by omega) rfl (by simp [slC]) fun w3 h3 u3=>?_
 refine setSlot (j:=3) (y:=y) h3 (by simpa using hi) hp (by omega) rfl (by simp [slC]) fun w4 h4 u4=>?_
 rw[List.set_set,List.set_set,List.set_set] at h4
 exact hK w4 h4 (((u1.both u2).both u3).both u4)
theorem add_ok {f0 f1:Int} {K:Int→Int→World→Prop} (h:Ft w d) (ok:FtOk d) (hlook:Go.D.look (f0,f1) d.M=none)
  (hK:∀w' d',Nx w w' d d'→d'.L=(addS d.lim d.L (f0,f1)).L→K (addS d.lim d.L (f0,f1)).i (addS d.lim d.L (f0,f1)).e w'):ZbM d.a f0 f1 w K:=by
 apply ZbM.of
 unfold Zih Zgf
 refine Zai fun q w1 hq u1 hb1=>?_
 have tb:=h.keep u1
 have hqF:q∉d.FT:=fun hx=>by have:=h.inn q hx;omega
 have r0:∀{z},Blk z q #[.int .i64 f0,.int .i64 f1]→z.cell? ⟨q,0,none⟩=some (.int .i64 f0):=fun h=>by rw[h.cell];rfl
 have r1:∀{z},Blk z q #[.int .i64 f0,.int .i64 f1]→z.cell? ⟨q,1,none⟩=some (.int .i64 f1):=fun h=>by rw[h.cell];rfl
 simp only[FtD.a,Zch,addN,Nat.zero_add,Nat.add_zero,tb.c2,tb.c4,exS]
 have hel:=tb.elen
 have hln:=tb.len
 have hll:=ok.ll
 have hlim:=ok.lim
 have nbd:∀F:List Nat,d.b∉F→Dis F [d.b]:=fun F hF k hk hy=>by simp at hy;subst hy;exact hF hk
 have nrd:∀F:List Nat,d.r∉F→Dis F [d.r]:=fun F hF k hk hy=>by simp at hy;subst hy;exact hF hk
 have hbr:d.b∉[d.r]:=by simp;exact tb.br
 have hrb:d.r∉[d.b]:=by simp;exact fun e=>tb.br e.symm
 have ib:∀x∈[d.b],x∈d.FT:=by intro x hx;simp at hx;subst hx;simp [FtD.FT]
 have ir:∀x∈[d.r],x∈d.FT:=by intro x hx;simp at hx;subst hx;simp [FtD.FT]
 have iL:∀x∈d.GL,x∈d.FT:=fun x hx=>by simp [FtD.FT,hx]
 have iE:∀x∈d.GE,x∈d.FT:=fun x hx=>by simp [FtD.FT,hx]
 have nq:∀F:List Nat,(∀x∈F,x∈d.FT)→q∉F:=fun F hF hx=>hqF (hF q hx)
 refine ifC (fun hc2=>?_) (fun hc2=>?_)
 ·obtain⟨k,E',hE⟩:∃k E',d.E=k::E':=by
   cases hE:d.E with
   | nil=>rw[hE] at hel;simp at hel;simp [hel] at hc2
   | cons k E'=>exact⟨k,E',rfl⟩
  have hat:=ok.at'
  have hasc:=ok.asc
  rw[hE] at hat hasc
  obtain⟨i,s,hk,hfr,hi,his⟩:=hat.free_some hasc
  have hil:i<d.L.length:=(List.getElem?_eq_some_iff.1 hi).1
  have hpe:=tb.e
  rw[hE] at hpe hel
  obtain⟨bg,og,hpg,hcg⟩:=hpe.cell (i:=0) (by simp at hel;omega)
  simp only[List.map_cons,List.getElem?_cons_zero] at hcg
  have eg:∀(Q:Addr→Prop),NN d.gp Q=NN (some ⟨bg,og,none⟩) Q:=fun Q=>by rw[hpg]
  have hd:=hpe.drop (k:=1) (by simp at hel;omega)
  simp only[eg,Zch,addN,Int.toNat_zero,Nat.zero_mul,Nat.add_zero] at hcg ⊢
  simp only[hcg,exI]
  have t1:(1:Int).toNat=1:=rfl
  rw[t1]
  refine⟨by omega,by simp at hel;omega,by omega,by simp at hel;omega,Zbi tb.blk (by simp [ftBlk]) rfl fun w2 u2 hb2=>?_⟩
  have hb2:Blk w2 d.b (ftBlk d.atoms d.lim d.lp d.ln d.lc (some d.r) (adv d.gp d.gc 1 1) (d.gn-1) (d.gc-1)):=hb2
  have hl2:w2.cell? ⟨d.b,2,none⟩=some (.slice d.lp d.ln d.lc):=by rw[hb2.cell];rfl
  obtain⟨bl,ol,hpl,_⟩:=tb.slot hil
  have el:∀(Q:Addr→Prop),NN d.lp Q=NN (some ⟨bl,ol,none⟩) Q:=fun Q=>by rw[hpl]
  have q2:=hb1.upd u2 (nq _ ib)
  rw[hk]
  simp only[drw_cell,hl2,exS,r0 q2,r1 q2,exI,el,Zch,addN,Int.toNat_natCast,Nat.add_zero]
  refine⟨by omega,by omega,?_⟩
  have hls2:=(tb.l.upd u2 (nbd _ tb.bL)).upd (Zah w2) (by intro k _ h;cases h)
  refine setSlot4 (y:=⟨(f0,f1),true,false⟩) hls2 hil hpl fun w3 hls3 u3=>?_
  have hb3:=hb2.drw.upd u3 tb.bL
  have hr3:w3.cell? ⟨d.b,3,none⟩=some (.map (some d.r)):=by rw[hb3.cell];rfl
  have q3:=q2.drw.upd u3 (nq _ iL)
  simp only[drw_cell,hr3,exM,r0 q3,r1 q3,exI]
  have hm3:=((((tb.map.upd u2 hrb).upd (Zah w2) (by simp)).upd u3 tb.rL)).upd (Zah w3) (by simp)
  refine Zie (κ:=Key) (kt:=204) (et:=3) (inj:=nV) (k:=(f0,f1)) keyKey (by rfl) hm3 fun w4 hm4 u4=>?_
  have hb4:=hb3.drw.upd u4 hbr
  have hd4:=(((hd.upd u2 (nbd _ tb.bE)).drw.upd u3 tb.LE.symm).drw).upd u4 (nrd _ tb.rE)
  have hl4:=(hls3.drw).upd u4 (nrd _ tb.rL)
  have e1:((k::E').map (Value.int .i64)).drop (1*1)=E'.map (Value.int .i64):=by simp
  rw[e1] at hd4
  have U4:Upd d.FT w w4:=u1.after ((((((u2.mono fun x hx=>.inl (ib x hx)).before (Zah w2)).both (u3.mono fun x hx=>.inl (iL x hx))).before (Zah w3))).both (u4.mono fun x hx=>.inl (ir x hx)))
  have ea:addS d.lim d.L (f0,f1)=⟨(i:Nat),0,d.L.set i ⟨(f0,f1),true,false⟩⟩:=by unfold addS;rw[hfr]
  rw[ea] at hK
  refine hK w4 { d with L:=d.L.set i ⟨(f0,f1),true,false⟩,M:=put (f0,f1) (.int .i64 (i:Nat)) d.M,E:=E',gp:=adv d.gp d.gc 1 1,gn:=d.gn-1,gc:=d.gc-1 } ⟨⟨hb4,hl4,hm4,hd4,tb.br,tb.bL,tb.bE,tb.rL,tb.rE,tb.LE⟩,⟨?_,(List.pairwise_cons.1 hasc).2,by simpa using hll,hlim⟩,rfl,rfl,rfl,U4,Sub.refl _ _⟩ rfl
  exact AtM.fill (by rw[←hk];exact hat) hi his hlook
 ·have hE:d.E=[]:=by
   have:d.E.length=0:=by simp at hc2;omega
   simpa using this
  have hat:=ok.at'
  rw[hE] at hat
  have hfr:freeN d.L=none:=hat.free_none
  simp only[tb.c1,exI]
  refine ifC (fun hc3=>?_) (fun hc3=>?_)
  ·simp at hc3
   have ea:addS d.lim d.L (f0,f1)=⟨0,2,d.L⟩:=by unfold addS;rw[hfr];simp;omega
   rw[ea] at hK
   exact hK w1 d ⟨tb,ok,rfl,rfl,rfl,u1.mono (by simp),Sub.refl _ _⟩ rfl
  ·have hlt:(d.L.length:Int)<d.lim:=by simp at hc3;omega
   have td:=tb.keep (Zah w1)
   have qd:=hb1.drw
   simp only[td.c2,r0 qd,r1 qd,exI,exS]
   refine Za3 Zxi [.agg #[.int .i64 f0,.int .i64 f1,.bool true,.bool false]] (by rfl) (by simp [Value.cells]) (by rfl) (by omega) fun w2 hs2 u2=>?_
   have tb2:=td.keep u2
   simp only[tb2.c2,true_and]
   refine Ze1 (hE:=Zxi) tb2.l hs2 (by simp [Value.cells,Value.oneCell']) (by omega) fun p' c' G' w3 hs3 u3 s3=>?_
   have V3:Upd d.GL w1 w3:=((Zah w1).after u2).after u3
   have hsz1:w1.heap.size≤w2.heap.size:=u2.size
   have hG':∀y∈G',y∈d.GL∨w1.heap.size≤y:=fun y hy=>by
    rcases s3 y hy with e | e
    ·exact .inl e
    ·right;omega
   have nG:∀c,c<w1.heap.size→c∉d.GL→c∉G':=fun c hcl hcn hx=>by
    rcases hG' c hx with e | e
    ·exact hcn e
    ·omega
   have hbG:=nG d.b tb.blk.lt tb.bL
   have hrG:=nG d.r tb.map.lt tb.rL
   have hGE:Dis G' d.GE:=fun k hk hx=>by
    rcases hG' k hk with e | e
    ·exact tb.LE k e hx
    ·have:=tb.e.inn k hx;omega
   refine Zbi (tb.blk.upd V3 tb.bL) (by simp [ftBlk]) rfl fun w4 u4 hb4=>?_
   have hb4:Blk w4 d.b (ftBlk d.atoms d.lim p' (d.ln+1) c' (some d.r) d.gp d.gn d.gc):=hb4
   have hr4:w4.cell? ⟨d.b,3,none⟩=some (.map (some d.r)):=by rw[hb4.cell];rfl
   have q4:=(hb1.upd V3 (nq _ iL)).upd u4 (nq _ ib)
   simp only[drw_cell,hr4,exM,r0 q4,r1 q4,exI]
   have hm4:=((tb.map.upd V3 tb.rL).upd u4 hrb).upd (Zah w4) (by simp)
   refine Zie (κ:=Key) (kt:=204) (et:=3) (inj:=nV) (k:=(f0,f1)) keyKey (by rfl) hm4 fun w5 hm5 u5=>?_
   have hb5:=hb4.drw.upd u5 hbr
   have hl5:=((hs3.upd u4 (nbd _ hbG)).drw).upd u5 (nrd _ hrG)
   have he5:=(((tb.e.upd V3 tb.LE.symm).upd u4 (nbd _ tb.bE)).drw).upd u5 (nrd _ tb.rE)
   have hl5:SlAt w5 4 p' (d.ln+1) c' ((d.L++[(⟨(f0,f1),true,false⟩:Slot)]).flatMap slC) G':=by
    rw[List.flatMap_append]
    simpa [Value.cells,slC] using hl5
   have U5:Upd d.FT w w5:=u1.after ((((V3.mono fun x hx=>.inl (iL x hx)).both (u4.mono fun x hx=>.inl (ib x hx))).before (Zah w4)).both (u5.mono fun x hx=>.inl (ir x hx)))
   have S5:Sub (d.b::d.r::(G' ++ d.GE)) d.FT w:=fun x hx=>by
    rcases List.mem_cons.1 hx with rfl | hx
    ·left;simp [FtD.FT]
    rcases List.mem_cons.1 hx with rfl | hx
    ·left;simp [FtD.FT]
    rcases List.mem_append.1 hx with hx | hx
    ·rcases hG' x hx with e | e
     ·exact .inl (iL x e)
     ·have:=u1.size;right;omega
    ·exact .inl (iE x hx)
   have ea:addS d.lim d.L (f0,f1)=⟨(d.L.length:Nat),0,d.L++[⟨(f0,f1),true,false⟩]⟩:=by
    unfold addS
    rw[hfr]
    simp only
    rw[if_neg (by omega)]
   rw[ea] at hK
   rw[hln]
   rw[hln] at hm5
   refine hK w5 { d with L:=d.L++[⟨(f0,f1),true,false⟩],M:=put (f0,f1) (.int .i64 (d.L.length:Nat)) d.M,lp:=p',ln:=d.ln+1,lc:=c',GL:=G' } ⟨⟨hb5,hl5,hm5,he5,tb.br,hbG,tb.bE,hrG,tb.rE,hGE⟩,⟨ok.at'.grow hlook,ok.asc,by simp;omega,hlim⟩,rfl,rfl,rfl,U5,S5⟩ rfl
end
end Go.Proofs.YtdaenijbokialaaGreat.Fn
namespace Go.Proofs.YtdaenijbokialaaGreat.Fn
open Go Go.D Go.Proofs Go.Proofs.YtdaenijbokialaaGreat
set_option linter.unusedSimpArgs false
set_option linter.unusedVariables false
set_option maxRecDepth 8000
end Go.Proofs.YtdaenijbokialaaGreat.Fn
namespace Go.Proofs.YtdaenijbokialaaGreat
open Go Go.D Go.Proofs
set_option linter.unusedSimpArgs false
set_option linter.unusedVariables false
set_option maxRecDepth 8000
structure IR where
 i:Int
 e:Int
 L:List Slot
 m:Int
def internS (lim made:Int) (L:List Slot) (n:ByteArray):IR:=
 if 64<n.size then ⟨0,3,L,made⟩ else match findN L n with
  | some i=>⟨(i:Nat),0,L,made⟩
  | none=>match freeN L with
   | some i=>⟨(i:Nat),0,L.set i ⟨n,true,false⟩,made+1⟩
   | none=>if lim≤(L.length:Nat) then ⟨0,2,L,made⟩ else ⟨(L.length:Nat),0,L++[⟨n,true,false⟩],made+1⟩
structure PR where
 i:Int
 e:Int
 L:List Slot
 m:Int
 F:List Fn.Slot
def putA (alim made:Int) (L:List Slot) (flim:Int) (FL:List Fn.Slot) (n:ByteArray) (ar:Int):PR:=
 if ar<1∨16<ar then ⟨0,1,L,made,FL⟩
 else if (internS alim made L n).e≠0 then ⟨0,(internS alim made L n).e,(internS alim made L n).L,(internS alim made L n).m,FL⟩
 else ⟨(Fn.putS flim FL ((internS alim made L n).i,ar)).i,(Fn.putS flim FL ((internS alim made L n).i,ar)).e,(internS alim made L n).L,(internS alim made L n).m,(Fn.putS flim FL ((internS alim made L n).i,ar)).L⟩
def findA (L:List Slot) (FL:List Fn.Slot) (n:ByteArray) (ar:Int):Option Nat:=(findN L n).bind fun i=>Fn.findN FL ((i:Nat),ar)
def getA (L:List Slot) (FL:List Fn.Slot) (id:Int):ByteArray×Int×Int:=match Fn.isN FL id,FL[id.toNat]? with
 | true,some s=>match isN L s.key.1,L[s.key.1.toNat]? with
  | true,some t=>(t.name,s.key.2,0)
  | _,_=>(⟨#[]⟩,0,4)
 | _,_=>(⟨#[]⟩,0,4)
def namesF (FL:List Fn.Slot):List Int:=(FL.filter (·.is)).map (·.key.1)
theorem Fn.AtM.keys {L:List Fn.Slot} {M:List (Fn.Key×Value)} {E:List Int} (h:Fn.AtM L M E) (x:Int):x∈M.map (fun y=>y.1.1)↔x∈namesF L:=by
 unfold namesF
 simp only[List.mem_map,List.mem_filter]
 constructor
 ·rintro⟨⟨k,v⟩,hm,rfl⟩
  have hk:(Go.D.look k M).isSome=true:=(Znj k M).2 (List.mem_map_of_mem (f:=(·.1)) hm)
  obtain⟨v',hv⟩:=Option.isSome_iff_exists.1 hk
  obtain⟨i,s,hs,h1,h2,_⟩:=h.look2 k v' hv
  exact⟨s,⟨List.mem_of_getElem? hs,h1⟩,by rw[h2]⟩
 ·rintro⟨s,⟨hs,his⟩,rfl⟩
  obtain⟨i,hi⟩:=List.getElem?_of_mem hs
  have h1:=h.look1 i s hi his
  have h2:=(Znj s.key M).1 (by rw[h1];rfl)
  obtain⟨y,hy,he⟩:=List.mem_map.1 h2
  exact⟨y,hy,by rw[he]⟩
section
variable {w v v':World} {X Y:List Nat} {a fa:Option Addr} {L L':List Slot} {made made' alim flim:Int} {FL FL':List Fn.Slot} {d d':Fn.FtD}
theorem Tl.own' {F:List Nat} (t:Tl w v X a L made alim) (u:Upd F v v') (hF:∀x∈F,x∈X) (hX:Since F w) (hY:Sub Y X v) (hin:In Y v'):Tl w v' Y a L made alim:=by
 obtain⟨FT,h,s,u0,d,i⟩:=t
 refine⟨FT,h.upd u fun k hk hx=>d k (hF k hx) hk,s,u0.fresh u fun k hk=>hX k hk,fun k hk hx=>?_,hin⟩
 rcases hY k hk with e | e
 ·exact d k e hx
 ·have:=h.inn k hx;omega
theorem Tl.in_ (t:Tl w v X a L made alim):In X v:=by
 obtain⟨_,_,_,_,_,i⟩:=t
 exact i
theorem Far.less {X Y:List Nat} (f:Far X v v') (h:∀k∈Y,k∈X):Far Y v v':=by
 obtain⟨F,u,d⟩:=f
 exact⟨F,u,fun k hk=>d k (h k hk)⟩
theorem Far.blk {b:Nat} {arr:Array Value} (f:Far X v v') (h:Blk v b arr) (hX:b∈X):Blk v' b arr:=by
 obtain⟨F,u,d⟩:=f
 exact h.upd u (d b hX)
theorem Far.refl (X:List Nat) (v:World):Far X v v:=Far.keep (Upd.refl _ _)
theorem Far.then {v'':World} (f:Far X v v') (g:Far X v' v''):Far X v v'':=by
 obtain⟨F,u,d⟩:=f
 obtain⟨G,u',d'⟩:=g
 refine⟨F++G,u.trans u' (fun x hx=>.inl (by simp [hx])) (fun x hx=>.inl (by simp [hx])),fun k hk hx=>?_⟩
 rcases List.mem_append.1 hx with e | e
 ·exact d k hk e
 ·exact d' k hk e
structure Bf (w v:World) (X:List Nat) (a fa:Option Addr) (L:List Slot) (made alim:Int) (FL:List Fn.Slot) (flim:Int) (d:Fn.FtD):Prop where
 tl:Tl w v (d.FT++X) a L made alim
 ft:Fn.Ft v d
 ok:Fn.FtOk d
 atoms:d.atoms=a
 fa:d.a=fa
 eL:d.L=FL
 el:d.lim=flim
 sd:Since d.FT w
 dx:Dis d.FT X
theorem Bf.U (b:Bf w v X a fa L made alim FL flim d):Upd [] w v:=b.tl.U
theorem Bf.keep (b:Bf w v X a fa L made alim FL flim d) (u:Upd [] v v'):Bf w v' X a fa L made alim FL flim d:=⟨b.tl.keep u,b.ft.keep u,b.ok,b.atoms,b.fa,b.eL,b.el,b.sd,b.dx⟩
theorem Bf.turn (b:Bf w v X a fa L made alim FL flim d) (n:Fn.Nx v v' d d') (hL:d'.L=FL'):Bf w v' X a fa L made alim FL' flim d'∧Far X v v':=by
 have hiX:In X v:=fun k hk=>b.tl.in_ k (by simp [hk])
 have sub:Sub (d'.FT++X) (d.FT++X) v:=fun k hk=>by
  rcases List.mem_append.1 hk with e | e
  ·rcases n.S k e with h | h
   ·left;simp [h]
   ·exact .inr h
  ·left;simp [e]
 have inn:In (d'.FT++X) v':=fun k hk=>by
  rcases List.mem_append.1 hk with e | e
  ·exact n.ft.inn k e
  ·exact hiX.upd n.U k e
 refine⟨⟨b.tl.own' n.U (fun k hk=>by simp [hk]) b.sd sub inn,n.ft,n.ok,n.atoms.trans b.atoms,?_,hL,n.lim.trans b.el,b.sd.step n.S b.U.size,b.dx.step n.S hiX⟩,_,n.U,b.dx.symm⟩
 rw[←b.fa];unfold Fn.FtD.a;rw[n.b]
theorem Bf.name (b:Bf w v X a fa L made alim FL flim d) (t:Tl w v' (d.FT++X) a L' made' alim) (f:Far (d.FT++X) v v'):Bf w v' X a fa L' made' alim FL flim d∧Far X v v':=by
 refine⟨⟨t,?_,b.ok,b.atoms,b.fa,b.eL,b.el,b.sd,b.dx⟩,f.less fun k hk=>by simp [hk]⟩
 obtain⟨F,u,dd⟩:=f
 exact b.ft.upd u fun k hk=>dd k (by simp [hk])
theorem Bf.own {F:List Nat} (b:Bf w v X a fa L made alim FL flim d) (u:Upd F v v') (hF:∀x∈F,x∈X) (hS:Since F w) (hY:Sub Y X v) (hin:In Y v'):Bf w v' Y a fa L made alim FL flim d:=by
 have hd:Dis d.FT F:=fun k hk hx=>b.dx k hk (hF k hx)
 refine⟨b.tl.own' u (fun k hk=>by simp [hF k hk]) hS ?_ ?_,b.ft.upd u hd,b.ok,b.atoms,b.fa,b.eL,b.el,b.sd,(b.dx.symm.step hY b.ft.inn).symm⟩
 ·intro k hk
  rcases List.mem_append.1 hk with e | e
  ·left;simp [e]
  ·rcases hY k e with h | h
   ·left;simp [h]
   ·exact .inr h
 ·intro k hk
  rcases List.mem_append.1 hk with e | e
  ·exact b.ft.inn.upd u k e
  ·exact hin k e
theorem Bf.watch (b:Bf w v X a fa L made alim FL flim d) (u:Upd [] v v') (hY:Since Y v) (hin:In Y v'):Bf w v' (Y++X) a fa L made alim FL flim d:=by
 refine b.own (F:=[]) u (by simp) (by intro k hk;cases hk) (fun k hk=>?_) (fun k hk=>?_)
 ·rcases List.mem_append.1 hk with e | e
  ·exact .inr (hY k e)
  ·exact .inl e
 ·rcases List.mem_append.1 hk with e | e
  ·exact hin k e
  ·exact(show In X v from fun k hk=>b.tl.in_ k (by simp [hk])).upd u k e
theorem Bf.less (b:Bf w v X a fa L made alim FL flim d) (h:∀k∈Y,k∈X):Bf w v Y a fa L made alim FL flim d:=
 b.own (F:=[]) (Upd.refl _ _) (by simp) (by intro k hk;cases hk) (fun k hk=>.inl (h k hk)) (fun k hk=>b.tl.in_ k (by simp [h k hk]))
theorem Bf.new {ab:Addr} {K:Option Addr→Int→World→Prop} (t:Tl w v X (some ab) L made alim) (h0:1≤flim) (h1:flim≤16384) (hK:∀v' d,Bf w v' X (some ab) d.a L made alim [] flim d→Upd [] v v'→K d.a 0 v'):ZcD flim (some ab) v K:=
 Fn.New_ok h0 h1 fun v' d ft ok e1 e2 e3 u s=>hK v' d ⟨t.watch u s ft.inn,ft,ok,e1,rfl,e2,e3,(fun k hk=>by have:=s k hk;have:=t.U.size;omega),fun k hk hx=>by have:=s k hk;have:=t.in_ k hx;omega⟩ u
theorem Tl.intern' {name:ByteArray} {K:Int→Int→World→Prop} (t:Tl w v X a L made alim) (hmade:made<2^40)
  (hK:∀v',Tl w v' X a (internS alim made L name).L (internS alim made L name).m alim→Far X v v'→K (internS alim made L name).i (internS alim made L name).e v'):ZaE a name v K:=by
 unfold internS at hK
 refine t.intern hmade (fun h1 v' t f=>?_) (fun h1 i h2 v' t f=>?_) (fun h1 h2 i h3 v' t f=>?_) (fun h1 h2 h3 h4 v' t f=>?_) (fun h1 h2 h3 h4 v' t f=>?_)
 ·rw[if_pos h1] at hK;exact hK v' t f
 ·rw[if_neg (by omega),h2] at hK;exact hK v' t f
 ·rw[if_neg (by omega),h2,h3] at hK;exact hK v' t f
 ·rw[if_neg (by omega),h2,h3] at hK
  simp only[if_pos h4] at hK;exact hK v' t f
 ·rw[if_neg (by omega),h2,h3] at hK
  simp only[if_neg (show ¬alim≤(L.length:Int) by omega)] at hK;exact hK v' t f
theorem Bf.get {id:Int} {K:ByteArray→Int→Int→World→Prop} (b:Bf w v X a fa L made alim FL flim d) (hK:∀v',Bf w v' X a fa L made alim FL flim d→Far X v v'→K (getA L FL id).1 (getA L FL id).2.1 (getA L FL id).2.2 v'):ZbK fa id v K:=by
 rw[←b.fa]
 apply ZbK.of
 unfold ZiF
 have eL:=b.eL
 subst eL
 unfold getA at hK
 refine Fn.may_ok b.ft ?_
 cases hb:Fn.isN d.L id with
 | false=>
  rw[hb] at hK
  exact ifT rfl (hK v b (Far.refl _ _))
 | true=>
  refine ifF rfl ?_
  obtain⟨h0,hi,his⟩:=Fn.isN_get hb
  rw[hb,List.getElem?_eq_getElem hi] at hK
  simp only at hK
  have hln:=b.ft.len
  obtain⟨bb,off,hp,q0,q1,q2,q3⟩:=b.ft.slot hi
  have ep:∀Q,NN d.lp Q=NN (some ⟨bb,off,none⟩) Q:=fun Q=>by rw[hp]
  simp only[Fn.FtD.a,Zch,addN,Nat.zero_add,b.ft.c2,exS,ep,Nat.add_zero,q0,q1,exI]
  refine⟨h0,by omega,Zai fun r v1 hr u1 hb1=>?_⟩
  have rX:Since [r] v:=fun k hk=>by simp at hk;omega
  have b1:=b.watch u1 rX (fun k hk=>by simp at hk;subst hk;exact hb1.lt)
  refine Zbi hb1 (by simp) rfl fun v2 u2 hb2=>Zbi hb2 (by simp) rfl fun v3 u3 hb3=>?_
  simp at hb3
  have rw':Since [r] w:=fun k hk=>by have:=rX k hk;have:=b.U.size;omega
  have b3:=(b1.own (F:=[r]) (u2.both u3) (by simp) rw' (Sub.refl _ _) (fun k hk=>(b1.tl.in_.upd (u2.both u3)) k (by simp at hk ⊢;rcases hk with h | h <;> simp [h]))).keep (Zah v3)
  have f3:Far X v (drw v3):=(Far.keep u1).then (⟨[r],(u2.both u3).before (Zah v3),fun k hk hx=>by
   simp at hx;subst hx
   have:=b.tl.in_ k (by simp [hk]);omega⟩)
  have r0:∀{z},Blk z r #[.int .i64 d.L[id.toNat].key.1,.int .i64 d.L[id.toNat].key.2]→z.cell? ⟨r,0,none⟩=some (.int .i64 d.L[id.toNat].key.1):=fun h=>by rw[h.cell];rfl
  have r1:∀{z},Blk z r #[.int .i64 d.L[id.toNat].key.1,.int .i64 d.L[id.toNat].key.2]→z.cell? ⟨r,1,none⟩=some (.int .i64 d.L[id.toNat].key.2):=fun h=>by rw[h.cell];rfl
  simp only[b3.ft.c0,exP,b3.atoms,r0 hb3.drw,exI]
  refine b3.tl.name (fun hno v4 t4 g4=>?_) (fun hyes hi2 v4 t4 g4=>?_)
  ·obtain⟨b4,f4⟩:=b3.name t4 g4
   refine ifT rfl ?_
   rw[hno] at hK
   exact hK v4 (b4.less fun k hk=>by simp [hk]) (f3.then (f4.less fun k hk=>by simp [hk]))
  ·obtain⟨b4,f4⟩:=b3.name t4 g4
   refine ifF rfl ?_
   rw[hyes,List.getElem?_eq_getElem hi2] at hK
   simp only at hK
   have hb4:=f4.blk hb3.drw (by simp)
   simp only[drw_cell,r1 hb4,exI,true_and]
   exact hK _ ((b4.less fun k hk=>by simp [hk]).keep (Zah v4)) ((f3.then (f4.less fun k hk=>by simp [hk])).then (Far.keep (Zah v4)))
theorem Bf.put {name:ByteArray} {ar:Int} {K:Int→Int→World→Prop} (b:Bf w v X a fa L made alim FL flim d) (hmade:made<2^40)
  (hK:∀v' d',Bf w v' X a fa (putA alim made L flim FL name ar).L (putA alim made L flim FL name ar).m alim (putA alim made L flim FL name ar).F flim d'→Far X v v'→K (putA alim made L flim FL name ar).i (putA alim made L flim FL name ar).e v'):ZbJ fa name ar v K:=by
 rw[←b.fa]
 apply ZbJ.of
 unfold ZiV
 unfold putA at hK
 refine Fn.made_ok b.ft (ifF rfl ?_)
 refine ifC (fun hc=>?_) (fun hc=>ifC (fun hc2=>?_) (fun hc2=>?_))
 ·simp at hc
  rw[if_pos (by omega)] at hK
  exact hK v d b (Far.refl _ _)
 ·simp at hc2
  rw[if_pos (by omega)] at hK
  exact hK v d b (Far.refl _ _)
 ·simp at hc hc2
  rw[if_neg (by omega)] at hK
  have ea:∀Q,NN d.a Q=NN (some ⟨d.b,0,none⟩) Q:=fun Q=>rfl
  simp only[ea,Zch,addN,Nat.zero_add,b.ft.c0,exP,b.atoms]
  refine b.tl.intern' hmade fun v1 t1 f1=>?_
  obtain⟨b1,g1⟩:=b.name t1 f1
  refine ifC (fun he=>?_) (fun he=>?_)
  ·simp at he
   rw[if_pos he] at hK
   exact hK v1 d b1 g1
  ·simp at he
   rw[if_neg (by simp [he])] at hK
   refine Zai fun r v2 hr u2 hb2=>?_
   have rX:Since [r] v1:=fun k hk=>by simp at hk;omega
   have b2:=b1.watch u2 rX (fun k hk=>by simp at hk;subst hk;exact hb2.lt)
   refine Zbi hb2 (by simp) rfl fun v3 u3 hb3=>Zbi hb3 (by simp) rfl fun v4 u4 hb4=>?_
   simp at hb4
   have rw':Since [r] w:=fun k hk=>by have:=rX k hk;have:=b1.U.size;omega
   have b4:=(b2.own (F:=[r]) (u3.both u4) (by simp) rw' (Sub.refl _ _) (fun k hk=>(b2.tl.in_.upd (u3.both u4)) k (by simp at hk ⊢;rcases hk with h | h <;> simp [h]))).keep (Zah v4)
   have f4:Far X v (drw v4):=g1.then ((Far.keep u2).then (⟨[r],(u3.both u4).before (Zah v4),fun k hk hx=>by
    simp at hx;subst hx
    have:=b1.tl.in_ k (by simp [hk]);omega⟩))
   have r0:∀{z},Blk z r #[.int .i64 (internS alim made L name).i,.int .i64 ar]→z.cell? ⟨r,0,none⟩=some (.int .i64 (internS alim made L name).i):=fun h=>by rw[h.cell];rfl
   have r1:∀{z},Blk z r #[.int .i64 (internS alim made L name).i,.int .i64 ar]→z.cell? ⟨r,1,none⟩=some (.int .i64 ar):=fun h=>by rw[h.cell];rfl
   have c3:(drw v4).cell? ⟨d.b,3,none⟩=some (.map (some d.r)):=b4.ft.c3
   simp only[c3,exM,r0 hb4.drw,r1 hb4.drw,exI]
   refine ZkT (κ:=Fn.Key) (kt:=204) (et:=3) (inj:=Fn.nV) (z:=.int .i64 0) (k:=((internS alim made L name).i,ar)) Fn.keyKey (by rfl) ⟨_,rfl,rfl⟩ b4.ft.map ?_
   have hfind:=b4.ok.at'.find ((internS alim made L name).i,ar)
   rw[b4.eL] at hfind
   have b5:=b4.less (Y:=X) fun k hk=>by simp [hk]
   unfold Fn.putS at hK
   rcases hg:Fn.findN FL ((internS alim made L name).i,ar) with _ | j
   ·rw[hg] at hfind hK
    have hlook:Go.D.look ((internS alim made L name).i,ar) d.M=none:=hfind
    rw[hlook]
    refine⟨_,_,rfl,ifF rfl ?_⟩
    simp only[r0 hb4.drw,r1 hb4.drw,exI]
    refine Fn.add_ok b4.ft b4.ok hlook fun v6 d6 n6 hL6=>?_
    rw[b4.eL,b4.el] at hL6 ⊢
    obtain⟨b6,f6⟩:=b5.turn n6 hL6
    exact hK v6 d6 b6 (f4.then f6)
   ·rw[hg] at hfind hK
    rw[hfind]
    exact⟨_,_,rfl,ifT rfl (hK _ d b5 f4)⟩
end
section
variable {w v:World} {X:List Nat} {a fa:Option Addr} {L:List Slot} {made lim alim flim:Int} {FL:List Fn.Slot} {d:Fn.FtD}
theorem Tl.atm (t:Tl w v X a L made lim):∃M E,AtM L M E:=by
 obtain⟨FT,h | ⟨b,_,_,_,hL,_⟩,_,_⟩:=t
 ·obtain⟨d,_,ok,_,_,hL,_,_⟩:=h
  rw[←hL];exact⟨_,_,ok.at'⟩
 ·rw[hL];exact⟨_,_,Zv4⟩
theorem Bf.atm (b:Bf w v X a fa L made alim FL flim d):∃M E,Fn.AtM FL M E:=by
 rw[←b.eL];exact⟨_,_,b.ok.at'⟩
theorem findN_get {n:ByteArray} {i:Nat} (h:findN L n=some i):∃hi:i<L.length,L[i].is=true∧L[i].name=n:=by
 unfold findN at h
 rw[List.findIdx?_eq_some_iff_getElem] at h
 obtain⟨hi,hp,_⟩:=h
 simp at hp
 exact⟨hi,hp.1,hp.2⟩
theorem find_of (t:∃M E,AtM L M E) {i:Nat} {s:Slot} (hi:L[i]?=some s) (his:s.is=true):findN L s.name=some i:=by
 obtain⟨M,E,h⟩:=t
 have h1:=h.look1 i s hi his
 rw[h.find] at h1
 rcases hf:findN L s.name with _ | j
 ·rw[hf] at h1;cases h1
 ·rw[hf] at h1
  simp at h1
  congr 1;omega
theorem freeN_get {i:Nat} (h:freeN L=some i):∃s,L[i]?=some s∧s.is=false:=by
 unfold freeN at h
 rw[List.findIdx?_eq_some_iff_getElem] at h
 obtain⟨hi,hp,_⟩:=h
 exact⟨_,List.getElem?_eq_getElem hi,by simpa using hp⟩
theorem Fn.findN_get {n:Fn.Key} {i:Nat} (h:Fn.findN FL n=some i):∃hi:i<FL.length,FL[i].is=true∧FL[i].key=n:=by
 unfold Fn.findN at h
 rw[List.findIdx?_eq_some_iff_getElem] at h
 obtain⟨hi,hp,_⟩:=h
 simp at hp
 exact⟨hi,hp.1,hp.2⟩
theorem Fn.find_of (t:∃M E,Fn.AtM FL M E) {i:Nat} {s:Fn.Slot} (hi:FL[i]?=some s) (his:s.is=true):Fn.findN FL s.key=some i:=by
 obtain⟨M,E,h⟩:=t
 have h1:=h.look1 i s hi his
 rw[h.find] at h1
 rcases hf:Fn.findN FL s.key with _ | j
 ·rw[hf] at h1;cases h1
 ·rw[hf] at h1
  simp at h1
  congr 1;omega
theorem Fn.freeN_get {i:Nat} (h:Fn.freeN FL=some i):∃s,FL[i]?=some s∧s.is=false:=by
 unfold Fn.freeN at h
 rw[List.findIdx?_eq_some_iff_getElem] at h
 obtain⟨hi,hp,_⟩:=h
 exact⟨_,List.getElem?_eq_getElem hi,by simpa using hp⟩
def At (L:List Slot) (FL:List Fn.Slot) (id:Nat) (n:ByteArray) (ar:Int):Prop:=∃(i:Nat) (m m':Bool),FL[id]?=some ⟨((i:Nat),ar),true,m⟩∧L[i]?=some ⟨n,true,m'⟩
theorem At.get {id:Nat} {n:ByteArray} {ar:Int} (h:At L FL id n ar):getA L FL (id:Nat)=(n,ar,0):=by
 obtain⟨i,m,m',h1,h2⟩:=h
 unfold getA Fn.isN
 simp only[Int.toNat_natCast,h1]
 unfold isN
 simp [h2]
theorem At.find {id:Nat} {n:ByteArray} {ar:Int} (h:At L FL id n ar) (t:∃M E,AtM L M E) (u:∃M E,Fn.AtM FL M E):findA L FL n ar=some id:=by
 obtain⟨i,m,m',h1,h2⟩:=h
 have e1:=find_of t h2 rfl
 have e2:=Fn.find_of u h1 rfl
 unfold findA
 simp only at e1 e2
 rw[e1]
 exact e2
theorem At.same {id:Nat} {n n':ByteArray} {ar ar':Int} (h:At L FL id n ar) (h':At L FL id n' ar'):n=n'∧ar=ar':=by
 have e1:=h.get
 rw[h'.get] at e1
 simp at e1
 exact⟨e1.1.symm,e1.2.symm⟩
theorem Zpx {n:ByteArray} {j:Nat} {s:Slot} (h:L[j]?=some s) (hs:s.is=true):(internS lim made L n).L[j]?=some s:=by
 unfold internS
 split
 ·exact h
 ·split
  ·exact h
  ·split
   ·rename_i i hi
    obtain⟨s',h1,h2⟩:=freeN_get hi
    rw[List.getElem?_set_ne]
    ·exact h
    ·rintro rfl
     rw[h] at h1
     rw[←Option.some.inj h1,hs] at h2;cases h2
   ·split
    ·exact h
    ·rw[List.getElem?_append_left (List.getElem?_eq_some_iff.1 h).1];exact h
theorem Zs9 {n:ByteArray} (h:(internS lim made L n).e=0):∃(i:Nat) (m:Bool),(internS lim made L n).i=i∧(internS lim made L n).L[i]?=some ⟨n,true,m⟩:=by
 unfold internS at *
 split at h
 ·cases h
 ·rename_i h1
  try rw[if_neg h1]
  split at h
  ·rename_i i hi
   obtain⟨hl,h2,h3⟩:=findN_get hi
   try rw[hi]
   refine⟨i,L[i].mark,rfl,?_⟩
   simp only
   rw[List.getElem?_eq_getElem hl,←h3,←h2]
  ·rename_i hn
   try rw[hn]
   try simp only
   split at h
   ·rename_i i hi
    try rw[hi]
    obtain⟨s',h3,h4⟩:=freeN_get hi
    exact⟨i,false,rfl,List.getElem?_set_self (List.getElem?_eq_some_iff.1 h3).1⟩
   ·rename_i hf
    try rw[hf]
    try simp only
    split at h
    ·cases h
    ·rename_i hl
     try rw[if_neg hl]
     exact⟨L.length,false,rfl,by simp⟩
theorem ZrZ (lim made:Int) (L:List Slot) (n:ByteArray):made≤(internS lim made L n).m∧(internS lim made L n).m≤made+1:=by
 unfold internS
 split
 ·simp;omega
 ·split
  ·simp;omega
  ·split
   ·simp;omega
   ·split <;> simp <;> omega
theorem Fn.put_stay {k:Fn.Key} {j:Nat} {s:Fn.Slot} (h:FL[j]?=some s) (hs:s.is=true):(Fn.putS flim FL k).L[j]?=some s:=by
 unfold Fn.putS Fn.addS
 split
 ·exact h
 ·split
  ·rename_i i hi
   obtain⟨s',h1,h2⟩:=Fn.freeN_get hi
   rw[List.getElem?_set_ne]
   ·exact h
   ·rintro rfl
    rw[h] at h1
    rw[←Option.some.inj h1,hs] at h2;cases h2
  ·split
   ·exact h
   ·rw[List.getElem?_append_left (List.getElem?_eq_some_iff.1 h).1];exact h
theorem Fn.put_at {k:Fn.Key} (h:(Fn.putS flim FL k).e=0):∃(i:Nat) (m:Bool),(Fn.putS flim FL k).i=i∧(Fn.putS flim FL k).L[i]?=some ⟨k,true,m⟩:=by
 unfold Fn.putS Fn.addS at *
 split at h
 ·rename_i i hi
  obtain⟨hl,h2,h3⟩:=Fn.findN_get hi
  try rw[hi]
  refine⟨i,FL[i].mark,rfl,?_⟩
  simp only
  rw[List.getElem?_eq_getElem hl,←h3,←h2]
 ·rename_i hn
  try rw[hn]
  try simp only
  split at h
  ·rename_i i hi
   try rw[hi]
   obtain⟨s',h3,h4⟩:=Fn.freeN_get hi
   exact⟨i,false,rfl,List.getElem?_set_self (List.getElem?_eq_some_iff.1 h3).1⟩
  ·rename_i hf
   try rw[hf]
   try simp only
   split at h
   ·cases h
   ·rename_i hl
    try rw[if_neg hl]
    exact⟨FL.length,false,rfl,by simp⟩
theorem Zwj (alim made:Int) (L:List Slot) (flim:Int) (FL:List Fn.Slot) (n:ByteArray) (ar:Int):made≤(putA alim made L flim FL n ar).m∧(putA alim made L flim FL n ar).m≤made+1:=by
 have:=ZrZ alim made L n
 unfold putA
 split
 ·simp;omega
 ·split
  ·exact this
  ·exact this
theorem Zts {n:ByteArray} {ar:Int} {j:Nat} {s:Slot} (h:L[j]?=some s) (hs:s.is=true):(putA alim made L flim FL n ar).L[j]?=some s:=by
 unfold putA
 split
 ·exact h
 ·split
  ·exact Zpx h hs
  ·exact Zpx h hs
theorem Ztu {n:ByteArray} {ar:Int} {j:Nat} {s:Fn.Slot} (h:FL[j]?=some s) (hs:s.is=true):(putA alim made L flim FL n ar).F[j]?=some s:=by
 unfold putA
 split
 ·exact h
 ·split
  ·exact h
  ·exact Fn.put_stay h hs
theorem At.put {id:Nat} {n n':ByteArray} {ar ar':Int} (h:At L FL id n ar):At (putA alim made L flim FL n' ar').L (putA alim made L flim FL n' ar').F id n ar:=by
 obtain⟨i,m,m',h1,h2⟩:=h
 exact⟨i,m,m',Ztu h1 rfl,Zts h2 rfl⟩
theorem Zx0 {n:ByteArray} {ar:Int} (h:(putA alim made L flim FL n ar).e=0):∃id:Nat,(putA alim made L flim FL n ar).i=id∧At (putA alim made L flim FL n ar).L (putA alim made L flim FL n ar).F id n ar:=by
 unfold putA at *
 split at h
 ·cases h
 ·rename_i h1
  rw[if_neg h1]
  split at h
  ·rename_i h2
   exact absurd h h2
  ·rename_i h2
   rw[if_neg h2]
   simp only at h ⊢
   obtain⟨i,m,e1,e2⟩:=Zs9 (show (internS alim made L n).e=0 by simpa using h2)
   rw[e1] at h ⊢
   obtain⟨id,m',e3,e4⟩:=Fn.put_at h
   exact⟨id,e3,i,m',m,e4,e2⟩
end
end Go.Proofs.YtdaenijbokialaaGreat
