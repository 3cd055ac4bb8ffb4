import Derived.Test.YtdaenijbokialaaGreatOwn12
import Derived.Laws.IdiomStrings
import Derived.Laws.BytesArg
import Derived.Test.YtdaenijbokialaaGreatOwn6
import GoSem.ClaimJoined
namespace Go.D
open Go
set_option linter.unusedSimpArgs false
set_option linter.unusedVariables false
set_option maxRecDepth 8000
theorem Zwm {P:Program} {S T E ty:TypeId} {sz by_:Nat} {zc:Array Value} (hE:ElemOf P S E sz by_ zc) (hTu:P.underlying T=some (.slice E)) {w:World} {p:Option Addr} {n c m:Nat} {xs ys:List Value} {F:List Nat} {q:Option Addr} {d:Nat}
  (hS:SlAt w sz p n c xs F) (hfc:∀w',w'=w∨w'=w.drew→(Builtin.firstCells sz m (.slice q m d)).run P w'=.ok ys.toArray w') (hT1:ys.length=m*sz) (hone:∀v∈ys,v.oneCell'=true) (hb:(n+m)*by_≤2^46) {K:Option Addr→Nat→Nat→World→Prop}
  (hK:∀p' c' F' w',SlAt w' sz p' (n+m) c' (xs++ys) F'→Upd F w w'→Sub F' F w→K p' (n+m) c' w') :
  App P #[S,T] ty #[.slice p n c,.slice q m d] w K:=by
 obtain⟨i,hi,hsz,hby,z,hz,hzc⟩:=hE.info
 have hbp:=hE.bpos
 have hnm:n+m≤2^46:=by
  have:(n+m)*1≤(n+m)*by_:=Nat.mul_le_mul_left _ hbp
  omega
 have hzer : ((match P.underlying S with | some d => pure d | none => stuck "no such type" : Sem TypeDesc)).run P w = .ok (.slice E) w := by rw [hE.und]; rfl
 unfold App Run
 by_cases hroom:n+m≤c
 ·-- there is room
  have hw:∃p' w' F',(Builtin.append_ #[S,T] ty #[.slice p n c,.slice q m d]).run P w=.ok (.slice p' (n+m) c) w'∧SlAt w' sz p' (n+m) c (xs++ys) F'∧Upd F w w'∧Sub F' F w:=by
   rcases hS.2.2 with ⟨rfl,rfl,rfl⟩ | ⟨b,off,arr,rfl,rfl,hblk,hs,hc⟩
   ·obtain rfl:n=0:=by omega
    obtain rfl:m=0:=by omega
    have hxs:xs=[]:=by have:=hS.1;simpa using this
    have hys:ys=[]:=by have:=hT1;simpa using this
    subst hxs;subst hys
    refine⟨none,w,[],?_,SlAt.nil w sz,Upd.refl _ _,Sub.refl _ _⟩
    have:=hfc w (.inl rfl)
    simp [Builtin.append_,Zaa hE.und,Zaa hTu,sizeOf,typeInfo,hi,hsz,Builtin.lenOf, this]
   ·have hy:=hfc w (.inl rfl)
    have hmul:(n+m)*sz=n*sz+m*sz:=Nat.add_mul ..
    have hle:(n+m)*sz≤c*sz:=Nat.mul_le_mul_right _ hroom
    obtain⟨w',arr',hr,hu,hb',hsz',h1,h2⟩:=ZkG (P:=P) ys (off+n*sz) 0 w arr hblk (by rw[hT1];omega) hone
    refine⟨some ⟨b,off,none⟩,w',[b],?_,?_,hu,Sub.refl _ _⟩
    ·simp [Builtin.append_,Zaa hE.und,Zaa hTu,sizeOf,typeInfo,hi,hsz,Builtin.lenOf, hroom,hy,addN,hr]
    ·refine⟨by rw[List.length_append,hS.1,hT1,hmul],hroom,.inr ⟨b,off,arr',rfl,rfl,hb',by omega,fun i hi=>?_⟩⟩
     rw[List.getElem?_append]
     by_cases hin:i<n*sz
     ·rw[if_pos (by rw[hS.1];exact hin),h2 (off+i) (.inl (by omega))]
      exact hc i hin
     ·rw[if_neg (by rw[hS.1];exact hin)]
      have:=h1 (i-n*sz) (by rw[hT1];omega)
      rw[←show off+n*sz+0+(i-n*sz)=off+i by omega,this,hS.1]
  obtain⟨p',w',F',hrun,hsl,hu,hsub⟩:=hw
  rw[hrun]
  exact⟨p',n+m,c,rfl,hK p' c F' w' hsl hu hsub⟩
 ·-- a new array
  have hx:=Zde (P:=P) hS
  have hy:=hfc w (.inl rfl)
  have hbm:=hE.bmax
  have hcap:¬Builtin.nextslicecap (n+m) c*by_>2^48:=by
   have h1:=ZoH (n+m) c (by omega)
   have h2:Builtin.nextslicecap (n+m) c*by_≤(2*(n+m)+192)*by_:=Nat.mul_le_mul_right _ h1
   have h3:(2*(n+m)+192)*by_=2*((n+m)*by_)+192*by_:=by rw[Nat.add_mul,Nat.mul_assoc]
   have h4:192*by_≤192*4096:=Nat.mul_le_mul_left _ hbm
   omega
  have hb0:by_≠0:=by omega
  have hzv:∀w,(zeroValue E).run P w=.ok z w:=fun w=>by simp [zeroValue,typeInfo,hi,hz]
  have hforced:∀a b t,(Question.appendCap a b t).forced=false:=fun _ _ _=>rfl
  obtain⟨N,hN⟩:∃N,N=Question.cut (.appendCap (n+m) c E) (w.tape w.drawn (.appendCap (n+m) c E)):=⟨_,rfl⟩
  have hNge:n+m≤N:=by rw[hN];simp only[Question.cut];omega
  obtain⟨arr,harr⟩:∃arr:Array Value,arr=xs.toArray++(ys.toArray++Builtin.zeroCells z.cells (N-(n+m))):=⟨_,rfl⟩
  have hu0:Upd [] w w.drew:=Zah w
  have hrun:(Builtin.append_ #[S,T] ty #[.slice p n c,.slice q m d]).run P w=.ok (.slice (some ⟨w.heap.size,0,none⟩) (n+m) N) { w.drew with heap:=w.drew.heap.push (.cells arr E) }:=by
   have hx1:=Zde (P:=P) (SlAt.drw hS)
   have hy1:=hfc w.drew (.inr rfl)
   have e1:drw w=w.drew:=rfl
   rw[e1] at hx1
   rw[harr,hN]
   simp [Builtin.append_,Zaa hE.und,Zaa hTu,sizeOf,typeInfo,hi,hsz,hby,Builtin.lenOf, hroom,hcap,hb0,hzv,hforced,hx1,hy1,newRow]
   rfl
  rw[hrun]
  have hblk:Blk ({ w.drew with heap:=w.drew.heap.push (.cells arr E) }:World) w.heap.size arr:=by
   refine⟨E,(0,0),?_,.inl (Nat.le_refl _)⟩
   show (w.heap.push _)[_]?=_
   simp
  have hmul:(n+m)*sz=n*sz+m*sz:=Nat.add_mul ..
  have hNmul:N*sz=(n+m)*sz+(N-(n+m))*sz:=by rw[←Nat.add_mul];congr 1;omega
  have hasz:arr.size=N*sz:=by
   rw[harr,hNmul]
   simp only[Array.size_append,List.size_toArray,Zpb,hS.1,hT1,hzc,hE.zsz]
   omega
  refine⟨_,_,_,rfl,hK _ N [w.heap.size] _ ?_ ((hu0.before (Zqd w.drew _)).mono (by simp)) (fun k hk=>.inr (by simp at hk;omega))⟩
  refine⟨by rw[List.length_append,hS.1,hT1,hmul],hNge,.inr ⟨w.heap.size,0,arr,rfl,rfl,hblk,by omega,fun i hi=>?_⟩⟩
  have hxl:=hS.1
  have hyl:=hT1
  rw[Nat.zero_add,harr,List.getElem?_append,Array.getElem?_append]
  by_cases hin:i<n*sz
  ·simp [hxl,hin]
  ·have h2:i-n*sz<m*sz:=by omega
   simp [hxl,hin,Array.getElem?_append,hyl,h2]
theorem ZpY {P:Program} {w:World} {sz:Nat} {q:Option Addr} {m d:Nat} {ys:List Value} (h:Rd w sz q m ys):(Builtin.firstCells sz m (.slice q m d)).run P w=.ok ys.toArray w:=by
 rcases q with _ | a
 ·rcases h.2 with h0 | ⟨x,hx,_⟩
  ·have hy:ys=[]:=by have:=h.1;rw[h0] at this;simpa using this
   subst hy
   simp [Builtin.firstCells]
  ·cases hx
 ·simp only[Builtin.firstCells]
  rw[←h.1]
  have:=Zhq (P:=P) (w:=w) (a:=a) ys.length 0 #[] ys rfl (fun j hj=>by
   rcases h.2 with h0 | ⟨x,hx,hc⟩
   ·have:=h.1;rw[h0] at this;simp at this;subst this;simp at hj
   ·cases hx
    have:=hc j (by rw[←h.1];exact hj)
    rw[Nat.zero_add,this];simp [hj])
  simpa [loadCells] using this
theorem Zvp {P:Program} {S T E ty:TypeId} {sz by_:Nat} {zc:Array Value} (hE:ElemOf P S E sz by_ zc) (hTu:P.underlying T=some (.slice E)) {w:World} {p q:Option Addr} {n c m d:Nat} {xs ys:List Value} {F:List Nat}
  (hS:SlAt w sz p n c xs F) (hT:Rd w sz q m ys) (hone:∀v∈ys,v.oneCell'=true) (hb:(n+m)*by_≤2^46) {K:Option Addr→Nat→Nat→World→Prop}
  (hK:∀p' c' F' w',SlAt w' sz p' (n+m) c' (xs++ys) F'→Upd F w w'→Sub F' F w→K p' (n+m) c' w') :
  App P #[S,T] ty #[.slice p n c,.slice q m d] w K:=
 Zwm hE hTu hS (fun w' h=>by
  rcases h with rfl | rfl
  ·exact ZpY hT
  ·exact ZpY (hT.keep (Zah w))) hT.1 hone hb hK
end Go.D
namespace Go.D
open Go
set_option linter.unusedSimpArgs false
set_option linter.unusedVariables false
set_option maxRecDepth 8000
end Go.D
namespace Go.D
open Go
set_option linter.unusedVariables false
end Go.D
namespace Go.D
set_option linter.unusedSimpArgs false
set_option linter.unusedVariables false
structure Bnd {H:Type} (P:Program) (B:Nat) (Q:TypeId→DataW H→Prop):Prop where
 str:∀t bytes,P.underlying t=some .string→Q t (.lit (.string bytes))→bytes.length≤B
 slc:∀t e es sp,P.underlying t=some (.slice e)→Q t (.slice es sp)→∀d∈es,Q e d
 stc:∀t fs ps,P.underlying t=some (.struct fs)→Q t (.agg ps)→∀(i:Nat) (f:Field) d,fs[i]?=some f→ps[i]?=some d→Q f.type d
theorem Rd.one {w:World} {sz:Nat} {p:Option Addr} {n:Nat} {cs ds:List Value} (h:Rd w sz p n cs) (k:Rd w sz p n ds):cs=ds:=by
 apply List.ext_getElem?
 intro i
 by_cases hi:i<n*sz
 ·obtain⟨x,hx,hc⟩:=h.at hi
  obtain⟨y,hy,hd⟩:=k.at hi
  rw[hx] at hy;cases hy
  rw[←hc,←hd]
 ·rw[List.getElem?_eq_none (by have:=h.1;omega),List.getElem?_eq_none (by have:=k.1;omega)]
end Go.D
set_option linter.unusedSimpArgs false
set_option linter.unusedVariables false
namespace Go.D
open Go
theorem keyPair {P:Program} {kt et:TypeId} {k:IntKind} {i:TypeInfo} (ht:P.underlying kt=some (.array 2 et)) (he:P.underlying et=some (.int k)) (hi:P.info? et=some i) (hc:P.cellsOf et=1):KeyOf P kt (fun x:Int×Int=>.agg #[.int k x.1,.int k x.2]):=by
 have hpl:P.plainKey et=true:=by unfold Program.plainKey;rw[he]
 have heq:∀(w:World) (a b:Int×Int),(Op.equal kt (.agg #[.int k a.1,.int k a.2]) (.agg #[.int k b.1,.int k b.2])).run P w=.ok (decide (a=b)) w:=by
  intro w a b
  unfold Op.equal Op.maxDepth
  rw[run_equalIn_array w 9999 _ _ ht hi,hc]
  have p0:∀(x y:Value),(part et #[x,y] 0).run P w=.ok x w:=fun x y=>run_part_plain w hpl (by simp)
  have p1:∀(x y:Value),(part et #[x,y] 1).run P w=.ok y w:=fun x y=>run_part_plain w hpl (by simp)
  have r2:List.range 2=[0,1]:=rfl
  rw[r2]
  simp only[Op.eqItems,Nat.mul_one,Sem.run_bind,p0,p1,Result.andThen_ok,run_equalIn_int w 9998 et k k _ _ he]
  rcases a with ⟨a1,a2⟩
  rcases b with ⟨b1,b2⟩
  have q2:∀(x y:Int),(Op.equalIn 9999 et (.int k x) (.int k y)).run P w=.ok (x==y) w:=fun x y=>run_equalIn_int w 9998 et k k x y he
  by_cases h1:a1=b1
  ·by_cases h2:a2=b2
   ·simp [h1,h2,p0,p1,q2]
   ·simp [h1,h2,p0,p1,q2]
  ·simp [h1,p0,p1,q2]
 refine⟨⟨_,ht⟩,fun f n x w=>?_,fun w x es M hM=>?_,fun a n=>?_⟩
 ·unfold Instr.checkKey
  simp only[Sem.run_bind,Zaa ht,Result.andThen_ok]
  have p0:∀(x y:Value),(part et #[x,y] 0).run P w=.ok x w:=fun x y=>run_part_plain w hpl (by simp)
  have p1:∀(x y:Value),(part et #[x,y] 1).run P w=.ok y w:=fun x y=>run_part_plain w hpl (by simp)
  have hs:=ZlL (P:=P) (w:=w) hi
  rw[hc] at hs
  simp only[Std.Legacy.Range.forIn_eq_forIn_range',Std.Legacy.Range.size,Nat.sub_zero,Nat.add_one_sub_one,Nat.div_one]
  have r2:List.range' 0 2=[0,1]:=rfl
  rw[r2]
  simp only[List.forIn_cons,List.forIn_nil,Sem.run_bind,hs,Result.andThen_ok,Nat.mul_one,p0,p1,Zp1 hpl,Sem.run_pure]
 ·have hask:∀(es:List MapEntry) (M:List ((Int×Int)×Value)) (i:Nat),es.map (fun e=>(e.key,e.val))=M.map (fun x=>((Value.agg #[.int k x.1.1,.int k x.1.2]),x.2))→(Instr.findAsking kt (.agg #[.int k x.1,.int k x.2]) es i).run P w=.ok (spot x M i) w:=by
   intro es
   induction es with
   | nil=>
    intro M i h
    cases M with
    | nil=>simp [Instr.findAsking,spot]
    | cons x M=>simp at h
   | cons e es ih=>
    intro M i h
    cases M with
    | nil=>simp at h
    | cons y M=>
     simp only[List.map_cons,List.cons.injEq,Prod.mk.injEq] at h
     have:=heq w x y.1
     rw[←h.1.1] at this
     unfold Instr.findAsking spot
     simp only[Sem.run_bind,this,Result.andThen_ok]
     by_cases hk:x=y.1
     ·simp [hk,h.1.2]
     ·simp only[hk,decide_false,if_false,Bool.false_eq_true]
      exact ih M (i+1) h.2
  unfold Instr.findKey
  simp only[Sem.run_bind,Zaa ht,Result.andThen_ok]
  cases es with
  | nil=>
   cases M with
   | nil=>simp [Instr.findNow,spot]
   | cons x M=>simp at hM
  | cons e es=>
   have:Instr.findNow (.array 2 et) (.agg #[.int k x.1,.int k x.2]) (e::es) 0=none:=by
    unfold Instr.findNow
    simp [Instr.sameNow]
   rw[this]
   exact hask (e::es) M 0 hM
 ·simp only[Instr.sameBits,beq_self_eq_true,Bool.true_and]
  simp [Instr.sameBits]
end Go.D
