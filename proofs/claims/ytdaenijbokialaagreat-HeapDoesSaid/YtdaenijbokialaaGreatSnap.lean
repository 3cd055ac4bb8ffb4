import Derived.Test.YtdaenijbokialaaGreatHeap8
namespace Go.Proofs.YtdaenijbokialaaGreat
open Go Go.D Go.Proofs
set_option linter.unusedSimpArgs false
set_option linter.unusedVariables false
set_option maxRecDepth 8000
mutual
def Ev (C:List Wd) (L:List Slot) (FL:List Fn.Slot):Tm→Wd→Prop
 | .mk k n s l,x=>∃y,Der C x y∧s.size≤64∧
  (if k=1 then s=⟨#[]⟩∧l=[]∧∃i:Nat,y=.ref i∧n=i
  else if k=2 then s=⟨#[]⟩∧l=[]∧y=.int n
  else if k=3 then n=0∧l=[]∧∃id m,y=.atom id∧L[id]?=some ⟨s,true,m⟩
  else k=4∧n=0∧∃i id,y=.str i∧C[i]?=some (.fn id)∧At L FL id s (l.length:Int)∧EvL C L FL l (i+1))
def EvL (C:List Wd) (L:List Slot) (FL:List Fn.Slot):List Tm→Nat→Prop
 | [],_=>True
 | t::r,i=>Ev C L FL t (.ref i)∧EvL C L FL r (i+1)
end
section
variable {C:List Wd} {L:List Slot} {FL:List Fn.Slot}
theorem Ev.eq {t:Tm} {x:Wd}:Ev C L FL t x↔∃y,Der C x y∧t.s.size≤64∧
  (if t.kind=1 then t.s=⟨#[]⟩∧t.l=[]∧∃i:Nat,y=.ref i∧t.n=i
  else if t.kind=2 then t.s=⟨#[]⟩∧t.l=[]∧y=.int t.n
  else if t.kind=3 then t.n=0∧t.l=[]∧∃id m,y=.atom id∧L[id]?=some ⟨t.s,true,m⟩
  else t.kind=4∧t.n=0∧∃i id,y=.str i∧C[i]?=some (.fn id)∧At L FL id t.s (t.l.length:Int)∧EvL C L FL t.l (i+1)):=by
 cases t
 rw[Ev]
 rfl
theorem EvL.at:∀{l:List Tm} {i:Nat},EvL C L FL l i↔∀k (hk:k<l.length),Ev C L FL l[k] (.ref (i+k))
 | [],i=>by rw[EvL];simp
 | t::r,i=>by
  rw[EvL,EvL.at]
  constructor
  ·rintro⟨h1,h2⟩ k hk
   rcases k with _ | k
   ·exact h1
   ·have:=h2 k (by simpa using hk)
    simp only[List.getElem_cons_succ]
    rw[show i+(k+1)=i+1+k by omega]
    exact this
  ·intro h
   refine⟨h 0 (by simp),fun k hk=>?_⟩
   have:=h (k+1) (by simpa using hk)
   simp only[List.getElem_cons_succ] at this
   rw[show i+1+k=i+(k+1) by omega]
   exact this
end
mutual
def Tm.ren (f:Int→Int):Tm→Tm
 | .mk k n s l=>if k=1 then .mk k (f n) s l else .mk k n s (renL f l)
def renL (f:Int→Int):List Tm→List Tm
 | []=>[]
 | t::r=>t.ren f::renL f r
end
theorem ZvW (f:Int→Int):∀l:List Tm,renL f l=l.map (Tm.ren f)
 | []=>by rw[renL];rfl
 | t::r=>by rw[renL,ZvW f r];rfl
theorem Tm.ren_eq (f:Int→Int) (t:Tm):t.ren f=if t.kind=1 then .mk t.kind (f t.n) t.s t.l else .mk t.kind t.n t.s (t.l.map (Tm.ren f)):=by
 cases t;rw[Tm.ren,ZvW];rfl
theorem Zjw (f:Int→Int) (t:Tm):(t.ren f).kind=t.kind:=by rw[Tm.ren_eq];split <;> rfl
theorem Zsa (f:Int→Int) (t:Tm):(t.ren f).s=t.s:=by rw[Tm.ren_eq];split <;> rfl
theorem Zsc (f:Int→Int) (t:Tm):(t.ren f).n=if t.kind=1 then f t.n else t.n:=by rw[Tm.ren_eq];split <;> rfl
theorem Zq7 (f:Int→Int) (t:Tm):(t.ren f).l=if t.kind=1 then t.l else t.l.map (Tm.ren f):=by rw[Tm.ren_eq];split <;> rfl
theorem Tm.ext {t u:Tm} (h1:t.kind=u.kind) (h2:t.n=u.n) (h3:t.s=u.s) (h4:t.l=u.l):t=u:=by
 cases t;cases u;cases h1;cases h2;cases h3;cases h4;rfl
theorem Zrt {g:Tm→Tm}:∀{l:List Tm},(∀t∈l,(g t).size=t.size)→sizeL (l.map g)=sizeL l
 | [],_=>rfl
 | t::l,h=>by rw[List.map_cons,sizeL,sizeL,h t (by simp),Zrt fun u hu=>h u (by simp [hu])]
theorem Zsd {g:Tm→Tm}:∀{l:List Tm},(∀t∈l,(g t).depth=t.depth)→depthL (l.map g)=depthL l
 | [],_=>rfl
 | t::l,h=>by rw[List.map_cons,depthL,depthL,h t (by simp),Zsd fun u hu=>h u (by simp [hu])]
theorem Zri (f:Int→Int) (t:Tm):(t.ren f).size=t.size:=by
 refine Tm.ind (P:=fun t=>(t.ren f).size=t.size) (fun t ih=>?_) t
 rw[Tm.size_eq,Tm.size_eq,Zq7]
 split
 ·rfl
 ·rw[Zrt ih]
theorem ZrH (f:Int→Int) (t:Tm):(t.ren f).depth=t.depth:=by
 refine Tm.ind (P:=fun t=>(t.ren f).depth=t.depth) (fun t ih=>?_) t
 rw[Tm.depth_eq,Tm.depth_eq,Zq7]
 split
 ·rfl
 ·rw[Zsd ih]
theorem ZxR (f g:Int→Int) (t:Tm):(t.ren f).ren g=t.ren fun n=>g (f n):=by
 refine Tm.ind (P:=fun t=>(t.ren f).ren g=t.ren fun n=>g (f n)) (fun t ih=>?_) t
 refine Tm.ext (by simp [Zjw]) ?_ (by simp [Zsa]) ?_
 ·simp only[Zsc,Zjw]
  by_cases h:t.kind=1
  ·simp [h]
  ·simp [h]
 ·simp only[Zq7,Zjw]
  by_cases h:t.kind=1
  ·simp [h]
  ·simp only[if_neg h,List.map_map]
   exact List.map_congr_left fun u hu=>ih u hu
theorem Ztp {f g:Int→Int} (t:Tm):(∀n∈t.vars [],f n=g n)→t.ren f=t.ren g:=by
 refine Tm.ind (P:=fun t=>(∀n∈t.vars [],f n=g n)→t.ren f=t.ren g) (fun t ih=>?_) t
 intro h
 refine Tm.ext (by simp [Zjw]) ?_ (by simp [Zsa]) ?_
 ·rw[Zsc,Zsc]
  by_cases h1:t.kind=1
  ·rw[if_pos h1,if_pos h1]
   refine h t.n ?_
   rw[Tm.vars_eq,if_pos h1];simp
  ·rw[if_neg h1,if_neg h1]
 ·rw[Zq7,Zq7]
  by_cases h1:t.kind=1
  ·rw[if_pos h1,if_pos h1]
  ·rw[if_neg h1,if_neg h1]
   exact List.map_congr_left fun u hu=>ih u hu fun n hn=>h n (Zcy h1 hu hn)
theorem ZwO {f:Int→Int} (t:Tm):∀out:List Int,(∀a∈t.vars out,∀b∈t.vars out,f a=f b→a=b)→(t.ren f).vars (out.map f)=(t.vars out).map f:=by
 refine Tm.ind (P:=fun t=>∀out:List Int,(∀a∈t.vars out,∀b∈t.vars out,f a=f b→a=b)→(t.ren f).vars (out.map f)=(t.vars out).map f) (fun t ih=>?_) t
 intro out h
 rw[Tm.vars_eq] at h
 rw[Tm.vars_eq,Tm.vars_eq,Zjw,Zsc,Zq7]
 by_cases h1:t.kind=1
 ·simp only[if_pos h1] at h ⊢
  by_cases h2:t.n∈out
  ·rw[if_pos h2,if_pos (List.mem_map_of_mem h2)]
  ·rw[if_neg h2] at h
   rw[if_neg h2,if_neg,List.map_append];rfl
   intro hx
   obtain⟨a,ha,e⟩:=List.mem_map.1 hx
   have:=h a (by simp [ha]) t.n (by simp) e
   subst this;exact h2 ha
 ·simp only[if_neg h1] at h ⊢
  have aux:∀l:List Tm,(∀t∈l,∀out:List Int,(∀a∈t.vars out,∀b∈t.vars out,f a=f b→a=b)→(t.ren f).vars (out.map f)=(t.vars out).map f)→∀out:List Int,(∀a∈varsL l out,∀b∈varsL l out,f a=f b→a=b)→varsL (l.map (Tm.ren f)) (out.map f)=(varsL l out).map f:=by
   intro l
   induction l with
   | nil=>intro _ out _;rfl
   | cons t l ih2=>
    intro ih out h
    rw[varsL] at h
    rw[List.map_cons,varsL,varsL,ih t (by simp) out fun a ha b hb=>h a (Zqb _ _ a ha) b (Zqb _ _ b hb),ih2 (fun u hu=>ih u (by simp [hu])) _ h]
  exact aux t.l ih out h
theorem Zs3 {f:Int→Int}:∀(l:List Tm) (out:List Int),(∀a∈varsL l out,∀b∈varsL l out,f a=f b→a=b)→varsL (l.map (Tm.ren f)) (out.map f)=(varsL l out).map f
 | [],out,_=>rfl
 | t::l,out,h=>by
  rw[varsL] at h
  rw[List.map_cons,varsL,varsL,ZwO t out fun a ha b hb=>h a (Zqb _ _ a ha) b (Zqb _ _ b hb),Zs3 l _ h]
def numT (vs:List Int) (t:Tm):Tm:=t.ren fun n=>(vs.idxOf n:Nat)
theorem Zs2 {vs z:List Int} {t:Tm} (h:∀n∈t.vars [],n∈vs):numT (vs++z) t=numT vs t:=
 Ztp t fun n hn=>by
  have:=h n hn
  rw[List.idxOf_append,if_pos this]
theorem Ztc {f:Int→Int} {n:Int}:∀{vs:List Int},(∀a∈vs,f a=f n→a=n)→n∈vs→(vs.map f).idxOf (f n)=vs.idxOf n
 | [],_,h=>by simp at h
 | x::vs,hi,h=>by
  rw[List.map_cons,List.idxOf_cons,List.idxOf_cons]
  by_cases e:x=n
  ·subst e;simp
  ·have e2:f x≠f n:=fun hh=>e (hi x (by simp) hh)
   rw[show (x==n)=false by simp [e],show (f x==f n)=false by simp [e2]]
   simp only[cond_false]
   rw[Ztc (fun a ha=>hi a (by simp [ha])) (by
    rcases List.mem_cons.1 h with g | g
    ·exact absurd g.symm e
    ·exact g)]
theorem ZwU {f:Int→Int} {vs:List Int} {t:Tm} (hv:∀n∈t.vars [],n∈vs) (hf:∀a∈vs,∀b∈vs,f a=f b→a=b):numT (vs.map f) (t.ren f)=numT vs t:=by
 unfold numT
 rw[ZxR]
 refine Ztp t fun n hn=>?_
 rw[Ztc (fun a ha=>hf a ha n (hv n hn)) (hv n hn)]
theorem Zuk {f:Int→Int} {l:List Tm} (hf:∀a∈varsL l [],∀b∈varsL l [],f a=f b→a=b):(l.map (Tm.ren f)).map (numT (varsL (l.map (Tm.ren f)) []))=l.map (numT (varsL l [])):=by
 have h1:=Zs3 l [] hf
 rw[List.map_nil] at h1
 rw[h1,List.map_map]
 refine List.map_congr_left fun t ht=>?_
 exact ZwU (fun n hn=>(ZdN l [] n).2 (.inr ⟨t,ht,hn⟩)) hf
theorem Zm1:∀{l:List Tm},rightL l=true→∀t∈l,t.right=true
 | t::l,h,u,hu=>by
  rw[rightL,Bool.and_eq_true] at h
  rcases List.mem_cons.1 hu with rfl | hu
  ·exact h.1
  ·exact Zm1 h.2 u hu
def cellOf (V:List (Int×Nat)) (n:Int):Int:=(((V.find? fun x=>decide (x.1=n)).map (·.2)).getD 0:Nat)
theorem Zm6:∀{V:List (Int×Nat)} {n:Int} {i:Nat},(V.map (·.1)).Nodup→(n,i)∈V→cellOf V n=i
 | (m,j)::V,n,i,h,hm=>by
  rw[List.map_cons,List.nodup_cons] at h
  unfold cellOf
  rw[List.find?_cons]
  rcases List.mem_cons.1 hm with e | e
  ·cases e;simp
  ·have:m≠n:=by
    rintro rfl
    exact h.1 (List.mem_map.2 ⟨_,e,rfl⟩)
   simp only[decide_eq_false this]
   exact Zm6 (V:=V) h.2 e
theorem Zve {V:List (Int×Nat)} (h1:(V.map (·.1)).Nodup) (h2:(V.map (·.2)).Nodup):∀a∈V.map (·.1),∀b∈V.map (·.1),cellOf V a=cellOf V b→a=b:=by
 intro a ha b hb e
 obtain⟨⟨a',i⟩,hx,rfl⟩:=List.mem_map.1 ha
 obtain⟨⟨b',j⟩,hy,rfl⟩:=List.mem_map.1 hb
 simp only at e ⊢
 rw[Zm6 h1 hx,Zm6 h1 hy] at e
 have e:i=j:=by omega
 subst e
 obtain⟨p,hp,ep⟩:=List.getElem_of_mem hx
 obtain⟨q,hq,eq⟩:=List.getElem_of_mem hy
 have:=(List.getElem_inj (i:=p) (j:=q) (h₀:=by simpa using hp) (h₁:=by simpa using hq) h2).1 (by simp [ep,eq])
 subst this
 rw[ep] at eq;cases eq;rfl
theorem ZqG {s:ByteArray} (h:s.toList=[]):s=⟨#[]⟩:=by
 have hl:∀(n i:Nat) (r:List UInt8),s.size-i=n→(ByteArray.toList.loop s i r).length=n+r.length:=by
  intro n
  induction n with
  | zero=>
   intro i r hn
   rw[ByteArray.toList.loop.eq_1,if_neg (by omega)];simp
  | succ n ih=>
   intro i r hn
   rw[ByteArray.toList.loop.eq_1,if_pos (by omega),ih _ _ (by omega),List.length_cons];omega
 have:=hl s.size 0 [] (by omega)
 unfold ByteArray.toList at h
 rw[h] at this
 have h0:s.size=0:=by simpa using this.symm
 obtain⟨a⟩:=s
 have:a.size=0:=h0
 rw[Array.eq_empty_of_size_eq_zero this]
theorem Rep.ev {C:List Wd} {L:List Slot} {FL:List Fn.Slot} {V:List (Int×Nat)} (hV:(V.map (·.1)).Nodup) (t:Tm):∀{x:Wd},Rep ⟨fun _=>False,C,L,FL,V⟩ t x→t.right=true→Ev C L FL (t.ren (cellOf V)) x:=by
 refine Tm.ind (P:=fun t=>∀{x:Wd},Rep ⟨fun _=>False,C,L,FL,V⟩ t x→t.right=true→Ev C L FL (t.ren (cellOf V)) x) (fun t ih=>?_) t
 intro x h hr
 have hs:=(h.self hr).1
 rw[Rep.eq] at h
 have hr':=hr
 rw[Tm.right_eq] at hr
 simp only[Bool.and_eq_true] at hr
 have hp:=hr.1
 unfold partT at hp
 refine Ev.eq.2 ⟨x,hs,?_⟩
 rw[Zjw,Zsa,Zsc,Zq7]
 by_cases h1:t.kind=1
 ·simp only[if_pos h1] at h hp ⊢
  simp only[Bool.and_eq_true,beq_iff_eq] at hp
  obtain⟨i,rfl,h2,_,h4⟩:=h
  have hsn:=ZqG hp.1.2
  exact⟨by rw[hsn];decide,hsn,List.length_eq_zero_iff.1 hp.2,i,rfl,Zm6 hV h2⟩
 simp only[if_neg h1] at h hp ⊢
 by_cases h2:t.kind=2
 ·simp only[if_pos h2] at h hp ⊢
  simp only[Bool.and_eq_true,beq_iff_eq] at hp
  have hsn:=ZqG hp.1.2
  exact⟨by rw[hsn];decide,hsn,by rw[List.length_eq_zero_iff.1 hp.2];rfl,h⟩
 simp only[if_neg h2] at h hp ⊢
 by_cases h3:t.kind=3
 ·simp only[if_pos h3] at h hp ⊢
  simp only[Bool.and_eq_true,beq_iff_eq,decide_eq_true_eq] at hp
  exact⟨hp.1.2,hp.1.1,by rw[List.length_eq_zero_iff.1 hp.2];rfl,h⟩
 simp only[if_neg h3] at h hp ⊢
 by_cases h4:t.kind=4
 ·simp only[if_pos h4,Bool.and_eq_true,beq_iff_eq,decide_eq_true_eq] at hp
  obtain⟨i,id,rfl,_,g1,g2,g3⟩:=h
  refine⟨hp.1.2,h4,hp.1.1,i,id,rfl,g1,by rw[List.length_map];exact g2,EvL.at.2 fun k hk=>?_⟩
  rw[List.length_map] at hk
  obtain⟨y,_,g4,g5⟩:=RepL.at.1 g3 k hk
  rw[List.getElem_map]
  have hrk:=Zm1 hr.2 _ (List.getElem_mem hk)
  have gs:=(g5.self hrk).1
  have ge:=ih _ (List.getElem_mem hk) g5 hrk
  obtain⟨z,g6,g7⟩:=Ev.eq.1 ge
  have:=gs.uniq g6
  subst this
  refine Ev.eq.2 ⟨y,?_,g7⟩
  by_cases e:y=.ref (i+1+k)
  ·subst e;exact gs
  ·obtain⟨n,gn⟩:=gs
   exact⟨n+1,.step g4 e gn⟩
 ·rw[if_neg h4] at hp;cases hp
mutual
def Tm.app (f:Int→Tm):Tm→Tm
 | .mk k n s l=>if k=1 then f n else .mk k n s (appL f l)
def appL (f:Int→Tm):List Tm→List Tm
 | []=>[]
 | t::r=>t.app f::appL f r
end
theorem Zvz (f:Int→Tm):∀l:List Tm,appL f l=l.map (Tm.app f)
 | []=>by rw[appL];rfl
 | t::r=>by rw[appL,Zvz f r];rfl
theorem Tm.app_eq (f:Int→Tm) (t:Tm):t.app f=if t.kind=1 then f t.n else .mk t.kind t.n t.s (t.l.map (Tm.app f)):=by
 cases t;rw[Tm.app,Zvz];rfl
theorem ZbG {f:Int→Tm} {t:Tm} (h:t.kind=1):t.app f=f t.n:=by rw[Tm.app_eq,if_pos h]
theorem ZeV {f:Int→Tm} {t:Tm} (h:t.kind≠1):t.app f=.mk t.kind t.n t.s (t.l.map (Tm.app f)):=by rw[Tm.app_eq,if_neg h]
def tV (n:Int):Tm:=.mk 1 n ⟨#[]⟩ []
theorem ZkM {f g:Int→Tm} (t:Tm):(∀n∈t.vars [],f n=g n)→t.app f=t.app g:=by
 refine Tm.ind (P:=fun t=>(∀n∈t.vars [],f n=g n)→t.app f=t.app g) (fun t ih=>?_) t
 intro h
 by_cases h1:t.kind=1
 ·rw[ZbG h1,ZbG h1]
  refine h t.n ?_
  rw[Tm.vars_eq,if_pos h1];simp
 ·rw[ZeV h1,ZeV h1]
  congr 1
  exact List.map_congr_left fun u hu=>ih u hu fun n hn=>h n (Zcy h1 hu hn)
theorem ZrU (f g:Int→Tm) (t:Tm):(t.app f).app g=t.app fun n=>(f n).app g:=by
 refine Tm.ind (P:=fun t=>(t.app f).app g=t.app fun n=>(f n).app g) (fun t ih=>?_) t
 by_cases h1:t.kind=1
 ·rw[ZbG h1,ZbG h1]
 ·rw[ZeV h1,ZeV h1,ZeV (show (Tm.mk t.kind t.n t.s (t.l.map (Tm.app f))).kind≠1 from h1)]
  simp only[Tm.kind,Tm.n,Tm.s,Tm.l,List.map_map]
  congr 1
  exact List.map_congr_left fun u hu=>ih u hu
theorem ZvO {f:Int→Tm} {k n:Int} {s:ByteArray} {l:List Tm} (h:k≠1):(Tm.mk k n s l).app f=.mk k n s (l.map (Tm.app f)):=by
 rw[ZeV (show (Tm.mk k n s l).kind≠1 from h)];rfl
theorem ZnS {f:Int→Tm} {n:Int}:(tV n).app f=f n:=by
 unfold tV
 rw[ZbG (show (Tm.mk 1 n ⟨#[]⟩ []).kind=1 from rfl)];rfl
theorem ZrD (k n:Int) (s:ByteArray) (l:List Tm):(Tm.mk k n s l).kind=k:=rfl
theorem mk_n (k n:Int) (s:ByteArray) (l:List Tm):(Tm.mk k n s l).n=n:=rfl
theorem mk_s (k n:Int) (s:ByteArray) (l:List Tm):(Tm.mk k n s l).s=s:=rfl
theorem mk_l (k n:Int) (s:ByteArray) (l:List Tm):(Tm.mk k n s l).l=l:=rfl
theorem Zpw (k n:Int) (s:ByteArray) (l:List Tm):(Tm.mk k n s l).size=sizeL l+1:=Tm.size_eq _
theorem ZwN {f:Int→Tm} (t:Tm):∀n∈t.vars [],(f n).size≤(t.app f).size:=by
 refine Tm.ind (P:=fun t=>∀n∈t.vars [],(f n).size≤(t.app f).size) (fun t ih=>?_) t
 intro n hn
 by_cases h1:t.kind=1
 ·rw[Tm.vars_eq,if_pos h1] at hn
  simp at hn
  rw[ZbG h1,hn];exact Nat.le_refl _
 ·rw[Tm.vars_eq,if_neg h1,ZdN] at hn
  simp only[List.not_mem_nil,false_or] at hn
  obtain⟨u,hu,hn⟩:=hn
  have h2:=ih u hu n hn
  have h3:=Zev (List.mem_map_of_mem (f:=Tm.app f) hu)
  rw[ZeV h1,Zpw]
  omega
theorem ZrI {f:Int→Tm} {t:Tm} (h1:t.kind≠1):∀n∈t.vars [],(f n).size<(t.app f).size:=by
 intro n hn
 rw[Tm.vars_eq,if_neg h1,ZdN] at hn
 simp only[List.not_mem_nil,false_or] at hn
 obtain⟨u,hu,hn⟩:=hn
 have h2:=ZwN (f:=f) u n hn
 have h3:=Zev (List.mem_map_of_mem (f:=Tm.app f) hu)
 rw[ZeV h1,Zpw]
 omega
mutual
def Tm.pv:Tm→Prop
 | .mk k _ s l=>(k=1→s=⟨#[]⟩∧l=[])∧pvL l
def pvL:List Tm→Prop
 | []=>True
 | t::r=>t.pv∧pvL r
end
theorem ZvT:∀{l:List Tm},pvL l↔∀t∈l,t.pv
 | []=>by rw[pvL];simp
 | t::r=>by rw[pvL,ZvT];simp
theorem Tm.pv_eq (t:Tm):t.pv↔(t.kind=1→t.s=⟨#[]⟩∧t.l=[])∧∀u∈t.l,u.pv:=by
 cases t;rw[Tm.pv,ZvT];rfl
theorem Zwy (n:Int):(tV n).pv:=(Tm.pv_eq _).2 ⟨fun _=>⟨rfl,rfl⟩,by intro u hu;cases hu⟩
theorem Ztq {t:Tm} (h:t.pv) (h1:t.kind=1):t=tV t.n:=by
 obtain⟨h2,_⟩:=(Tm.pv_eq t).1 h
 obtain⟨h3,h4⟩:=h2 h1
 exact Tm.ext h1 rfl h3 h4
theorem ZsY {t:Tm} (h:t.pv) {f:Int→Tm}:(∀n∈t.vars [],f n=tV n)→t.app f=t:=by
 revert h
 refine Tm.ind (P:=fun t=>t.pv→(∀n∈t.vars [],f n=tV n)→t.app f=t) (fun t ih=>?_) t
 intro h hf
 by_cases h1:t.kind=1
 ·rw[ZbG h1,hf t.n (by rw[Tm.vars_eq,if_pos h1];simp)]
  exact(Ztq h h1).symm
 ·rw[ZeV h1]
  refine Tm.ext rfl rfl rfl ?_
  show t.l.map (Tm.app f)=t.l
  conv=>rhs;rw[←List.map_id t.l]
  exact List.map_congr_left fun u hu=>ih u hu (((Tm.pv_eq t).1 h).2 u hu) fun n hn=>hf n (Zcy h1 hu hn)
theorem ZvQ {t:Tm} (h:t.pv) {f:Int→Tm} {g:Int→Int}:(∀n∈t.vars [],f n=tV (g n))→t.app f=t.ren g:=by
 revert h
 refine Tm.ind (P:=fun t=>t.pv→(∀n∈t.vars [],f n=tV (g n))→t.app f=t.ren g) (fun t ih=>?_) t
 intro h hf
 by_cases h1:t.kind=1
 ·rw[ZbG h1,hf t.n (by rw[Tm.vars_eq,if_pos h1];simp),Tm.ren_eq,if_pos h1]
  obtain⟨h2,_⟩:=(Tm.pv_eq t).1 h
  obtain⟨h3,h4⟩:=h2 h1
  exact Tm.ext h1.symm rfl h3.symm h4.symm
 ·rw[ZeV h1,Tm.ren_eq,if_neg h1]
  congr 1
  exact List.map_congr_left fun u hu=>ih u hu (((Tm.pv_eq t).1 h).2 u hu) fun n hn=>hf n (Zcy h1 hu hn)
theorem variants {T U:List Tm} {f g:Int→Tm} (hT:∀t∈T,t.pv) (hU:∀u∈U,u.pv) (h1:T=U.map (Tm.app f)) (h2:U=T.map (Tm.app g)) :
  ∃r:Int→Int,T=U.map (Tm.ren r)∧(∀a∈varsL U [],∀b∈varsL U [],r a=r b→a=b):=by
 have key:∀u∈U,∀n∈u.vars [],f n=tV (f n).n∧g (f n).n=tV n:=by
  have e:U.map (Tm.app fun n=>(f n).app g)=U:=by
   conv=>rhs;rw[h2,h1,List.map_map]
   exact List.map_congr_left fun u _=>(ZrU f g u).symm
  have e2:∀u∈U,u.app (fun n=>(f n).app g)=u:=by
   intro u hu
   obtain⟨i,hi,rfl⟩:=List.getElem_of_mem hu
   have:=congrArg (fun l=>l[i]?) e
   simpa [hi] using this
  have e3:∀u:Tm,u.app (fun n=>(f n).app g)=u→∀n∈u.vars [],(f n).app g=tV n∨((f n).app g).kind=1∧((f n).app g).n=n:=by
   intro u
   refine Tm.ind (P:=fun u=>u.app (fun n=>(f n).app g)=u→∀n∈u.vars [],(f n).app g=tV n∨((f n).app g).kind=1∧((f n).app g).n=n) (fun u ih=>?_) u
   intro e n hn
   by_cases k1:u.kind=1
   ·rw[Tm.vars_eq,if_pos k1] at hn
    simp at hn
    subst hn
    rw[ZbG k1] at e
    rw[e]
    exact .inr ⟨k1,rfl⟩
   ·rw[ZeV k1] at e
    have el:u.l.map (Tm.app fun n=>(f n).app g)=u.l:=by
     have:=congrArg Tm.l e
     exact this
    rw[Tm.vars_eq,if_neg k1,ZdN] at hn
    simp only[List.not_mem_nil,false_or] at hn
    obtain⟨x,hx,hn⟩:=hn
    refine ih x hx ?_ n hn
    obtain⟨i,hi,rfl⟩:=List.getElem_of_mem hx
    have:=congrArg (fun l=>l[i]?) el
    simpa [hi] using this
  have pvIn:∀u:Tm,u.pv→∀n∈u.vars [],(u.app f).pv→(f n).pv:=by
   intro u
   refine Tm.ind (P:=fun u=>u.pv→∀n∈u.vars [],(u.app f).pv→(f n).pv) (fun u ih=>?_) u
   intro hp n hn hq
   by_cases k1:u.kind=1
   ·rw[Tm.vars_eq,if_pos k1] at hn
    simp at hn
    subst hn
    rw[ZbG k1] at hq;exact hq
   ·rw[ZeV k1] at hq
    have hq2:=((Tm.pv_eq _).1 hq).2
    rw[Tm.vars_eq,if_neg k1,ZdN] at hn
    simp only[List.not_mem_nil,false_or] at hn
    obtain⟨x,hx,hn⟩:=hn
    exact ih x hx (((Tm.pv_eq u).1 hp).2 x hx) n hn (hq2 _ (List.mem_map_of_mem hx))
  intro u hu n hn
  have hk:((f n).app g).kind=1∧((f n).app g).n=n:=by
   rcases e3 u (e2 u hu) n hn with h | h
   ·rw[h];exact⟨rfl,rfl⟩
   ·exact h
  have fk:(f n).kind=1:=by
   by_cases k1:(f n).kind=1
   ·exact k1
   ·rw[ZeV k1] at hk;exact absurd hk.1 k1
  have fp:=pvIn u (hU u hu) n hn (hT _ (by rw[h1];exact List.mem_map_of_mem hu))
  refine⟨Ztq fp fk,?_⟩
  have gp:(g (f n).n).pv:=by
   have:=hU u hu
   have e4:=e2 u hu
   have pvIn2:∀u:Tm,∀n∈u.vars [],(u.app fun n=>(f n).app g).pv→((f n).app g).pv:=by
    intro u
    refine Tm.ind (P:=fun u=>∀n∈u.vars [],(u.app fun n=>(f n).app g).pv→((f n).app g).pv) (fun u ih=>?_) u
    intro n hn hq
    by_cases k1:u.kind=1
    ·rw[Tm.vars_eq,if_pos k1] at hn
     simp at hn
     subst hn
     rw[ZbG k1] at hq;exact hq
    ·rw[ZeV k1] at hq
     have hq2:=((Tm.pv_eq _).1 hq).2
     rw[Tm.vars_eq,if_neg k1,ZdN] at hn
     simp only[List.not_mem_nil,false_or] at hn
     obtain⟨x,hx,hn⟩:=hn
     exact ih x hx n hn (hq2 _ (List.mem_map_of_mem hx))
   have h5:=pvIn2 u n hn (by rw[e4];exact this)
   rw[ZbG fk] at h5;exact h5
  rw[ZbG fk] at hk
  have:=Ztq gp hk.1
  rw[hk.2] at this;exact this
 refine⟨fun n=>(f n).n,?_,fun a ha b hb e=>?_⟩
 ·rw[h1]
  exact List.map_congr_left fun u hu=>ZvQ (hU u hu) fun n hn=>(key u hu n hn).1
 ·have in_:∀n∈varsL U [],g (f n).n=tV n:=fun n hn=>by
   rw[ZdN] at hn
   simp only[List.not_mem_nil,false_or] at hn
   obtain⟨u,hu,hn⟩:=hn
   exact(key u hu n hn).2
  have h3:=in_ a ha
  have h4:=in_ b hb
  simp only at e
  rw[e,h4] at h3
  have:=congrArg Tm.n h3
  exact this.symm
theorem Ev.pv {C:List Wd} {L:List Slot} {FL:List Fn.Slot} (t:Tm):∀{x:Wd},Ev C L FL t x→t.pv:=by
 refine Tm.ind (P:=fun t=>∀{x:Wd},Ev C L FL t x→t.pv) (fun t ih=>?_) t
 intro x h
 obtain⟨y,hd,_,h⟩:=Ev.eq.1 h
 refine(Tm.pv_eq t).2 ?_
 by_cases h1:t.kind=1
 ·rw[if_pos h1] at h
  exact⟨fun _=>⟨h.1,h.2.1⟩,by rw[h.2.1];intro u hu;cases hu⟩
 rw[if_neg h1] at h
 refine⟨fun h2=>absurd h2 h1,?_⟩
 by_cases h2:t.kind=2
 ·rw[if_pos h2] at h
  rw[h.2.1];intro u hu;cases hu
 rw[if_neg h2] at h
 by_cases h3:t.kind=3
 ·rw[if_pos h3] at h
  rw[h.2.1];intro u hu;cases hu
 rw[if_neg h3] at h
 obtain⟨_,_,i,id,_,_,_,hl⟩:=h
 intro u hu
 obtain⟨k,hk,rfl⟩:=List.getElem_of_mem hu
 exact ih _ hu (EvL.at.1 hl k hk)
theorem Zun (t:Tm):t.right=true→t.pv:=by
 refine Tm.ind (P:=fun t=>t.right=true→t.pv) (fun t ih=>?_) t
 intro h
 rw[Tm.right_eq,Bool.and_eq_true] at h
 refine(Tm.pv_eq t).2 ⟨fun h1=>?_,fun u hu=>ih u hu (Zm1 h.2 u hu)⟩
 have hp:=h.1
 unfold partT at hp
 rw[if_pos h1] at hp
 simp only[Bool.and_eq_true,beq_iff_eq] at hp
 exact⟨ZqG hp.1.2,List.length_eq_zero_iff.1 hp.2⟩
theorem Ev.mk_iff {C:List Wd} {L:List Slot} {FL:List Fn.Slot} {k n:Int} {s:ByteArray} {l:List Tm} {x:Wd}:Ev C L FL (.mk k n s l) x↔∃y,Der C x y∧s.size≤64∧
  (if k=1 then s=⟨#[]⟩∧l=[]∧∃i:Nat,y=.ref i∧n=i
  else if k=2 then s=⟨#[]⟩∧l=[]∧y=.int n
  else if k=3 then n=0∧l=[]∧∃id m,y=.atom id∧L[id]?=some ⟨s,true,m⟩
  else k=4∧n=0∧∃i id,y=.str i∧C[i]?=some (.fn id)∧At L FL id s (l.length:Int)∧EvL C L FL l (i+1)):=by
 rw[Ev]
def fnm (L:List Slot) (FL:List Fn.Slot) (id:Nat):ByteArray:=(getA L FL (id:Nat)).1
def far (L:List Slot) (FL:List Fn.Slot) (id:Nat):Int:=(getA L FL (id:Nat)).2.1
section
variable {C C':List Wd} {L:List Slot} {FL:List Fn.Slot} {θ:Nat→Tm}
def wval (C:List Wd) (L:List Slot) (FL:List Fn.Slot) (θ:Nat→Tm):Wd→Tm
 | .ref i=>θ i
 | .int n=>.mk 2 n ⟨#[]⟩ []
 | .atom id=>.mk 3 0 ((L[id]?.map (·.name)).getD ⟨#[]⟩) []
 | .str i=>match C[i]? with
  | some (.fn id)=>.mk 4 0 (fnm L FL id) ((List.range (far L FL id).toNat).map fun k=>θ (i+1+k))
  | _=>.mk 0 0 ⟨#[]⟩ []
 | .fn _=>.mk 0 0 ⟨#[]⟩ []
theorem Zjs {i id:Nat} {s:ByteArray} {m:Nat} (h:C[i]?=some (.fn id)) (hat:At L FL id s (m:Int)):wval C L FL θ (.str i)=.mk 4 0 s ((List.range m).map fun k=>θ (i+1+k)):=by
 have:=hat.get
 unfold wval
 simp only[h,fnm,far,this,Int.toNat_natCast]
theorem ZpU {id:Nat} {s:ByteArray} {m:Bool} (h:L[id]?=some ⟨s,true,m⟩):wval C L FL θ (.atom id)=.mk 3 0 s []:=by
 simp [wval,h]
def Sol (C:List Wd) (L:List Slot) (FL:List Fn.Slot) (θ:Nat→Tm):Prop:=∀i x,C[i]?=some x→θ i=wval C L FL θ x
theorem Sol.der (h:Sol C L FL θ) {x y:Wd} (d:Der C x y):wval C L FL θ x=wval C L FL θ y:=by
 obtain⟨n,d⟩:=d
 induction d with
 | stop _=>rfl
 | root _=>rfl
 | step hc _ _ ih=>rw[←ih];exact h _ _ hc
theorem Sol.ev (h:Sol C L FL θ) (t:Tm):∀{x:Wd},Ev C L FL t x→wval C L FL θ x=t.app fun n=>θ n.toNat:=by
 refine Tm.ind (P:=fun t=>∀{x:Wd},Ev C L FL t x→wval C L FL θ x=t.app fun n=>θ n.toNat) (fun t ih=>?_) t
 intro x hx
 obtain⟨y,hd,_,hx⟩:=Ev.eq.1 hx
 rw[h.der hd]
 by_cases h1:t.kind=1
 ·rw[if_pos h1] at hx
  obtain⟨_,_,i,rfl,e⟩:=hx
  rw[ZbG h1,e]
  simp [wval]
 rw[if_neg h1] at hx
 rw[ZeV h1]
 by_cases h2:t.kind=2
 ·rw[if_pos h2] at hx
  obtain⟨e1,e2,rfl⟩:=hx
  rw[h2,e1,e2];rfl
 rw[if_neg h2] at hx
 by_cases h3:t.kind=3
 ·rw[if_pos h3] at hx
  obtain⟨e1,e2,id,m,rfl,e3⟩:=hx
  rw[ZpU e3,h3,e1,e2];rfl
 rw[if_neg h3] at hx
 obtain⟨h4,e1,i,id,rfl,e2,e3,e4⟩:=hx
 rw[Zjs e2 e3,h4,e1]
 congr 1
 refine List.ext_getElem (by simp) fun k g1 g2=>?_
 rw[List.length_map] at g2
 rw[List.getElem_map,List.getElem_map,List.getElem_range]
 exact ih _ (List.getElem_mem g2) (EvL.at.1 e4 k g2)
theorem At.uniq {id:Nat} {s s':ByteArray} {m m':Nat} (h:At L FL id s (m:Int)) (g:At L FL id s' (m':Int)):s=s'∧m=m':=by
 have h1:=h.get
 rw[g.get] at h1
 simp at h1
 exact⟨h1.1.symm,by omega⟩
theorem Ev.uniq (t:Tm):∀{u:Tm} {x:Wd},Ev C L FL t x→Ev C L FL u x→t=u:=by
 refine Tm.ind (P:=fun t=>∀{u:Tm} {x:Wd},Ev C L FL t x→Ev C L FL u x→t=u) (fun t ih=>?_) t
 intro u x h g
 obtain⟨y,hd,_,h⟩:=Ev.eq.1 h
 obtain⟨z,hd2,_,g⟩:=Ev.eq.1 g
 obtain rfl:=hd.uniq hd2
 by_cases h1:t.kind=1
 ·rw[if_pos h1] at h
  obtain⟨a1,a2,i,rfl,a3⟩:=h
  by_cases g1:u.kind=1
  ·rw[if_pos g1] at g
   obtain⟨b1,b2,j,b,b3⟩:=g
   cases b
   exact Tm.ext (by rw[h1,g1]) (by rw[a3,b3]) (by rw[a1,b1]) (by rw[a2,b2])
  ·rw[if_neg g1] at g
   split at g
   ·cases g.2.2
   ·split at g
    ·obtain⟨_,_,_,_,e,_⟩:=g;cases e
    ·obtain⟨_,_,_,_,e,_⟩:=g;cases e
 rw[if_neg h1] at h
 by_cases h2:t.kind=2
 ·rw[if_pos h2] at h
  obtain⟨a1,a2,rfl⟩:=h
  by_cases g1:u.kind=1
  ·rw[if_pos g1] at g
   obtain⟨_,_,_,e,_⟩:=g;cases e
  rw[if_neg g1] at g
  by_cases g2:u.kind=2
  ·rw[if_pos g2] at g
   obtain⟨b1,b2,b3⟩:=g
   exact Tm.ext (by rw[h2,g2]) (by simpa using b3) (by rw[a1,b1]) (by rw[a2,b2])
  ·rw[if_neg g2] at g
   split at g
   ·obtain⟨_,_,_,_,e,_⟩:=g;cases e
   ·obtain⟨_,_,_,_,e,_⟩:=g;cases e
 rw[if_neg h2] at h
 by_cases h3:t.kind=3
 ·rw[if_pos h3] at h
  obtain⟨a1,a2,id,m,rfl,a3⟩:=h
  by_cases g1:u.kind=1
  ·rw[if_pos g1] at g
   obtain⟨_,_,_,e,_⟩:=g;cases e
  rw[if_neg g1] at g
  by_cases g2:u.kind=2
  ·rw[if_pos g2] at g
   cases g.2.2
  rw[if_neg g2] at g
  by_cases g3:u.kind=3
  ·rw[if_pos g3] at g
   obtain⟨b1,b2,id',m',e,b3⟩:=g
   cases e
   rw[a3] at b3
   have:t.s=u.s:=by simp at b3;exact b3.1
   exact Tm.ext (by rw[h3,g3]) (by rw[a1,b1]) this (by rw[a2,b2])
  ·rw[if_neg g3] at g
   obtain⟨_,_,_,_,e,_⟩:=g;cases e
 rw[if_neg h3] at h
 obtain⟨h4,a1,i,id,rfl,a2,a3,a4⟩:=h
 by_cases g1:u.kind=1
 ·rw[if_pos g1] at g
  obtain⟨_,_,_,e,_⟩:=g;cases e
 rw[if_neg g1] at g
 by_cases g2:u.kind=2
 ·rw[if_pos g2] at g
  cases g.2.2
 rw[if_neg g2] at g
 by_cases g3:u.kind=3
 ·rw[if_pos g3] at g
  obtain⟨_,_,_,_,e,_⟩:=g;cases e
 rw[if_neg g3] at g
 obtain⟨g4,b1,j,jd,e,b2,b3,b4⟩:=g
 cases e
 rw[a2] at b2
 cases b2
 obtain⟨e1,e2⟩:=a3.uniq b3
 refine Tm.ext (by rw[h4,g4]) (by rw[a1,b1]) e1 (List.ext_getElem e2 fun k k1 k2=>?_)
 exact ih _ (List.getElem_mem k1) (EvL.at.1 a4 k k1) (EvL.at.1 b4 k k2)
def Acy (C:List Wd) (L:List Slot) (FL:List Fn.Slot):Prop:=∀x,rightW C L x=true→∃t,Ev C L FL t x
open Classical in
noncomputable def evT (C:List Wd) (L:List Slot) (FL:List Fn.Slot) (x:Wd):Tm:=if h:∃t,Ev C L FL t x then h.choose else .mk 0 0 ⟨#[]⟩ []
theorem Ztz {t:Tm} {x:Wd} (h:Ev C L FL t x):evT C L FL x=t:=by
 have hex:∃t,Ev C L FL t x:=⟨t,h⟩
 unfold evT
 rw[dif_pos hex]
 exact(Ev.uniq _ hex.choose_spec h)
theorem Ev.der {t:Tm} {x y:Wd} (h:Ev C L FL t x) (d:Der C x y):Ev C L FL t y:=by
 obtain⟨z,hz,h2⟩:=Ev.eq.1 h
 obtain rfl:=hz.uniq d
 exact Ev.eq.2 ⟨z,d.self,h2⟩
theorem Ev.from {t:Tm} {x y:Wd} (h:Ev C L FL t y) (d:Der C x y):Ev C L FL t x:=by
 obtain⟨z,hz,h2⟩:=Ev.eq.1 h
 obtain rfl:=hz.uniq d.self
 exact Ev.eq.2 ⟨z,d,h2⟩
noncomputable def sol0 (C:List Wd) (L:List Slot) (FL:List Fn.Slot) (τ:Int→Tm) (i:Nat):Tm:=(evT C L FL (.ref i)).app τ
theorem ZpS {τ:Int→Tm} {t:Tm} {x:Wd} (h:Ev C L FL t x):wval C L FL (sol0 C L FL τ) x=t.app τ:=by
 cases x with
 | ref i=>
  show sol0 C L FL τ i=_
  unfold sol0
  rw[Ztz h]
 | fn i=>
  obtain⟨y,hd,_,h⟩:=Ev.eq.1 h
  have hy:y=.fn i:=by
   have:Der C (.fn i) (.fn i):=⟨0,.stop (by simp [Wd.tag])⟩
   exact hd.uniq this
  subst hy
  split at h
  ·obtain⟨_,_,_,e,_⟩:=h;cases e
  ·split at h
   ·cases h.2.2
   ·split at h
    ·obtain⟨_,_,_,_,e,_⟩:=h;cases e
    ·obtain⟨_,_,_,_,e,_⟩:=h;cases e
 | int n=>
  obtain⟨y,hd,_,h⟩:=Ev.eq.1 h
  have hy:y=.int n:=hd.uniq ⟨0,.stop (by simp [Wd.tag])⟩
  subst hy
  by_cases h1:t.kind=1
  ·rw[if_pos h1] at h;obtain⟨_,_,_,e,_⟩:=h;cases e
  rw[if_neg h1] at h
  by_cases h2:t.kind=2
  ·rw[if_pos h2] at h
   obtain⟨a,b,c⟩:=h
   rw[ZeV h1,h2,a,b];cases c;rfl
  rw[if_neg h2] at h
  split at h
  ·obtain⟨_,_,_,_,e,_⟩:=h;cases e
  ·obtain⟨_,_,_,_,e,_⟩:=h;cases e
 | atom n=>
  obtain⟨y,hd,_,h⟩:=Ev.eq.1 h
  have hy:y=.atom n:=hd.uniq ⟨0,.stop (by simp [Wd.tag])⟩
  subst hy
  by_cases h1:t.kind=1
  ·rw[if_pos h1] at h;obtain⟨_,_,_,e,_⟩:=h;cases e
  rw[if_neg h1] at h
  by_cases h2:t.kind=2
  ·rw[if_pos h2] at h;cases h.2.2
  rw[if_neg h2] at h
  by_cases h3:t.kind=3
  ·rw[if_pos h3] at h
   obtain⟨a,b,id,m,e,c⟩:=h
   cases e
   rw[ZeV h1,h3,a,b,ZpU c];rfl
  rw[if_neg h3] at h
  obtain⟨_,_,_,_,e,_⟩:=h;cases e
 | str n=>
  obtain⟨y,hd,_,h⟩:=Ev.eq.1 h
  have hy:y=.str n:=hd.uniq ⟨0,.stop (by simp [Wd.tag])⟩
  subst hy
  by_cases h1:t.kind=1
  ·rw[if_pos h1] at h;obtain⟨_,_,_,e,_⟩:=h;cases e
  rw[if_neg h1] at h
  by_cases h2:t.kind=2
  ·rw[if_pos h2] at h;cases h.2.2
  rw[if_neg h2] at h
  by_cases h3:t.kind=3
  ·rw[if_pos h3] at h;obtain⟨_,_,_,_,e,_⟩:=h;cases e
  rw[if_neg h3] at h
  obtain⟨h4,a,i,id,e,b,c,g⟩:=h
  cases e
  rw[ZeV h1,h4,a,Zjs b c]
  congr 1
  refine List.ext_getElem (by simp) fun k g1 g2=>?_
  rw[List.length_map] at g2
  rw[List.getElem_map,List.getElem_map,List.getElem_range]
  unfold sol0
  rw[Ztz (EvL.at.1 g k g2)]
theorem Acy.sol (h:Acy C L FL) (τ:Int→Tm):Sol C L FL (sol0 C L FL τ):=by
 intro i x hx
 by_cases h5:x.tag=5
 ·obtain⟨j,rfl⟩:∃j,x=.fn j:=by cases x <;> simp [Wd.tag] at h5;exact⟨_,rfl⟩
  have:¬∃t,Ev C L FL t (.ref i):=by
   rintro⟨t,ht⟩
   obtain⟨y,hd,_,ht⟩:=Ev.eq.1 ht
   have:y=.fn j:=hd.uniq ⟨1,.step hx (by simp) (.stop (by simp [Wd.tag]))⟩
   subst this
   split at ht
   ·obtain⟨_,_,_,e,_⟩:=ht;cases e
   ·split at ht
    ·cases ht.2.2
    ·split at ht
     ·obtain⟨_,_,_,_,e,_⟩:=ht;cases e
     ·obtain⟨_,_,_,_,e,_⟩:=ht;cases e
  unfold sol0 evT
  rw[dif_neg this,ZvO (by omega)]
  rfl
 ·by_cases hr:x=.ref i
  ·rw[hr];rfl
  obtain⟨t,ht⟩:=h (.ref i) (Za2.2 ⟨x,hx,h5⟩)
  have hx2:Ev C L FL t x:=by
   obtain⟨y,⟨n,hd⟩,ht⟩:=Ev.eq.1 ht
   cases hd with
   | stop h=>exact absurd rfl h
   | root h=>rw[hx] at h;cases h;exact absurd rfl hr
   | step h _ hd=>rw[hx] at h;cases h;exact Ev.eq.2 ⟨y,⟨_,hd⟩,ht⟩
  rw[ZpS hx2]
  unfold sol0
  rw[Ztz ht]
end
inductive Rch (C:List Wd) (L:List Slot) (FL:List Fn.Slot) (w:Wd):Wd→Prop
 | here {x:Wd} (h:Der C x w):Rch C L FL w x
 | down {x:Wd} {i id:Nat} {s:ByteArray} {m k:Nat} (h:Der C x (.str i)) (hc:C[i]?=some (.fn id)) (hat:At L FL id s (m:Int)) (hk:k<m) (hr:Rch C L FL w (.ref (i+1+k))):Rch C L FL w x
section
variable {C C':List Wd} {L:List Slot} {FL:List Fn.Slot} {θ:Nat→Tm}
theorem Rch.size (hs:Sol C L FL θ) {w x:Wd} (h:Rch C L FL w x):(wval C L FL θ w).size≤(wval C L FL θ x).size∧(¬Der C x w→(wval C L FL θ w).size<(wval C L FL θ x).size):=by
 induction h with
 | here h=>exact⟨by rw[hs.der h];exact Nat.le_refl _,fun hn=>absurd h hn⟩
 | @down x i id s m k h hc hat hk hr ih=>
  have hlt:(wval C L FL θ (.ref (i+1+k))).size<(wval C L FL θ x).size:=by
   rw[hs.der h,Zjs hc hat,Zpw]
   have:θ (i+1+k)∈(List.range m).map fun k=>θ (i+1+k):=List.mem_map.2 ⟨k,List.mem_range.2 hk,rfl⟩
   have:=Zev this
   show (θ (i+1+k)).size<_
   omega
  exact⟨by omega,fun _=>by omega⟩
theorem Rch.vars {j:Nat} {x:Wd} (h:Rch C L FL (.ref j) x):∀{t:Tm},Ev C L FL t x→(j:Int)∈t.vars []:=by
 induction h with
 | here h=>
  intro t ht
  obtain⟨y,hd,_,ht⟩:=Ev.eq.1 ht
  obtain rfl:=hd.uniq h
  by_cases h1:t.kind=1
  ·rw[if_pos h1] at ht
   obtain⟨_,_,i,e,e2⟩:=ht
   cases e
   rw[Tm.vars_eq,if_pos h1,e2];simp
  ·rw[if_neg h1] at ht
   split at ht
   ·cases ht.2.2
   ·split at ht
    ·obtain⟨_,_,_,_,e,_⟩:=ht;cases e
    ·obtain⟨_,_,_,_,e,_⟩:=ht;cases e
 | @down x i id s m k h hc hat hk hr ih=>
  intro t ht
  obtain⟨y,hd,_,ht⟩:=Ev.eq.1 ht
  obtain rfl:=hd.uniq h
  by_cases h1:t.kind=1
  ·rw[if_pos h1] at ht;obtain⟨_,_,_,e,_⟩:=ht;cases e
  rw[if_neg h1] at ht
  split at ht
  ·cases ht.2.2
  ·split at ht
   ·obtain⟨_,_,_,_,e,_⟩:=ht;cases e
   ·obtain⟨_,_,i',id',e,e2,e3,e4⟩:=ht
    cases e
    rw[hc] at e2;cases e2
    have hm:=(hat.uniq e3).2
    have hkl:k<t.l.length:=by omega
    exact Zcy h1 (List.getElem_mem hkl) (ih (EvL.at.1 e4 k hkl))
theorem ZwQ {j:Nat} (t:Tm):∀{x:Wd},Ev C L FL t x→(j:Int)∈t.vars []→Rch C L FL (.ref j) x:=by
 refine Tm.ind (P:=fun t=>∀{x:Wd},Ev C L FL t x→(j:Int)∈t.vars []→Rch C L FL (.ref j) x) (fun t ih=>?_) t
 intro x ht hj
 obtain⟨y,hd,_,ht⟩:=Ev.eq.1 ht
 by_cases h1:t.kind=1
 ·rw[if_pos h1] at ht
  obtain⟨_,_,i,rfl,e2⟩:=ht
  rw[Tm.vars_eq,if_pos h1,e2] at hj
  simp at hj
  obtain rfl:j=i:=by omega
  exact .here hd
 rw[if_neg h1] at ht
 have hl:t.l≠[]:=by
  intro e
  rw[Tm.vars_eq,if_neg h1,e,varsL] at hj;cases hj
 split at ht
 ·exact absurd ht.2.1 hl
 ·split at ht
  ·exact absurd ht.2.1 hl
  ·obtain⟨_,_,i,id,rfl,e2,e3,e4⟩:=ht
   rw[Tm.vars_eq,if_neg h1,ZdN] at hj
   simp only[List.not_mem_nil,false_or] at hj
   obtain⟨u,hu,hj⟩:=hj
   obtain⟨k,hk,rfl⟩:=List.getElem_of_mem hu
   exact .down hd e2 e3 hk (ih _ hu (EvL.at.1 e4 k hk) hj)
structure BExt (C C':List Wd):Prop where
 len:C'.length=C.length
 at_:∀(i:Nat) (x:Wd),C[i]?=some x→C'[i]?=some x∨x=Wd.ref i
theorem BExt.refl (C:List Wd):BExt C C:=⟨rfl,fun _ _ h=>.inl h⟩
theorem BExt.trans {C'':List Wd} (h:BExt C C') (g:BExt C' C''):BExt C C'':=⟨g.len.trans h.len,fun i x hx=>by
 rcases h.at_ i x hx with h1 | h1
 ·exact g.at_ i x h1
 ·exact .inr h1⟩
theorem BExt.fn (h:BExt C C') {i id:Nat} (hc:C[i]?=some (.fn id)):C'[i]?=some (.fn id):=by
 rcases h.at_ i _ hc with h1 | h1
 ·exact h1
 ·cases h1
theorem BExt.der (h:BExt C C') {x y z:Wd} (d:Der C x y) (e:Der C' y z):Der C' x z:=by
 obtain⟨n,d⟩:=d
 induction d with
 | stop _=>exact e
 | root _=>exact e
 | @step n i x' y' hc hne hd ih=>
  obtain⟨m,hm⟩:=ih e
  rcases h.at_ i _ hc with h1 | h1
  ·exact⟨m+1,.step h1 hne hm⟩
  ·exact absurd h1 hne
theorem ZlK (h:BExt C C') {x:Wd} (hx:rightW C L x=true):wval C' L FL θ x=wval C L FL θ x:=by
 cases x with
 | str i=>
  obtain⟨id,hc⟩:=ZcL.1 hx
  unfold wval
  simp only[hc,h.fn hc]
 | _=>rfl
theorem Sol.back (wf:WF C L FL) (h:BExt C C') (hs:Sol C' L FL θ):Sol C L FL θ:=by
 intro i x hx
 rcases h.at_ i x hx with h1 | h1
 ·rw[hs i x h1]
  by_cases h5:x.tag=5
  ·cases x <;> simp [Wd.tag] at h5;rfl
  ·exact ZlK h (wf.right x (List.mem_of_getElem? hx) h5)
 ·rw[h1];rfl
theorem Zrj {j:Nat} {y:Wd} (hj:C[j]?=some (.ref j)):BExt C (C.set j y):=by
 have hjl:=(List.getElem?_eq_some_iff.1 hj).1
 refine⟨List.length_set,fun i x hx=>?_⟩
 rw[Zha hjl]
 by_cases e:i=j
 ·subst e;rw[hj] at hx;cases hx;exact .inr rfl
 ·rw[if_neg e];exact .inl hx
theorem Zxx (wf:WF C L FL) {j:Nat} {y:Wd} (hj:C[j]?=some (.ref j)) (hy:rightW C L y=true):Sol (C.set j y) L FL θ↔Sol C L FL θ∧θ j=wval C L FL θ y:=by
 have hjl:=(List.getElem?_eq_some_iff.1 hj).1
 have hb:=Zrj (y:=y) hj
 constructor
 ·intro hs
  refine⟨hs.back wf hb,?_⟩
  rw[hs j y (by rw[Zha hjl,if_pos rfl]),ZlK hb hy]
 ·rintro⟨hs,he⟩ i x hx
  rw[Zha hjl] at hx
  by_cases e:i=j
  ·subst e
   rw[if_pos rfl] at hx
   cases hx
   rw[he,ZlK hb hy]
  ·rw[if_neg e] at hx
   rw[hs i x hx]
   by_cases h5:x.tag=5
   ·cases x <;> simp [Wd.tag] at h5;rfl
   ·exact(ZlK hb (wf.right x (List.mem_of_getElem? hx) h5)).symm
theorem Zyf {j:Nat} {y:Wd} {t:Tm} (hj:C[j]?=some (.ref j)) (hyd:Der C y y) (hyj:y≠.ref j) (ht:Ev C L FL t y) (hno:(j:Int)∉t.vars []) (u:Tm) :
  ∀{x:Wd},Ev C L FL u x→Ev (C.set j y) L FL (u.app fun n=>if n=(j:Int) then t else tV n) x:=by
 have hjl:=(List.getElem?_eq_some_iff.1 hj).1
 have hb:=Zrj (y:=y) hj
 have dn:∀{x z:Wd},Der C x z→z≠.ref j→Der (C.set j y) x z:=fun {x z} d hz=>by
  refine hb.der d ?_
  rcases d.last with h1 | ⟨i,rfl,h1⟩
  ·exact⟨0,.stop h1⟩
  ·refine⟨0,.root ?_⟩
   rw[Zha hjl,if_neg]
   ·exact h1
   ·rintro rfl;exact hz rfl
 have same:∀u:Tm,(j:Int)∉u.vars []→∀{x:Wd},Ev C L FL u x→Ev (C.set j y) L FL u x:=by
  intro u
  refine Tm.ind (P:=fun u=>(j:Int)∉u.vars []→∀{x:Wd},Ev C L FL u x→Ev (C.set j y) L FL u x) (fun u ih=>?_) u
  intro hn x hx
  obtain⟨z,hd,hsz,hx⟩:=Ev.eq.1 hx
  by_cases h1:u.kind=1
  ·rw[if_pos h1] at hx
   obtain⟨a,b,i,rfl,e⟩:=hx
   have hij:(Wd.ref i)≠.ref j:=by
    intro hh;cases hh
    rw[Tm.vars_eq,if_pos h1,e] at hn;simp at hn
   exact Ev.eq.2 ⟨_,dn hd hij,hsz,by rw[if_pos h1];exact⟨a,b,i,rfl,e⟩⟩
  rw[if_neg h1] at hx
  by_cases h2:u.kind=2
  ·rw[if_pos h2] at hx
   refine Ev.eq.2 ⟨_,dn hd (by rw[hx.2.2];simp),hsz,?_⟩
   rw[if_neg h1,if_pos h2];exact hx
  rw[if_neg h2] at hx
  by_cases h3:u.kind=3
  ·rw[if_pos h3] at hx
   obtain⟨a,b,id,m,rfl,e⟩:=hx
   refine Ev.eq.2 ⟨_,dn hd (by simp),hsz,?_⟩
   rw[if_neg h1,if_neg h2,if_pos h3];exact⟨a,b,id,m,rfl,e⟩
  rw[if_neg h3] at hx
  obtain⟨h4,a,i,id,rfl,b,c,g⟩:=hx
  refine Ev.eq.2 ⟨_,dn hd (by simp),hsz,?_⟩
  rw[if_neg h1,if_neg h2,if_neg h3]
  refine⟨h4,a,i,id,rfl,hb.fn b,c,EvL.at.2 fun k hk=>?_⟩
  exact ih _ (List.getElem_mem hk) (fun hh=>hn (Zcy h1 (List.getElem_mem hk) hh)) (EvL.at.1 g k hk)
 have hty:=same t hno ht
 have main:∀u:Tm,∀x:Wd,Ev C L FL u x→Ev (C.set j y) L FL (u.app fun n=>if n=(j:Int) then t else tV n) x:=fun u=>by
  refine Tm.ind (P:=fun u=>∀x:Wd,Ev C L FL u x→Ev (C.set j y) L FL (u.app fun n=>if n=(j:Int) then t else tV n) x) (fun u ih=>?_) u
  intro x hx
  have hx0:=hx
  obtain⟨z,hd,hsz,hx⟩:=Ev.eq.1 hx
  by_cases h1:u.kind=1
  ·rw[if_pos h1] at hx
   obtain⟨a,b,i,rfl,e⟩:=hx
   rw[ZbG h1]
   by_cases hij:i=j
   ·subst hij
    rw[if_pos e]
    refine hty.from ?_
    obtain⟨z,hz,_⟩:=Ev.eq.1 hty
    have hzy:z=y:=by
     have:=dn hyd hyj
     exact hz.uniq this
    subst hzy
    refine hb.der hd ?_
    obtain⟨n,hz⟩:=hz
    exact⟨n+1,.step (by rw[Zha hjl,if_pos rfl]) hyj hz⟩
   ·rw[if_neg (by omega)]
    have:tV u.n=u:=(Ztq (Ev.pv u hx0) h1).symm
    rw[this]
    exact same u (by rw[Tm.vars_eq,if_pos h1,e];simp;omega) hx0
  rw[ZeV h1]
  rw[if_neg h1] at hx
  by_cases h2:u.kind=2
  ·rw[if_pos h2] at hx
   refine Ev.mk_iff.2 ⟨_,dn hd (by rw[hx.2.2];simp),hsz,?_⟩
   rw[if_neg h1,if_pos h2]
   exact⟨hx.1,by rw[hx.2.1];rfl,hx.2.2⟩
  rw[if_neg h2] at hx
  by_cases h3:u.kind=3
  ·rw[if_pos h3] at hx
   obtain⟨a,b,id,m,rfl,e⟩:=hx
   refine Ev.mk_iff.2 ⟨_,dn hd (by simp),hsz,?_⟩
   rw[if_neg h1,if_neg h2,if_pos h3]
   exact⟨a,by rw[b];rfl,id,m,rfl,e⟩
  rw[if_neg h3] at hx
  obtain⟨h4,a,i,id,rfl,b,c,g⟩:=hx
  refine Ev.mk_iff.2 ⟨_,dn hd (by simp),hsz,?_⟩
  rw[if_neg h1,if_neg h2,if_neg h3]
  refine⟨h4,a,i,id,rfl,hb.fn b,by rw[List.length_map];exact c,EvL.at.2 fun k hk=>?_⟩
  rw[List.length_map] at hk
  rw[List.getElem_map]
  exact ih _ (List.getElem_mem hk) _ (EvL.at.1 g k hk)
 intro x hx
 exact main u x hx
theorem Acy.set (wf:WF C L FL) (ac:Acy C L FL) {j:Nat} {y:Wd} (hj:C[j]?=some (.ref j)) (hy:rightW C L y=true) (hyd:Der C y y) (hyj:y≠.ref j) (hno:¬Rch C L FL (.ref j) y):Acy (C.set j y) L FL:=by
 intro x hx
 rw[(wf.set hj hy hyd).2] at hx
 obtain⟨t,ht⟩:=ac y hy
 obtain⟨u,hu⟩:=ac x hx
 exact⟨_,Zyf hj hyd hyj ht (fun hh=>hno (ZwQ t ht hh)) u hu⟩
theorem Rch.ne (hs:Sol C L FL θ) {j:Nat} {y:Wd} (hyd:Der C y y) (hyj:y≠.ref j) (h:Rch C L FL (.ref j) y):θ j≠wval C L FL θ y:=by
 intro e
 have:=(h.size hs).2 fun d=>hyj (hyd.uniq d)
 have e2:(wval C L FL θ (.ref j))=θ j:=rfl
 rw[e2,e] at this
 omega
structure Unq (L:List Slot) (FL:List Fn.Slot):Prop where
 atom:∀(i j:Nat) (s:ByteArray) (m m':Bool),L[i]?=some ⟨s,true,m⟩→L[j]?=some ⟨s,true,m'⟩→i=j
 fn:∀(i j:Nat) (s:ByteArray) (ar:Int),At L FL i s ar→At L FL j s ar→i=j
theorem clash (wf:WF C L FL) (un:Unq L FL) {p q:Wd} (hp:rightW C L p=true) (hq:rightW C L q=true) (hp1:p.tag≠1) (hq1:q.tag≠1) (hne:p≠q)
  (hs:∀i j id,p=.str i→q=.str j→C[i]?=some (.fn id)→C[j]?≠some (.fn id)):wval C L FL θ p≠wval C L FL θ q:=by
 have atom:∀{i:Nat},rightW C L (.atom i)=true→∃s m,L[i]?=some ⟨s,true,m⟩:=fun {i} h=>by
  obtain⟨⟨s,is,m⟩,h1,h2⟩:=Zqp.1 (show isN L (i:Int)=true from h)
  simp at h2;subst h2
  exact⟨s,m,h1⟩
 have str:∀{i:Nat},rightW C L (.str i)=true→∃id s m,C[i]?=some (.fn id)∧At L FL id s ((m:Nat):Int):=fun {i} h=>by
  obtain⟨id,hc⟩:=ZcL.1 h
  obtain⟨s,m,h1,_⟩:=wf.fn i id hc
  exact⟨id,s,m,hc,h1⟩
 have kd:∀{x:Wd},rightW C L x=true→x.tag≠1→(wval C L FL θ x).kind=if x.tag=4 then 2 else if x.tag=3 then 3 else 4:=fun {x} hx h1=>by
  cases x with
  | ref i=>exact absurd rfl h1
  | str i=>
   obtain⟨id,s,m,h2,h3⟩:=str hx
   rw[Zjs h2 h3];rfl
  | atom i=>rfl
  | int i=>rfl
  | fn i=>simp [rightW] at hx
 intro e
 have ek:=congrArg Tm.kind e
 rw[kd hp hp1,kd hq hq1] at ek
 cases p with
 | ref i=>exact absurd rfl hp1
 | fn i=>simp [rightW] at hp
 | int n=>cases q with
  | ref i=>exact absurd rfl hq1
  | fn i=>simp [rightW] at hq
  | int m=>
   have:=congrArg Tm.n e
   simp [wval,Tm.n] at this
   exact hne (by rw[this])
  | atom i=>simp [Wd.tag] at ek
  | str i=>simp [Wd.tag] at ek
 | atom n=>cases q with
  | ref i=>exact absurd rfl hq1
  | fn i=>simp [rightW] at hq
  | int m=>simp [Wd.tag] at ek
  | atom i=>
   obtain⟨s,m,h1⟩:=atom hp
   obtain⟨s',m',h2⟩:=atom hq
   rw[ZpU h1,ZpU h2] at e
   have:=congrArg Tm.s e
   simp [Tm.s] at this
   subst this
   exact hne (by rw[un.atom _ _ _ _ _ h1 h2])
  | str i=>simp [Wd.tag] at ek
 | str n=>cases q with
  | ref i=>exact absurd rfl hq1
  | fn i=>simp [rightW] at hq
  | int m=>simp [Wd.tag] at ek
  | atom i=>simp [Wd.tag] at ek
  | str i=>
   obtain⟨id,s,m,h1,h2⟩:=str hp
   obtain⟨id',s',m',h3,h4⟩:=str hq
   rw[Zjs h1 h2,Zjs h3 h4] at e
   have e1:=congrArg Tm.s e
   have e2:=congrArg (fun t=>t.l.length) e
   simp [Tm.s,Tm.l] at e1 e2
   subst e1;subst e2
   have:=un.fn _ _ _ _ h2 h4
   subst this
   exact hs n i id rfl rfl h1 h3
def Jn (C:List Wd) (P:List (Wd×Wd)) (x y:Wd):Prop:=∃p q,Der C x p∧Der C y q∧(p=q∨∃i j id,p=.str i∧q=.str j∧C[i]?=some (.fn id)∧C[j]?=some (.fn id)∧(p,q)∈P)
theorem Jn.mono {P P':List (Wd×Wd)} {x y:Wd} (h:Jn C P x y) (hb:BExt C C') (hd:∀z,Der C x z→∃u,Der C' z u) (hP:∀z∈P,z∈P'):Jn C' P' x y:=by
 obtain⟨p,q,h1,h2,h3⟩:=h
 rcases h3 with rfl | ⟨i,j,id,rfl,rfl,a,b,c⟩
 ·obtain⟨u,hu⟩:=hd p h1
  exact⟨u,u,hb.der h1 hu,hb.der h2 hu,.inl rfl⟩
 ·exact⟨.str i,.str j,hb.der h1 ⟨0,.stop (by simp [Wd.tag])⟩,hb.der h2 ⟨0,.stop (by simp [Wd.tag])⟩,.inr ⟨i,j,id,rfl,rfl,hb.fn a,hb.fn b,hP _ c⟩⟩
def PairOk (C:List Wd) (L:List Slot) (FL:List Fn.Slot) (P:List (Wd×Wd)) (z:Wd×Wd):Prop:=
 ∃i j id,z=(.str i,.str j)∧C[i]?=some (.fn id)∧C[j]?=some (.fn id)∧∀s (m:Nat),At L FL id s (m:Int)→∀k,k<m→Jn C P (.ref (i+1+k)) (.ref (j+1+k))
theorem Zu0 (wf:WF C L FL) (hs:Sol C L FL θ) {P:List (Wd×Wd)} (hP:∀z∈P,PairOk C L FL P z):∀(n:Nat) (x y:Wd),(wval C L FL θ x).size≤n→Jn C P x y→wval C L FL θ x=wval C L FL θ y:=by
 intro n
 induction n with
 | zero=>intro x y hn;rw[Tm.size_eq] at hn;omega
 | succ n ih=>
  intro x y hn hj
  obtain⟨p,q,h1,h2,h3⟩:=hj
  rw[hs.der h1,hs.der h2]
  rw[hs.der h1] at hn
  rcases h3 with rfl | ⟨i,j,id,rfl,rfl,a,b,c⟩
  ·rfl
  ·obtain⟨i',j',id',e,a',b',g⟩:=hP _ c
   cases e
   rw[a] at a';cases a'
   obtain⟨s,m,hat,_⟩:=wf.fn i id a
   rw[Zjs a hat,Zjs b hat]
   rw[Zjs a hat,Zpw] at hn
   congr 1
   refine List.map_congr_left fun k hk=>?_
   have hk:=List.mem_range.1 hk
   have:=g s m hat k hk
   have hle:=Zev (List.mem_map.2 ⟨k,List.mem_range.2 hk,rfl⟩:θ (i+1+k)∈(List.range m).map fun k=>θ (i+1+k))
   have e1:(wval C L FL θ (.ref (i+1+k)))=θ (i+1+k):=rfl
   have e2:(wval C L FL θ (.ref (j+1+k)))=θ (j+1+k):=rfl
   rw[←e1,←e2]
   refine ih _ _ ?_ this
   rw[e1]
   omega
end
section
variable {C:List Wd} {L L':List Slot} {FL FL':List Fn.Slot}
theorem Ev.more {D:List Wd} (hL:StayL L L') (hF:StayF FL FL') (t:Tm):∀{x:Wd},Ev C L FL t x→Ev (C++D) L' FL' t x:=by
 refine Tm.ind (P:=fun t=>∀{x:Wd},Ev C L FL t x→Ev (C++D) L' FL' t x) (fun t ih=>?_) t
 intro x h
 obtain⟨y,hd,hs,h⟩:=Ev.eq.1 h
 refine Ev.eq.2 ⟨y,hd.more,hs,?_⟩
 by_cases h1:t.kind=1
 ·rw[if_pos h1] at h ⊢;exact h
 rw[if_neg h1] at h ⊢
 by_cases h2:t.kind=2
 ·rw[if_pos h2] at h ⊢;exact h
 rw[if_neg h2] at h ⊢
 by_cases h3:t.kind=3
 ·rw[if_pos h3] at h ⊢
  obtain⟨a,b,id,m,c,e⟩:=h
  exact⟨a,b,id,m,c,hL _ _ e rfl⟩
 rw[if_neg h3] at h ⊢
 obtain⟨a,b,i,id,c,e,f,g⟩:=h
 exact⟨a,b,i,id,c,ZoV e,f.stay hL hF,EvL.at.2 fun k hk=>ih _ (List.getElem_mem hk) (EvL.at.1 g k hk)⟩
theorem ZsA {i:Nat} (h:∀s∈L,s.name.size≤64) (hr:rightW C L (.atom i)=true):∃t,Ev C L FL t (.atom i):=by
 obtain⟨⟨s,is,m⟩,h1,h2⟩:=Zqp.1 (show isN L (i:Int)=true from hr)
 simp at h2;subst h2
 have:=h _ (List.mem_of_getElem? h1)
 exact⟨.mk 3 0 s [],Ev.mk_iff.2 ⟨_,⟨0,.stop (by simp [Wd.tag])⟩,this,by rw[if_neg (by decide),if_neg (by decide),if_pos rfl];exact⟨rfl,rfl,i,m,rfl,h1⟩⟩⟩
theorem Zuq {n:Int}:Ev C L FL (.mk 2 n ⟨#[]⟩ []) (.int n):=
 Ev.mk_iff.2 ⟨_,⟨0,.stop (by simp [Wd.tag])⟩,by decide,by rw[if_neg (by decide),if_pos rfl];exact⟨rfl,rfl,rfl⟩⟩
theorem ZqU {i:Nat} (h:C[i]?=some (.ref i)):Ev C L FL (tV i) (.ref i):=
 Ev.mk_iff.2 ⟨_,⟨0,.root h⟩,by decide,by rw[if_pos rfl];exact⟨rfl,rfl,i,rfl,rfl⟩⟩
theorem Acy.grow (ac:Acy C L FL) (hL:StayL L L') (hF:StayF FL FL') (h64:∀s∈L',s.name.size≤64):Acy C L' FL':=by
 intro x hx
 have st:∀{x:Wd},rightW C L x=true→∃t,Ev C L' FL' t x:=fun hr=>by
  obtain⟨t,ht⟩:=ac _ hr
  have:=Ev.more (D:=[]) hL hF t ht
  rw[List.append_nil] at this
  exact⟨t,this⟩
 cases x with
 | ref i=>exact st hx
 | str i=>exact st hx
 | atom i=>exact ZsA h64 hx
 | int n=>exact⟨_,Zuq⟩
 | fn i=>simp [rightW] at hx
theorem Acy.vars (ac:Acy C L FL) (h64:∀s∈L,s.name.size≤64) (n:Nat):Acy (C++refs C.length n) L FL:=by
 intro x hx
 have st:∀{x:Wd},rightW C L x=true→∃t,Ev (C++refs C.length n) L FL t x:=fun hr=>by
  obtain⟨t,ht⟩:=ac _ hr
  exact⟨t,Ev.more (StayL.refl _) (StayF.refl _) t ht⟩
 have old:∀{i:Nat} {y:Wd},(C++refs C.length n)[i]?=some y→C[i]?=some y∨y=.ref i:=fun {i y} hy=>by
  by_cases hi:i<C.length
  ·rw[List.getElem?_append_left hi] at hy;exact .inl hy
  ·rw[List.getElem?_append_right (by omega)] at hy
   obtain⟨_,e⟩:=Zqk hy
   right;rw[e];congr 1;omega
 cases x with
 | ref i=>
  obtain⟨y,hy,ht⟩:=Za2.1 hx
  rcases old hy with g | g
  ·exact st (Za2.2 ⟨y,g,ht⟩)
  ·rw[g] at hy;exact⟨_,ZqU hy⟩
 | str i=>
  obtain⟨j,hj⟩:=ZcL.1 hx
  rcases old hj with g | g
  ·exact st (ZcL.2 ⟨j,g⟩)
  ·cases g
 | atom i=>exact ZsA h64 hx
 | int n=>exact⟨_,Zuq⟩
 | fn i=>simp [rightW] at hx
theorem Acy.comp (ac:Acy C L FL) (h64:∀s∈L,s.name.size≤64) {id m:Nat} {s:ByteArray} (hat:At L FL id s (m:Int)):Acy (C ++ .fn id::refs (C.length+1) m) L FL:=by
 intro x hx
 have st:∀{x:Wd},rightW C L x=true→∃t,Ev (C ++ .fn id::refs (C.length+1) m) L FL t x:=fun hr=>by
  obtain⟨t,ht⟩:=ac _ hr
  exact⟨t,Ev.more (StayL.refl _) (StayF.refl _) t ht⟩
 have new:∀k,k<m→(C ++ .fn id::refs (C.length+1) m)[C.length+1+k]?=some (.ref (C.length+1+k)):=fun k hk=>by
  rw[List.getElem?_append_right (by omega),show C.length+1+k-C.length=k+1 by omega,List.getElem?_cons_succ,ZoP _ _ _ hk]
 have old:∀{i:Nat} {y:Wd},(C ++ .fn id::refs (C.length+1) m)[i]?=some y→C[i]?=some y∨y=.ref i∨i=C.length∧y=.fn id:=fun {i y} hy=>by
  by_cases hi:i<C.length
  ·rw[List.getElem?_append_left hi] at hy;exact .inl hy
  ·rw[List.getElem?_append_right (by omega)] at hy
   rcases hk:i-C.length with _ | k
   ·rw[hk,List.getElem?_cons_zero] at hy
    right;right;exact⟨by omega,by cases hy;rfl⟩
   ·rw[hk,List.getElem?_cons_succ] at hy
    obtain⟨_,e⟩:=Zqk hy
    right;left;rw[e];congr 1;omega
 cases x with
 | ref i=>
  obtain⟨y,hy,ht⟩:=Za2.1 hx
  rcases old hy with g | g | ⟨_,g⟩
  ·exact st (Za2.2 ⟨y,g,ht⟩)
  ·rw[g] at hy;exact⟨_,ZqU hy⟩
  ·rw[g] at ht;exact absurd rfl ht
 | str i=>
  obtain⟨j,hj⟩:=ZcL.1 hx
  rcases old hj with g | g | ⟨e,g⟩
  ·exact st (ZcL.2 ⟨j,g⟩)
  ·cases g
  ·cases g
   subst e
   obtain⟨i',m1,m2,h1,h2⟩:=hat
   have hs64:=h64 _ (List.mem_of_getElem? h2)
   refine⟨.mk 4 0 s ((List.range m).map fun k=>tV ((C.length+1+k:Nat):Int)),Ev.mk_iff.2 ⟨_,⟨0,.stop (by simp [Wd.tag])⟩,hs64,?_⟩⟩
   rw[if_neg (by decide),if_neg (by decide),if_neg (by decide)]
   refine⟨rfl,rfl,_,_,rfl,hj,by rw[List.length_map,List.length_range];exact⟨i',m1,m2,h1,h2⟩,EvL.at.2 fun k hk=>?_⟩
   rw[List.length_map,List.length_range] at hk
   rw[List.getElem_map,List.getElem_range]
   exact ZqU (new k hk)
 | atom i=>exact ZsA h64 hx
 | int n=>exact⟨_,Zuq⟩
 | fn i=>simp [rightW] at hx
theorem Der.through {i:Nat} {x y:Wd} (h:C[i]?=some x) (hne:x≠.ref i) (hd:Der C (.ref i) y):Der C x y:=by
 obtain⟨n,hd⟩:=hd
 cases hd with
 | stop g=>exact absurd rfl g
 | root g=>rw[h] at g;cases g;exact absurd rfl hne
 | step g _ hd=>rw[h] at g;cases g;exact⟨_,hd⟩
theorem Rep.far {q:Kn} {j:Nat} (hj:q.S j) (t:Tm):∀{x:Wd},Rep q t x→t.right=true→¬Rch q.C q.L q.FL (.ref j) x:=by
 refine Tm.ind (P:=fun t=>∀{x:Wd},Rep q t x→t.right=true→¬Rch q.C q.L q.FL (.ref j) x) (fun t ih=>?_) t
 intro x h hr hc
 have hself:=(h.self hr).1
 rw[Rep.eq] at h
 by_cases h1:t.kind=1
 ·rw[if_pos h1] at h
  obtain⟨i,rfl,_,hS,h4⟩:=h
  cases hc with
  | here g=>
   have:=hself.uniq g
   cases this;exact hS hj
  | down g=>have:=hself.uniq g;cases this
 rw[if_neg h1] at h
 by_cases h2:t.kind=2
 ·rw[if_pos h2] at h
  subst h
  cases hc with
  | here g=>have:=hself.uniq g;cases this
  | down g=>have:=hself.uniq g;cases this
 rw[if_neg h2] at h
 by_cases h3:t.kind=3
 ·rw[if_pos h3] at h
  obtain⟨id,m,rfl,_⟩:=h
  cases hc with
  | here g=>have:=hself.uniq g;cases this
  | down g=>have:=hself.uniq g;cases this
 rw[if_neg h3] at h
 obtain⟨i,id,rfl,hS,hcc,hat,hl⟩:=h
 rw[Tm.right_eq,Bool.and_eq_true] at hr
 cases hc with
 | here g=>have:=hself.uniq g;cases this
 | @down _ i' id' s' m' k g gc gat gk gr=>
  have:=hself.uniq g
  cases this
  rw[hcc] at gc
  cases gc
  obtain⟨_,em⟩:=hat.uniq gat
  have hk:k<t.l.length:=by omega
  obtain⟨y,hSk,hy,hry⟩:=RepL.at.1 hl k hk
  have hrk:=Zm1 hr.2 _ (List.getElem_mem hk)
  have hys:=(hry.self hrk).1
  by_cases e:y=.ref (i+1+k)
  ·subst e
   exact ih _ (List.getElem_mem hk) hry hrk gr
  ·refine ih _ (List.getElem_mem hk) hry hrk ?_
   cases gr with
   | here g2=>exact .here (g2.through hy e)
   | down g2 a b c d=>exact .down (g2.through hy e) a b c d
end
structure Snap (C0:List Wd) (T0:List Int) (C:List Wd) (T:List Int):Prop where
 le:C0.length≤C.length
 n:∃N,T=T0++N∧(∀(i:Nat) x,C0[i]?=some x→C[i]?=some x∨x=.ref i∧(i:Int)∈N)∧(∀(i:Nat) x,C0[i]?=some x→(i:Int)∈N→x=.ref i)∧∀n∈N,0≤n∧n<C.length
theorem Snap.refl (C:List Wd) (T:List Int):Snap C T C T:=⟨Nat.le_refl _,[],by simp,fun _ _ h=>.inl h,by simp,by simp⟩
theorem Snap.trans {C0 C1 C2:List Wd} {T0 T1 T2:List Int} (h:Snap C0 T0 C1 T1) (g:Snap C1 T1 C2 T2):Snap C0 T0 C2 T2:=by
 obtain⟨h0,N1,rfl,h1,h2,h3⟩:=h
 obtain⟨g0,N2,rfl,g1,g2,g3⟩:=g
 refine⟨by omega,N1++N2,by rw[List.append_assoc],fun i x hx=>?_,fun i x hx hn=>?_,fun n hn=>?_⟩
 ·rcases h1 i x hx with e | ⟨e1,e2⟩
  ·rcases g1 i x e with f | ⟨f1,f2⟩
   ·exact .inl f
   ·exact .inr ⟨f1,by simp [f2]⟩
  ·exact .inr ⟨e1,by simp [e2]⟩
 ·rcases List.mem_append.1 hn with e | e
  ·exact h2 i x hx e
  ·rcases h1 i x hx with f | ⟨f,_⟩
   ·exact g2 i x f e
   ·exact f
 ·rcases List.mem_append.1 hn with e | e
  ·have:=h3 n e;omega
  ·exact g3 n e
theorem Snap.set {C0 C:List Wd} {T0 T:List Int} (h:Snap C0 T0 C T) {j:Nat} {y:Wd} (hj:C[j]?=some (.ref j)):Snap C0 T0 (C.set j y) (T++if j<C0.length then [(j:Int)] else []):=by
 obtain⟨h0,N,rfl,h1,h2,h3⟩:=h
 have hjl:=(List.getElem?_eq_some_iff.1 hj).1
 refine⟨by rw[List.length_set];exact h0,N++if j<C0.length then [(j:Int)] else [],by rw[List.append_assoc],fun i x hx=>?_,fun i x hx hn=>?_,fun n hn=>?_⟩
 ·have hi:=(List.getElem?_eq_some_iff.1 hx).1
  rw[Zha hjl]
  by_cases e:i=j
  ·subst e
   refine .inr ?_
   rw[if_pos hi]
   rcases h1 i x hx with f | ⟨f,_⟩
   ·rw[hj] at f;cases f;exact⟨rfl,by simp⟩
   ·exact⟨f,by simp⟩
  ·rw[if_neg e]
   rcases h1 i x hx with f | ⟨f1,f2⟩
   ·exact .inl f
   ·exact .inr ⟨f1,by simp [f2]⟩
 ·rcases List.mem_append.1 hn with e | e
  ·exact h2 i x hx e
  ·split at e
   ·simp at e
    obtain rfl:i=j:=by omega
    rcases h1 i x hx with f | ⟨f,_⟩
    ·rw[hj] at f;cases f;rfl
    ·exact f
   ·cases e
 ·rw[List.length_set]
  rcases List.mem_append.1 hn with e | e
  ·exact h3 n e
  ·split at e
   ·simp at e;omega
   ·cases e
theorem Snap.more {C0 C:List Wd} {T0 T:List Int} (h:Snap C0 T0 C T) {C':List Wd} (hl:C.length≤C'.length) (ho:∀i,i<C.length→C'[i]?=C[i]?):Snap C0 T0 C' T:=by
 obtain⟨h0,N,rfl,h1,h2,h3⟩:=h
 refine⟨by omega,N,rfl,fun i x hx=>?_,h2,fun n hn=>by have:=h3 n hn;omega⟩
 have hi:=(List.getElem?_eq_some_iff.1 hx).1
 rw[ho i (by omega)]
 exact h1 i x hx
def unb (C:List Wd) (N:List Int):List Wd:=C.mapIdx fun i x=>if (i:Int)∈N then .ref i else x
theorem ZxA (C:List Wd) (N:List Int):(unb C N).length=C.length:=by simp [unb]
theorem Zt8 {C:List Wd} {N:List Int} {i:Nat}:(unb C N)[i]?=if (i:Int)∈N then (C[i]?).map fun _=>.ref i else C[i]?:=by
 unfold unb
 rw[List.getElem?_mapIdx]
 rcases C[i]? with _ | x
 ·simp
 ·simp
  split <;> rfl
theorem ZxS (C:List Wd):unb C []=C:=by
 refine List.ext_getElem? fun i=>?_
 rw[Zt8];simp
theorem ZwW {C:List Wd} {N:List Int} {j:Nat} (hj:j<C.length):unb C (N++[(j:Int)])=unb (C.set j (.ref j)) N:=by
 refine List.ext_getElem? fun i=>?_
 rw[Zt8,Zt8,Zha hj]
 by_cases h1:(i:Int)∈N
 ·rw[if_pos (by simp [h1]),if_pos h1]
  by_cases h2:i=j
  ·subst h2;rw[if_pos rfl,List.getElem?_eq_getElem hj];rfl
  ·rw[if_neg h2]
 ·rw[if_neg h1]
  by_cases h2:i=j
  ·subst h2;rw[if_pos rfl,if_pos (by simp),List.getElem?_eq_getElem hj];rfl
  ·rw[if_neg h2,if_neg]
   simp [h1]
   omega
theorem Snap.back {C0 C:List Wd} {T0 T N:List Int} (h:Snap C0 T0 C T) (hN:T=T0++N):(unb C N).take C0.length=C0:=by
 obtain⟨h0,N',e,h1,h2,h3⟩:=h
 rw[hN] at e
 have:=List.append_cancel_left e
 subst this
 refine List.ext_getElem? fun i=>?_
 rw[List.getElem?_take]
 by_cases hi:i<C0.length
 ·rw[if_pos hi,Zt8]
  have hx:=List.getElem?_eq_getElem hi
  have hiC:i<C.length:=by omega
  by_cases hn:(i:Int)∈N
  ·rw[if_pos hn,hx,h2 i _ hx hn,List.getElem?_eq_getElem hiC];rfl
  ·rw[if_neg hn,hx]
   rcases h1 i _ hx with f | ⟨_,f⟩
   ·exact f
   ·exact absurd f hn
 ·rw[if_neg hi,List.getElem?_eq_none (by omega)]
def ChainOk:List (List Wd×List Int)→List Wd→List Int→Prop
 | [],_,_=>False
 | (C0,T0)::r,C,T=>Snap C0 T0 C T∧(match r with | []=>C0=[]∧T0=[] | _=>ChainOk r C0 T0)
theorem ChainOk.top {C0 C:List Wd} {T0 T:List Int} {r:List (List Wd×List Int)} (h:ChainOk ((C0,T0)::r) C T):Snap C0 T0 C T:=by
 unfold ChainOk at h;exact h.1
theorem ChainOk.step {C0 C C':List Wd} {T0 T T':List Int} {r:List (List Wd×List Int)} (h:ChainOk ((C0,T0)::r) C T) (g:Snap C0 T0 C' T'):ChainOk ((C0,T0)::r) C' T':=by
 unfold ChainOk at h ⊢;exact⟨g,h.2⟩
theorem ChainOk.open_ {C:List Wd} {T:List Int} {r:List (List Wd×List Int)} (h:ChainOk r C T):ChainOk ((C,T)::r) C T:=by
 unfold ChainOk
 refine⟨Snap.refl C T,?_⟩
 cases r with
 | nil=>exact h.elim
 | cons x r=>exact h
theorem ChainOk.close {C0 C1 C:List Wd} {T0 T1 T:List Int} {r:List (List Wd×List Int)} (h:ChainOk ((C1,T1)::(C0,T0)::r) C T):ChainOk ((C0,T0)::r) C T:=by
 unfold ChainOk at h
 obtain⟨h1,h2⟩:=h
 have h2:ChainOk ((C0,T0)::r) C1 T1:=h2
 exact h2.step (h2.top.trans h1)
theorem ChainOk.back {C0 C:List Wd} {T0 T:List Int} {r:List (List Wd×List Int)} (h:ChainOk ((C0,T0)::r) C T):ChainOk ((C0,T0)::r) C0 T0:=h.step (Snap.refl _ _)
theorem ChainOk.first (C:List Wd):ChainOk [([],[])] C []:=by
 unfold ChainOk
 exact⟨⟨by simp,[],by simp,by simp,by simp,by simp⟩,rfl,rfl⟩
end Go.Proofs.YtdaenijbokialaaGreat
