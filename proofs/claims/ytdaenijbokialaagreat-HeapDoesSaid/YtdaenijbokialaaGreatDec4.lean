import Derived.Test.YtdaenijbokialaaGreatSnap
import Derived.Test.YtdaenijbokialaaGreatKeyT
namespace Go.Proofs.YtdaenijbokialaaGreat
open Go Go.D Go.Proofs
set_option linter.unusedSimpArgs false
set_option linter.unusedVariables false
set_option maxRecDepth 8000
theorem HI.mono {d:HpD} {C:List Wd} {k m:Nat} (h:HI d C k) (hm:k≤m):HI d C m:=⟨h.ok,h.wf,by have:=h.nL;omega,by have:=h.nF;omega,by have:=h.nm;omega,h.al,h.fl,h.n64⟩
def need (t:Tm) (ks:List Int):Nat:=t.cost+((t.vars ks).length-ks.length)
def needL (l:List Tm) (ks:List Int):Nat:=costL l+((varsL l ks).length-ks.length)
theorem Zss {l:List Tm} {i:Nat} (hi:i<l.length) (ks:List Int):needL (l.take (i+1)) ks=needL (l.take i) ks+need l[i] (varsL (l.take i) ks):=by
 unfold needL need
 rw[Zvf hi,Zkv hi]
 obtain⟨z1,a⟩:=Znb (l.take i) ks
 obtain⟨z2,b,_⟩:=Zm8 l[i] (ks++z1)
 rw[a,b]
 simp only[List.length_append];omega
theorem ZwI {l:List Tm} (i:Nat) (ks:List Int):needL (l.take i) ks≤needL l ks:=by
 unfold needL
 have h1:=Zrp (l.take i) (l.drop i)
 have h2:=Zru (l.take i) (l.drop i) ks
 rw[List.take_append_drop] at h1 h2
 obtain⟨z1,a⟩:=Znb (l.take i) ks
 obtain⟨z2,b⟩:=Znb (l.drop i) (ks++z1)
 rw[h2,a,b,h1]
 simp only[List.length_append];omega
theorem ZvS {t:Tm} (h:t.kind=4) (ks:List Int):need t ks=1+t.l.length+needL t.l ks:=by
 unfold need needL
 rw[Tm.cost_eq,if_pos h,Tm.vars_eq,if_neg (by omega)]
 omega
section
variable {w:World} {E:List Nat} {r:Nat}
theorem RdA.far {v z:World} {F E:List Nat} (f:Far E v z) (hFE:∀k∈F,k∈E) {l:List Tm} {p:Option Addr} (h:RdA v F l p 0):RdA z F l p 0:=by
 obtain⟨X,u,dd⟩:=f
 exact RdA.upd' u (fun k hk=>dd k (hFE k hk)) h
theorem Zw1 {F:List Nat} (t:Tm) {v:World} {d:HpD} {C:List Wd} {k:Nat} {V:List (Int×Nat)} {S:Nat→Prop} {p:Option Addr} {c:Nat} {K:Int→Int→World→Prop}
  (hp:RdA v F t.l p 0) (hFE:∀k∈F,k∈E) (hr:t.right=true) (h:Hp w v d (r::E)) (hi:HI d C k) (hk:k+t.size<16000) (hrw:w.heap.size≤r) (hrE:r∉E) (hm:MapAt v r (fun a:Int=>Value.int .i64 a) (vmM V)) (hv:VmOk S C V) (hS:∀j,S j→j<C.length)
  (hfail:d.pd.limit<C.length+need t (V.map (·.1))→∀v' d' C' k',Hp w v' d' (r::E)→HI d' C' k'→k'≤k+t.size→KinH d d'→Far E v v'→K 0 2 v')
  (hok:(C.length:Int)+need t (V.map (·.1))≤d.pd.limit→∀v' d' C' V' x,Hp w v' d' (r::E)→HI d' C' (k+t.size)→C'.length=C.length+need t (V.map (·.1))→(∀i,i<C.length→C'[i]?=C[i]?)→V'.map (·.1)=t.vars (V.map (·.1))→(∀y∈V,y∈V')→VmOk S C' V'→MapAt v' r (fun a:Int=>Value.int .i64 a) (vmM V')→
   Rep ⟨S,C',d'.L,d'.FL,V'⟩ t x→x.fits→KinH d d'→StayL d.L d'.L→StayF d.FL d'.FL→(Acy C d.L d.FL→Acy C' d'.L d'.FL)→((t.kind=4→x=.str C.length)∧(t.kind=1→t.n∉V.map (·.1)→x=.ref C.length))→Far E v v'→K x.enc 0 v') :
  ZbY d.a t.kind t.n t.s p t.l.length c (some r) v K:=by
 induction t using Tm.ind generalizing v d C k V S p c K with | _ t ih=>?_
 apply ZbY.of
 unfold Zkl
 refine Zai fun q w1 hq u1 b1=>?_
 have h1:=h.keep u1
 have hm1:=hm.upd u1 (by simp)
 have hbd:=hi.ok.bound h
 have hts:=Tm.size_eq t
 have hlim:(C.length:Int)≤d.pd.limit:=by have:=hi.ok.len;have:=h.plok.top;omega
 have hright:=hr
 rw[Tm.right_eq] at hright
 simp only[Bool.and_eq_true] at hright
 have hpart:=hright.1
 unfold partT at hpart
 simp only[X_,b1.cell]
 have F1:∀{v2:World},Far E w1 v2→Far E v v2:=fun f=>(Far.keep u1).then f
 by_cases k1:t.kind=1
 ·-- a variable
  have hn0:t.cost=0:=by rw[Tm.cost_eq,if_neg (by omega)]
  have hvs:=Tm.vars_eq t (V.map (·.1))
  rw[if_pos k1] at hvs
  refine ifT (by simp [k1]) (ZtT h1 hi hrw hrE hm1 hv hS (fun i hin v2 h2 hm2 f2=>?_) (fun hno hl v2 h2 f2=>?_) (fun hno hl v2 d2 h2 hi2 kin eL eF hm2 f2=>?_))
  ·have hmem:t.n∈V.map (·.1):=List.mem_map.2 ⟨_,hin,rfl⟩
   rw[if_pos hmem] at hvs
   have hneed:need t (V.map (·.1))=0:=by unfold need;rw[hn0,hvs];omega
   obtain⟨g1,g2⟩:=hv.cell _ hin
   have hil:=(List.getElem?_eq_some_iff.1 g2).1
   refine hok (by rw[hneed];omega) v2 d C V (.ref i) h2 (hi.mono (by omega)) (by rw[hneed];omega) (fun _ _=>rfl) hvs.symm (fun _ hy=>hy) hv hm2 ?_ ⟨by show -2^60≤(i:Int);omega,by show (i:Int)<2^60;omega⟩ (KinH.refl d) (StayL.refl _) (StayF.refl _) id ⟨fun h4=>by omega,fun _ hn=>absurd hmem hn⟩ (F1 f2)
   rw[Rep.eq,if_pos k1]
   exact⟨i,rfl,hin,g1,g2⟩
  ·rw[if_neg hno] at hvs
   have hneed:need t (V.map (·.1))=1:=by unfold need;rw[hn0,hvs];simp
   exact hfail (by rw[hneed];omega) v2 d C k h2 hi (by omega) (KinH.refl d) (F1 f2)
  ·rw[if_neg hno] at hvs
   have hneed:need t (V.map (·.1))=1:=by unfold need;rw[hn0,hvs];simp
   have hnew:(C++[Wd.ref C.length])[C.length]?=some (.ref C.length):=by rw[List.getElem?_append_right (by omega),Nat.sub_self];rfl
   refine hok (by rw[hneed];omega) v2 d2 _ (V++[(t.n,C.length)]) (.ref C.length) h2 (hi2.mono (by omega)) (by rw[hneed];simp) (fun i hil=>List.getElem?_append_left hil) (by rw[List.map_append,hvs];rfl) (fun _ hy=>List.mem_append.2 (.inl hy)) ⟨?_,?_,fun x hx=>?_⟩ hm2 ?_ ⟨by show -2^60≤(C.length:Int);omega,by show (C.length:Int)<2^60;omega⟩ kin (by rw[eL];exact StayL.refl _) (by rw[eF];exact StayF.refl _) (fun ac=>by rw[eL,eF];exact ac.vars hi.n64 1) ⟨fun h4=>by omega,fun _ _=>rfl⟩ (F1 f2)
   ·obtain⟨z,g1,_,g3⟩:=Zm8 t (V.map (·.1))
    have:=g3 hv.once
    rw[←g1,hvs] at this
    rw[List.map_append];exact this
   ·rw[List.map_append,List.nodup_append]
    refine⟨hv.two,by simp,fun a ha b hb=>?_⟩
    simp at hb
    subst hb
    obtain⟨x,hx,rfl⟩:=List.mem_map.1 ha
    have:=(List.getElem?_eq_some_iff.1 (hv.cell x hx).2).1
    omega
   ·rcases List.mem_append.1 hx with g | g
    ·obtain⟨a,b⟩:=hv.cell x g
     exact⟨a,ZoV b⟩
    ·simp at g;subst g
     exact⟨fun hh=>by have:=hS _ hh;omega,hnew⟩
   ·rw[Rep.eq,if_pos k1]
    exact⟨C.length,rfl,by simp,fun hh=>by have:=hS _ hh;omega,hnew⟩
 rw[if_neg k1] at hpart
 refine ifF (by simp [k1]) ?_
 have hv0:t.kind≠4→need t (V.map (·.1))=needL t.l (V.map (·.1))-costL t.l:=fun h4=>by
  unfold need needL
  rw[Tm.cost_eq,if_neg h4,Tm.vars_eq,if_neg k1];omega
 by_cases k2:t.kind=2
 ·rw[if_pos k2] at hpart
  simp only[Bool.and_eq_true,decide_eq_true_eq,beq_iff_eq] at hpart
  have hnil:t.l=[]:=List.eq_nil_of_length_eq_zero hpart.2
  have hvs:t.vars (V.map (·.1))=V.map (·.1):=by rw[Tm.vars_eq,if_neg k1,hnil,varsL]
  have hneed:need t (V.map (·.1))=0:=by unfold need;rw[Tm.cost_eq,if_neg (by omega),hvs];omega
  refine ifT (by simp [k2]) (Zx8 h1 hpart.1.1 ?_)
  refine hok (by rw[hneed];omega) w1 d C V (.int t.n) h1 (hi.mono (by omega)) (by rw[hneed];omega) (fun _ _=>rfl) hvs.symm (fun _ hy=>hy) hv hm1 ?_ ⟨by show -2^60≤t.n;have:=hpart.1.1;omega,by show t.n<2^60;have:=hpart.1.1;omega⟩ (KinH.refl d) (StayL.refl _) (StayF.refl _) id ⟨fun h4=>by omega,fun h1=>absurd h1 k1⟩ (Far.keep u1)
  rw[Rep.eq,if_neg k1,if_pos k2]
 rw[if_neg k2] at hpart
 refine ifF (by simp [k2]) ?_
 by_cases k3:t.kind=3
 ·rw[if_pos k3] at hpart
  simp only[Bool.and_eq_true,decide_eq_true_eq,beq_iff_eq] at hpart
  have hnil:t.l=[]:=List.eq_nil_of_length_eq_zero hpart.2
  have hvs:t.vars (V.map (·.1))=V.map (·.1):=by rw[Tm.vars_eq,if_neg k1,hnil,varsL]
  have hneed:need t (V.map (·.1))=0:=by unfold need;rw[Tm.cost_eq,if_neg (by omega),hvs];omega
  refine ifT (by simp [k3]) (ZxI h1 hi (by omega) hpart.1.2 fun id v2 d2 m2 h2 hi2 kin hid hst eF f2=>?_)
  have hidl:=(List.getElem?_eq_some_iff.1 hid).1
  have hnL:=hi2.nL
  have fE:Far E v v2:=F1 (f2.less fun k hk=>by simp [hk])
  have hm2:MapAt v2 r (fun a:Int=>Value.int .i64 a) (vmM V):=by
   obtain⟨F',u',dd⟩:=f2
   exact hm1.upd u' (dd r (by simp))
  refine hok (by rw[hneed];omega) v2 d2 C V (.atom id) h2 (hi2.mono (by omega)) (by rw[hneed];omega) (fun _ _=>rfl) hvs.symm (fun _ hy=>hy) hv hm2 ?_ ⟨by show -2^60≤(id:Int);omega,by show (id:Int)<2^60;omega⟩ kin hst (by rw[eF];exact StayF.refl _) (fun ac=>by have:=ac.grow hst (StayF.refl _) hi2.n64;rw[eF];exact this) ⟨fun h4=>by omega,fun h1=>absurd h1 k1⟩ fE
  rw[Rep.eq,if_neg k1,if_neg k2,if_pos k3]
  exact⟨id,m2,rfl,hid⟩
 rw[if_neg k3] at hpart
 refine ifF (by simp [k3]) ?_
 have k4:t.kind=4:=by
  by_cases h4:t.kind=4
  ·exact h4
  ·rw[if_neg h4] at hpart;cases hpart
 rw[if_pos k4] at hpart
 simp only[Bool.and_eq_true,decide_eq_true_eq,beq_iff_eq] at hpart
 have hneed:=ZvS k4 (V.map (·.1))
 have hvs:t.vars (V.map (·.1))=varsL t.l (V.map (·.1)):=by rw[Tm.vars_eq,if_neg k1]
 have hpos:=ZcC (l:=t.l)
 have hqr:q≠r:=by have:=hm.lt;omega
 have hEi:In (r::E) v:=fun k hk=>h.inn k (List.mem_append.2 (.inr hk))
 have h1q:Hp w w1 d (r::q::E):=h.upd u1 (by intro k _ h;cases h) (by simp) (by intro k hk;cases hk) (fun k hk=>by
  simp only[List.mem_cons] at hk
  rcases hk with e | e | e
  ·left;simp [e]
  ·right;omega
  ·left;simp [e]) (fun k hk=>by
  simp only[List.mem_cons] at hk
  rcases hk with e | e | e
  ·exact(hEi.upd u1) k (by simp [e])
  ·rw[e];exact b1.lt
  ·exact(hEi.upd u1) k (by simp [e]))
 have drop:∀{z:World} {d':HpD},Hp w z d' (r::q::E)→Hp w z d' (r::E):=fun h=>h.less fun k hk=>by
  simp only[List.mem_cons] at hk ⊢
  exact hk.imp id .inr
 refine Ztt h1q hi (by omega) hpart.1.2 hpart.2.1 hpart.2.2 (fun hl v2 d2 h2 hi2 kin hsL hsF f2=>?_) (fun hl v2 d2 id h2 hi2 hat kin hsL hsF f2=>?_)
 ·exact ifT rfl (hfail (by rw[hneed];omega) v2 d2 C (k+1) (drop h2) hi2 (by omega) kin (F1 (f2.less fun k hk=>by simp [hk])))
 have hm2:MapAt v2 r (fun a:Int=>Value.int .i64 a) (vmM V):=by
  obtain⟨F',u',dd⟩:=f2
  exact hm1.upd u' (dd r (by simp))
 have b2:=f2.blk b1 (by simp)
 have fE:Far E v v2:=F1 (f2.less fun k hk=>by simp [hk])
 refine ifF rfl ?_
 simp only[X_,b2.cell]
 unfold ZhQ
 obtain⟨ks,hks⟩:∃ks,ks=V.map (·.1):=⟨_,rfl⟩
 rw[←hks] at hneed hvs hok hfail
 obtain⟨m,hmm⟩:∃m,m=t.l.length:=⟨_,rfl⟩
 obtain⟨Si,hSi⟩:∃Si:Nat→Nat→Prop,Si=fun i j=>S j∨(C.length+1+i≤j∧j<C.length+1+m):=⟨_,rfl⟩
 have gfn:(C ++ .fn id::refs (C.length+1) t.l.length)[C.length]?=some (.fn id):=by
  rw[List.getElem?_append_right (by omega),Nat.sub_self,List.getElem?_cons_zero]
 have gref:∀j,j<t.l.length→(C ++ .fn id::refs (C.length+1) t.l.length)[C.length+1+j]?=some (.ref (C.length+1+j)):=fun j hj=>by
  rw[List.getElem?_append_right (by omega),show C.length+1+j-C.length=j+1 by omega,List.getElem?_cons_succ,ZoP _ _ _ hj]
 refine⟨fun s z=>∃(i:Nat) (d':HpD) (C':List Wd) (V':List (Int×Nat)),s.t57=i∧i≤t.l.length∧Hp w z d' (r::E)∧HI d' C' (k+1+sizeL (t.l.take i))∧C'.length=C.length+1+t.l.length+needL (t.l.take i) ks∧(∀j,j<C.length→C'[j]?=C[j]?)∧V'.map (·.1)=varsL (t.l.take i) ks∧(∀y∈V,y∈V')∧VmOk (Si i) C' V'∧MapAt z r (fun a:Int=>Value.int .i64 a) (vmM V')∧C'[C.length]?=some (.fn id)∧At d'.L d'.FL id t.s (t.l.length:Int)∧(∀j,i≤j→j<t.l.length→C'[C.length+1+j]?=some (.ref (C.length+1+j)))∧(∀j (hj:j<i) (hjm:j<t.l.length),∃y,C'[C.length+1+j]?=some y∧Rep ⟨Si i,C',d'.L,d'.FL,V'⟩ t.l[j] y)∧KinH d d'∧StayL d.L d'.L∧StayF d.FL d'.FL∧(Acy C d.L d.FL→Acy C' d'.L d'.FL)∧Far E v z,fun s _=>(t.l.length-s.t57).toNat,
  ⟨0,d2,_,V,rfl,by omega,drop h2,by simpa [sizeL] using hi2,?_,fun j hj=>List.getElem?_append_left hj,by simp [varsL,hks],fun _ hy=>hy,⟨hv.once,hv.two,fun x hx=>?_⟩,hm2,gfn,hat,fun j _ hj=>gref j hj,fun j hj=>absurd hj (by omega),kin,hsL,hsF,fun ac=>(ac.grow hsL hsF hi2.n64).comp hi2.n64 hat,fE⟩,?_⟩
 ·rw[List.length_append,List.length_cons,ZkC]
  unfold needL
  simp [costL,varsL];omega
 ·obtain⟨a,b⟩:=hv.cell x hx
  have hlt:=(List.getElem?_eq_some_iff.1 b).1
  refine⟨fun hh=>?_,ZoV b⟩
  rw[hSi] at hh
  rcases hh with hh | hh
  ·exact a hh
  ·omega
 rintro⟨si⟩ z ⟨i,d',C',V',hi0,him,hz,hiz,hlen,hold,hkeys,hVV,hvz,hmz,gfn',hat',gref',grep,kinz,sL,sF,acz,fz⟩
 dsimp only at hi0
 subst hi0
 unfold ZhK
 dsimp only
 have hbz:=hiz.ok.bound hz
 have ea:d.a=d'.a:=kinz.a.symm
 refine ifC (fun g=>?_) (fun g=>?_)
 ·simp only[decide_eq_true_eq] at g
  have gi:i<t.l.length:=by omega
  obtain⟨x,pq,cq,e1,e2,c0,c1,c2,c3,e7,e8⟩:=(RdA.far fz hFE hp).at i gi
  simp only[Nat.zero_add] at c0 c1 c2 c3
  simp only[e1,X_,addA,Int.toNat_natCast,c0,c1,c2,c3]
  refine⟨by omega,by omega,Zai fun q2 z1 hq2 y1 bb=>?_⟩
  refine Zfe (Upd.refl _ _) bb (by simp) rfl fun z2 y2 bb2=>Zfe y2 bb2 (by simp) rfl fun z3 y3 bb3=>Zfe y3 bb3 (by simp) rfl fun z4 y4 bb4=>Zfe y4 bb4 (by simp) rfl fun z5 y5 bb5=>?_
  simp at bb5
  have Z5:Upd [] z z5:=y1.fresh y5 (by intro k hk;simp at hk;omega)
  simp only[X_,bb5.cell]
  have hz5:=hz.keep Z5
  have hst:=Zjd (l:=t.l) gi
  have hsl:=ZeH (l:=t.l) (i+1)
  have hnt:=Zss gi ks
  have hnl:=ZwI (l:=t.l) (i+1) ks
  have hrs:=Zm1 hright.2 _ (List.getElem_mem gi)
  have hlimd:=kinz.limit
  have hSz:∀j,Si i j→j<C'.length:=fun j hj=>by
   rw[hSi] at hj
   rcases hj with hj | hj
   ·have:=hS j hj;omega
   ·omega
  rw[ea]
  refine ih t.l[i] (List.getElem_mem gi) (RdA.keep Z5 e8) hrs hz5 hiz (by omega) (hmz.upd Z5 (by simp)) hvz hSz (fun hl v3 d3 C3 kk3 h3 hi3 hk3 kin3 f3=>ifT rfl ?_) (fun hl v3 d3 C3 V3 y h3 hi3 hlen3 hold3 hkeys3 hVV3 hv3 hm3 rep3 yf kin3 sL3 sF3 ac3 _ f3=>ifF rfl ?_)
  ·rw[hkeys] at hl
   exact hfail (by omega) v3 d3 C3 kk3 h3 hi3 (by omega) (kinz.trans kin3) ((fz.then (Far.keep Z5)).then f3)
  ·rw[hkeys] at hl hlen3 hkeys3
   rw[show d'.a=d3.a from kin3.a.symm]
   have ud:=Zah v3
   have h3d:=h3.keep ud
   have hb3:=hi3.ok.bound h3
   have hcl3:=hi3.ok.cl
   simp only[HpD.a,X_,h3.blk.cell]
   rw[i64id (x:=(i:Int)+1) (by omega) (by omega)]
   refine Zsi (x:=.str C.length) ⟨by show -2^60≤(C.length:Int);omega,by show (C.length:Int)<2^60;omega⟩ (by omega) ⟨by simp only[X_,h3.blk.cell],?_⟩
   rw[show (Wd.str C.length).num+((i:Int)+1)=((C.length+1+i:Nat):Int) by show (C.length:Int)+((i:Int)+1)=_;omega]
   obtain⟨sd,sr⟩:=rep3.self hrs
   have gj:C3[C.length+1+i]?=some (.ref (C.length+1+i)):=by
    rw[hold3 _ (by omega)];exact gref' i (by omega) gi
   have hlt3:C.length+1+i<C3.length:=(List.getElem?_eq_some_iff.1 gj).1
   refine ZoM (d:=d3) h3d hi3.ok yf sd fun v4 h4 u4=>⟨by simp only[X_,h4.blk.cell,h3.blk.cell],by omega,by omega,?_⟩
   obtain⟨cb,off,hcp,_,_⟩:=h4.word hi3.ok hlt3
   simp only[hcp,X_,Int.toNat_natCast]
   refine h4.setCell (by rw[hcl3];exact hlt3) (fun v5 h5 u5=>?_) hcp
   obtain⟨wf',_⟩:=hi3.wf.set gj sr sd
   have hset:∀j,(C3.set (C.length+1+i) y)[j]?=if j=C.length+1+i then some y else C3[j]?:=fun j=>Zha hlt3
   have hne:∀j,¬Si i j→j≠C.length+1+i:=fun j hj e=>hj (by rw[hSi];right;omega)
   have hSS:∀j,Si (i+1) j→Si i j:=fun j hj=>by
    rw[hSi] at hj ⊢
    rcases hj with hj | hj
    ·exact .inl hj
    ·right;omega
   have kle:Kn.le ⟨Si i,C3,d3.L,d3.FL,V3⟩ ⟨Si (i+1),C3.set (C.length+1+i) y,d3.L,d3.FL,V3⟩:=by
    refine⟨fun j x' hj hx'=>?_,fun j hj _ hh=>hj (hSS j hh),StayL.refl _,StayF.refl _,fun _ hy=>hy⟩
    show (C3.set (C.length+1+i) y)[j]?=some x'
    rw[hset,if_neg (hne j hj)];exact hx'
   have kle0:Kn.le ⟨Si i,C',d'.L,d'.FL,V'⟩ ⟨Si (i+1),C3.set (C.length+1+i) y,d3.L,d3.FL,V3⟩:=by
    refine Kn.le.trans (r:=⟨Si i,C3,d3.L,d3.FL,V3⟩) ⟨fun j x' _ hx'=>?_,fun j hj _=>hj,sL3,sF3,hVV3⟩ kle
    show C3[j]?=some x'
    rw[hold3 j (List.getElem?_eq_some_iff.1 hx').1];exact hx'
   have hcells:d3.cells.set (C.length+1+i) y.enc=(C3.set (C.length+1+i) y).map Wd.enc:=by rw[hi3.ok.cells,List.map_set]
   simp only[hcells] at h5
   refine⟨⟨i+1,_,C3.set (C.length+1+i) y,V3,by simp,by omega,h5,⟨⟨rfl,fun x' hx'=>?_,hi3.ok.nf,by rw[List.length_set];exact hi3.ok.len,hi3.ok.starts,hi3.ok.ml⟩,wf',?_,?_,?_,hi3.al,hi3.fl,hi3.n64⟩,by rw[List.length_set];omega,fun j hj=>?_,by rw[hkeys3,Zkv gi],fun y' hy'=>hVV3 _ (hVV _ hy'),⟨hv3.once,hv3.two,fun x' hx'=>?_⟩,?_,?_,(hat'.stay sL3 sF3),fun j hj1 hj2=>?_,fun j hj hjm=>?_,kinz.trans ⟨kin3.a,kin3.limit,kin3.starts,kin3.marks,kin3.TL,kin3.tlim⟩,sL.trans sL3,sF.trans sF3,fun ac=>(ac3 (acz ac)).set hi3.wf gj sr sd (fun e=>rep3.far (q:=⟨Si i,C3,d3.L,d3.FL,V3⟩) (j:=C.length+1+i) (by show Si i _;rw[hSi];right;omega) _ hrs (.here (e ▸ sd))) (rep3.far (q:=⟨Si i,C3,d3.L,d3.FL,V3⟩) (j:=C.length+1+i) (by show Si i _;rw[hSi];right;omega) _ hrs),?_⟩,by simp;omega⟩
   ·rcases List.mem_or_eq_of_mem_set hx' with e | e
    ·exact hi3.ok.fits x' e
    ·rw[e];exact yf
   ·have:=hi3.nL;show d3.L.length≤_;omega
   ·have:=hi3.nF;show d3.FL.length≤_;omega
   ·have:=hi3.nm;show d3.made≤_;omega
   ·rw[hset,if_neg (by omega),hold3 j (by omega),hold j hj]
   ·obtain⟨a,b⟩:=hv3.cell x' hx'
    refine⟨fun hh=>a (hSS _ hh),?_⟩
    rw[hset,if_neg (hne _ a)];exact b
   ·have hrF:r∉d3.CG:=fun hx=>by
     have:=h4.six.2.2.2.1.2.2 r hx
     simp at this
    exact((hm3.upd ud (by simp)).upd u4 (by simp)).upd u5 hrF
   ·rw[hset,if_neg (by omega),hold3 _ (by omega)];exact gfn'
   ·rw[hset,if_neg (by omega),hold3 _ (by omega)];exact gref' j (by omega) hj2
   ·by_cases hji:j=i
    ·subst hji
     exact⟨y,by rw[hset,if_pos rfl],Rep.mono kle _ rep3⟩
    ·obtain⟨y',a,b⟩:=grep j (by omega) hjm
     refine⟨y',?_,Rep.mono kle0 _ b⟩
     rw[hset,if_neg (by omega),hold3 _ (List.getElem?_eq_some_iff.1 a).1];exact a
   ·have f5:Far E v4 v5:=⟨_,u5,fun k hk hx=>h4.six.2.2.2.1.2.2 k hx (by simp [hk])⟩
    exact((fz.then (Far.keep Z5)).then f3).then ((Far.keep (ud.after u4)).then f5)
 ·simp only[decide_eq_false_iff_not] at g
  have gi:i=t.l.length:=by omega
  subst gi
  rw[List.take_length] at hiz hlen hkeys
  have hSm:Si t.l.length=S:=by
   rw[hSi];funext j;simp;intro;omega
  rw[hSm] at hvz grep
  refine hok (by have:=kinz.limit;have:=hiz.ok.len;have:=hz.plok.top;omega) z d' C' V' (.str C.length) hz (by rw[hts,show k+(sizeL t.l+1)=k+1+sizeL t.l by omega];exact hiz) (by rw[hlen,hneed];omega) hold (by rw[hkeys,hvs]) hVV hvz hmz ?_ ⟨by show -2^60≤(C.length:Int);omega,by show (C.length:Int)<2^60;omega⟩ kinz sL sF acz ⟨fun _=>rfl,fun h1=>absurd h1 k1⟩ fz
  rw[Rep.eq,if_neg k1,if_neg k2,if_neg k3]
  refine⟨C.length,id,rfl,fun hh=>by have:=hS _ hh;omega,gfn',hat',RepL.at.2 fun j hj=>?_⟩
  obtain⟨y,g1,g2⟩:=grep j hj hj
  exact⟨y,fun hh=>by have:=hS _ hh;omega,g1,g2⟩
end
theorem ZsS {t:Tm} (h:checkT t=0):t.right=true∧t.depth≤200∧t.size≤4096:=by
 unfold checkT at h
 split at h
 ·cases h
 ·rename_i h1
  split at h
  ·cases h
  ·split at h
   ·cases h
   ·exact⟨by simpa using h1,by omega,by omega⟩
section
variable {w:World} {E:List Nat} {r:Nat}
theorem Zsk {F:List Nat} {S:Nat→Prop} (t:Tm) {v:World} {d:HpD} {C:List Wd} {k:Nat} {V:List (Int×Nat)} {p:Option Addr} {c:Nat} {K:Int→Int→World→Prop}
  (hp:RdA v F t.l p 0) (hFE:∀k∈F,k∈E) (hc:checkT t=0) (h:Hp w v d (r::E)) (hi:HI d C k) (hk:k+t.size<16000) (hrw:w.heap.size≤r) (hrE:r∉E) (hm:MapAt v r (fun a:Int=>Value.int .i64 a) (vmM V)) (hv:VmOk S C V) (hS:∀j,S j→j<C.length)
  (hfail:d.pd.limit<C.length+need t (V.map (·.1))→∀v' d' C' k',Hp w v' d' (r::E)→HI d' C' k'→k'≤k+t.size→KinH d d'→Far E v v'→K 0 2 v')
  (hok:(C.length:Int)+need t (V.map (·.1))≤d.pd.limit→∀v' d' C' V' x,Hp w v' d' (r::E)→HI d' C' (k+t.size)→C'.length=C.length+need t (V.map (·.1))→(∀i,i<C.length→C'[i]?=C[i]?)→V'.map (·.1)=t.vars (V.map (·.1))→(∀y∈V,y∈V')→VmOk S C' V'→MapAt v' r (fun a:Int=>Value.int .i64 a) (vmM V')→
   Rep ⟨S,C',d'.L,d'.FL,V'⟩ t x→x.fits→KinH d d'→StayL d.L d'.L→StayF d.FL d'.FL→(Acy C d.L d.FL→Acy C' d'.L d'.FL)→((t.kind=4→x=.str C.length)∧(t.kind=1→t.n∉V.map (·.1)→x=.ref C.length))→Far E v v'→K x.enc 0 v') :
  Za9 d.a t.kind t.n t.s p t.l.length c (some r) v K:=by
 obtain⟨hr,_,hsz⟩:=ZsS hc
 apply Za9.of
 unfold ZjZ Zg9
 refine Zai fun q w1 hq u1 b1=>ZdE (h.keep u1) (ifF rfl ?_)
 simp only[X_,b1.cell]
 refine Zue t (RdA.keep u1 hp) (fun k hk=>by have:=h.inn k (by simp [hFE k hk]);have:=u1.size;omega) (by omega) fun w2 u2=>ifF (by simpa using hc) (ifF rfl ?_)
 have b2:=b1.upd u2 (by simp)
 have U2:=u1.after u2
 simp only[X_,b2.cell]
 refine Zw1 t (RdA.keep U2 hp) hFE hr (h.keep U2) hi hk hrw hrE (hm.upd U2 (by simp)) hv hS (fun hl v' d' C' k' a1' a2' a3' a4' a5'=>hfail hl v' d' C' k' a1' a2' a3' a4' ((Far.keep U2).then a5')) (fun hl v' d' C' V' x b1' b2' b3' b4' b5' b6' b7' b8' b9' c1' c2' c3' c4' c6' c7' c5'=>hok hl v' d' C' V' x b1' b2' b3' b4' b5' b6' b7' b8' b9' c1' c2' c3' c4' c6' c7' ((Far.keep U2).then c5'))
theorem Zvg {F:List Nat} (t:Tm) {v:World} {d:HpD} {C:List Wd} {k:Nat} {V:List (Int×Nat)} {p:Option Addr} {c:Nat} {K:Int→Int→World→Prop}
  (hp:RdA v F t.l p 0) (hFE:∀k∈F,k∈E) (hc:checkT t=0) (h:Hp w v d (r::E)) (hi:HI d C k) (hk:k+t.size<16000) (hrw:w.heap.size≤r) (hrE:r∉E) (hm:MapAt v r (fun a:Int=>Value.int .i64 a) (vmM V)) (hv:VmOk (fun _=>False) C V)
  (hfail:d.pd.limit<C.length+need t (V.map (·.1))→∀v' d' C' k',Hp w v' d' (r::E)→HI d' C' k'→k'≤k+t.size→KinH d d'→Far E v v'→K 0 2 v')
  (hok:(C.length:Int)+need t (V.map (·.1))≤d.pd.limit→∀v' d' C' V' x,Hp w v' d' (r::E)→HI d' C' (k+t.size)→C'.length=C.length+need t (V.map (·.1))→(∀i,i<C.length→C'[i]?=C[i]?)→V'.map (·.1)=t.vars (V.map (·.1))→(∀y∈V,y∈V')→VmOk (fun _=>False) C' V'→MapAt v' r (fun a:Int=>Value.int .i64 a) (vmM V')→
   Rep ⟨fun _=>False,C',d'.L,d'.FL,V'⟩ t x→x.fits→KinH d d'→StayL d.L d'.L→StayF d.FL d'.FL→(Acy C d.L d.FL→Acy C' d'.L d'.FL)→((t.kind=4→x=.str C.length)∧(t.kind=1→t.n∉V.map (·.1)→x=.ref C.length))→Far E v v'→K x.enc 0 v') :
  Za9 d.a t.kind t.n t.s p t.l.length c (some r) v K:=
 Zsk t hp hFE hc h hi hk hrw hrE hm hv (fun _ hj=>hj.elim) hfail hok
end
def rdM (RL:List Nat):List (Int×Value):=RL.zipIdx.map fun x=>((Wd.ref x.1).enc,.int .i64 (x.2:Int))
def rdMk (k:Nat) (RL:List Nat):List (Int×Value):=(RL.zipIdx k).map fun x=>((Wd.ref x.1).enc,.int .i64 (x.2:Int))
theorem ZlI {i:Nat} (h:i<2^60):(Wd.ref i).fits:=⟨by show -2^60≤(i:Int);omega,by show (i:Int)<2^60;omega⟩
theorem ZsI {i:Nat} (hi:i<2^60):∀{RL:List Nat} {k:Nat},(∀x∈RL,x<2^60)→Go.D.look (Wd.ref i).enc (rdMk k RL)=if i∈RL then some (Value.int .i64 ((k+RL.idxOf i:Nat):Int)) else none
 | [],k,_=>by simp [rdMk]
 | x::RL,k,h=>by
  have ih:=ZsI hi (RL:=RL) (k:=k+1) fun y hy=>h y (by simp [hy])
  have hx:=h x (by simp)
  unfold rdMk at ih ⊢
  rw[List.zipIdx_cons,List.map_cons,ZdS,ih]
  by_cases e:i=x
  ·subst e
   rw[if_pos rfl,if_pos (by simp),List.idxOf_cons_self];rfl
  ·have hne:(Wd.ref i).enc≠(Wd.ref x).enc:=fun hh=>by
    have:=Wd.enc_inj (ZlI hi) (ZlI hx) hh
    cases this;exact e rfl
   rw[if_neg hne,List.idxOf_cons,show (x==i)=false by simp [Ne.symm e]]
   simp only[Bool.cond_false,Bool.false_eq_true,if_false]
   by_cases g:i∈RL
   ·rw[if_pos g,if_pos (by simp [g])]
    congr 3;omega
   ·rw[if_neg g,if_neg (by simp [g,e])]
structure RdD where
 b:Nat
 m:Nat
 h:Option Addr
 RL:List Nat
 parts:Int
 vp:Option Addr
 vc:Nat
 G:List Nat
def RdD.F (r:RdD):List Nat:=r.b::r.m::r.G
def RdD.a (r:RdD):Option Addr:=some ⟨r.b,0,none⟩
structure Rdr (w:World) (r:RdD):Prop where
 blk:Blk w r.b #[.pointer r.h,.map (some r.m),.slice r.vp r.RL.length r.vc,.int .i64 r.parts]
 map:MapAt w r.m (fun x:Int=>Value.int .u64 x) (rdM r.RL)
 row:SlAt w 1 r.vp r.RL.length r.vc (r.RL.map fun i=>.int .u64 (Wd.ref i).enc) r.G
 bm:r.b≠r.m
 bG:r.b∉r.G
 mG:r.m∉r.G
section
variable {w w':World} {r:RdD}
theorem Rdr.upd {X:List Nat} (h:Rdr w r) (u:Upd X w w') (hd:Dis r.F X):Rdr w' r:=
 ⟨h.blk.upd u (hd _ (by simp [RdD.F])),h.map.upd u (hd _ (by simp [RdD.F])),h.row.upd u (fun k hk=>hd k (by simp [RdD.F,hk])),h.bm,h.bG,h.mG⟩
theorem Rdr.keep (h:Rdr w r) (u:Upd [] w w'):Rdr w' r:=h.upd u (by intro k _ h;cases h)
theorem Rdr.inn (h:Rdr w r):In r.F w:=by
 intro k hk
 simp only[RdD.F,List.mem_cons] at hk
 rcases hk with rfl | rfl | hk
 ·exact h.blk.lt
 ·exact h.map.lt
 ·exact h.row.inn k hk
theorem mapKeyU:KeyOf Tryz.prog 32 (fun a:Int=>Value.int .u64 a):=keyInt (by rfl)
theorem ZxY {i:Nat} (hi:i<2^60) {RL:List Nat} (hR:∀x∈RL,x<2^60) (hn:i∉RL):Go.D.put (Wd.ref i).enc (.int .i64 (RL.length:Int)) (rdM RL)=rdM (RL++[i]):=by
 have hl:=ZsI hi (RL:=RL) (k:=0) hR
 rw[if_neg hn] at hl
 have hs:Go.D.spot (Wd.ref i).enc (rdMk 0 RL) 0=none:=by
  unfold Go.D.look at hl
  simpa using hl
 have:=Znn (Wd.ref i).enc (.int .i64 (RL.length:Int)) (rdMk 0 RL) 0 hs
 unfold rdMk at this
 unfold rdM
 rw[this,List.zipIdx_append,List.map_append]
 simp
theorem St4q {w1:World} {r:Nat} {c0 c1 c2 c3 v0 v1 v2 v3:Value} {K:World→Prop} (hb:Blk w1 r #[c0,c1,c2,c3]) (h0:v0.oneCell'=true) (h1:v1.oneCell'=true) (h2:v2.oneCell'=true) (h3:v3.oneCell'=true) (hK:∀w',Upd [r] w1 w'→Blk w' r #[v0,v1,v2,v3]→K w') :
  St w1 (⟨r,0,none⟩:Addr) v0 fun z0=>St z0 (⟨r,1,none⟩:Addr) v1 fun z1=>St z1 (⟨r,2,none⟩:Addr) v2 fun z2=>St z2 (⟨r,3,none⟩:Addr) v3 K:=by
 refine Zfe (Upd.refl _ _) hb (by simp) h0 fun z0 y0 b0=>Zfe y0 b0 (by simp) h1 fun z1 y1 b1=>Zfe y1 b1 (by simp) h2 fun z2 y2 b2=>Zfe y2 b2 (by simp) h3 fun z3 y3 b3=>?_
 simp at b3
 exact hK z3 y3 b3
theorem ZxM {i:Nat} {K:Int→Int→ByteArray→Option Addr→Nat→Nat→World→Prop} (h:Rdr w r) (hi:i<2^60) (hR:∀x∈r.RL,x<2^60) (hl:r.RL.length<2^30)
  (hin:i∈r.RL→∀w',Rdr w' r→Upd [] w w'→K 1 (r.RL.idxOf i:Nat) ⟨#[]⟩ none 0 0 w')
  (hnew:i∉r.RL→∀w' vp vc G,Rdr w' { r with RL:=r.RL++[i],vp:=vp,vc:=vc,G:=G }→Upd r.F w w'→Sub G r.G w→K 1 (r.RL.length:Nat) ⟨#[]⟩ none 0 0 w'):ZaT r.a (Wd.ref i).enc w K:=by
 apply ZaT.of
 unfold Zgt Ze9
 refine Zai fun q w1 hq u1 b1=>?_
 have h1:=h.keep u1
 have qF:q∉r.F:=fun hx=>by have:=h.inn _ hx;omega
 simp only[RdD.a,X_,h1.blk.cell]
 refine ZkT (mt:=117) (et:=3) (z:=.int .i64 0) (k:=(Wd.ref i).enc) mapKeyU (by rfl) ⟨_,by rfl,by rfl⟩ h1.map ?_
 have hlk:=ZsI hi (RL:=r.RL) (k:=0) hR
 have hrd:rdM r.RL=rdMk 0 r.RL:=rfl
 rw[hrd,hlk]
 by_cases hm:i∈r.RL
 ·rw[if_pos hm]
  refine⟨_,true,rfl,ifF rfl (ZvA fun w2 u2=>?_)⟩
  have b2:=b1.upd u2 (by simp)
  simp only[X_]
  refine St4 (u1.after u2) (by omega) b2 rfl rfl rfl rfl fun w3 u3 b3=>?_
  simp only[X_,b3.cell,Nat.zero_add]
  exact hin hm w3 (h.keep u3) u3
 ·rw[if_neg hm]
  refine⟨0,false,rfl,ifT rfl ?_⟩
  simp only[X_,h1.blk.cell]
  refine Zie (mt:=117) (et:=3) (k:=(Wd.ref i).enc) mapKeyU (by rfl) h1.map fun w2 hm2 u2=>?_
  rw[ZxY hi hR hm] at hm2
  have bl2:=h1.blk.upd u2 (by simpa using h.bm)
  have rw2:=h1.row.upd u2 (fun k hk hx=>by simp at hx;subst hx;exact h.mG hk)
  simp only[X_,bl2.cell]
  refine Za3 ZsL [.int .u64 (Wd.ref i).enc] (by rfl) (by simp [Value.cells]) (by rfl) (by omega) fun w3 hs3 u3=>?_
  refine Ze1 (hE:=ZsL) (rw2.upd u3 (by intro k _ h;cases h)) hs3 (by simp [Value.cells,Value.oneCell']) (by omega) fun vp vc G w4 hs4 u4 s4=>?_
  have bl4:=(bl2.upd u3 (by simp)).upd u4 h.bG
  have m4:=(hm2.upd u3 (by simp)).upd u4 h.mG
  have sz:w.heap.size≤w3.heap.size:=by have:=u1.size;have:=u2.size;have:=u3.size;omega
  have bG4:r.b∉G:=fun hx=>by
   rcases s4 _ hx with g | g
   ·exact h.bG g
   ·have:=h.blk.lt;omega
  have mG4:r.m∉G:=fun hx=>by
   rcases s4 _ hx with g | g
   ·exact h.mG g
   ·have:=h.map.lt;omega
  refine Zbi bl4 (by simp) rfl fun w5 u5 bl5=>?_
  simp at bl5
  have hqm:q≠r.m:=fun e=>qF (by simp [RdD.F,e])
  have hqb:q≠r.b:=fun e=>qF (by simp [RdD.F,e])
  have hqG:q∉r.G:=fun e=>qF (by simp [RdD.F,e])
  have b5:=(((b1.upd u2 (by simpa using hqm)).upd u3 (by simp)).upd u4 hqG).upd u5 (by simpa using hqb)
  refine ZvA fun w6 u6=>?_
  refine St4q (b5.upd u6 (by simp)) rfl rfl rfl rfl fun w7 u7 b7=>?_
  simp only[X_,b7.cell]
  have m7:=(m4.upd u5 (by simp only[List.mem_singleton];exact fun e=>h.bm e.symm)).upd u6 (by simp)
  have r5:=(hs4.upd u5 (fun k hk hx=>by simp at hx;subst hx;exact bG4 hk)).upd u6 (fun k _ hx=>by cases hx)
  have hqG4:q∉G:=fun hx=>by
   rcases s4 _ hx with g | g
   ·exact hqG g
   ·have:=b1.lt;have:=u2.size;have:=u3.size;omega
  have e1:(r.RL++[i]).length=r.RL.length+1:=by simp
  have e2:(r.RL++[i]).map (fun i=>Value.int .u64 (Wd.ref i).enc)=r.RL.map (fun i=>.int .u64 (Wd.ref i).enc)++([Value.int .u64 (Wd.ref i).enc]:List Value).flatMap fun v=>v.cells.toList:=by
   simp [Value.cells]
  refine hnew hm w7 vp vc G ⟨?_,?_,?_,h.bm,bG4,mG4⟩ ?_ ?_
  ·show Blk w7 r.b #[.pointer r.h,.map (some r.m),.slice vp (r.RL++[i]).length vc,.int .i64 r.parts]
   rw[e1]
   exact(bl5.upd u6 (by simp)).upd u7 (by simpa using fun e=>hqb e.symm)
  ·exact m7.upd u7 (by simpa using fun e=>hqm e.symm)
  ·show SlAt w7 1 vp (r.RL++[i]).length vc ((r.RL++[i]).map fun i=>.int .u64 (Wd.ref i).enc) G
   rw[e1,e2]
   exact r5.upd u7 (fun k hk hx=>by simp at hx;subst hx;exact hqG4 hk)
  ·have U2:Upd [r.m] w w2:=u1.after u2
   have U3:Upd [r.m] w w3:=U2.before u3
   have U4:Upd r.F w w4:=U3.trans u4 (by intro k hk;simp at hk;subst hk;left;simp [RdD.F]) (by intro k hk;left;simp [RdD.F,hk])
   have U5:Upd r.F w w5:=U4.trans u5 (fun k hk=>.inl hk) (by intro k hk;simp at hk;subst hk;left;simp [RdD.F])
   exact(U5.before u6).trans u7 (fun k hk=>.inl hk) (by intro k hk;simp at hk;subst hk;right;omega)
  ·intro k hk
   rcases s4 k hk with g | g
   ·exact .inl g
   ·right;omega
end
def RdD.rl (r:RdD):List Int:=r.RL.map fun (i:Nat)=>(i:Int)
structure RS (w v:World) (d:HpD) (E:List Nat) (r:RdD):Prop where
 hp:Hp w v d (r.F++E)
 rd:Rdr v r
 dis:Dis r.F E
 sf:Since r.F w
 h:r.h=d.a
section
variable {w v v':World} {d:HpD} {E:List Nat} {r r':RdD}
theorem Hp.apart (h:Hp w v d E):Dis d.F E:=fun k hk hx=>by
 obtain⟨P,hP,hkP⟩:=Zrq.1 hk
 have hd:=h.dis
 rw[List.pairwise_append] at hd
 exact hd.2.2 P hP E (by simp) k hkP hx
theorem RS.keep (s:RS w v d E r) (u:Upd [] v v'):RS w v' d E r:=⟨s.hp.keep u,s.rd.keep u,s.dis,s.sf,s.h⟩
theorem RS.inE (s:RS w v d E r):In E v:=fun k hk=>s.hp.inn k (by simp [hk])
theorem RS.far (s:RS w v d E r) (h:Hp w v' d (r.F++E)) (f:Far (d.F++(r.F++E)) v v'):RS w v' d E r:=by
 obtain⟨F,u,dd⟩:=f
 exact⟨h,s.rd.upd u (fun k hk=>dd k (by simp [hk])),s.dis,s.sf,s.h⟩
theorem RS.turn (s:RS w v d E r) (u:Upd r.F v v') (hr:Rdr v' r') (hs:Sub r'.F r.F v) (hh:r'.h=r.h):RS w v' d E r'∧Far E v v':=by
 have hap:=s.hp.apart
 have hE:Dis r'.F E:=fun k hk hx=>by
  rcases hs k hk with g | g
  ·exact s.dis k g hx
  ·have:=s.inE k hx;omega
 refine⟨⟨?_,hr,hE,s.sf.step hs s.hp.U.size,hh.trans s.h⟩,r.F,u,fun k hk hx=>s.dis k hx hk⟩
 refine s.hp.upd u (fun k hk hx=>hap k hk (by simp [hx])) (fun x hx=>by simp [hx]) s.sf (fun k hk=>?_) (fun k hk=>?_)
 ·rcases List.mem_append.1 hk with g | g
  ·exact(hs k g).imp (by intro h;simp [h]) id
  ·left;simp [g]
 ·rcases List.mem_append.1 hk with g | g
  ·exact hr.inn k g
  ·exact s.inE.upd u k g
theorem RS.less (s:RS w v d E r) {E':List Nat} (h:∀k∈E',k∈E):RS w v d E' r:=
 ⟨s.hp.less fun k hk=>by
  rcases List.mem_append.1 hk with g | g
  ·simp [g]
  ·simp [h k g],s.rd,fun k hk hx=>s.dis k hk (h k hx),s.sf,s.h⟩
theorem RS.watch (s:RS w v d E r) (u:Upd [] v v') {Y:List Nat} (hY:Since Y v) (hin:In Y v'):RS w v' d (Y++E) r:=by
 refine⟨(s.hp.watch u hY hin).less fun k hk=>?_,s.rd.keep u,fun k hk hx=>?_,s.sf,s.h⟩
 ·simp only[List.mem_append] at hk ⊢
  rcases hk with g | g | g
  ·exact .inr (.inl g)
  ·exact .inl g
  ·exact .inr (.inr g)
 ·rcases List.mem_append.1 hx with g | g
  ·have:=s.rd.inn k hk;have:=hY k g;omega
  ·exact s.dis k hk g
theorem RS.own (s:RS w v d E r) {F E':List Nat} (u:Upd F v v') (hF:∀x∈F,x∈E) (hS:Since F w) (hs:Sub E' E v) (hin:In E' v'):RS w v' d E' r:=by
 have hap:=s.hp.apart
 refine⟨s.hp.upd u (fun k hk hx=>hap k hk (by simp [hF k hx])) (fun x hx=>by simp [hF x hx]) hS (fun k hk=>?_) (fun k hk=>?_),s.rd.upd u (fun k hk hx=>s.dis k hk (hF k hx)),fun k hk hx=>?_,s.sf,s.h⟩
 ·rcases List.mem_append.1 hk with g | g
  ·left;simp [g]
  ·exact(hs k g).imp (by intro h;simp [h]) id
 ·rcases List.mem_append.1 hk with g | g
  ·exact s.rd.inn.upd u k g
  ·exact hin k g
 ·rcases hs k hx with g | g
  ·exact s.dis k hk g
  ·have:=s.rd.inn k hk;omega
theorem RS.setParts (s:RS w v d E r) {n:Int} {K:World→Prop} (hK:∀v',RS w v' d E { r with parts:=n }→Far E v v'→K v'):St v ⟨r.b,3,none⟩ (.int .i64 n) K:=by
 refine Zbi s.rd.blk (by simp) rfl fun v' u b=>?_
 simp at b
 have hd:Dis (r.m::r.G) [r.b]:=by
  intro k hk hx
  simp at hx hk
  subst hx
  rcases hk with e | e
  ·exact s.rd.bm e
  ·exact s.rd.bG e
 have hr:Rdr v' { r with parts:=n }:=⟨b,s.rd.map.upd u (hd _ (by simp)),s.rd.row.upd u (fun k hk=>hd k (by simp [hk])),s.rd.bm,s.rd.bG,s.rd.mG⟩
 obtain⟨a,f⟩:=s.turn (r':={ r with parts:=n }) (u.mono fun k hk=>by simp at hk;subst hk;left;simp [RdD.F]) hr (fun k hk=>.inl hk) rfl
 exact hK v' a f
end
structure Rd1 (C:List Wd) (r r':RdD) (t u:Tm):Prop where
 lo:r.parts<r'.parts
 hi:r'.parts≤4097
 len:(r'.RL.length:Int)≤r.RL.length+(r'.parts-r.parts)
 roots:∀i∈r'.RL,C[i]?=some (.ref i)
 ok:r.parts+t.size≤4096→r'.parts=r.parts+t.size∧r'.rl=t.vars r.rl∧u=numT r'.rl t
 no:¬r.parts+t.size≤4096→4096<r'.parts
 us:u.s.size≤64
theorem Ztk {t:Tm} (h1:t.kind≠1) (hl:t.l=[]) (vs:List Int):numT vs t=t:=by
 unfold numT
 refine Tm.ext (Zjw _ _) (by rw[Zsc,if_neg h1]) (Zsa _ _) (by rw[Zq7,if_neg h1,hl];rfl)
theorem ZsW {i:Nat} {t:Tm} (hp:t.pv) (h1:t.kind=1) (vs:List Int):numT vs t=tV ((vs.idxOf t.n:Nat):Int):=by
 unfold numT
 have:=Ztq hp h1
 refine Tm.ext (by rw[Zjw,h1];rfl) (by rw[Zsc,if_pos h1];rfl) (by rw[Zsa,this];rfl) (by rw[Zq7,if_pos h1,this];rfl)
theorem ZqE {i:Nat}:∀{l:List Nat},(l.map fun (i:Nat)=>(i:Int)).idxOf (i:Int)=l.idxOf i
 | []=>rfl
 | x::l=>by
  rw[List.map_cons,List.idxOf_cons,List.idxOf_cons,ZqE]
  by_cases h:x=i
  ·simp [h]
  ·rw[show ((x:Int)==(i:Int))=false by simp;omega,show (x==i)=false by simp [h]]
theorem Zxf {r:RdD} {i:Nat}:(i:Int)∈r.rl↔i∈r.RL:=by
 unfold RdD.rl
 rw[List.mem_map]
 constructor
 ·rintro⟨j,hj,e⟩
  have:j=i:=by omega
  subst this;exact hj
 ·intro h;exact⟨i,h,rfl⟩
section
variable {w:World} {C:List Wd} {d:HpD} {k0:Nat}
theorem ZxB (hi:HI d C k0) (t:Tm):∀{v:World} {E:List Nat} {r:RdD} {x:Wd} {K:Int→Int→ByteArray→Option Addr→Nat→Nat→World→Prop}
  (he:Ev C d.L d.FL t x) (hx:x.fits) (s:RS w v d E r) (hR:∀i∈r.RL,C[i]?=some (.ref i)) (h0:0≤r.parts) (h1:r.parts≤4096) (hl:(r.RL.length:Int)+(5000-r.parts)<2^30)
  (hK:∀v' r' u q c F',RS w v' d (F' ++ E) r'→Rd1 C r r' t u→RdA v' F' u.l q 0→Since F' v→r'.b=r.b→Sub r'.F r.F v→Far E v v'→K u.kind u.n u.s q u.l.length c v'),Za7 r.a x.enc v K:=by
 refine Tm.ind (P:=fun t=>∀{v:World} {E:List Nat} {r:RdD} {x:Wd} {K:Int→Int→ByteArray→Option Addr→Nat→Nat→World→Prop}
  (he:Ev C d.L d.FL t x) (hx:x.fits) (s:RS w v d E r) (hR:∀i∈r.RL,C[i]?=some (.ref i)) (h0:0≤r.parts) (h1:r.parts≤4096) (hl:(r.RL.length:Int)+(5000-r.parts)<2^30)
  (hK:∀v' r' u q c F',RS w v' d (F' ++ E) r'→Rd1 C r r' t u→RdA v' F' u.l q 0→Since F' v→r'.b=r.b→Sub r'.F r.F v→Far E v v'→K u.kind u.n u.s q u.l.length c v'),Za7 r.a x.enc v K) (fun t ih=>?_) t
 intro v E r x K he hx s hR h0 h1 hl hK
 have hpv:=Ev.pv t he
 obtain⟨y,hd,hsz,he⟩:=Ev.eq.1 he
 have hbd:=hi.ok.bound s.hp
 have hyf:y.fits:=hd.choose_spec.fits hi.ok.fits hx
 apply Za7.of
 unfold Zjv
 refine Zai fun q0 w1 hq0 u1 b1=>?_
 have s1:RS w w1 d ([q0]++E) r:=s.watch u1 (by intro k hk;simp at hk;omega) (by intro k hk;simp at hk;subst hk;exact b1.lt)
 simp only[RdD.a,X_,s1.rd.blk.cell]
 rw[i64id (by omega) (by omega)]
 refine s1.setParts fun w2 s2 f2=>?_
 have hb2:w2.cell? ⟨r.b,0,none⟩=some (.pointer r.h):=by rw[s2.rd.blk.cell];rfl
 simp only[X_,hb2,s.h]
 have b2:=f2.blk b1 (by simp)
 refine ZoM s2.hp hi.ok hx hd fun w3 h3 u3=>ZvV ?_
 have s3:=s2.keep u3
 have b3:=b2.upd u3 (by simp)
 have F3:Far E v w3:=((Far.keep u1).then (f2.less fun k hk=>by simp [hk])).after u3
 have hts:=Tm.size_eq t
 have q0v:v.heap.size≤q0:=by omega
 have qE:q0∉E:=fun hx=>by have:=s.inE q0 hx;omega
 have v3sz:v.heap.size≤w3.heap.size:=by have:=b1.lt;have:=u3.size;have:=s2.rd.inn;have:=h3.U.size;have:=b3.lt;omega
 have wsz:=s.hp.U.size
 have leaf:∀{z:World} {r':RdD} {k n:Int} {sx:ByteArray} {c0 c1 c2 c3:Value},RS w z d ([q0]++E) r'→Blk z q0 #[c0,c1,c2,c3]→Far E v z→r'.b=r.b→Sub r'.F r.F v→Rd1 C r r' t (.mk k n sx [])→
   St z (⟨q0,0,none⟩:Addr) (.int .i64 k) fun z0=>St z0 (⟨q0,1,none⟩:Addr) (.int .i64 n) fun z1=>St z1 (⟨q0,2,none⟩:Addr) (.string sx) fun z2=>St z2 (⟨q0,3,none⟩:Addr) (.slice none 0 0) fun z3=>
    ∃r_2:Int,z3.cell? (⟨q0,0,none⟩:Addr)=some (.int .i64 r_2)∧∃r_3:Int,z3.cell? (⟨q0,1,none⟩:Addr)=some (.int .i64 r_3)∧∃r_4:ByteArray,z3.cell? (⟨q0,2,none⟩:Addr)=some (.string r_4)∧
    ∃rP:Option Addr,∃rN:Nat,∃rC:Nat,z3.cell? (⟨q0,3,none⟩:Addr)=some (.slice rP rN rC)∧K r_2 r_3 r_4 rP rN rC z3:=by
  intro z r' k n sx c0 c1 c2 c3 sz bz fz hb hsub rd
  refine St4q bz rfl rfl rfl rfl fun z3 uz bz3=>?_
  simp only[X_,bz3.cell]
  have so:=sz.own (E':=E) uz (fun k hk=>by simpa using .inl (by simpa using hk)) (by intro k hk;simp at hk;omega) (fun k hk=>.inl (by simp [hk])) (fun k hk=>((sz.less (E':=E) (fun k hk=>by simp [hk])).inE.upd uz) k hk)
  exact hK z3 r' (.mk k n sx []) none 0 [] so rd (RdA.of fun i hi=>absurd hi (by simp [Tm.l])) (by intro k hk;cases hk) hb hsub (fz.then ⟨[q0],uz,fun k hk hx=>by simp at hx;subst hx;exact qE hk⟩)
 have e3:(⟨q0,0,none⟩:Addr)=⟨q0,0,none⟩:=rfl
 by_cases k1:t.kind=1
 ·rw[if_pos k1] at he
  obtain⟨a,b,i,rfl,hn⟩:=he
  have hroot:C[i]?=some (.ref i):=by
   rcases hd.last with g | ⟨j,e,g⟩
   ·exact absurd rfl g
   ·cases e;exact g
  have hil:=(List.getElem?_eq_some_iff.1 hroot).1
  have hsize:t.size=1:=by rw[hts,b];rfl
  have hRb:∀x∈r.RL,x<2^60:=fun x hx=>by have:=(List.getElem?_eq_some_iff.1 (hR x hx)).1;omega
  refine ifT rfl ?_
  refine ZxM (r:={ r with parts:=r.parts+1 }) s3.rd (by omega) hRb (by show r.RL.length<2^30;omega) (fun hin w4 r4 u4=>?_) (fun hno w4 vp vc G r4 u4 sG=>?_)
  ·refine leaf (s3.keep u4) (b3.upd u4 (by simp)) (F3.after u4) rfl (Sub.refl _ _) ⟨by show r.parts<r.parts+1;omega,by show r.parts+1≤4097;omega,by show (r.RL.length:Int)≤r.RL.length+(r.parts+1-r.parts);omega,hR,fun _=>⟨by show r.parts+1=_;rw[hsize];rfl,?_,?_⟩,fun hn=>by show 4096<r.parts+1;rw[hsize] at hn;omega,by show (0:Nat)≤64;omega⟩
   ·rw[Tm.vars_eq,if_pos k1,hn,if_pos (Zxf (r:=r).2 hin)];rfl
   ·rw[ZsW (i:=i) hpv k1,hn]
    show _=tV (((r.RL.map fun (i:Nat)=>(i:Int)).idxOf (i:Int):Nat):Int)
    rw[ZqE];rfl
  ·have hsub3:Sub (RdD.F { r with parts:=r.parts+1,RL:=r.RL++[i],vp:=vp,vc:=vc,G:=G }) r.F w3:=fun k hk=>by
    simp only[RdD.F,List.mem_cons] at hk ⊢
    rcases hk with g | g | g
    ·exact .inl (.inl g)
    ·exact .inl (.inr (.inl g))
    ·exact(sG k g).imp (fun g=>.inr (.inr g)) id
   have hsubN:=hsub3.old v3sz
   obtain⟨s4,f4⟩:=s3.turn u4 r4 hsub3 rfl
   refine leaf s4 (f4.blk b3 (by simp)) (F3.then (f4.less fun k hk=>by simp [hk])) rfl hsubN ⟨by show r.parts<r.parts+1;omega,by show r.parts+1≤4097;omega,?_,fun j hj=>?_,fun _=>⟨by show r.parts+1=_;rw[hsize];rfl,?_,?_⟩,fun hn=>by show 4096<r.parts+1;rw[hsize] at hn;omega,by show (0:Nat)≤64;omega⟩
   ·show ((r.RL++[i]).length:Int)≤r.RL.length+(r.parts+1-r.parts)
    rw[List.length_append];simp;omega
   ·rcases List.mem_append.1 hj with g | g
    ·exact hR j g
    ·simp at g;subst g;exact hroot
   ·rw[Tm.vars_eq,if_pos k1,hn,if_neg (fun hh=>hno (Zxf (r:=r).1 hh))]
    show (r.RL++[i]).map (fun (i:Nat)=>(i:Int))=_
    rw[List.map_append];rfl
   ·rw[ZsW (i:=i) hpv k1,hn]
    show _=tV ((((r.RL++[i]).map fun (i:Nat)=>(i:Int)).idxOf (i:Int):Nat):Int)
    rw[ZqE,List.idxOf_append,if_neg hno]
    simp
    rfl
 rw[if_neg k1] at he
 by_cases k2:t.kind=2
 ·rw[if_pos k2] at he
  obtain⟨a,b,rfl⟩:=he
  have hsize:t.size=1:=by rw[hts,b];rfl
  refine ifF rfl (ifT rfl (Zpa hyf (ZxD fun w4 u4=>?_)))
  refine leaf (s3.keep u4) (b3.upd u4 (by simp)) (F3.after u4) rfl (Sub.refl _ _) ⟨by show r.parts<r.parts+1;omega,by show r.parts+1≤4097;omega,by show (r.RL.length:Int)≤r.RL.length+(r.parts+1-r.parts);omega,hR,fun _=>⟨by show r.parts+1=_;rw[hsize];rfl,?_,?_⟩,fun hn=>by show 4096<r.parts+1;rw[hsize] at hn;omega,by show (0:Nat)≤64;omega⟩
  ·rw[Tm.vars_eq,if_neg k1,b,varsL];rfl
  ·rw[Ztk k1 b]
   exact Tm.ext k2.symm rfl a.symm b.symm
 rw[if_neg k2] at he
 by_cases k3:t.kind=3
 ·rw[if_pos k3] at he
  obtain⟨a,b,id,m,rfl,hid⟩:=he
  have hsize:t.size=1:=by rw[hts,b];rfl
  have ud:=Zah w3
  have s3d:=s3.keep ud
  have hidl:=(List.getElem?_eq_some_iff.1 hid).1
  have hb3:w3.cell? ⟨r.b,0,none⟩=some (.pointer r.h):=by rw[s3.rd.blk.cell];rfl
  refine ifF rfl (ifF rfl (ifT rfl ?_))
  simp only[X_,hb3,s.h,HpD.a,h3.blk.cell]
  refine Zpa hyf ⟨by simp only[X_,h3.blk.cell],by simp only[X_,hb3,s.h,HpD.a],?_⟩
  refine ZtS s3d.hp (fun hno w4 h4 f4=>?_) (fun hyes hil2 w4 h4 f4=>?_)
  ·have:isN d.L (id:Int)=true:=Zqp.2 ⟨_,hid,rfl⟩
   simp only[Wd.num] at hno
   rw[this] at hno;cases hno
  ·have e:d.L[(Wd.atom id).num.toNat].name=t.s:=by
    have h3:(Wd.atom id).num.toNat=id:=by show (id:Int).toNat=id;omega
    simp only[h3]
    rw[(List.getElem?_eq_some_iff.1 hid).2]
   rw[e]
   have s4:=s3d.far h4 f4
   have b4:=f4.blk (b3.upd ud (by simp)) (by simp)
   have F4:Far E v w4:=(F3.after ud).then (f4.less fun k hk=>by simp [hk])
   refine Zww fun w5 u5=>?_
   refine leaf (s4.keep u5) (b4.upd u5 (by simp)) (F4.after u5) rfl (Sub.refl _ _) ⟨by show r.parts<r.parts+1;omega,by show r.parts+1≤4097;omega,by show (r.RL.length:Int)≤r.RL.length+(r.parts+1-r.parts);omega,hR,fun _=>⟨by show r.parts+1=_;rw[hsize];rfl,?_,?_⟩,fun hn=>by show 4096<r.parts+1;rw[hsize] at hn;omega,hsz⟩
   ·rw[Tm.vars_eq,if_neg k1,b,varsL];rfl
   ·rw[Ztk k1 b]
    exact Tm.ext k3.symm a.symm rfl b.symm
 rw[if_neg k3] at he
 obtain⟨k4,hn0,i,id,rfl,hc,hat,hargs⟩:=he
 obtain⟨s',m',hat',hm1,hm16,him,_⟩:=hi.wf.fn i id hc
 obtain⟨e1,e2⟩:=hat.uniq hat'
 rw[←e2] at hm1 hm16 him
 clear hat'
 have hb3:w3.cell? ⟨r.b,0,none⟩=some (.pointer r.h):=by rw[s3.rd.blk.cell];rfl
 refine ifF rfl (ifF rfl (ifF rfl ?_))
 simp only[X_,hb3,s.h]
 refine Ztm s3.hp hi.ok hc hat fun w4 h4 f4=>?_
 have s4:=s3.far h4 f4
 have b4:=f4.blk b3 (by simp)
 have F4:Far E v w4:=F3.then (f4.less fun k hk=>by simp [hk])
 refine Zai fun q1 w5 hq1 u5 c5=>?_
 refine St4q c5 rfl rfl rfl rfl fun w6 u6 c6=>?_
 have U6:Upd [] w4 w6:=u5.fresh u6 (by intro k hk;simp at hk;omega)
 have b6:=b4.upd U6 (by simp)
 have hq01:q0≠q1:=by have:=b4.lt;omega
 have s6:RS w w6 d (([q1]:List Nat)++([q0]++E)) { r with parts:=r.parts+1 }:=s4.watch U6 (by intro k hk;simp at hk;omega) (by intro k hk;simp at hk;subst hk;exact c6.lt)
 have hpos:=ZcC (l:=t.l)
 unfold Zhm
 refine⟨fun st z=>∃(k:Nat) (rr:RdD) (us:List Tm) (p:Option Addr) (c:Nat) (G F:List Nat),st.i=k+1∧k≤t.l.length∧us.length=k∧RS w z d (([q0,q1]++(G++F))++E) rr∧Blk z q0 #[.int .i64 0,.int .i64 0,.string ⟨#[]⟩,.slice none 0 0]∧Blk z q1 #[.int .i64 4,.int .i64 0,.string t.s,.slice p k c]∧TmsAt z p k c us G F∧
   Since (G++F) v∧Dis [q0,q1] (G++F)∧Dis G F∧Far E v z∧v.heap.size≤z.heap.size∧rr.b=r.b∧Sub rr.F r.F v∧(∀j∈rr.RL,C[j]?=some (.ref j))∧r.parts+1+k≤rr.parts∧rr.parts≤4097∧(rr.RL.length:Int)≤r.RL.length+(rr.parts-r.parts)∧
   (r.parts+1+sizeL (t.l.take k)≤4096→rr.parts=r.parts+1+sizeL (t.l.take k)∧rr.rl=varsL (t.l.take k) r.rl∧us=(t.l.take k).map (numT rr.rl))∧(¬r.parts+1+sizeL (t.l.take k)≤4096→4096<rr.parts),
  fun st _=>(t.l.length+1-st.i).toNat,⟨0,{ r with parts:=r.parts+1 },[],none,0,[],[],rfl,by omega,rfl,s6.less (fun k hk=>by simp at hk ⊢;rcases hk with g | g | g <;> simp [g]),b6,by simpa using c6,TmsAt.nil _,(by intro k hk;cases hk),(by intro k _ hk;cases hk),(by intro k hk;cases hk),F4.after U6,?_,rfl,Sub.refl _ _,hR,by simp,by show r.parts+1≤4097;omega,by show (r.RL.length:Int)≤r.RL.length+(r.parts+1-r.parts);omega,fun _=>⟨by simp [sizeL],by simp [varsL,RdD.rl],by simp⟩,fun hn=>by simp [sizeL] at hn;show 4096<r.parts+1;omega⟩,?_⟩
 ·have:=b6.lt;omega
 rintro⟨si⟩ z ⟨k,rr,us,p,c,G,F,hi0,hk,hus,sz,bz0,bz1,tz,hSz,hDz,hGF,Fz,zsz,hrb,hsubz,hRz,hp1,hp2,hlz,hok,hno⟩
 dsimp only at hi0
 subst hi0
 unfold ZgR
 dsimp only
 have hbz:z.cell? ⟨r.b,3,none⟩=some (.int .i64 rr.parts):=by rw[←hrb,sz.rd.blk.cell];rfl
 have hbz1:z.cell? ⟨q1,3,none⟩=some (.slice p k c):=by rw[bz1.cell];rfl
 have done:(k=t.l.length∨4096<rr.parts)→∃t870:Int,z.cell? (⟨q1,0,none⟩:Addr)=some (.int .i64 t870)∧∃t871:Int,z.cell? (⟨q1,1,none⟩:Addr)=some (.int .i64 t871)∧∃t872:ByteArray,z.cell? (⟨q1,2,none⟩:Addr)=some (.string t872)∧
   ∃t873P:Option Addr,∃t873N:Nat,∃t873C:Nat,z.cell? (⟨q1,3,none⟩:Addr)=some (.slice t873P t873N t873C)∧
   St z (⟨q0,0,none⟩:Addr) (.int .i64 t870) fun z0=>St z0 (⟨q0,1,none⟩:Addr) (.int .i64 t871) fun z1=>St z1 (⟨q0,2,none⟩:Addr) (.string t872) fun z2=>St z2 (⟨q0,3,none⟩:Addr) (.slice t873P t873N t873C) fun z3=>
    ∃r_2:Int,z3.cell? (⟨q0,0,none⟩:Addr)=some (.int .i64 r_2)∧∃r_3:Int,z3.cell? (⟨q0,1,none⟩:Addr)=some (.int .i64 r_3)∧∃r_4:ByteArray,z3.cell? (⟨q0,2,none⟩:Addr)=some (.string r_4)∧
    ∃rP:Option Addr,∃rN:Nat,∃rC:Nat,z3.cell? (⟨q0,3,none⟩:Addr)=some (.slice rP rN rC)∧K r_2 r_3 r_4 rP rN rC z3:=by
  intro hend
  simp only[X_,bz1.cell]
  refine St4q bz0 rfl rfl rfl rfl fun z3 uz bz3=>?_
  simp only[X_,bz3.cell]
  have sE:=sz.less (E':=(G++F)++E) (fun k hk=>by simp at hk ⊢;rcases hk with g | g | g <;> simp [g])
  have so:=sz.own (E':=(G++F)++E) uz (fun k hk=>by simp at hk;subst hk;simp) (by intro k hk;simp at hk;omega) (fun k hk=>.inl (by simp at hk ⊢;rcases hk with g | g | g <;> simp [g])) (fun k hk=>(sE.inE.upd uz) k hk)
  have tz3:=tz.upd uz (fun k hk hx=>by simp at hx;subst hx;exact hDz k (by simp) (by simp [hk])) (fun k hk hx=>by simp at hx;subst hx;exact hDz k (by simp) (by simp [hk]))
  subst hus
  refine hK z3 rr (.mk 4 0 t.s us) p c (G++F) so ⟨by omega,hp2,hlz,hRz,fun hle=>?_,fun hle=>?_,hsz⟩ tz3.rd hSz hrb hsubz (Fz.then ⟨[q0],uz,fun k hk hx=>by simp at hx;subst hx;exact qE hk⟩)
  ·have hle2:=ZeH (l:=t.l) us.length
   rw[hts] at hle
   obtain⟨g1,g2,g3⟩:=hok (by omega)
   have hfull:us.length=t.l.length:=by
    rcases hend with g | g
    ·exact g
    ·omega
   rw[hfull,List.take_length] at g1 g2 g3
   refine⟨by rw[hts,g1];omega,by rw[g2,Tm.vars_eq,if_neg k1],?_⟩
   unfold numT
   refine Tm.ext ?_ ?_ ?_ ?_
   ·rw[Zjw,k4];rfl
   ·rw[Zsc,if_neg k1,hn0];rfl
   ·rw[Zsa];rfl
   ·rw[Zq7,if_neg k1]
    show us=_
    rw[g3];rfl
  ·rcases hend with g | g
   ·refine hno ?_
    rw[g,List.take_length]
    rw[hts] at hle;omega
   ·exact g
 refine ifC (fun g=>?_) (fun g=>?_)
 ·simp only[decide_eq_true_eq] at g
  have gk:k<t.l.length:=by omega
  simp only[X_,hbz]
  refine ifC (fun g2=>?_) (fun g2=>?_)
  ·simp only[decide_eq_true_eq] at g2
   simp only[X_,hbz1]
   have udz:=Zah z
   have szd:=sz.keep udz
   refine Zsi (x:=.str i) ⟨by show -2^60≤(i:Int);omega,by show (i:Int)<2^60;omega⟩ (by omega) ⟨by simp only[X_,hbz1],?_⟩
   have ei:(Wd.str i).num+((k:Int)+1)=((i+1+k:Nat):Int):=by show (i:Int)+_=_;omega
   rw[ei]
   refine ZqR (by omega) ⟨by simp only[X_,hbz1],?_⟩
   have hst:=Zjd (l:=t.l) gk
   have hev:=EvL.at.1 hargs k gk
   have ear:(some ⟨r.b,0,none⟩:Option Addr)=rr.a:=by rw[←hrb];rfl
   rw[ear]
   refine ih t.l[k] (List.getElem_mem gk) hev (ZlI (by omega)) szd hRz (by omega) (by omega) (by omega) (fun z2 r2 u2 q2 c2 F2 s2' rd2 ra2 hS2 hb2 hsub2 f2'=>?_)
   have bz1':=f2'.blk (bz1.upd udz (by simp)) (by simp)
   have bz0':=f2'.blk (bz0.upd udz (by simp)) (by simp)
   refine⟨by simp only[X_,bz1'.cell],?_⟩
   obtain⟨X,ux,dx⟩:=f2'
   have tz2:=(tz.keep udz).upd ux (fun k hk=>dx k (by simp [hk])) (fun k hk=>dx k (by simp [hk]))
   have hz2sz:z.heap.size≤z2.heap.size:=ux.size
   have lt2:∀k∈F2,k<z2.heap.size:=fun k hk=>s2'.inE k (by simp [hk])
   have ltGF:∀k,k∈G∨k∈F→k<z.heap.size:=fun k hk=>sz.inE k (by simp;rcases hk with g | g <;> simp [g])
   have geF2:∀k∈F2,z.heap.size≤k:=fun k hk=>hS2 k hk
   have ltq:∀k∈([q0,q1]:List Nat),k<z.heap.size:=fun k hk=>sz.inE k (by simp at hk ⊢;rcases hk with g | g <;> simp [g])
   have hus63:u2.s.size<2^63:=by have:=rd2.us;omega
   refine Za3 Zrf [.agg #[.int .i64 u2.kind,.int .i64 u2.n,.string u2.s,.slice q2 u2.l.length c2]] (by rfl) (by simp [Value.cells]) (by rfl) (by omega) fun z3 hs3 u3=>?_
   have hs3':SlAt z3 4 (some ⟨z2.heap.size,0,none⟩) 1 1 (tmC (u2,q2,c2)) [z2.heap.size]:=by
    have e:tmC (u2,q2,c2)=([Value.agg #[.int .i64 u2.kind,.int .i64 u2.n,.string u2.s,.slice q2 u2.l.length c2]]:List Value).flatMap fun v=>v.cells.toList:=by simp [Value.cells,tmC]
    rw[e];exact hs3
   have bz13:=bz1'.upd u3 (by simp)
   refine⟨by simp only[X_,bz13.cell],?_⟩
   have GF2:Dis G F2:=fun k hk hx=>by have:=ltGF k (.inl hk);have:=geF2 k hx;omega
   refine(tz2.keep u3).push (t:=u2) (m:=1) hs3' hus63 (RdA.keep u3 ra2) (fun k hk=>Nat.lt_of_lt_of_le (lt2 k hk) u3.size) hGF GF2 (by have:=hlz;omega) fun p' c' G' z4 t4 u4 s4=>?_
   have q1G:q1∉G:=fun hx=>hDz q1 (by simp) (by simp [hx])
   have q1G':q1∉G':=fun hx=>by
    rcases s4 _ hx with g | g
    ·exact q1G g
    ·have:=ltq q1 (by simp);have:=u3.size;omega
   refine Zbi (bz13.upd u4 q1G) (by simp) rfl fun z5 u5 b5=>?_
   simp at b5
   rw[i64id (by omega) (by omega)]
   have geG':∀k∈G',k∈G∨z3.heap.size≤k:=s4
   have U5:Upd (q1::G) z3 z5:=u4.trans u5 (by intro k hk;simp [hk]) (by intro k hk;simp at hk;simp [hk])
   have q1F:q1∉F++F2:=fun hx=>by
    rcases List.mem_append.1 hx with g | g
    ·exact hDz q1 (by simp) (by simp [g])
    ·have:=ltq q1 (by simp);have:=geF2 q1 g;omega
   have t5:=t4.upd u5 (fun k hk hx=>by simp at hx;subst hx;exact q1G' hk) (fun k hk hx=>by simp at hx;subst hx;exact q1F hk)
   have q0G:q0∉G:=fun hx=>hDz q0 (by simp) (by simp [hx])
   have b05:=((bz0'.upd u3 (by simp)).upd u4 q0G).upd u5 (by simpa using hq01)
   have z3sz:z.heap.size≤z3.heap.size:=Nat.le_trans hz2sz u3.size
   have hs5:=(s2'.keep u3).own (E':=([q0,q1]++(G' ++ (F++F2)))++E) U5 (fun k hk=>by simp at hk ⊢;rcases hk with g | g <;> simp [g]) (fun k hk=>by
    simp only[List.mem_cons] at hk
    rcases hk with rfl | g
    ·have:=b4.lt;have:=U6.size;omega
    ·have:=hSz k (by simp [g]);omega) (fun k hk=>by
    simp only[List.mem_append,List.mem_cons,List.not_mem_nil,or_false] at hk ⊢
    rcases hk with (g | g | g | g) | g
    ·left;right;left;left;exact g
    ·rcases geG' k g with g | g
     ·left;right;left;right;left;exact g
     ·exact .inr g
    ·left;right;left;right;right;exact g
    ·left;left;exact g
    ·left;right;right;exact g) (fun k hk=>by
    simp only[List.mem_append,List.mem_cons,List.not_mem_nil,or_false] at hk
    rcases hk with (g | g | g | g) | g
    ·have:=ltq k (by simpa using g);have:=U5.size;omega
    ·exact t5.inn.1 k g
    ·exact t5.inn.2 k (by simp [g])
    ·exact t5.inn.2 k (by simp [g])
    ·have:=s2'.inE k (by simp [g]);have:=u3.size;have:=U5.size;omega)
   refine⟨⟨k+1,r2,us++[u2],p',c',G',F++F2,by simp,by omega,by simp [hus],hs5,b05,b5,t5,?_,?_,?_,?_,by have:=U5.size;omega,hb2.trans hrb,hsubz.trans hsub2 zsz,rd2.roots,by have:=rd2.lo;omega,rd2.hi,by have:=rd2.len;omega,fun hle=>?_,fun hle=>?_⟩,by omega⟩
   ·intro k hk
    simp only[List.mem_append] at hk
    rcases hk with g | g | g
    ·rcases geG' k g with g | g
     ·exact hSz k (by simp [g])
     ·omega
    ·exact hSz k (by simp [g])
    ·have:=geF2 k g;omega
   ·intro k hk hx
    have hkz:=ltq k hk
    simp only[List.mem_append] at hx
    rcases hx with g | g | g
    ·rcases geG' k g with g | g
     ·exact hDz k hk (by simp [g])
     ·omega
    ·exact hDz k hk (by simp [g])
    ·have:=geF2 k g;omega
   ·intro k hk hx
    simp only[List.mem_append] at hx
    rcases geG' k hk with g | g
    ·rcases hx with e | e
     ·exact hGF k g e
     ·exact GF2 k g e
    ·rcases hx with e | e
     ·have:=ltGF k (.inr e);omega
     ·have:=lt2 k e;have:=u3.size;omega
   ·refine((((Fz.after udz).then ⟨X,ux,fun k hk=>dx k (by simp [hk])⟩).after u3)).then ⟨_,U5,fun k hk hx=>?_⟩
    simp only[List.mem_cons] at hx
    rcases hx with rfl | g
    ·have:=s.inE _ hk;have:=b4.lt;omega
    ·have:=s.inE _ hk;have:=hSz k (by simp [g]);omega
   ·rw[hst] at hle
    have hle':r.parts+1+sizeL (t.l.take k)≤4096:=by have:=Tm.size_eq t.l[k];omega
    obtain⟨g1,g2,g3⟩:=hok hle'
    obtain⟨g4,g5,g6⟩:=rd2.ok (by omega)
    refine⟨by rw[g4,g1,hst];omega,by rw[g5,g2,Zkv gk],?_⟩
    rw[Zca gk,List.map_append,g6,g3]
    congr 1
    refine List.map_congr_left fun a ha=>?_
    obtain⟨zz,e5,_⟩:=Zm8 t.l[k] rr.rl
    rw[g5,e5]
    refine(Zs2 fun n hn=>?_).symm
    rw[g2,ZdN]
    exact .inr ⟨a,ha,hn⟩
   ·rw[hst] at hle
    by_cases hle':r.parts+1+sizeL (t.l.take k)≤4096
    ·obtain⟨g1,_,_⟩:=hok hle'
     exact rd2.no (by omega)
    ·have:=hno hle';omega
  ·simp only[decide_eq_false_iff_not] at g2
   exact done (.inr (by omega))
 ·simp only[decide_eq_false_iff_not] at g
  exact done (.inl (by omega))
end
def wordOf (z:Int):Option Wd:=
 if z % 8=1 then (if 0≤numW z then some (.ref (numW z).toNat) else none)
 else if z % 8=2 then (if 0≤numW z then some (.str (numW z).toNat) else none)
 else if z % 8=3 then (if 0≤numW z then some (.atom (numW z).toNat) else none)
 else if z % 8=4 then some (.int (numW z))
 else none
theorem Zr6 {z:Int} {x:Wd} (h0:0≤z) (h1:z<2^64) (h:wordOf z=some x):z=x.enc∧x.fits:=by
 obtain⟨n1,n2⟩:=ZwT h0 h1
 have hz:=Zxz h0 h1
 have c:∀(y:Wd),z % 8=y.tag→numW z=y.num→z % 8≠0→z=y.enc∧y.fits:=fun y e1 e2 e3=>by
  refine⟨?_,?_⟩
  ·unfold Wd.enc;rw[←e1,←e2];exact hz e3
  ·unfold Wd.fits;rw[←e2];exact⟨n1,n2⟩
 unfold wordOf at h
 split at h
 ·rename_i e
  split at h
  ·cases h;exact c _ e (by show numW z=((numW z).toNat:Nat);omega) (by omega)
  ·cases h
 ·split at h
  ·rename_i e
   split at h
   ·cases h;exact c _ e (by show numW z=((numW z).toNat:Nat);omega) (by omega)
   ·cases h
  ·split at h
   ·rename_i e
    split at h
    ·cases h;exact c _ e (by show numW z=((numW z).toNat:Nat);omega) (by omega)
    ·cases h
   ·split at h
    ·rename_i e
     cases h;exact c _ e rfl (by omega)
    ·cases h
def rightI (C:List Wd) (L:List Slot) (z:Int):Bool:=match wordOf z with
 | some x=>rightW C L x
 | none=>false
theorem Zrv {C:List Wd} {L:List Slot} {z:Int} (h0:0≤z) (h1:z<2^64) (h:rightI C L z=true):∃x:Wd,z=x.enc∧x.fits∧rightW C L x=true:=by
 unfold rightI at h
 rcases hx:wordOf z with _ | x
 ·rw[hx] at h;cases h
 ·rw[hx] at h
  obtain⟨e,f⟩:=Zr6 h0 h1 hx
  exact⟨x,e,f,h⟩
section
variable {w v:World} {d:HpD} {E:List Nat} {C:List Wd}
theorem Ztf {z:Int} {K:Bool→World→Prop} (h:Hp w v d E) (ok:HOk d C) (h0:0≤z) (h1:z<2^64) (hK:∀v',Hp w v' d E→Far (d.F++E) v v'→K (rightI C d.L z) v'):Zaw d.a z v K:=by
 rcases hx:wordOf z with _ | x
 ·have hr:rightI C d.L z=false:=by unfold rightI;rw[hx]
  rw[hr] at hK
  apply Zaw.of
  unfold Zhu
  unfold wordOf at hx
  refine ZdE h (ifF rfl (Ztl h0 h1 (Zus h0 h1 ?_)))
  by_cases t1:z % 8=1
  ·rw[if_pos t1] at hx
   have hn:¬0≤numW z:=fun hh=>by rw[if_pos hh] at hx;cases hx
   refine ifT (by simp [t1]) (ZpQ h ok fun v1 a1 u1=>?_)
   rw[decide_eq_false (fun hh=>hn hh.1)]
   exact ifF rfl (hK v1 a1 (Far.keep u1))
  rw[if_neg t1] at hx
  refine ifF (by simp [t1]) ?_
  by_cases t2:z % 8=2
  ·rw[if_pos t2] at hx
   have hn:¬0≤numW z:=fun hh=>by rw[if_pos hh] at hx;cases hx
   refine ifF (by simp [t2]) (ifF (by simp [t2]) (ifT (by simp [t2]) (ZpQ h ok fun v1 a1 u1=>?_)))
   rw[decide_eq_false (fun hh=>hn hh.1)]
   exact ifF rfl (hK v1 a1 (Far.keep u1))
  rw[if_neg t2] at hx
  by_cases t3:z % 8=3
  ·rw[if_pos t3] at hx
   have hn:¬0≤numW z:=fun hh=>by rw[if_pos hh] at hx;cases hx
   refine ifF (by simp [t3]) (ifT (by simp [t3]) ?_)
   simp only[HpD.a,X_,h.blk.cell]
   refine ZtS h (fun hn v1 a1 f1=>?_) (fun hn2 hi v1 a1 f1=>?_)
   ·exact hK v1 a1 f1
   ·unfold isN at hn2
    rw[decide_eq_false hn] at hn2
    simp at hn2
  rw[if_neg t3] at hx
  by_cases t4:z % 8=4
  ·rw[if_pos t4] at hx;cases hx
  ·exact ifF (by simp [t4]) (ifF (by simp [t3]) (ifF (by simp [t2]) (hK v h (Far.refl _ _))))
 ·obtain⟨e,f⟩:=Zr6 h0 h1 hx
  have hr:rightI C d.L z=rightW C d.L x:=by unfold rightI;rw[hx]
  rw[e]
  refine ZoO h ok f fun v' a b=>?_
  rw[←hr];exact hK v' a b
end
theorem ZwE {C:List Wd} {L:List Slot} {FL:List Fn.Slot} (wf:WF C L FL) {f:Int→Int} (t:Tm):∀{x:Wd},Ev C L FL t x→rightW C L x=true→(∀n∈t.vars [],0≤f n∧f n<2^30)→(t.ren f).right=true:=by
 refine Tm.ind (P:=fun t=>∀{x:Wd},Ev C L FL t x→rightW C L x=true→(∀n∈t.vars [],0≤f n∧f n<2^30)→(t.ren f).right=true) (fun t ih=>?_) t
 intro x h hr hf
 obtain⟨y,hd,hsz,h⟩:=Ev.eq.1 h
 have hy:=wf.last hr hd
 rw[Tm.right_eq,Zjw,Zsc,Zsa,Zq7]
 by_cases h1:t.kind=1
 ·simp only[if_pos h1] at h ⊢
  obtain⟨a,b,i,_,c⟩:=h
  have:=hf t.n (by rw[Tm.vars_eq,if_pos h1];simp)
  rw[h1,a,b]
  unfold partT
  rw[noBytes]
  simp [rightL,this]
  omega
 simp only[if_neg h1] at h ⊢
 by_cases h2:t.kind=2
 ·simp only[if_pos h2] at h ⊢
  obtain⟨a,b,rfl⟩:=h
  have:-9007199254740991≤t.n∧t.n≤9007199254740991:=of_decide_eq_true hy
  rw[h2,a,b]
  unfold partT
  rw[noBytes]
  simp [rightL,this]
 simp only[if_neg h2] at h
 by_cases h3:t.kind=3
 ·simp only[if_pos h3] at h
  obtain⟨a,b,_⟩:=h
  rw[h3,a,b]
  unfold partT
  simp [rightL,hsz]
 simp only[if_neg h3] at h
 obtain⟨h4,a,i,id,rfl,b,c,g⟩:=h
 obtain⟨s,m,e1,e2,e3,e4,e5⟩:=wf.fn i id b
 obtain⟨_,em⟩:=c.uniq e1
 rw[h4,a]
 have hrl:∀l:List Tm,(∀t∈l,(t.ren f).right=true)→rightL (l.map (Tm.ren f))=true:=by
  intro l
  induction l with
  | nil=>intro _;rfl
  | cons t l ih=>intro h;rw[List.map_cons,rightL,h t (by simp),ih fun u hu=>h u (by simp [hu])];rfl
 rw[hrl t.l fun u hu=>?_]
 ·unfold partT
  simp [hsz];omega
 ·obtain⟨k,hk,rfl⟩:=List.getElem_of_mem hu
  have hil:i+1+k<C.length:=by omega
  refine ih _ hu (EvL.at.1 g k hk) (Za2.2 ⟨_,List.getElem?_eq_getElem hil,e5 (1+k) (by omega) (by omega) _ ?_⟩) fun n hn=>hf n (Zcy h1 hu hn)
  rw[←List.getElem?_eq_getElem hil];congr 1;omega
def decE:List Tm→Int
 | []=>0
 | t::r=>if 4096<t.size then 62 else if 200<t.depth then 61 else decE r
theorem Zp8:∀(l:List Tm) (k:Nat),(∀t∈l.take k,t.size≤4096∧t.depth≤200)→decE l=decE (l.drop k)
 | [],k,_=>by simp
 | t::l,0,_=>rfl
 | t::l,k+1,h=>by
  have h0:=h t (by simp)
  rw[List.drop_succ_cons,decE,if_neg (by omega),if_neg (by omega)]
  exact Zp8 l k fun u hu=>h u (by simp [hu])
theorem Zvq {l:List Tm} {k:Nat} (hk:k<l.length) (h:∀t∈l.take k,t.size≤4096∧t.depth≤200):decE l=if 4096<l[k].size then 62 else if 200<l[k].depth then 61 else decE (l.drop (k+1)):=by
 rw[Zp8 l k h,List.drop_eq_getElem_cons hk,decE]
section
variable {w:World} {d:HpD} {E:List Nat} {C:List Wd} {k0:Nat}
def WRow (v:World) (E:List Nat) (p:Option Addr) (zs:List Int):Prop:=Rd v 1 p zs.length (zs.map (.int .u64))∧∀x,p=some x→zs.length≠0→x.block∈E
theorem WRow.far {v v':World} {p:Option Addr} {zs:List Int} (h:WRow v E p zs) (f:Far E v v'):WRow v' E p zs:=by
 obtain⟨F,u,dd⟩:=f
 exact⟨h.1.upd u fun x hx hn hF=>dd _ (h.2 x hx hn) hF,h.2⟩
theorem WRow.at {v:World} {p:Option Addr} {zs:List Int} (h:WRow v E p zs) {i:Nat} (hi:i<zs.length):∃x,p=some x∧v.cell? (x.add (i*1))=some (.int .u64 zs[i]):=by
 obtain⟨x,e,hc⟩:=h.1.at (i:=i) (by omega)
 refine⟨x,e,?_⟩
 rw[Nat.mul_one,hc,List.getElem?_map,List.getElem?_eq_getElem hi];rfl
end
section
variable {w:World} {d:HpD} {E:List Nat} {C:List Wd} {k0:Nat}
theorem ZrE {v:World} {p:Option Addr} {c:Nat} {xs:List Wd} {ts:List Tm} {K:Option Addr→Nat→Nat→Option Addr→Nat→Nat→Int→World→Prop} (h:Hp w v d E) (hi:HI d C k0) (hz:WRow v E p (xs.map Wd.enc)) (hn:xs.length<2^16) (hf:∀x∈xs,x.fits) (hr:∀x∈xs,rightW C d.L x=true)
  (hlen:ts.length=xs.length) (hev:∀i (h1:i<ts.length) (h2:i<xs.length),Ev C d.L d.FL ts[i] xs[i])
  (hbad:decE ts≠0→∀v',Hp w v' d E→Far E v v'→K none 0 0 none 0 0 (decE ts) v')
  (hK:decE ts=0→∀v' p' c' vp vc Y (RL:List Nat),Hp w v' d (Y++E)→RdA v' Y (ts.map (numT (varsL ts []))) p' 0→WRow v' Y vp (RL.map fun i=>(Wd.ref i).enc)→RL.map (fun (i:Nat)=>(i:Int))=varsL ts []→(∀i∈RL,C[i]?=some (.ref i))→Since Y v→In Y v'→Far E v v'→K p' ts.length c' vp RL.length vc 0 v') :
  Za5 d.a p xs.length c v K:=by
 apply Za5.of
 unfold Zjz ZgX
 have hbd:=hi.ok.bound h
 have hzl:(xs.map Wd.enc).length=xs.length:=List.length_map ..
 refine ZdE h (ifF rfl ?_)
 refine⟨fun s z=>∃k:Nat,s.t19=k∧k≤xs.length∧Hp w z d E∧Far E v z,fun s _=>(xs.length-s.t19).toNat,⟨0,rfl,by omega,h,Far.refl _ _⟩,?_⟩
 rintro⟨s⟩ z ⟨k,hk0,hk,hh,f⟩
 dsimp only at hk0
 subst hk0
 unfold Zhb
 dsimp only
 refine ifC (fun g=>?_) (fun g=>?_)
 ·simp only[decide_eq_true_eq] at g
  have gk:k<xs.length:=by omega
  obtain⟨x,rfl,hc⟩:=(hz.far f).at (i:=k) (by omega)
  simp only[List.getElem_map] at hc
  simp only[X_,Int.toNat_natCast,show (k*1=k) by omega] at hc ⊢
  simp only[hc,X_]
  refine⟨by omega,by omega,ZoO hh hi.ok (hf _ (List.getElem_mem gk)) fun v1 a1 f1=>ifF (by rw[hr _ (List.getElem_mem gk)];rfl) ?_⟩
  rw[i64id (by omega) (by omega)]
  exact⟨⟨k+1,by simp,by omega,a1,f.then (f1.less fun k hk=>by simp [hk])⟩,by simp;omega⟩
 simp only[decide_eq_false_iff_not] at g
 obtain rfl:k=xs.length:=by omega
 clear g
 refine ZmQ fun m z1 hm1 u1 hmm=>Zai fun b z2 hb2 u2 bb=>?_
 have hmz:MapAt z1 m (fun x:Int=>Value.int .u64 x) []:=MapAt.new _ hmm
 have hzsz:=hh.U.size
 have U2:=u1.after u2
 have z1sz:=u1.size
 have hml:=hmz.lt
 have hrd:Rdr z2 ⟨b,m,d.a,[],0,none,0,[]⟩:=⟨bb,hmz.upd u2 (by simp),SlAt.nil _ _,by show b≠m;omega,by show b∉[];simp,by show m∉[];simp⟩
 have hEi:In E z:=fun k hk=>hh.inn k (by simp [hk])
 have hS2:RS w z2 d E ⟨b,m,d.a,[],0,none,0,[]⟩:=by
  refine⟨hh.watch U2 (Y:=[b,m]) (by intro k hk;simp at hk;omega) (by intro k hk;simp at hk;rcases hk with rfl | rfl;exact bb.lt;have:=u2.size;omega),hrd,fun k hk hx=>?_,?_,rfl⟩
  ·simp [RdD.F] at hk
   have:=hEi k hx;omega
  ·intro k hk;simp [RdD.F] at hk;omega
 have vsz:v.heap.size≤z.heap.size:=by obtain⟨_,u,_⟩:=f;exact u.size
 unfold Zhl
 refine⟨fun st y=>∃(k:Nat) (rr:RdD) (p:Option Addr) (c:Nat) (G F:List Nat),st.t34=k∧k≤xs.length∧st.outP=p∧st.outN=k∧st.outC=c∧RS w y d ((G++F)++E) rr∧TmsAt y p k c ((ts.take k).map (numT rr.rl)) G F∧Since (G++F) z∧Since rr.F z∧Dis G F∧Far E v y∧rr.b=b∧(∀j∈rr.RL,C[j]?=some (.ref j))∧rr.RL.length≤k*4200∧rr.rl=varsL (ts.take k) []∧(∀t∈ts.take k,t.size≤4096∧t.depth≤200),
  fun st _=>(xs.length-st.t34).toNat,⟨0,_,none,0,[],[],rfl,by omega,rfl,rfl,rfl,hS2,by simpa using TmsAt.nil _,(by intro k hk;cases hk),(by intro k hk;simp [RdD.F] at hk;omega),(by intro k hk;cases hk),f.after U2,rfl,by simp,by simp,by simp [RdD.rl,varsL],by simp⟩,?_⟩
 rintro⟨sp,sn,sc,si⟩ y ⟨k,rr,p1,c1,G,F,hi0,hk,e1,e2,e3,sy,ty,hSy,hSr,hGF,fy,hrb,hRy,hly,hrl,hall⟩
 dsimp only at hi0 e1 e2 e3
 subst hi0
 have e1:=e1.symm
 have e2:=e2.symm
 have e3:=e3.symm
 subst e1 e2 e3
 unfold ZgL
 dsimp only
 refine ifC (fun g=>?_) (fun g=>?_)
 ·simp only[decide_eq_true_eq] at g
  have gk:k<xs.length:=by omega
  have gt:k<ts.length:=by omega
  obtain⟨x,rfl,hc⟩:=(hz.far fy).at (i:=k) (by omega)
  simp only[List.getElem_map] at hc
  simp only[X_,Int.toNat_natCast,show (k*1=k) by omega] at hc ⊢
  simp only[hc,X_]
  refine⟨by omega,by omega,?_⟩
  rw[←hrb]
  refine sy.setParts fun y1 s1 f1=>?_
  have t1:TmsAt y1 p1 k c1 ((ts.take k).map (numT rr.rl)) G F:=by
   obtain⟨X,ux,dx⟩:=f1
   exact ty.upd ux (fun k hk=>dx k (by simp [hk])) (fun k hk=>dx k (by simp [hk]))
  have f1':=f1
  obtain⟨X1,ux1,dx1⟩:=f1'
  refine ZxB hi ts[k] (r:={ rr with parts:=0 }) (hev k gt gk) (hf _ (List.getElem_mem gk)) s1 hRy (by show (0:Int)≤0;omega) (by show (0:Int)≤4096;omega) (by show (rr.RL.length:Int)+(5000-0)<2^30;omega) fun y2 r2 u q c' F2 s2 rd2 ra2 hS2' hb2' hsub2 f2=>?_
  have hp0:(0:Int)<r2.parts:=rd2.lo
  have hb2'':r2.b=rr.b:=hb2'
  obtain⟨X,ux,dx⟩:=f2
  have t2:=t1.upd ux (fun k hk=>dx k (by simp [hk])) (fun k hk=>dx k (by simp [hk]))
  refine Zai fun q1 y3 hq1 u3 b3=>St4q b3 rfl rfl rfl rfl fun y4 u4 b4=>?_
  have U4:Upd [] y2 y4:=u3.fresh u4 (by intro k hk;simp at hk;omega)
  have s4:=s2.keep U4
  have hb4:y4.cell? ⟨rr.b,3,none⟩=some (.int .i64 r2.parts):=by rw[←hb2'',s4.rd.blk.cell];rfl
  simp only[X_,hb4]
  have hlow:∀t∈ts.take k,t.size≤4096∧t.depth≤200:=hall
  have hdec:=Zvq gt hlow
  have drop:∀{y:World} {r:RdD},RS w y d (F2++((G++F)++E)) r→Hp w y d E:=fun s=>s.hp.less fun k hk=>by simp [hk]
  have F4:Far E v y4:=((fy.then (f1.less fun k hk=>by simp [hk])).then ⟨X,ux,fun k hk=>dx k (by simp [hk])⟩).after U4
  refine ifC (fun g2=>?_) (fun g2=>?_)
  ·simp only[gt_iff_lt,decide_eq_true_eq] at g2
   have hbig:4096<ts[k].size:=by
    by_cases hle:ts[k].size≤4096
    ·have:=(rd2.ok (by show (0:Int)+_≤4096;omega)).1
     have:r2.parts=0+(ts[k].size:Int):=this
     omega
    ·omega
   rw[if_pos hbig] at hdec
   rw[←hdec]
   exact hbad (by rw[hdec];decide) y4 (drop s4) F4
  ·simp only[gt_iff_lt,decide_eq_false_iff_not] at g2
   have hsm:ts[k].size≤4096:=by
    by_cases hle:ts[k].size≤4096
    ·exact hle
    ·have:=rd2.no (by show ¬(0:Int)+_≤4096;omega)
     omega
   obtain⟨_,g4,g5⟩:=rd2.ok (by show (0:Int)+_≤4096;omega)
   have g4:r2.rl=ts[k].vars rr.rl:=g4
   have lt2:∀k∈F2,k<y2.heap.size:=fun k hk=>s2.inE k (by simp [hk])
   simp only[b4.cell,X_]
   have hus:u.size=ts[k].size:=by rw[g5];exact Zri _ _
   have hud:u.depth=ts[k].depth:=by rw[g5];exact ZrH _ _
   have r2l:r2.RL.length<2^30:=by
    have h3:=rd2.len
    have h4:=rd2.hi
    have h3:(r2.RL.length:Int)≤rr.RL.length+(r2.parts-0):=h3
    omega
   have hur:u.right=true:=by
    rw[g5]
    refine ZwE hi.wf ts[k] (hev k gt gk) (hr _ (List.getElem_mem gk)) fun n hn=>?_
    have hin:n∈r2.rl:=by rw[g4,Zur];exact .inr hn
    have:=List.idxOf_lt_length_of_mem hin
    rw[show r2.rl.length=r2.RL.length by unfold RdD.rl;rw[List.length_map]] at this
    omega
   have hck:checkT u=if 200<ts[k].depth then 61 else 0:=by
    unfold checkT
    rw[hur,hud,hus]
    simp only[Bool.true_eq_false,if_false]
    split
    ·rfl
    ·rw[if_neg (by omega)]
   refine Zue u (RdA.keep U4 ra2) (fun k hk=>Nat.lt_of_lt_of_le (lt2 k hk) U4.size) (by omega) fun y5 u5=>?_
   rw[hck]
   rw[if_neg (by omega)] at hdec
   by_cases hdp:200<ts[k].depth
   ·rw[if_pos hdp] at hdec ⊢
    refine ifT (by decide) ?_
    rw[←hdec]
    exact hbad (by rw[hdec];decide) y5 ((drop s4).keep u5) (F4.after u5)
   rw[if_neg hdp] at hdec ⊢
   refine ifF (by decide) ?_
   have b5:=b4.upd u5 (by simp)
   have s5:=s4.keep u5
   simp only[b5.cell,X_]
   have U5:=U4.after u5
   refine Za3 Zrf [.agg #[.int .i64 u.kind,.int .i64 u.n,.string u.s,.slice q u.l.length c']] (by rfl) (by simp [Value.cells]) (by rfl) (by omega) fun y6 hs6 u6=>?_
   have hs6':SlAt y6 4 (some ⟨y5.heap.size,0,none⟩) 1 1 (tmC (u,q,c')) [y5.heap.size]:=by
    have e:tmC (u,q,c')=([Value.agg #[.int .i64 u.kind,.int .i64 u.n,.string u.s,.slice q u.l.length c']]:List Value).flatMap fun v=>v.cells.toList:=by simp [Value.cells,tmC]
    rw[e];exact hs6
   have U6:=U5.after u6
   have GF2:Dis G F2:=fun k hk hx=>by
    have:=ty.inn.1 k hk
    have:=hS2' k hx
    have:=ux1.size
    omega
   refine(t2.keep U6).push (t:=u) (m:=1) hs6' (by have:=rd2.us;omega) (RdA.keep U6 ra2) (fun k hk=>Nat.lt_of_lt_of_le (lt2 k hk) U6.size) hGF GF2 (by rw[List.length_map,List.length_take];omega) fun p' c'' G' y7 t7 u7 s7=>?_
   rw[i64id (by omega) (by omega)]
   have hrl2:r2.rl=varsL (ts.take (k+1)) []:=by rw[g4,hrl,Zkv gt]
   have hmap:(ts.take k).map (numT rr.rl)++[u]=(ts.take (k+1)).map (numT r2.rl):=by
    rw[Zca gt,List.map_append,g5]
    congr 1
    refine List.map_congr_left fun a ha=>?_
    obtain⟨zz,e5,_⟩:=Zm8 ts[k] rr.rl
    rw[g4,e5]
    refine(Zs2 fun n hn=>?_).symm
    rw[hrl,ZdN]
    exact .inr ⟨a,ha,hn⟩
   rw[hmap] at t7
   have hs7:=(s2.keep U6).own (E':=(G' ++ (F++F2))++E) u7 (fun k hk=>by simp [hk]) (fun k hk=>by have:=hSy k (by simp [hk]);omega) (fun k hk=>by
    simp only[List.mem_append] at hk ⊢
    rcases hk with (g | g | g) | g
    ·rcases s7 k g with g | g
     ·left;right;left;left;exact g
     ·exact .inr g
    ·left;right;left;right;exact g
    ·left;left;exact g
    ·left;right;right;exact g) (fun k hk=>by
    simp only[List.mem_append] at hk
    rcases hk with (g | g | g) | g
    ·exact t7.inn.1 k g
    ·exact t7.inn.2 k (by simp [g])
    ·exact t7.inn.2 k (by simp [g])
    ·have:=s2.inE k (by simp [g]);have:=U6.size;have:=u7.size;omega)
   have hy1:z.heap.size≤y1.heap.size:=by have:=sy.hp.U.size;have:=ux1.size;have:=hSr rr.b (by simp [RdD.F]);have:=sy.rd.blk.lt;omega
   refine⟨⟨k+1,r2,p',c'',G',F++F2,by simp,by omega,rfl,rfl,rfl,hs7,t7,?_,?_,?_,?_,hb2'',rd2.roots,?_,hrl2,?_⟩,by simp;omega⟩
   ·intro k hk
    simp only[List.mem_append] at hk
    rcases hk with g | g | g
    ·rcases s7 k g with g | g
     ·exact hSy k (by simp [g])
     ·have:=ux.size;have:=U6.size;omega
    ·exact hSy k (by simp [g])
    ·have:=hS2' k g;omega
   ·intro k hk
    rcases hsub2 k hk with g | g
    ·exact hSr k g
    ·omega
   ·intro k hk hx
    simp only[List.mem_append] at hx
    rcases s7 k hk with g | g
    ·rcases hx with e | e
     ·exact hGF k g e
     ·exact GF2 k g e
    ·rcases hx with e | e
     ·have:=ty.inn.2 k e;have:=ux1.size;have:=ux.size;have:=U6.size;omega
     ·have:=lt2 k e;have:=U6.size;omega
   ·refine(((fy.then (f1.less fun k hk=>by simp [hk])).then ⟨X,ux,fun k hk=>dx k (by simp [hk])⟩).after U6).then ⟨G,u7,fun k hk hx=>?_⟩
    have:=hEi k hk
    have:=hSy k (by simp [hx]);omega
   ·have h3:(r2.RL.length:Int)≤rr.RL.length+(r2.parts-0):=rd2.len
    have:=rd2.hi
    omega
   ·intro t ht
    rw[Zca gt] at ht
    rcases List.mem_append.1 ht with e | e
    ·exact hall t e
    ·simp at e;subst e;omega
 ·simp only[decide_eq_false_iff_not] at g
  obtain rfl:k=xs.length:=by omega
  have htk:ts.take xs.length=ts:=by rw[←hlen,List.take_length]
  rw[htk] at hrl ty hall
  have hd0:decE ts=0:=by
   have:=Zp8 ts ts.length (by rw[List.take_length];exact hall)
   rw[this,List.drop_length];rfl
  have ud:=Zah y
  have syd:=sy.keep ud
  have hby:y.cell? ⟨b,2,none⟩=some (.slice rr.vp rr.RL.length rr.vc):=by rw[←hrb,sy.rd.blk.cell];rfl
  simp only[X_,hby]
  have e4:xs.length=ts.length:=hlen.symm
  have:=hK hd0 (drw y) p1 c1 rr.vp rr.vc (G++F++rr.F) rr.RL (syd.hp.less fun k hk=>by
   simp only[List.mem_append] at hk ⊢
   rcases hk with ((g | g) | g) | g <;> simp [g]) (RdA.sub (F:=G++F) (fun k hk=>by
   simp only[List.mem_append] at hk ⊢
   rcases hk with g | g <;> simp [g]) (.mk 0 0 ⟨#[]⟩ _) (by have:=(ty.keep ud).rd;rw[hrl] at this;exact this)) ⟨?_,fun x hx hn=>?_⟩ hrl hRy (fun k hk=>?_) (fun k hk=>?_) (fy.after ud)
  ·rw[←e4] at this;exact⟨trivial,this⟩
  ·have:=(syd.rd.row).rd
   rw[List.length_map,List.map_map];exact this
  ·rcases syd.rd.row.2.2 with ⟨e,_⟩ | ⟨bb2,off,arr,hp2,hG2,_⟩
   ·rw[e] at hx;cases hx
   ·rw[hp2] at hx;cases hx
    simp [RdD.F,hG2]
  ·simp only[List.mem_append] at hk
   rcases hk with (g | g) | g
   ·have:=hSy k (by simp [g]);omega
   ·have:=hSy k (by simp [g]);omega
   ·have:=hSr k g;omega
  ·simp only[List.mem_append] at hk
   rcases hk with (g | g) | g
   ·exact(ty.keep ud).inn.1 k g
   ·exact(ty.keep ud).inn.2 k g
   ·exact syd.rd.inn k g
end
end Go.Proofs.YtdaenijbokialaaGreat
