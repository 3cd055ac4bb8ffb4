import Derived.Test.YtdaenijbokialaaGreatLives3
import Derived.Test.YtdaenijbokialaaGreatKeyT
namespace Go.Proofs.YtdaenijbokialaaGreat
open Go Go.D Go.Proofs
set_option linter.unusedSimpArgs false
set_option linter.unusedVariables false
set_option maxRecDepth 8000
section
theorem WF.nil (L:List Slot) (FL:List Fn.Slot):WF [] L FL:=by
 refine⟨(by intro x hx;cases hx),fun x hx=>?_,(by intro i j h;simp at h)⟩
 cases x with
 | ref i=>obtain⟨y,hy,_⟩:=Za2.1 hx;simp at hy
 | str i=>exact⟨_,0,.stop (by simp [Wd.tag])⟩
 | atom i=>exact⟨_,0,.stop (by simp [Wd.tag])⟩
 | int i=>exact⟨_,0,.stop (by simp [Wd.tag])⟩
 | fn i=>exact⟨_,0,.stop (by simp [Wd.tag])⟩
theorem Snap.nil (C:List Wd):Snap [] [] C []:=⟨by simp,[],by simp,by simp,by simp,by simp⟩
end
section
theorem ZuU {F:List Nat} {l:List Tm} {w:World} {p:Option Addr} {c:Nat} {K:Bool→World→Prop} (hp:RdA w F l p 0) (hF:In F w) (hl:l.length≤20) (hT:∀w',Upd [] w w'→K true w') (hN:(∀t∈l,t.size≤6000)→∀w',Upd [] w w'→K false w'):ZeQ p l.length c w K:=by
 apply ZeQ.of
 unfold ZnA Zk6
 refine⟨fun s z=>∃i:Nat,s.i=i∧i≤l.length∧0≤s.n∧s.n≤20000∧Upd [] w z∧∀t∈l.take i,t.size≤6000,fun s _=>(l.length-s.i).toNat,⟨0,rfl,by omega,by show (0:Int)≤0;omega,by show (0:Int)≤20000;omega,Upd.refl _ _,by simp⟩,?_⟩
 rintro⟨sn,si⟩ z ⟨i,hi0,hi,n0,n1,uz,hall⟩
 dsimp only at hi0 n0 n1
 subst hi0
 unfold Zls
 dsimp only
 refine ifC (fun g=>?_) (fun g=>?_)
 ·simp only[decide_eq_true_eq] at g
  have gi:i<l.length:=by omega
  refine ifT (by simp;omega) ?_
  obtain⟨x,q,cq,f1,f2,f3,f4,f5,f6,f7,f8⟩:=(RdA.keep uz hp).at i gi
  simp only[Nat.zero_add] at f3 f4 f5 f6
  simp only[f1,X_,addA,Int.toNat_natCast,f3,f4,f5,f6]
  refine⟨by omega,by omega,Zw2 _ f8 (hF.upd uz) f7 fun z1 u1=>?_⟩
  by_cases la:(l[i].large 0 0).1=true
  ·rw[la];exact ifT rfl (hT z1 (uz.after u1))
  have la:(l[i].large 0 0).1=false:=by simpa using la
  rw[la]
  have hz:=ZvF la
  have g3:=u1.cell f3 (by simp)
  have g4:=u1.cell f4 (by simp)
  have g5:=u1.cell f5 (by simp)
  have g6:=u1.cell f6 (by simp)
  refine ifF rfl ?_
  simp only[f1,X_,addA,Int.toNat_natCast,g3,g4,g5,g6]
  refine⟨by omega,by omega,ZsM _ (RdA.keep u1 f8) (by omega) fun z2 u2=>?_⟩
  rw[i64id (x:=sn+(l[i].size:Int)) (by omega) (by omega)]
  refine ifC (fun _=>hT z2 ((uz.after u1).after u2)) (fun g9=>?_)
  have g9:=of_decide_eq_false g9
  rw[i64id (by omega) (by omega)]
  refine⟨⟨i+1,by simp,by omega,by show 0≤sn+(l[i].size:Int);omega,by show sn+(l[i].size:Int)≤20000;omega,(uz.after u1).after u2,fun t ht=>?_⟩,by simp;omega⟩
  rw[Zca gi] at ht
  rcases List.mem_append.1 ht with e | e
  ·exact hall t e
  ·simp at e;subst e;exact hz
 ·simp only[decide_eq_false_iff_not] at g
  obtain rfl:i=l.length:=by omega
  rw[List.take_length] at hall
  have:decide ((l.length:Int)>300)=false:=by simp;omega
  rw[this]
  exact hN hall z uz
theorem ZuZ {F:List Nat} {l:List Tm} {w:World} {p:Option Addr} {c:Nat} {K:Bool→World→Prop} (hp:RdA w F l p 0) (hF:In F w) (hl63:l.length<2^63) (hT:∀w',Upd [] w w'→K true w') (hN:l.length≤20→sizeL l≤8000→∀w',Upd [] w w'→K false w'):ZeY p l.length c w K:=by
 apply ZeY.of
 unfold ZnE
 refine ifC (fun _=>hT w (Upd.refl _ _)) (fun g=>?_)
 have g:=of_decide_eq_false g
 refine ZuU hp hF (by omega) (fun w1 u1=>ifT rfl (hT w1 u1)) fun hall w1 u1=>ifF rfl ?_
 unfold Zlg
 have hsl:∀i,sizeL (l.take i)≤i*6000:=fun i=>by
  have:∀l:List Tm,(∀t∈l,t.size≤6000)→sizeL l≤l.length*6000:=by
   intro l
   induction l with
   | nil=>intro _;simp [sizeL]
   | cons t l ih=>intro h;rw[sizeL,List.length_cons];have:=h t (by simp);have:=ih fun u hu=>h u (by simp [hu]);omega
  have h3:=this (l.take i) fun t ht=>hall t (List.mem_of_mem_take ht)
  have h4:(l.take i).length≤i:=by rw[List.length_take];omega
  exact Nat.le_trans h3 (Nat.mul_le_mul_right _ h4)
 refine⟨fun s z=>∃i:Nat,s.i=i∧i≤l.length∧s.n=sizeL (l.take i)∧Upd [] w z,fun s _=>(l.length-s.i).toNat,⟨0,rfl,by omega,rfl,u1⟩,?_⟩
 rintro⟨sn,si⟩ z ⟨i,hi0,hi,hn,uz⟩
 dsimp only at hi0 hn
 subst hi0 hn
 unfold Zlb
 dsimp only
 refine ifC (fun g=>?_) (fun g=>?_)
 ·simp only[decide_eq_true_eq] at g
  have gi:i<l.length:=by omega
  obtain⟨x,q,cq,f1,f2,f3,f4,f5,f6,f7,f8⟩:=(RdA.keep uz hp).at i gi
  simp only[Nat.zero_add] at f3 f4 f5 f6
  simp only[f1,X_,addA,Int.toNat_natCast,f3,f4,f5,f6]
  have hz:=hall _ (List.getElem_mem gi)
  have hs:=hsl i
  refine⟨by omega,by omega,ZsM _ f8 (by omega) fun z2 u2=>?_⟩
  rw[i64id (x:=(sizeL (l.take i):Int)+(l[i].size:Int)) (by omega) (by omega),i64id (x:=(i:Int)+1) (by omega) (by omega)]
  exact⟨⟨i+1,by simp,by omega,by rw[Zjd gi];simp,uz.after u2⟩,by simp;omega⟩
 ·simp only[decide_eq_false_iff_not] at g
  obtain rfl:i=l.length:=by omega
  rw[List.take_length]
  by_cases h8:sizeL l≤8000
  ·have:decide ((sizeL l:Int)>8000)=false:=by simp;omega
   rw[this];exact hN (by omega) h8 z uz
  ·have:decide ((sizeL l:Int)>8000)=true:=by simp;omega
   rw[this];exact hT z uz
theorem ZwP {F:List Nat} {l:List Tm} {w:World} {p:Option Addr} {c:Nat} {K:Bool→World→Prop} (hp:RdA w F l p 0) (hz:sizeL l≤8000) (hT:(∀t∈l,checkT t=0)→∀w',Upd [] w w'→K true w') (hN:∀w',Upd [] w w'→K false w'):Zhf p l.length c w K:=by
 apply Zhf.of
 unfold Zpy ZmM
 have hpos:=ZcC (l:=l)
 refine⟨fun s z=>∃i:Nat,s.i=i∧i≤l.length∧Upd [] w z∧∀t∈l.take i,checkT t=0,fun s _=>(l.length-s.i).toNat,⟨0,rfl,by omega,Upd.refl _ _,by simp⟩,?_⟩
 rintro⟨si⟩ z ⟨i,hi0,hi,uz,hall⟩
 dsimp only at hi0
 subst hi0
 unfold ZmI
 dsimp only
 refine ifC (fun g=>?_) (fun g=>?_)
 ·simp only[decide_eq_true_eq] at g
  have gi:i<l.length:=by omega
  obtain⟨x,q,cq,f1,f2,f3,f4,f5,f6,f7,f8⟩:=(RdA.keep uz hp).at i gi
  simp only[Nat.zero_add] at f3 f4 f5 f6
  simp only[f1,X_,addA,Int.toNat_natCast,f3,f4,f5,f6]
  have hle:=Zev (List.getElem_mem gi)
  refine⟨by omega,by omega,Zvu _ f8 (by omega) fun z2 u2=>ifC (fun _=>hN z2 (uz.after u2)) (fun g2=>?_)⟩
  rw[i64id (by omega) (by omega)]
  refine⟨⟨i+1,by simp,by omega,uz.after u2,fun t ht=>?_⟩,by simp;omega⟩
  rw[Zca gi] at ht
  rcases List.mem_append.1 ht with e | e
  ·exact hall t e
  ·simp at e;subst e;simpa using g2
 ·simp only[decide_eq_false_iff_not] at g
  obtain rfl:i=l.length:=by omega
  rw[List.take_length] at hall
  exact hT hall z uz
end
structure Coded (S:Nat→Prop) (d:HpD) (C:List Wd) (V:List (Int×Nat)) (k:Nat) (l:List Tm) (d':HpD) (C':List Wd) (V':List (Int×Nat)) (xs:List Wd):Prop where
 hi:HI d' C' (k+sizeL l)
 len:C'.length=C.length+needL l (V.map (·.1))
 old:∀i,i<C.length→C'[i]?=C[i]?
 keys:V'.map (·.1)=varsL l (V.map (·.1))
 vars:∀y∈V,y∈V'
 vm:VmOk S C' V'
 n:xs.length=l.length
 fits:∀x∈xs,x.fits
 rep:∀i (h1:i<l.length) (h2:i<xs.length),Rep ⟨S,C',d'.L,d'.FL,V'⟩ l[i] xs[i]
 kin:KinH d d'
 L:StayL d.L d'.L
 FL:StayF d.FL d'.FL
 acy:Acy C d.L d.FL→Acy C' d'.L d'.FL
theorem Zvo (ks:List Int):needL [] ks=0:=by unfold needL;simp [costL,varsL]
theorem Zta (l:List Tm) (ks:List Int):needL l ks≤3*sizeL l:=by
 unfold needL
 have h1:=ZmY l ks
 have h2:∀l:List Tm,costL l≤2*sizeL l:=by
  intro l
  induction l with
  | nil=>simp [costL,sizeL]
  | cons u l ih2=>rw[costL,sizeL];have:=Zxv u;omega
 have:=h2 l
 omega
section
variable {w:World} {E:List Nat} {r:Nat}
theorem Zwa {F:List Nat} {S:Nat→Prop} {l:List Tm} {v:World} {d:HpD} {C:List Wd} {k:Nat} {V:List (Int×Nat)} {p:Option Addr} {c:Nat} {K:Option Addr→Nat→Nat→World→Prop}
  (hp:RdA v F l p 0) (hFE:∀k∈F,k∈E) (hc:∀t∈l,checkT t=0) (h:Hp w v d (r::E)) (hi:HI d C k) (hk:k+sizeL l<16000) (hlim:(C.length:Int)+3*sizeL l≤d.pd.limit) (hrw:w.heap.size≤r) (hrE:r∉E) (hm:MapAt v r (fun a:Int=>Value.int .i64 a) (vmM V)) (hv:VmOk S C V) (hS:∀j,S j→j<C.length)
  (hK:∀v' d' C' V' xs p' c' G,Hp w v' d' (r::(G++E))→Coded S d C V k l d' C' V' xs→SlAt v' 1 p' l.length c' ((xs.map Wd.enc).map (.int .u64)) G→Since G v→r∉G→MapAt v' r (fun a:Int=>Value.int .i64 a) (vmM V')→Far E v v'→K p' l.length c' v'):Zef d.a p l.length c (some r) v K:=by
 apply Zef.of
 unfold ZmS Zkh
 have hpos:=ZcC (l:=l)
 have hws:=h.U.size
 refine⟨fun s z=>∃(i:Nat) (d':HpD) (C':List Wd) (V':List (Int×Nat)) (xs:List Wd) (p':Option Addr) (c':Nat) (G:List Nat),s.i=i∧i≤l.length∧s.outP=p'∧s.outN=i∧s.outC=c'∧Hp w z d' (r::(G++E))∧Coded S d C V k (l.take i) d' C' V' xs∧SlAt z 1 p' i c' ((xs.map Wd.enc).map (.int .u64)) G∧Since G v∧r∉G∧MapAt z r (fun a:Int=>Value.int .i64 a) (vmM V')∧Far E v z,fun s _=>(l.length-s.i).toNat,
  ⟨0,d,C,V,[],none,0,[],rfl,by omega,rfl,rfl,rfl,h,⟨by simpa [sizeL] using hi,by simp [Zvo],fun _ _=>rfl,by simp [varsL],fun _ hy=>hy,hv,rfl,by simp,by simp,KinH.refl d,StayL.refl _,StayF.refl _,id⟩,SlAt.nil _ _,(by intro k hk;cases hk),by simp,hm,Far.refl _ _⟩,?_⟩
 rintro⟨sp,sn,sc,si⟩ z ⟨i,d',C',V',xs,p',c',G,hi0,hi1,e1,e2,e3,hz,cd,hs,hG,hrG,hmz,fz⟩
 dsimp only at hi0 e1 e2 e3
 subst hi0
 have e1:=e1.symm
 have e2:=e2.symm
 have e3:=e3.symm
 subst e1 e2 e3
 unfold Zkm
 dsimp only
 refine ifC (fun g=>?_) (fun g=>?_)
 ·simp only[decide_eq_true_eq] at g
  have gi:i<l.length:=by omega
  have hpz:=RdA.far fz hFE hp
  obtain⟨x,q,cq,f1,f2,f3,f4,f5,f6,f7,f8⟩:=hpz.at i gi
  simp only[Nat.zero_add] at f3 f4 f5 f6
  simp only[f1,X_,addA,Int.toNat_natCast,f3,f4,f5,f6]
  have hst:=Zjd (l:=l) gi
  have hle:=ZeH (l:=l) (i+1)
  have hnb:=Zta (l.take (i+1)) (V.map (·.1))
  have hnt:=Zss gi (V.map (·.1))
  have hrGE:r∉G++E:=fun hx=>by
   rcases List.mem_append.1 hx with e | e
   ·exact hrG e
   ·exact hrE e
  rw[←cd.kin.a]
  refine⟨by omega,by omega,Zsk (F:=F) (E:=G++E) l[i] f8 (fun k hk=>List.mem_append.2 (.inr (hFE k hk))) (hc _ (List.getElem_mem gi)) hz cd.hi (by omega) hrw hrGE hmz cd.vm (fun j hj=>by have:=hS j hj;have:=cd.len;omega) (fun hl=>?_) (fun hl z1 d1 C1 V1 y h1 hi1 hlen1 hold1 hkeys1 hVV1 hv1 hm1 rep1 yf kin1 hL1 hF1 acy1 _ f1'=>ifF rfl ?_)⟩
  ·exfalso
   have hl2:=cd.len
   rw[cd.kin.limit,cd.keys] at hl
   omega
  have hs1:SlAt z1 1 p' i c' ((xs.map Wd.enc).map (.int .u64)) G:=by
   obtain⟨X,u,dd⟩:=f1'
   exact hs.upd u fun k hk=>dd k (by simp [hk])
  refine Za3 ZsL [.int .u64 y.enc] (by rfl) (by simp [Value.cells]) (by rfl) (by omega) fun z2 hs2 u2=>?_
  have h2:=h1.keep u2
  refine Ze1 (hE:=ZsL) (hs1.upd u2 (by intro k _ h;cases h)) hs2 (by simp [Value.cells,Value.oneCell']) (by omega) fun p3 c3 G3 z3 hs3 u3 s3=>?_
  have e4:(xs.map Wd.enc).map (Value.int .u64)++([Value.int .u64 y.enc]:List Value).flatMap (fun v=>v.cells.toList)=((xs++[y]).map Wd.enc).map (.int .u64):=by simp [Value.cells]
  rw[e4] at hs3
  rw[i64id (by omega) (by omega)]
  have zsz:v.heap.size≤z2.heap.size:=by
   obtain⟨X,u,_⟩:=fz
   obtain⟨X',u',_⟩:=f1'
   have:=u.size;have:=u'.size;have:=u2.size;omega
  have hrl:r<z2.heap.size:=h2.inn r (by simp)
  have hrG3:r∉G3:=fun hx=>by
   rcases s3 r hx with e | e
   ·exact hrG e
   ·omega
  have hap:=h2.apart
  have h3:Hp w z3 d1 (r::(G3++E)):=h2.upd u3 (fun k hk hx=>hap k hk (by simp [hx])) (fun x hx=>by simp [hx]) (fun k hk=>by have:=hG k hk;omega) (fun k hk=>by
   simp only[List.mem_cons,List.mem_append] at hk ⊢
   rcases hk with e | e | e
   ·left;left;exact e
   ·rcases s3 k e with e | e
    ·left;right;left;exact e
    ·exact .inr e
   ·left;right;right;exact e) (fun k hk=>by
   simp only[List.mem_cons,List.mem_append] at hk
   rcases hk with e | e | e
   ·subst e;have:=u3.size;omega
   ·exact hs3.inn k e
   ·have:=h2.inn k (by simp [e]);have:=u3.size;omega)
  refine⟨⟨i+1,d1,C1,V1,xs++[y],p3,c3,G3,by simp,by omega,rfl,rfl,rfl,h3,?_,hs3,fun k hk=>?_,hrG3,(hm1.upd u2 (by simp)).upd u3 hrG,?_⟩,by simp;omega⟩
  ·have hlen:=cd.len
   refine⟨by rw[hst,←Nat.add_assoc];exact hi1,by rw[hlen1,cd.keys,hlen,hnt];omega,fun j hj=>by rw[hold1 j (by omega)];exact cd.old j hj,by rw[hkeys1,cd.keys,Zkv gi],fun y hy=>hVV1 _ (cd.vars y hy),hv1,by rw[List.length_append,cd.n,Zca gi,List.length_append];rfl,fun x hx=>?_,fun j j1 j2=>?_,cd.kin.trans kin1,cd.L.trans hL1,cd.FL.trans hF1,fun a=>acy1 (cd.acy a)⟩
   ·rcases List.mem_append.1 hx with e | e
    ·exact cd.fits x e
    ·simp at e;subst e;exact yf
   ·have hn:=cd.n
    rw[List.length_take] at hn j1
    by_cases hj:j<xs.length
    ·have:=cd.rep j (by rw[List.length_take];omega) hj
     rw[List.getElem_append_left hj]
     simp only[List.getElem_take] at this ⊢
     refine Rep.mono (q:=⟨S,C',d'.L,d'.FL,V'⟩) (r:=⟨S,C1,d1.L,d1.FL,V1⟩) ⟨fun a b _ hb=>?_,fun a ha _=>ha,hL1,hF1,hVV1⟩ _ this
     show C1[a]?=some b
     rw[hold1 a (List.getElem?_eq_some_iff.1 hb).1];exact hb
    ·have:j=i:=by omega
     subst this
     rw[List.getElem_append_right (by omega)]
     simp only[List.getElem_take]
     simpa using rep1
  ·rcases s3 k hk with e | e
   ·exact hG k e
   ·omega
  ·refine(((fz.then (f1'.less fun k hk=>by simp [hk])).after u2)).then ⟨G,u3,fun k hk hx=>?_⟩
   have:=hG k hx
   have:=h.inn k (by simp [hk])
   omega
 ·simp only[decide_eq_false_iff_not] at g
  obtain rfl:i=l.length:=by omega
  rw[List.take_length] at cd
  exact hK z d' C' V' xs p' c' G hz cd hs hG hrG hmz fz
end
theorem Der.set {C:List Wd} {j:Nat} {x:Wd} (hj:C[j]?=some (.ref j)) (hxx:Der C x x) (hne:x≠.ref j):Der (C.set j x) x x∧Der (C.set j x) (.ref j) x:=by
 have hjl:=(List.getElem?_eq_some_iff.1 hj).1
 have h1:Der (C.set j x) x x:=by
  rcases hxx.last with g | ⟨i,rfl,g⟩
  ·exact⟨0,.stop g⟩
  ·refine⟨0,.root ?_⟩
   rw[Zha hjl,if_neg]
   ·exact g
   ·rintro rfl;exact hne rfl
 refine⟨h1,?_⟩
 obtain⟨n,hn⟩:=h1
 exact⟨n+1,.step (by rw[Zha hjl,if_pos rfl]) hne hn⟩
theorem Far.sub {d:HpD} {E:List Nat} {v v':World} (f:Far (d.F++E) v v'):Far E v v':=f.less fun k hk=>by simp [hk]
section
variable {w:World} {d:HpD} {E:List Nat} {C:List Wd} {k0:Nat}
theorem HI.str (hi:HI d C k0) {i:Nat} (hr:rightW C d.L (.str i)=true):∃id s m,C[i]?=some (.fn id)∧At d.L d.FL id s ((m:Nat):Int)∧1≤m∧m≤16∧i+m<C.length∧∀k,1≤k→k≤m→∀y,C[i+k]?=some y→y.tag≠5:=by
 obtain⟨id,hc⟩:=ZcL.1 hr
 obtain⟨s,m,a,b,c,e,f⟩:=hi.wf.fn i id hc
 exact⟨id,s,m,hc,a,b,c,e,f⟩
theorem HI.put (hi:HI d C k0) {j:Nat} {y:Wd} (hj:C[j]?=some (.ref j)) (hy:y.fits) (hyr:rightW C d.L y=true) (hyd:Der C y y):HI { d with cells:=d.cells.set j y.enc } (C.set j y) k0:=by
 obtain⟨wf',rw'⟩:=hi.wf.set hj hyr hyd
 refine⟨⟨?_,fun z hz=>?_,hi.ok.nf,?_,hi.ok.starts,hi.ok.ml⟩,wf',hi.nL,hi.nF,hi.nm,hi.al,hi.fl,hi.n64⟩
 ·show d.cells.set j y.enc=(C.set j y).map Wd.enc
  rw[hi.ok.cells,List.map_set]
 ·rcases List.mem_or_eq_of_mem_set hz with g | g
  ·exact hi.ok.fits z g
  ·rw[g];exact hy
 ·show (((C.set j y).length:Nat):Int)=d.pd.top
  rw[List.length_set];exact hi.ok.len
theorem ZuL {z u:Int}:(rightI C d.L z=false∨rightI C d.L u=false)∨(rightI C d.L z=true∧rightI C d.L u=true):=by
 cases rightI C d.L z <;> cases rightI C d.L u <;> simp
end
end Go.Proofs.YtdaenijbokialaaGreat
