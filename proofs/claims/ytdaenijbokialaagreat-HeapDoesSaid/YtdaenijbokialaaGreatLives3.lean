import Derived.Test.YtdaenijbokialaaGreatKeyT
import Derived.Test.YtdaenijbokialaaGreatDec4
import Derived.Test.YtdaenijbokialaaGreatSeg2
namespace Go.Proofs.YtdaenijbokialaaGreat
open Go Go.D Go.Proofs
set_option linter.unusedSimpArgs false
set_option linter.unusedVariables false
set_option maxRecDepth 8000
theorem Zwh {vs:List Int} {n:Int} {i:Nat} (hi:i<vs.length) (he:vs[i]=n) (hno:∀j (hj:j<vs.length),j<i→vs[j]≠n):vs.idxOf n=i:=by
 have hmem:n∈vs:=by rw[←he];exact List.getElem_mem hi
 have h1:=List.idxOf_lt_length_of_mem hmem
 have h2:vs[vs.idxOf n]=n:=List.getElem_idxOf h1
 rcases Nat.lt_trichotomy (vs.idxOf n) i with h | h | h
 ·exact absurd h2 (hno _ h1 h)
 ·exact h
 ·exfalso
  have:=List.not_of_lt_findIdx (p:=fun x=>x==n) (xs:=vs) (i:=i) (by unfold List.idxOf at h;exact h)
  simp at this
  exact this he
section
theorem ZtH {F:List Nat} {vs:List Int} (t:Tm):∀{w:World} {p vp:Option Addr} {c vc:Nat} {G:List Nat} {K:Int→Int→ByteArray→Option Addr→Nat→Nat→World→Prop},t.pv→(∀n∈t.vars [],n∈vs)→RdA w F t.l p 0→In F w→SlAt w 1 vp vs.length vc (vs.map (.int .i64)) G→vs.length<2^30→t.size<2^30→t.s.size<2^63→(∀u∈t.l,u.s.size<2^63)→
  (∀w' q c' F',RdA w' F' (numT vs t).l q 0→In F' w'→Since F' w→Upd [] w w'→K (numT vs t).kind (numT vs t).n (numT vs t).s q (numT vs t).l.length c' w')→ZbW t.kind t.n t.s p t.l.length c vp vs.length vc w K:=by
 refine Tm.ind (P:=fun t=>∀{w:World} {p vp:Option Addr} {c vc:Nat} {G:List Nat} {K:Int→Int→ByteArray→Option Addr→Nat→Nat→World→Prop},t.pv→(∀n∈t.vars [],n∈vs)→RdA w F t.l p 0→In F w→SlAt w 1 vp vs.length vc (vs.map (.int .i64)) G→vs.length<2^30→t.size<2^30→t.s.size<2^63→(∀u∈t.l,u.s.size<2^63)→
  (∀w' q c' F',RdA w' F' (numT vs t).l q 0→In F' w'→Since F' w→Upd [] w w'→K (numT vs t).kind (numT vs t).n (numT vs t).s q (numT vs t).l.length c' w')→ZbW t.kind t.n t.s p t.l.length c vp vs.length vc w K) (fun t ih=>?_) t
 intro w p vp c vc G K hpv hv hp hF hs hvl hz hss hsl hK
 apply ZbW.of
 unfold Zlk
 have hts:=Tm.size_eq t
 have hpos:=ZcC (l:=t.l)
 refine Zai fun r w1 hr u1 b1=>Zai fun r1 w2 hr1 u2 b2=>?_
 have b1':=b1.upd u2 (by simp)
 have U2:=u1.after u2
 simp only[X_,b1'.cell]
 have hsz:=u1.size
 by_cases k1:t.kind=1
 ·refine ifT (by simp [k1]) ?_
  have hmem:t.n∈vs:=hv t.n (by rw[Tm.vars_eq,if_pos k1];simp)
  unfold Zil
  refine⟨fun s z=>∃i:Nat,s.i=i∧i≤vs.length∧Upd [] w2 z∧(∀j (hj:j<vs.length),j<i→vs[j]≠t.n),fun s _=>(vs.length-s.i).toNat,⟨0,rfl,by omega,Upd.refl _ _,fun j _ hj=>by omega⟩,?_⟩
  rintro⟨si⟩ z ⟨i,hi0,hi,uz,hno⟩
  dsimp only at hi0
  subst hi0
  unfold Zif
  dsimp only
  have bz:=b1'.upd uz (by simp)
  have bz2:=b2.upd uz (by simp)
  have hsz2:=(hs.upd U2 (by intro k _ h;cases h)).upd uz (by intro k _ h;cases h)
  refine ifC (fun g=>?_) (fun g=>?_)
  ·simp only[decide_eq_true_eq] at g
   have gi:i<vs.length:=by omega
   obtain⟨b,off,rfl,hc⟩:=Zmv hsz2 gi
   simp only[X_,Int.toNat_natCast,hc,bz.cell]
   refine⟨by omega,by omega,ifC (fun g2=>?_) (fun g2=>?_)⟩
   ·simp only[beq_iff_eq] at g2
    have hix:=Zwh gi g2 hno
    have hnum:numT vs t=tV (i:Int):=by rw[ZsW (i:=i) hpv k1,hix]
    refine ZrP fun z3 u3=>?_
    have ud:=Zah z
    have b3:=(bz2.upd ud (by simp)).upd u3 (by simp)
    refine St4q b3 rfl rfl rfl rfl fun z4 u4 b4=>?_
    simp only[X_,b4.cell]
    rw[hnum] at hK
    refine hK z4 none 0 [] (RdA.of fun i hi=>absurd hi (by simp [tV,Tm.l])) (by intro k hk;cases hk) (by intro k hk;cases hk) ((((U2.after uz).after ud).after u3).fresh u4 (by intro k hk;simp at hk;omega))
   ·simp only[beq_eq_false_iff_ne,ne_eq] at g2
    rw[i64id (by omega) (by omega)]
    refine⟨⟨i+1,by simp,by omega,uz.after (Zah z),fun j hj hji=>?_⟩,by simp;omega⟩
    by_cases e:j=i
    ·subst e;exact g2
    ·exact hno j hj (by omega)
  ·simp only[decide_eq_false_iff_not] at g
   obtain rfl:i=vs.length:=by omega
   obtain⟨j,hj,e⟩:=List.getElem_of_mem hmem
   exact absurd e (hno j hj hj)
 ·refine ifF (by simp [k1]) ?_
  unfold ZiK
  simp only[X_,b1'.cell]
  refine Zai fun r5 w3 hr5 u3 b3=>St4q b3 rfl rfl rfl rfl fun w4 u4 b4=>?_
  have U4:Upd [] w2 w4:=u3.fresh u4 (by intro k hk;simp at hk;omega)
  have b14:=b1'.upd U4 (by simp)
  have b24:=b2.upd U4 (by simp)
  have V4:=U2.after U4
  have hs4:=hs.upd V4 (by intro k _ h;cases h)
  have hp4:=RdA.keep V4 hp
  have z2:=u2.size
  have lt1:=b1.lt
  have lt2:=b2.lt
  unfold ZiE
  refine⟨fun s z=>∃(i:Nat) (p2:Option Addr) (c2:Nat) (G2 F2:List Nat),s.i_1=i∧i≤t.l.length∧Blk z r5 #[.int .i64 t.kind,.int .i64 t.n,.string t.s,.slice p2 i c2]∧TmsAt z p2 i c2 ((t.l.take i).map (numT vs)) G2 F2∧Since (G2++F2) w4∧Dis G2 F2∧Upd [r5] w4 z,fun s _=>(t.l.length-s.i_1).toNat,
   ⟨0,none,0,[],[],rfl,by omega,by simpa using b4,by simpa using TmsAt.nil _,(by intro k hk;cases hk),(by intro k hk;cases hk),Upd.refl _ _⟩,?_⟩
  rintro⟨si⟩ z ⟨i,p2,c2,G2,F2,hi0,hi,bz,tz,hS2,hGF2,uz⟩
  dsimp only at hi0
  subst hi0
  unfold ZiP
  dsimp only
  have r5w:w2.heap.size≤r5:=by omega
  have V:Upd [] w z:=V4.fresh uz (by intro k hk;simp at hk;omega)
  have b1z:=b14.upd uz (by simp;omega)
  have b2z:=b24.upd uz (by simp;omega)
  simp only[X_,b1z.cell]
  refine ifC (fun g=>?_) (fun g=>?_)
  ·simp only[decide_eq_true_eq] at g
   have gi:i<t.l.length:=by omega
   have ud:=Zah z
   have hpz:=RdA.keep V hp
   obtain⟨x,q,cq,f1,f2,f3,f4,f5,f6,f7,f8⟩:=hpz.at i gi
   simp only[Nat.zero_add] at f3 f4 f5 f6
   simp only[f1,X_,addA,Int.toNat_natCast,f3,f4,f5,f6,bz.cell,b1z.cell]
   have hle:=Zev (List.getElem_mem gi)
   have hszz:=hs.upd V (by intro k _ h;cases h)
   have hu63:∀u∈t.l[i].l,u.s.size<2^63:=fun u hu=>by
    obtain⟨j,hj,rfl⟩:=List.getElem_of_mem hu
    obtain⟨_,_,_,_,_,_,_,_,_,g7,_⟩:=f8.at j hj
    exact g7
   refine⟨by omega,by omega,ih _ (List.getElem_mem gi) (((Tm.pv_eq t).1 hpv).2 _ (List.getElem_mem gi)) (fun n hn=>hv n (Zcy k1 (List.getElem_mem gi) hn)) (RdA.keep ud f8) (fun k hk=>Nat.lt_of_lt_of_le (hF k hk) (V.after ud).size) (hszz.upd ud (by intro k _ h;cases h)) hvl (by omega) f7 hu63 fun z2 q2 c3 F3 ra3 in3 s3 u3=>?_⟩
   have bz2:=(bz.upd ud (by simp)).upd u3 (by simp)
   refine⟨by simp only[X_,bz2.cell],Za3 Zrf [.agg #[.int .i64 (numT vs t.l[i]).kind,.int .i64 (numT vs t.l[i]).n,.string (numT vs t.l[i]).s,.slice q2 (numT vs t.l[i]).l.length c3]] (by rfl) (by simp [Value.cells]) (by rfl) (by omega) fun z3 hs3 u3'=>?_⟩
   have hs3':SlAt z3 4 (some ⟨z2.heap.size,0,none⟩) 1 1 (tmC (numT vs t.l[i],q2,c3)) [z2.heap.size]:=by
    have e:tmC (numT vs t.l[i],q2,c3)=([Value.agg #[.int .i64 (numT vs t.l[i]).kind,.int .i64 (numT vs t.l[i]).n,.string (numT vs t.l[i]).s,.slice q2 (numT vs t.l[i]).l.length c3]]:List Value).flatMap fun v=>v.cells.toList:=by simp [Value.cells,tmC]
    rw[e];exact hs3
   have bz3:=bz2.upd u3' (by simp)
   refine⟨by simp only[X_,bz3.cell],?_⟩
   have U3:=(ud.after u3).after u3'
   have tz3:=tz.keep U3
   have hzsz:z.heap.size≤(drw z).heap.size:=ud.size
   have hns:(numT vs t.l[i]).s.size<2^63:=by unfold numT;rw[Zsa];exact f7
   have GF3:Dis G2 F3:=fun k hk hx=>by have:=tz.inn.1 k hk;have:=s3 k hx;omega
   refine tz3.push (t:=numT vs t.l[i]) (m:=1) hs3' hns (RdA.keep u3' ra3) (in3.upd u3') hGF2 GF3 (by rw[List.length_map,List.length_take];omega) fun p4 c4 G4 z4 t4 u4 s4=>?_
   have r5G:r5∉G2:=fun hx=>by have:=hS2 r5 (by simp [hx]);have:=b4.lt;omega
   have r5G4:r5∉G4:=fun hx=>by
    rcases s4 _ hx with g2 | g2
    ·exact r5G g2
    ·have:=bz.lt;have:=U3.size;omega
   have r5F:r5∉F2++F3:=fun hx=>by
    rcases List.mem_append.1 hx with g2 | g2
    ·have:=hS2 r5 (by simp [g2]);have:=b4.lt;omega
    ·have:=s3 r5 g2;have:=bz.lt;omega
   refine Zbi (bz3.upd u4 r5G) (by simp) rfl fun z5 u5 b5=>?_
   simp at b5
   rw[i64id (by omega) (by omega)]
   have t5:=t4.upd u5 (fun k hk hx=>by simp at hx;subst hx;exact r5G4 hk) (fun k hk hx=>by simp at hx;subst hx;exact r5F hk)
   rw[show (t.l.take i).map (numT vs)++[numT vs t.l[i]]=(t.l.take (i+1)).map (numT vs) by rw[Zca gi,List.map_append];rfl] at t5
   have uzsz:=uz.size
   refine⟨⟨i+1,p4,c4,G4,F2++F3,by simp,by omega,b5,t5,fun k hk=>?_,fun k hk hx=>?_,?_⟩,by simp;omega⟩
   ·simp only[List.mem_append] at hk
    rcases hk with g2 | g2 | g2
    ·rcases s4 k g2 with e | e
     ·exact hS2 k (by simp [e])
     ·have:=U3.size;omega
    ·exact hS2 k (by simp [g2])
    ·have:=s3 k g2;omega
   ·rcases s4 k hk with e | e
    ·rcases List.mem_append.1 hx with g2 | g2
     ·exact hGF2 k e g2
     ·exact GF3 k e g2
    ·rcases List.mem_append.1 hx with g2 | g2
     ·have:=tz3.inn.2 k g2;omega
     ·have:=in3 k g2;have:=u3'.size;omega
   ·refine((uz.before U3).trans u4 (fun k hk=>.inl hk) (fun k hk=>.inr (hS2 k (by simp [hk])))).trans u5 (fun k hk=>.inl hk) (fun k hk=>.inl hk)
  ·simp only[decide_eq_false_iff_not] at g
   obtain rfl:i=t.l.length:=by omega
   rw[List.take_length] at tz
   simp only[X_,bz.cell]
   refine St4q b2z rfl rfl rfl rfl fun z2 u6 b6=>?_
   simp only[X_,b6.cell]
   have r1G:r1∉G2++F2:=fun hx=>by have:=hS2 r1 hx;have:=b24.lt;omega
   have t6:=tz.upd u6 (fun k hk hx=>by simp at hx;subst hx;exact r1G (by simp [hk])) (fun k hk hx=>by simp at hx;subst hx;exact r1G (by simp [hk]))
   have e0:numT vs t=.mk t.kind t.n t.s (t.l.map (numT vs)):=by
    unfold numT
    refine Tm.ext (Zjw _ _) (by rw[Zsc,if_neg k1];rfl) (Zsa _ _) (by rw[Zq7,if_neg k1];rfl)
   rw[e0] at hK
   have e1:(Tm.mk t.kind t.n t.s (t.l.map (numT vs))).l.length=t.l.length:=by rw[mk_l,List.length_map]
   have:=hK z2 p2 c2 (G2++F2) t6.rd (fun k hk=>by
    rcases List.mem_append.1 hk with g2 | g2
    ·exact t6.inn.1 k g2
    ·exact t6.inn.2 k g2) (fun k hk=>by have:=hS2 k hk;have:=V4.size;omega) (V.fresh u6 (by intro k hk;simp at hk;omega))
   rw[e1] at this
   exact this
end
structure Lits (l:List Tm):Prop where
 pv:∀t∈l,t.pv
 sz:sizeL l<2^29
theorem Lits.at {l:List Tm} (h:Lits l) {t:Tm} (ht:t∈l):t.pv∧t.size<2^29:=⟨h.pv t ht,by have:=Zev ht;have:=h.sz;omega⟩
section
variable {w:World}
theorem Zu5 {F:List Nat} {l:List Tm} {p:Option Addr} {c:Nat} {K:Option Addr→Nat→Nat→World→Prop} (hp:RdA w F l p 0) (hF:In F w) (hl:Lits l)
  (hK:∀w' q c' F',RdA w' F' (l.map (numT (varsL l []))) q 0→In F' w'→Since F' w→Upd [] w w'→K q l.length c' w'):Zdq p l.length c w K:=by
 apply Zdq.of
 unfold Zl2 ZjI
 have hpos:=ZcC (l:=l)
 have hsz:=hl.sz
 refine⟨fun s z=>∃(i c2:Nat) (p2:Option Addr) (G2:List Nat),s.i=i∧i≤l.length∧s.varsP=p2∧s.varsN=(varsL (l.take i) []).length∧s.varsC=c2∧SlAt z 1 p2 (varsL (l.take i) []).length c2 ((varsL (l.take i) []).map (.int .i64)) G2∧Upd [] w z∧Since G2 w,fun s _=>(l.length-s.i).toNat,
  ⟨0,0,none,[],rfl,by omega,rfl,rfl,rfl,SlAt.nil _ _,Upd.refl _ _,(by intro k hk;cases hk)⟩,?_⟩
 rintro⟨sp,sn,sc,si⟩ z ⟨i,c2,p2,G2,hi0,hi,e1,e2,e3,hs,uz,hS⟩
 dsimp only at hi0 e1 e2 e3
 subst hi0
 have e1:=e1.symm
 have e3:=e3.symm
 subst e1 e3
 subst e2
 unfold ZjT
 dsimp only
 refine ifC (fun g=>?_) (fun g=>?_)
 ·simp only[decide_eq_true_eq] at g
  have gi:i<l.length:=by omega
  obtain⟨x,q,cq,f1,f2,f3,f4,f5,f6,f7,f8⟩:=(RdA.keep uz hp).at i gi
  simp only[Nat.zero_add] at f3 f4 f5 f6
  simp only[f1,X_,addA,Int.toNat_natCast,f3,f4,f5,f6]
  obtain⟨hpv,hszi⟩:=hl.at (List.getElem_mem gi)
  refine⟨by omega,by omega,Zw4 _ f8 (hF.upd uz) (by omega) fun z1 vp vc Gv hv u1 sv=>?_⟩
  unfold Zj5
  have hs1:=hs.upd u1 (by intro k _ h;cases h)
  have U1:=uz.after u1
  have hvl:=Zul l[i] []
  have hfold:∀k,k≤(l[i].vars []).length→(((l[i].vars []).take k).foldl addv (varsL (l.take i) [])).length≤(varsL (l.take i) []).length+k:=by
   intro k hk
   have:∀(X out:List Int),(X.foldl addv out).length≤out.length+X.length:=by
    intro X
    induction X with
    | nil=>intro out;simp
    | cons y X ih=>
     intro out
     rw[List.foldl_cons]
     have:=ih (addv out y)
     have h2:(addv out y).length≤out.length+1:=by unfold addv;split <;> simp
     rw[List.length_cons];omega
   have:=this ((l[i].vars []).take k) (varsL (l.take i) [])
   rw[List.length_take] at this;omega
  have hvL:=ZmY (l.take i) []
  have hle:=ZeH (l:=l) i
  simp only[List.length_nil,Nat.zero_add] at hvl hvL
  refine⟨fun s y=>∃(k c3:Nat) (p3:Option Addr) (G3:List Nat) (out:List Int),s.k=k∧k≤(l[i].vars []).length∧out=((l[i].vars []).take k).foldl addv (varsL (l.take i) [])∧s.varsP_2=p3∧s.varsN_2=out.length∧s.varsC_2=c3∧SlAt y 1 p3 out.length c3 (out.map (.int .i64)) G3∧Upd G2 z1 y∧Sub G3 G2 z1∧SlAt y 1 vp (l[i].vars []).length vc ((l[i].vars []).map (.int .i64)) Gv∧Dis Gv G3,fun s _=>((l[i].vars []).length-s.k).toNat,
   ⟨0,c2,p2,G2,_,rfl,by omega,rfl,rfl,rfl,rfl,hs1,Upd.refl _ _,Sub.refl _ _,hv,fun k hk hx=>by have:=sv k hk;have:=hs.inn k hx;omega⟩,?_⟩
  rintro⟨sp2,sn2,sc2,sk⟩ y ⟨k,c3,p3,G3,out,hk0,hk,ho,a1,a2,a3,hsy,uy,sy,hvy,hdis⟩
  dsimp only at hk0 a1 a2 a3
  subst hk0
  have a1:=a1.symm
  have a3:=a3.symm
  subst a1 a3
  subst a2
  unfold Zjp
  dsimp only
  have hol:=hfold k hk
  rw[←ho] at hol
  refine ifC (fun g2=>?_) (fun g2=>?_)
  ·simp only[decide_eq_true_eq] at g2
   have gk:k<(l[i].vars []).length:=by omega
   have hnext:((l[i].vars []).take (k+1)).foldl addv (varsL (l.take i) [])=addv out (l[i].vars [])[k]:=by
    rw[Zca gk,List.foldl_append,←ho];rfl
   unfold ZjF
   refine⟨fun s x=>∃j:Nat,s.j=j∧j≤out.length∧Upd [] y x∧(s.isx=true↔(l[i].vars [])[k]∈out.take j),fun s _=>(out.length-s.j).toNat,⟨0,rfl,by omega,Upd.refl _ _,by simp⟩,?_⟩
   rintro⟨sis,sj⟩ x2 ⟨j,hj0,hj,ux,his⟩
   dsimp only at hj0 his
   subst hj0
   unfold ZjB
   dsimp only
   have hsx:=hsy.upd ux (by intro k _ h;cases h)
   have hvx:=hvy.upd ux (by intro k _ h;cases h)
   have ud:=Zah x2
   refine ifC (fun g3=>?_) (fun g3=>?_)
   ·simp only[decide_eq_true_eq] at g3
    have gj:j<out.length:=by omega
    refine ifC (fun g4=>?_) (fun g4=>?_)
    ·rw[i64id (by omega) (by omega)]
     refine⟨⟨j+1,by simp,by omega,ux.after ud,?_⟩,by simp;omega⟩
     simp only[true_iff]
     rw[Zca gj]
     exact List.mem_append.2 (.inl (his.1 g4))
    ·obtain⟨b,off,e5,hc⟩:=Zmv hsx gj
     obtain⟨b2,off2,e6,hc2⟩:=Zmv hvx gk
     simp only[e5,e6,X_,Int.toNat_natCast,hc,hc2]
     rw[i64id (by omega) (by omega)]
     refine⟨by omega,by omega,by omega,by omega,⟨j+1,by simp,by omega,ux.after ud,?_⟩,by simp;omega⟩
     rw[Zca gj]
     simp only[beq_iff_eq,List.mem_append,List.mem_singleton]
     have hno:¬(l[i].vars [])[k]∈out.take j:=fun hh=>by rw[his.2 hh] at g4;cases g4
     exact⟨fun e=>.inr e.symm,fun e=>e.elim (fun h=>absurd h hno) fun h=>h.symm⟩
   ·simp only[decide_eq_false_iff_not] at g3
    obtain rfl:j=out.length:=by omega
    rw[List.take_length] at his
    unfold Zjn
    refine ifC (fun g4=>?_) (fun g4=>?_)
    ·simp only[Bool.not_eq_true'] at g4
     have hno:(l[i].vars [])[k]∉out:=fun hh=>by rw[his.2 hh] at g4;cases g4
     rw[ZvI hno] at hnext
     obtain⟨b2,off2,e6,hc2⟩:=Zmv hvx gk
     simp only[e6,X_,Int.toNat_natCast,hc2]
     refine⟨by omega,by omega,?_⟩
     rw[←e6]
     refine Za3 Zq0 [.int .i64 (l[i].vars [])[k]] (by rfl) (by simp [Value.cells]) (by rfl) (by omega) fun x3 hs3 u3=>?_
     refine Ze1 (hE:=Zq0) (hsx.upd u3 (by intro k _ h;cases h)) hs3 (by simp [Value.cells,Value.oneCell']) (by omega) fun p' c' G' x4 hs4 u4 s4=>?_
     have q1:out.map (Value.int .i64)++([Value.int .i64 (l[i].vars [])[k]]:List Value).flatMap (fun v=>v.cells.toList)=(out++[(l[i].vars [])[k]]).map (.int .i64):=by rw[List.map_append];simp [Value.cells]
     have q2:out.length+1=(out++[(l[i].vars [])[k]]).length:=by simp
     rw[q1,q2] at hs4
     rw[q2,i64id (by omega) (by omega)]
     have hux:=(ux.after u3).size
     have huy:=uy.size
     refine⟨⟨k+1,c',p',G',_,by simp,by omega,hnext.symm,rfl,rfl,rfl,hs4,(uy.before (ux.after u3)).trans u4 (fun k hk=>.inl hk) (fun k hk=>(sy k hk)),fun k hk=>?_,(hvx.upd u3 (by intro k _ h;cases h)).upd u4 (fun k hk=>hdis k hk),fun k hk hx=>?_⟩,by simp;omega⟩
     ·rcases s4 k hk with e | e
      ·exact sy k e
      ·right;omega
     ·rcases s4 k hx with e | e
      ·exact hdis k hk e
      ·have:=hvy.inn k hk;omega
    ·simp only[Bool.not_eq_false'] at g4
     rw[ZtZ (his.1 g4)] at hnext
     dsimp only
     rw[i64id (by omega) (by omega)]
     refine⟨⟨k+1,c3,p3,G3,out,by simp,by omega,hnext.symm,rfl,rfl,rfl,hsx,uy.before ux,sy,hvx,hdis⟩,by simp;omega⟩
  ·simp only[decide_eq_false_iff_not] at g2
   obtain rfl:k=(l[i].vars []).length:=by omega
   rw[List.take_length,←ZvZ,←Zkv gi] at ho
   subst ho
   rw[i64id (x:=(i:Int)+1) (by omega) (by omega)]
   refine⟨⟨i+1,c3,p3,G3,by simp,by omega,rfl,rfl,rfl,hsy,U1.fresh uy hS,fun k hk=>?_⟩,by simp;omega⟩
   rcases sy k hk with e | e
   ·exact hS k e
   ·have:=U1.size;omega
 ·simp only[decide_eq_false_iff_not] at g
  obtain rfl:i=l.length:=by omega
  rw[List.take_length] at hs ⊢
  have hvL:=ZmY l []
  simp only[List.length_nil,Nat.zero_add] at hvL
  unfold ZjG
  refine⟨fun s y=>∃(i c2:Nat) (p2:Option Addr) (G3 F3:List Nat),s.i_3=i∧i≤l.length∧s.outP_3=p2∧s.outN_3=i∧s.outC_3=c2∧TmsAt y p2 i c2 ((l.take i).map (numT (varsL l []))) G3 F3∧Upd [] w y∧Upd [] z y∧Since (G3++F3) z∧Dis G3 F3,fun s _=>(l.length-s.i_3).toNat,
   ⟨0,0,none,[],[],rfl,by omega,rfl,rfl,rfl,by simpa using TmsAt.nil _,uz,Upd.refl _ _,(by intro k hk;cases hk),(by intro k hk;cases hk)⟩,?_⟩
  rintro⟨sp2,sn2,sc2,sk⟩ y ⟨i,c3,p3,G3,F3,hk0,hk,a1,a2,a3,ty,uy,uzy,hS3,hGF⟩
  dsimp only at hk0 a1 a2 a3
  subst hk0
  have a1:=a1.symm
  have a2:=a2.symm
  have a3:=a3.symm
  subst a1 a2 a3
  unfold ZjU
  dsimp only
  refine ifC (fun g2=>?_) (fun g2=>?_)
  ·simp only[decide_eq_true_eq] at g2
   have gi:i<l.length:=by omega
   obtain⟨x,q,cq,f1,f2,f3,f4,f5,f6,f7,f8⟩:=(RdA.keep uy hp).at i gi
   simp only[Nat.zero_add] at f3 f4 f5 f6
   simp only[f1,X_,addA,Int.toNat_natCast,f3,f4,f5,f6]
   obtain⟨hpv,hszi⟩:=hl.at (List.getElem_mem gi)
   have hu63:∀u∈l[i].l,u.s.size<2^63:=fun u hu=>by
    obtain⟨j,hj,rfl⟩:=List.getElem_of_mem hu
    obtain⟨_,_,_,_,_,_,_,_,_,g7,_⟩:=f8.at j hj
    exact g7
   refine⟨by omega,by omega,ZtH l[i] hpv (fun n hn=>(ZdN l [] n).2 (.inr ⟨_,List.getElem_mem gi,hn⟩)) f8 (hF.upd uy) (hs.upd uzy (by intro k _ h;cases h)) (by omega) (by omega) f7 hu63 fun y2 q2 c4 F4 ra4 in4 s4 u4=>?_⟩
   refine Za3 Zrf [.agg #[.int .i64 (numT (varsL l []) l[i]).kind,.int .i64 (numT (varsL l []) l[i]).n,.string (numT (varsL l []) l[i]).s,.slice q2 (numT (varsL l []) l[i]).l.length c4]] (by rfl) (by simp [Value.cells]) (by rfl) (by omega) fun y3 hs3 u3=>?_
   have hs3':SlAt y3 4 (some ⟨y2.heap.size,0,none⟩) 1 1 (tmC (numT (varsL l []) l[i],q2,c4)) [y2.heap.size]:=by
    have e:tmC (numT (varsL l []) l[i],q2,c4)=([Value.agg #[.int .i64 (numT (varsL l []) l[i]).kind,.int .i64 (numT (varsL l []) l[i]).n,.string (numT (varsL l []) l[i]).s,.slice q2 (numT (varsL l []) l[i]).l.length c4]]:List Value).flatMap fun v=>v.cells.toList:=by simp [Value.cells,tmC]
    rw[e];exact hs3
   have U3:=u4.after u3
   have GF4:Dis G3 F4:=fun k hk hx=>by have:=ty.inn.1 k hk;have:=s4 k hx;omega
   refine(ty.keep U3).push (t:=numT (varsL l []) l[i]) (m:=1) hs3' (by unfold numT;rw[Zsa];exact f7) (RdA.keep u3 ra4) (in4.upd u3) hGF GF4 (by rw[List.length_map,List.length_take];omega) fun p5 c5 G5 y5 t5 u5 s5=>?_
   rw[i64id (by omega) (by omega)]
   rw[show (l.take i).map (numT (varsL l []))++[numT (varsL l []) l[i]]=(l.take (i+1)).map (numT (varsL l [])) by rw[Zca gi,List.map_append];rfl] at t5
   have hzy:=uzy.size
   have hwz:=uz.size
   refine⟨⟨i+1,c5,p5,G5,F3++F4,by simp,by omega,rfl,rfl,rfl,t5,?_,?_,fun k hk=>?_,fun k hk hx=>?_⟩,by simp;omega⟩
   ·exact(uy.after U3).fresh u5 fun k hk=>by have:=hS3 k (by simp [hk]);omega
   ·exact(uzy.after U3).fresh u5 fun k hk=>by have:=hS3 k (by simp [hk]);omega
   ·simp only[List.mem_append] at hk
    rcases hk with g3 | g3 | g3
    ·rcases s5 k g3 with e | e
     ·exact hS3 k (by simp [e])
     ·have:=U3.size;omega
    ·exact hS3 k (by simp [g3])
    ·have:=s4 k g3;omega
   ·rcases s5 k hk with e | e
    ·rcases List.mem_append.1 hx with g3 | g3
     ·exact hGF k e g3
     ·exact GF4 k e g3
    ·rcases List.mem_append.1 hx with g3 | g3
     ·have:=(ty.keep U3).inn.2 k g3;omega
     ·have:=in4 k g3;have:=u3.size;omega
  ·simp only[decide_eq_false_iff_not] at g2
   obtain rfl:i=l.length:=by omega
   rw[List.take_length] at ty
   refine hK y _ _ (G3++F3) ty.rd (fun k hk=>?_) (fun k hk=>by have:=hS3 k hk;have:=uz.size;omega) uy
   rcases List.mem_append.1 hk with g3 | g3
   ·exact ty.inn.1 k g3
   ·exact ty.inn.2 k g3
end
def fS:ByteArray:=⟨#[102]⟩
def tmF (a b c:Tm):Tm:=.mk 4 0 fS [a,b,c]
def tI (n:Int):Tm:=.mk 2 n ⟨#[]⟩ []
section
variable {w:World}
theorem getters {d:HpD} {E:List Nat} {v:World} (h:Hp w v d E) {K:Option Addr→World→Prop}:(K d.pd.a v→ZcQ d.a v K)∧(K d.tm v→Zcr d.a v K)∧(K d.at_ v→Zcl d.a v K)∧(K d.ft v→Zbu d.a v K):=by
 refine⟨fun hK=>?_,fun hK=>?_,fun hK=>?_,fun hK=>?_⟩
 ·apply ZcQ.of
  unfold Zk1
  refine ZdE h (ifF rfl ?_)
  simp only[HpD.a,X_,h.blk.cell]
  exact hK
 ·apply Zcr.of
  unfold Zkk
  refine ZdE h (ifF rfl ?_)
  simp only[HpD.a,X_,h.blk.cell]
  exact hK
 ·apply Zcl.of
  unfold Zki
  refine ZdE h (ifF rfl ?_)
  simp only[HpD.a,X_,h.blk.cell]
  exact hK
 ·apply Zbu.of
  unfold Zh1
  refine ZdE h (ifF rfl ?_)
  simp only[HpD.a,X_,h.blk.cell]
  exact hK
theorem Hp.tabs {d:HpD} {E:List Nat} {v:World} (h:Hp w v d E):d.tm.isNone=false∧d.at_.isNone=false∧d.ft.isNone=false:=by
 refine⟨?_,?_,?_⟩
 ·obtain⟨b,_,_,_,_,e,_⟩:=h.tr
  rw[e];rfl
 ·obtain⟨FT,has,_⟩:=h.bf.tl
  rcases has with ⟨d',_,_,e,_⟩ | ⟨b,_,e,_⟩
  ·rw[←e];rfl
  ·rw[e];rfl
 ·rw[←h.bf.fa];rfl
theorem mkRow {a b c:Tm} {v:World} {K:Option Addr→Nat→Nat→World→Prop} (ha:a.l=[]∧a.s.size<2^63) (hb:b.l=[]∧b.s.size<2^63) (hc:c.l=[]∧c.s.size<2^63)
  (hK:∀v',RdA v' [v.heap.size] [a,b,c] (some ⟨v.heap.size,0,none⟩) 0→In [v.heap.size] v'→Upd [] v v'→K (some ⟨v.heap.size,0,none⟩) 3 3 v') :
  BSl Tryz.prog 22 3 [(0,.agg #[.int .i64 a.kind,.int .i64 a.n,.string a.s,.slice none 0 0]),(1,.agg #[.int .i64 b.kind,.int .i64 b.n,.string b.s,.slice none 0 0]),(2,.agg #[.int .i64 c.kind,.int .i64 c.n,.string c.s,.slice none 0 0])] v K:=by
 refine Za3 Zrf [.agg #[.int .i64 a.kind,.int .i64 a.n,.string a.s,.slice none 0 0],.agg #[.int .i64 b.kind,.int .i64 b.n,.string b.s,.slice none 0 0],.agg #[.int .i64 c.kind,.int .i64 c.n,.string c.s,.slice none 0 0]] (by rfl) (by simp [Value.cells]) (by rfl) (by omega) fun v1 hs1 u1=>?_
 have t1:TmsAt v1 (some ⟨v.heap.size,0,none⟩) 3 3 [a,b,c] [v.heap.size] []:=by
  refine⟨[(a,none,0),(b,none,0),(c,none,0)],rfl,?_,fun x hx=>?_,(by intro k hk;cases hk)⟩
  ·have:([(a,none,0),(b,none,0),(c,none,0)]:List TmP).flatMap tmC=([.agg #[.int .i64 a.kind,.int .i64 a.n,.string a.s,.slice none 0 0],.agg #[.int .i64 b.kind,.int .i64 b.n,.string b.s,.slice none 0 0],.agg #[.int .i64 c.kind,.int .i64 c.n,.string c.s,.slice none 0 0]]:List Value).flatMap fun v=>v.cells.toList:=by
    simp [tmC,Value.cells,ha.1,hb.1,hc.1]
   rw[this];exact hs1
  ·simp at hx
   rcases hx with rfl | rfl | rfl
   ·exact⟨ha.2,by rw[ha.1];exact RdA.of fun i hi=>absurd hi (by simp)⟩
   ·exact⟨hb.2,by rw[hb.1];exact RdA.of fun i hi=>absurd hi (by simp)⟩
   ·exact⟨hc.2,by rw[hc.1];exact RdA.of fun i hi=>absurd hi (by simp)⟩
 exact hK v1 (by simpa using t1.rd) t1.inn.1 u1
theorem mkF {a b c:Tm} {v:World} {K:Int→Int→ByteArray→Option Addr→Nat→Nat→World→Prop} (ha:a.l=[]∧a.s.size<2^63) (hb:b.l=[]∧b.s.size<2^63) (hc:c.l=[]∧c.s.size<2^63)
  (hK:∀v' p c' G,RdA v' G [a,b,c] p 0→In G v'→Since G v→Upd [] v v'→K 4 0 fS p 3 c' v') :
  BSl Tryz.prog 22 3 [(0,.agg #[.int .i64 a.kind,.int .i64 a.n,.string a.s,.slice none 0 0]),(1,.agg #[.int .i64 b.kind,.int .i64 b.n,.string b.s,.slice none 0 0]),(2,.agg #[.int .i64 c.kind,.int .i64 c.n,.string c.s,.slice none 0 0])] v fun p n c w1=>
   Zee ⟨#[102]⟩ p n c w1 K:=by
 refine mkRow ha hb hc fun v1 t1 i1 u1=>?_
 refine Zuu (F:=[v.heap.size]) (l:=[a,b,c]) t1 i1 (by show 3<2^29;omega) (by simp) fun v2 p2 c2 G ra in2 s2 u2=>?_
 exact hK v2 p2 c2 _ ra in2 (fun k hk=>by
  rcases List.mem_append.1 hk with g | g
  ·have:=s2 k g;have:=u1.size;omega
  ·simp at g;omega) (u1.after u2)
end
def tmT0:Tm:=tmF (tV 0) (tI (-7)) (tV 0)
theorem ZvE {f:Int→Tm} {n:Int}:(tI n).app f=tI n:=by unfold tI;rw[ZvO (by decide)];rfl
theorem ZsF {f:Int→Tm} {a b c:Tm}:(tmF a b c).app f=tmF (a.app f) (b.app f) (c.app f):=by unfold tmF;rw[ZvO (by decide)];rfl
theorem Zyi (n:Int):(tI n).pv:=(Tm.pv_eq _).2 ⟨fun h=>absurd h (by show ¬(2:Int)=1;decide),by intro u hu;cases hu⟩
theorem Zx1 {a b c:Tm} (ha:a.pv) (hb:b.pv) (hc:c.pv):(tmF a b c).pv:=(Tm.pv_eq _).2 ⟨fun h=>absurd h (by show ¬(4:Int)=1;decide),by
 intro u hu
 have hu:u∈[a,b,c]:=hu
 simp at hu
 rcases hu with rfl | rfl | rfl <;> assumption⟩
theorem Zyj:tmT0.pv:=Zx1 (Zwy 0) (Zyi _) (Zwy 0)
theorem Zwx:numT (varsL [tmT0] []) tmT0=tmT0:=by rfl
theorem ZuA (i:Int):(tmF (tV i) (tI (-7)) (tV i)).vars []=[i]:=by
 unfold tmF tV tI
 simp [Tm.vars,varsL]
theorem Zxr {i:Int}:numT (varsL [tmF (tV i) (tI (-7)) (tV i)] []) (tmF (tV i) (tI (-7)) (tV i))=tmT0:=by
 have e:varsL [tmF (tV i) (tI (-7)) (tV i)] []=[i]:=by rw[varsL,varsL,ZuA]
 rw[e]
 unfold numT tmF tV tI tmT0 tmF tV tI
 simp [Tm.ren,renL]
section
variable {C C':List Wd} {L:List Slot} {FL:List Fn.Slot}
theorem Zyh {n id:Nat} {s:ByteArray} (hc:C[n]?=some (.fn id)) (hat:At L FL id s (3:Nat)) (hs:s.size≤64) (h0:C[n+1]?=some (.ref (n+1))) (h1:C[n+2]?=some (.ref (n+2))) (h2:C[n+3]?=some (.ref (n+3))) :
  Ev C L FL (.mk 4 0 s [tV ((n+1:Nat):Int),tV ((n+2:Nat):Int),tV ((n+3:Nat):Int)]) (.str n):=by
 refine Ev.mk_iff.2 ⟨_,⟨0,.stop (by simp [Wd.tag])⟩,hs,?_⟩
 rw[if_neg (by decide),if_neg (by decide),if_neg (by decide)]
 refine⟨rfl,rfl,n,id,rfl,hc,hat,?_⟩
 rw[EvL,EvL,EvL,EvL]
 exact⟨ZqU h0,ZqU h1,ZqU h2,trivial⟩
theorem ZtY {x:Wd} {i n:Nat} (wf:WF C L FL) (ac:Acy C L FL) (wf':WF C' L FL) (ac':Acy C' L FL) (hb:BExt C C') (hrw:∀x,rightW C' L x=rightW C L x) (hi:i≤n) (hx:rightW C L x=true) (hn:rightW C L (.str n)=true)
  (ex:Ev C L FL (tmF (tV i) (tI (-7)) (tV i)) x) (en:Ev C L FL (tmF (tV ((n+1:Nat):Int)) (tV ((n+2:Nat):Int)) (tV ((n+3:Nat):Int))) (.str n)) (ok:Bool)
  (hok:ok=true→∀θ,Sol C' L FL θ↔Sol C L FL θ∧wval C L FL θ x=wval C L FL θ (.str n)) (hno:ok=false→∀θ,Sol C L FL θ→wval C L FL θ x≠wval C L FL θ (.str n)) :
  ok=true∧∃t,Ev C' L FL t (.str n)∧t.size=4∧t.depth=2∧numT (varsL [t] []) t=tmT0∧(∀y,Der C' (.ref (n+2)) y→y≠.ref (n+2)):=by
 have τs:=ac.sol fun m=>if m=((n+2:Nat):Int) then tI (-7) else tV 0
 have v1:wval C L FL (sol0 C L FL fun m=>if m=((n+2:Nat):Int) then tI (-7) else tV 0) x=tmT0:=by
  rw[ZpS ex,ZsF,ZnS,ZvE,if_neg (by omega)];rfl
 have v2:wval C L FL (sol0 C L FL fun m=>if m=((n+2:Nat):Int) then tI (-7) else tV 0) (.str n)=tmT0:=by
  rw[ZpS en,ZsF,ZnS,ZnS,ZnS,if_neg (by omega),if_pos rfl,if_neg (by omega)];rfl
 have hT:ok=true:=by
  cases ok with
  | true=>rfl
  | false=>exact absurd (v1.trans v2.symm) (hno rfl _ τs)
 refine⟨hT,?_⟩
 have hsol:=hok hT
 have s1:Sol C' L FL _:=(hsol _).2 ⟨τs,v1.trans v2.symm⟩
 obtain⟨t,ht⟩:=ac' (.str n) (by rw[hrw];exact hn)
 have hpv:=Ev.pv t ht
 have g1:=s1.ev t ht
 rw[ZlK hb hn,v2] at g1
 have s2:=ac'.sol tV
 have g2:=(hsol _).1 s2
 have g3:=g2.1.ev _ ex
 have g4:=ZpS (τ:=tV) ht
 rw[ZlK hb hn,←g2.2,g3,ZsF,ZnS,ZvE,ZsY hpv fun _ _=>rfl] at g4
 obtain⟨z,hz⟩:∃z,z=sol0 C' L FL tV ((i:Int).toNat):=⟨_,rfl⟩
 rw[←hz] at g4
 have hT1:[t]=[tmT0].map (Tm.app fun _=>z):=by
  unfold tmT0
  rw[List.map_singleton,ZsF,ZnS,ZvE,←g4]
 obtain⟨r,q1,q2⟩:=variants (T:=[t]) (U:=[tmT0]) (by simpa using hpv) (by simpa using Zyj) hT1 (by rw[List.map_singleton,←g1])
 have q3:=Zuk q2
 rw[←q1] at q3
 have q3:numT (varsL [t] []) t=numT (varsL [tmT0] []) tmT0:=by simpa using q3
 have q1:t=tmT0.ren r:=by simpa using q1
 refine⟨t,ht,?_,?_,by rw[q3];exact Zwx,fun y hd e=>?_⟩
 ·rw[q1,Zri];rfl
 ·rw[q1,ZrH];rfl
 ·subst e
  rw[←g4] at ht
  obtain⟨y,hy,_,h⟩:=Ev.eq.1 ht
  have:y=.str n:=hy.uniq ⟨0,.stop (by simp [Wd.tag])⟩
  subst this
  rw[if_neg (by show ¬(4:Int)=1;decide),if_neg (by show ¬(4:Int)=2;decide),if_neg (by show ¬(4:Int)=3;decide)] at h
  obtain⟨_,_,j,id,e,_,_,hl⟩:=h
  cases e
  have h2:=EvL.at.1 hl 1 (by show 1<3;omega)
  have h3:Ev C' L FL (tI (-7)) (.ref (n+2)):=h2
  have hroot:C'[n+2]?=some (.ref (n+2)):=by
   rcases hd.last with g | ⟨m,e,g⟩
   ·exact absurd rfl g
   ·cases e;exact g
  have:=Ev.uniq _ h3 (ZqU hroot)
  have:=congrArg Tm.kind this
  exact absurd this (by show ¬(2:Int)=1;decide)
end
theorem Upd.same {w w':World} (u:Upd [] w w') {a:Addr} (h:a.block<w.heap.size):w'.cell? a=w.cell? a:=by
 unfold World.cell?
 rw[u.blk a.block h (by simp)]
theorem MapAt.far {κ:Type} {v z:World} {E:List Nat} {r:Nat} {inj:κ→Value} {M:List (κ×Value)} (h:MapAt v r inj M) (f:Far E v z) (hr:r∈E):MapAt z r inj M:=by
 obtain⟨X,u,dd⟩:=f
 exact h.upd u (dd r hr)
theorem RdA.one {v:World} {F:List Nat} {l:List Tm} {p:Option Addr} (h:RdA v F l p 0) {i:Nat} (hi:i<l.length) (hF:In F v):∃x q c,p=some x∧x.block<v.heap.size∧(∀j,j<4→v.cell? (x.add (i*4+j))=(tmC (l[i],q,c))[j]?)∧RdA v F l[i].l q 0:=by
 obtain⟨x,q,c,e1,e2,e3,e4,e5,e6,e7,e8⟩:=h.at i hi
 simp only[Nat.zero_add] at e3 e4 e5 e6
 refine⟨x,q,c,e1,hF _ e2,fun j hj=>?_,e8⟩
 match j,hj with
 | 0,_=>exact e3
 | 1,_=>exact e4
 | 2,_=>exact e5
 | 3,_=>exact e6
theorem Zxu (x:Wd):x.enc≠0:=fun h=>by
 have h1:=x.enc_tag
 have h2:=x.tag5
 rw[h] at h1
 omega
theorem Zuf {w v:World} {d:HpD} {E:List Nat} {x:Int} {K:Option Addr→Nat→Nat→World→Prop} (h:Hp w v d E) (hK:∀v' p b,Hp w v' d (b::E)→WRow v' (b::E) p [x]→Upd [] v v'→K p 1 1 v'):BSl Tryz.prog 36 1 [(0,.int .u64 x)] v K:=by
 refine Za3 ZsL [.int .u64 x] (by rfl) (by simp [Value.cells]) (by rfl) (by omega) fun v1 hs u=>?_
 have hlt:=hs.inn v.heap.size (by simp)
 refine hK v1 _ v.heap.size (h.watch u (Y:=[v.heap.size]) (by intro k hk;simp at hk;omega) (by intro k hk;simp at hk;omega)) ⟨?_,fun y hy _=>?_⟩ u
 ·have:=hs.rd
  simpa [Value.cells] using this
 ·cases hy;simp
section
variable {w:World}
theorem ZuI {K:Bool→World→Prop} (hK:∀w',Upd [] w w'→K true w'):Zcx w K:=by
 apply Zcx.of
 unfold Znv
 refine Zv5 (Upd.refl [] w) (by omega) (by omega) (by omega) (by omega) fun v1 d1 h1 fr U1 _=>ifF rfl (ifF rfl ?_)
 refine ZmQ fun r v2 hr u2 hm2=>ZrP fun v3 u3=>ZvC fun v4 u4=>ZrP fun v5 u5=>?_
 have hm2:MapAt v2 r (fun a:Int=>Value.int .i64 a) (vmM []):=MapAt.new _ hm2
 refine mkF (a:=tV 3) (b:=tI (-7)) (c:=tV 3) ⟨rfl,by decide⟩ ⟨rfl,by decide⟩ ⟨rfl,by decide⟩ fun v6 p6 c6 G ra6 in6 s6 u6=>?_
 refine Zai fun q7 v7 hq7 u7 b7=>?_
 refine St4q b7 rfl rfl rfl rfl fun v8 u8 b8=>?_
 have hb8:=b8.cell
 have U78:Upd [] v6 v8:=u7.fresh u8 (by intro k hk;simp at hk;omega)
 have U28:Upd [] v2 v8:=((((u3.after u4).after u5).after u6).after U78)
 have U18:Upd [] v1 v8:=u2.after U28
 simp only[X_,hb8]
 have hrl:=hm2.lt
 have rG:r∉G:=fun hx=>by have:=s6 r hx;have:=u3.size;have:=u4.size;have:=u5.size;omega
 have h8:Hp w v8 d1 (r::G):=by
  have:=h1.watch U18 (Y:=r::G) (fun k hk=>by
   rcases List.mem_cons.1 hk with e | e
   ·omega
   ·have:=s6 k e;have:=u2.size;have:=u3.size;have:=u4.size;have:=u5.size;omega) (fun k hk=>by
   rcases List.mem_cons.1 hk with e | e
   ·have:=U28.size;omega
   ·exact(in6.upd U78) k e)
  rw[List.append_nil] at this;exact this
 have rightF:(tmF (tV 3) (tI (-7)) (tV 3)).right=true:=by
  unfold tmF tV tI
  simp [Tm.right,rightL,partT,noBytes,fS,ByteArray.size]
 have ck:checkT (tmF (tV 3) (tI (-7)) (tV 3))=0:=by
  unfold checkT
  rw[rightF];rfl
 have nd:need (tmF (tV 3) (tI (-7)) (tV 3)) []=5:=by rfl
 refine Zvg (F:=G) (E:=G) (tmF (tV 3) (tI (-7)) (tV 3)) (V:=[]) (RdA.keep U78 ra6) (fun k hk=>hk) ck h8 fr.hi (by show 0+4<16000;omega) (by have:=U1.size;omega) rG (hm2.upd U28 (by simp)) ⟨by simp,by simp,by simp⟩ (fun hl=>?_) (fun hl v9 d9 C9 V9 x h9 hi9 hlen9 _ hkeys9 _ hv9 hm9 rep9 xf kin9 _ _ acy9 _ f9=>?_)
 ·exfalso
  have:need (tmF (tV 3) (tI (-7)) (tV 3)) (([]:List (Int×Nat)).map (·.1))=5:=nd
  rw[fr.lim,this] at hl
  simp at hl
 have hlen9:C9.length=5:=hlen9
 have hkeys9:V9.map (·.1)=[3]:=hkeys9
 obtain⟨i,rfl⟩:∃i,V9=[(3,i)]:=by
  match V9,hkeys9 with
  | [(a,i)],h=>simp at h;subst h;exact⟨i,rfl⟩
 have ac9:Acy C9 d9.L d9.FL:=acy9 (Acy.nil d1.FL fr.hi.n64)
 have hil:=(List.getElem?_eq_some_iff.1 (hv9.cell (3,i) (by simp)).2).1
 have ex9:Ev C9 d9.L d9.FL (tmF (tV i) (tI (-7)) (tV i)) x:=by
  have:=Rep.ev hv9.once _ rep9 rightF
  have e:(tmF (tV 3) (tI (-7)) (tV 3)).ren (cellOf [(3,i)])=tmF (tV i) (tI (-7)) (tV i):=by
   have ec:cellOf [(3,i)] 3=i:=Zm6 (V:=[(3,i)]) (by simp) (by simp)
   unfold tmF tV tI
   simp [Tm.ren,renL,ec]
  rw[e] at this;exact this
 have xr9:=(rep9.self rightF).2
 have xd9:=(rep9.self rightF).1
 rw[←kin9.a]
 refine Zuf h9 fun v10 p10 b10 h10 wr10 u10=>?_
 refine ZrE (xs:=[x]) (ts:=[tmF (tV i) (tI (-7)) (tV i)]) h10 hi9 wr10 (by show 1<2^16;omega) (by simpa using xf) (by simpa using xr9) rfl (fun k h1 h2=>by
  have:k=0:=by have:k<1:=h1;omega
  subst this;exact ex9) (fun hb=>absurd rfl hb) fun _ v11 p11 c11 vp vc Y RL h11 ra11 wr11 hRL hroots sY inY f11=>?_
 rw[List.map_singleton,Zxr] at ra11
 have eRL:RL=[i]:=by
  have e:varsL [tmF (tV (i:Int)) (tI (-7)) (tV (i:Int))] []=[(i:Int)]:=by rw[varsL,varsL,ZuA]
  rw[e] at hRL
  match RL,hRL with
  | [a],h=>
   simp at h
   have:a=i:=by omega
   rw[this]
 subst eRL
 have lim9:d9.pd.limit=100:=by rw[kin9.limit,fr.lim]
 refine Ztt (m:=3) (n:=⟨#[102]⟩) h11 hi9 (by show 0+4<16000;omega) (by decide) (by omega) (by omega) (fun hl=>by omega) fun hl v12 d12 id h12 hi12 hat12 kin12 hsL hsF f12=>?_
 rw[←kin12.a]
 obtain⟨C12,eC12⟩:∃C12,C12=C9 ++ .fn id::refs (C9.length+1) 3:=⟨_,rfl⟩
 rw[←eC12] at hi12
 have cfn:C12[C9.length]?=some (.fn id):=by rw[eC12,List.getElem?_append_right (by omega),Nat.sub_self,List.getElem?_cons_zero]
 have cref:∀k,k<3→C12[C9.length+1+k]?=some (.ref (C9.length+1+k)):=fun k hk=>by
  rw[eC12,List.getElem?_append_right (by omega),show C9.length+1+k-C9.length=k+1 by omega,List.getElem?_cons_succ,ZoP _ _ _ hk]
 have en12:Ev C12 d12.L d12.FL (tmF (tV ((C9.length+1:Nat):Int)) (tV ((C9.length+2:Nat):Int)) (tV ((C9.length+3:Nat):Int))) (.str C9.length):=
  Zyh cfn hat12 (by decide) (cref 0 (by omega)) (cref 1 (by omega)) (cref 2 (by omega))
 have ac12:Acy C12 d12.L d12.FL:=by rw[eC12];exact(ac9.grow hsL hsF hi12.n64).comp hi12.n64 hat12
 have ex12:Ev C12 d12.L d12.FL (tmF (tV i) (tI (-7)) (tV i)) x:=by rw[eC12];exact Ev.more hsL hsF _ ex9
 have xr12:rightW C12 d12.L x=true:=by rw[eC12];exact Zpp (ZrX xr9 hsL)
 have sf12:(Wd.str C9.length).fits:=⟨by show -2^60≤(C9.length:Int);omega,by show (C9.length:Int)<2^60;omega⟩
 have sr12:rightW C12 d12.L (.str C9.length)=true:=ZcL.2 ⟨id,cfn⟩
 have sd12:∀{C:List Wd},Der C (.str C9.length) (.str C9.length):=⟨0,.stop (by simp [Wd.tag])⟩
 refine Zya (x:=.str C9.length) (q:=2) (m:=3) h12 hi12 sf12 sr12 sd12 cfn hat12 (by omega) (fun hn=>absurd ⟨by omega,by omega⟩ hn) fun _ _ v13 h13 f13=>?_
 have e2:Wd.ref (C9.length+(2:Int).toNat)=Wd.ref (C9.length+2):=rfl
 rw[e2]
 have st12:d12.starts=[0]:=by rw[kin12.starts,kin9.starts,fr.starts]
 refine ZsU (s:=0) h13 hi12 xf sf12 xr12 sr12 (by rw[st12];rfl) (.inl rfl) fun ok v14 d14 C14 h14 hi14 bd hsol hno f14=>?_
 rw[←bd.a]
 have wf14:WF C14 d12.L d12.FL:=by have:=hi14.wf;rw[bd.L,bd.FL] at this;exact this
 obtain⟨rfl,t14,et14,esz,edp,enum,hder⟩:=ZtY hi12.wf ac12 wf14 (bd.acy ac12) bd.ext bd.rw_ (n:=C9.length) (i:=i) (by omega) xr12 sr12 ex12 en12 ok hsol hno
 have sr14:rightW C14 d14.L (.str C9.length)=true:=by rw[bd.L,bd.rw_];exact sr12
 refine Zuf h14 fun v15 p15 b15 h15 wr15 u15=>?_
 refine ZrE (xs:=[.str C9.length]) (ts:=[t14]) h15 hi14 wr15 (by show 1<2^16;omega) (by simpa using sf12) (by simpa using sr14) rfl (fun k h1 h2=>by
  have:k=0:=by have:k<1:=h1;omega
  subst this
  rw[bd.L,bd.FL];exact et14) (fun hb=>absurd (by unfold decE;rw[if_neg (by omega),if_neg (by omega)];rfl) hb) fun _ v16 p16 c16 vp16 vc16 Y16 RL16 h16 ra16 _ _ _ sY16 inY16 f16=>?_
 rw[List.map_singleton,enum] at ra16
 refine ZwF (.inl (by omega)) ?_
 have F1:Far (Y++(b10::r::G)) v11 v16:=((((f12.then (f13.less fun k hk=>by simp at hk ⊢;rcases hk with g | g | g <;> simp [g])).then f14).after u15).then (f16.less fun k hk=>by simp at hk ⊢;rcases hk with g | g | g <;> simp [g]))
 have ra11':=RdA.far F1 (fun k hk=>by simp [hk]) ra11
 have wr11':WRow v16 (Y++(b10::r::G)) vp [(Wd.ref i).enc]:=by
  have:WRow v11 (Y++(b10::r::G)) vp [(Wd.ref i).enc]:=⟨wr11.1,fun x hx hn=>by have:=wr11.2 x hx hn;simp [this]⟩
  exact this.far F1
 have m16:MapAt v16 r (fun a:Int=>Value.int .i64 a) (vmM [(3,i)]):=MapAt.far (MapAt.far (hm9.upd u10 (by simp)) f11 (by simp)) F1 (by simp)
 have ud:=Zah v16
 refine ifT rfl (ifT rfl (ifT rfl (ifT rfl ?_)))
 obtain⟨xv,rfl,hcv⟩:=wr11'.at (i:=0) (by show 0<1;omega)
 have hcv:v16.cell? (xv.add 0)=some (.int .u64 (Wd.ref i).enc):=hcv
 simp only[X_,Int.toNat_zero,Nat.zero_mul,hcv]
 refine⟨by omega,by show (0:Int)<1;omega,?_⟩
 refine Zmg (z:=.int .u64 0) mapKey (by rfl) ⟨_,by rfl,by rfl⟩ (m16.upd ud (by simp)) ?_
 have elook:(Go.D.look (3:Int) (vmM [(3,i)])).getD (.int .u64 0)=.int .u64 (Wd.ref i).enc:=by rw[ZsX];rfl
 rw[elook]
 refine⟨_,rfl,by simp only[X_,hcv],ifT (by simp) ?_⟩
 have in16:In (Y++(b10::r::G)) v16:=by
  obtain⟨X,ux,dx⟩:=F1
  exact(show In (Y++(b10::r::G)) v11 from fun k hk=>h11.inn k (List.mem_append.2 (.inr hk))).upd ux
 obtain⟨x1,q1,c1,rfl,hxb1,hc1,ra1⟩:=(RdA.keep ud (RdA.sub (G:=Y++(b10::r::G)) (fun k hk=>by simp [hk]) (.mk 0 0 ⟨#[]⟩ _) ra11')).one (i:=0) (by show 0<1;omega) (in16.upd ud)
 obtain⟨x2,q2,c2,rfl,hxb2,hc2,ra2⟩:=(RdA.keep ud ra16).one (i:=0) (by show 0<1;omega) ((show In Y16 v16 from inY16).upd ud)
 have a0':(drw v16).cell? (x1.add 0)=some (.int .i64 4):=hc1 0 (by omega)
 have a1':(drw v16).cell? (x1.add 1)=some (.int .i64 0):=hc1 1 (by omega)
 have a2':(drw v16).cell? (x1.add 2)=some (.string fS):=hc1 2 (by omega)
 have a3':(drw v16).cell? (x1.add 3)=some (.slice q1 3 c1):=hc1 3 (by omega)
 have b0':(drw v16).cell? (x2.add 0)=some (.int .i64 4):=hc2 0 (by omega)
 have b1':(drw v16).cell? (x2.add 1)=some (.int .i64 0):=hc2 1 (by omega)
 have b2':(drw v16).cell? (x2.add 2)=some (.string fS):=hc2 2 (by omega)
 have b3':(drw v16).cell? (x2.add 3)=some (.slice q2 3 c2):=hc2 3 (by omega)
 simp only[drw_cell] at a0' a1' a2' a3' b0' b1' b2' b3'
 refine⟨by omega,by show (0:Int)<1;omega,?_⟩
 simp only[X_,addA,Int.toNat_zero,Nat.zero_mul,Nat.zero_add,a0',a1',a2',a3']
 have sm:∀{z z':World} {x:Addr},Upd [] z z'→x.block<z.heap.size→∀i_,i_<4→z'.cell? (x.add i_)=z.cell? (x.add i_):=fun u hx i_ _=>Upd.same u (by rw[ZkO];exact hx)
 refine ZrP fun v17 u17=>⟨sm (ud.after u17) hxb1,ZvC fun v18 u18=>⟨sm (ud.after (u17.after u18)) hxb1,ZrP fun v19 u19=>⟨sm (ud.after ((u17.after u18).after u19)) hxb1,?_⟩⟩⟩
 have U19:=(u17.after u18).after u19
 refine mkRow (a:=tV 0) (b:=tI (-7)) (c:=tV 0) ⟨rfl,by decide⟩ ⟨rfl,by decide⟩ ⟨rfl,by decide⟩ fun v20 t20 i20 u20=>⟨sm (ud.after (U19.after u20)) hxb1,?_⟩
 refine Zuu (F:=[v19.heap.size]) (l:=[tV 0,tI (-7),tV 0]) t20 i20 (by show 3<2^29;omega) (by simp) fun v21 p21 c21 G21 ra21 in21 s21 u21=>⟨sm (ud.after ((U19.after u20).after u21)) hxb1,?_⟩
 have U21:=(U19.after u20).after u21
 refine ZsE tmT0 (p:=q1) (q:=p21) (RdA.keep U21 ra1) ra21 (by decide) fun v22 u22=>ifT rfl (ifT rfl (ifT rfl (ifT rfl (ifT rfl (ifT rfl (ifT rfl ?_))))))
 have U22:=U21.after u22
 have e22:∀{x:Addr} {i_:Nat},x.block<(drw v16).heap.size→v22.cell? (x.add i_)=v16.cell? (x.add i_):=fun hx=>Upd.same (ud.after U22) (by rw[ZkO];exact hx)
 refine⟨by omega,by show (0:Int)<1;omega,?_⟩
 simp only[X_,addA,Int.toNat_zero,Nat.zero_mul,Nat.zero_add,e22 hxb2,b0',b1',b2',b3']
 refine⟨by omega,by show (0:Int)<1;omega,?_⟩
 simp only[X_,addA,Int.toNat_zero,Nat.zero_mul,Nat.zero_add,e22 hxb1,a0',a1',a2',a3']
 refine ZsE tmT0 (p:=q2) (q:=q1) (RdA.keep U22 ra2) (RdA.keep U22 ra1) (by decide) fun v23 u23=>ifT rfl ?_
 have U23:=(ud.after U22).after u23
 have h23:=h16.keep U23
 obtain⟨ix,idx,rfl,_,hcx,hatx,_⟩:∃i id,x=.str i∧True∧C9[i]?=some (.fn id)∧At d9.L d9.FL id fS ((3:Nat):Int)∧True:=by
  have:=rep9
  rw[Rep.eq,if_neg (by show ¬(4:Int)=1;decide),if_neg (by show ¬(4:Int)=2;decide),if_neg (by show ¬(4:Int)=3;decide)] at this
  obtain⟨i,id,a,_,b,c,_⟩:=this
  exact⟨i,id,a,trivial,b,c,trivial⟩
 have hcx12:C12[ix]?=some (.fn idx):=by rw[eC12];exact ZoV hcx
 have hcx14:=bd.ext.fn hcx12
 have xr14:rightW C14 d14.L (.str ix)=true:=ZcL.2 ⟨idx,hcx14⟩
 have hat14:At d14.L d14.FL idx fS ((3:Nat):Int):=by rw[bd.L,bd.FL];exact hatx.stay hsL hsF
 refine Zxp (s:=fS) (m:=3) h23 hi14 xf xr14 ⟨0,.stop (by simp [Wd.tag])⟩ hcx14 hat14 fun v24 h24 f24=>ifT rfl ?_
 have hl14:C14.length=C9.length+4:=by rw[bd.ext.len,eC12];simp [ZkC]
 have fa:(Wd.ref (C9.length+2)).fits:=ZlI (by omega)
 have ra14:rightW C14 d14.L (.ref (C9.length+2))=true:=by
  rw[bd.L,bd.rw_]
  exact Za2.2 ⟨_,cref 1 (by omega),by simp [Wd.tag]⟩
 obtain⟨y,hy⟩:=hi14.wf.der _ ra14
 have hyne:=hder y hy
 refine ZsV h24 hi14 fa ra14 hy fun v25 h25 f25=>ifT ?_ (ifT rfl ?_)
 ·have hyf:y.fits:=hy.choose_spec.fits hi14.ok.fits fa
  simp only[bne_iff_ne,ne_eq]
  exact fun hh=>hyne (Wd.enc_inj hyf fa hh)
 obtain⟨g1,g2,g3⟩:=h25.tabs
 refine(getters h25).1 (ifT (by simp [Po.PlD.a]) ((getters h25).2.1 (ifT (by simp [g1]) ((getters h25).2.2.1 (ifT (by simp [g2]) ((getters h25).2.2.2 (ifT (by simp [g3]) ?_)))))))
 refine ZxU h25 hi14 (fun hn=>absurd ⟨by omega,by omega⟩ hn) fun z hz v26 h26 u26=>?_
 have:(z.enc != 0)=true:=by simp only[bne_iff_ne,ne_eq];exact Zxu z
 rw[this]
 exact hK v26 h26.U
end
end Go.Proofs.YtdaenijbokialaaGreat
