import Derived.Test.YtdaenijbokialaaGreatAny
namespace Go.Proofs.YtdaenijbokialaaGreat
open Go Go.D Go.Proofs
set_option linter.unusedSimpArgs false
set_option linter.unusedVariables false
set_option maxRecDepth 8000
namespace Ro
def kp (f:Nat→Bool):Nat→List Int→List Int
 | _,[]=>[]
 | k,x::r=>(if f k then [x] else [])++kp f (k+1) r
structure Asks (del:Value) (f:Nat→Bool) (L:List Int) (I:Nat→List Nat→World→Prop):Prop where
 keep:∀k H w w' G,I k H w→Upd G w w'→Dis H G→I k H w'
 inn:∀k H w,I k H w→In H w
 ask:∀k H w K (hk:k<L.length),I k H w→(∀H' w',I (k+1) H' w'→Upd H w w'→Sub H' H w→K (.bool (f k)) w')→CallV Tryz.prog del [.int .u64 L[k]] w K
theorem ZqT {del:Value} {f:Nat→Bool} {L:List Int} {I:Nat→List Nat→World→Prop} (hA:Asks del f L I) {w:World} {p:Option Addr} {n c:Nat} {G H:List Nat} {K:Int→World→Prop}
  (hs:SlAt w 1 p n c (L.map (.int .u64)) G) (hI:I 0 H w) (hd:Dis H G) (hl:L.length<2^40)
  (hno:∀H' w',(∀q,q<L.length→f q=false)→I L.length H' w'→Upd H w w'→Sub H' H w→K (-1) w')
  (hyes:∀k H' w' (hk:k<L.length),(∀q,q<k→f q=false)→f k=true→I (k+1) H' w'→Upd H w w'→Sub H' H w→K k w'):ZbS p n c del w K:=by
 apply ZbS.of
 unfold ZgW Zfu
 have hn:=len_n hs
 refine⟨fun s v=>0≤s.t8∧s.t8≤n∧(∀q,q<s.t8.toNat→f q=false)∧∃H',I s.t8.toNat H' v∧Upd H w v∧Sub H' H w,fun s _=>(n-s.t8).toNat,⟨by simp,by simp,by simp,H,hI,Upd.refl _ _,Sub.refl _ _⟩,?_⟩
 rintro⟨i⟩ v ⟨hi0,hi1,hf,H',hI',hu,hsub⟩
 unfold ZfE
 dsimp only at hi0 hi1 hf hI' ⊢
 have hd':Dis H' G:=hd.step hsub hs.inn
 refine ifC (fun hc=>?_) (fun hc=>?_)
 ·simp at hc
  have hsv:=hs.upd hu hd.symm
  obtain⟨b,o,rfl,hcell⟩:=ZpO hsv hi0 (by omega)
  simp only[X_,hcell]
  have hlt:i.toNat<L.length:=by omega
  refine⟨hi0,hc,hA.ask i.toNat H' v _ hlt hI' fun H2 v2 hI2 hu2 hs2=>⟨_,rfl,?_⟩⟩
  have U2:Upd H w v2:=hu.trans hu2 (fun _ h=>.inl h) hsub
  have S2:Sub H2 H w:=hsub.trans hs2 hu.size
  refine ifC (fun he=>?_) (fun he=>?_)
  ·have:=hyes i.toNat H2 v2 hlt hf he hI2 U2 S2
   rwa [Int.toNat_of_nonneg hi0] at this
  ·rw[i64id (by omega) (by omega)]
   have e:(i+1).toNat=i.toNat+1:=by omega
   refine⟨⟨by omega,by omega,?_,H2,by rw[e];exact hI2,U2,S2⟩,by simp;omega⟩
   intro q hq
   rw[e] at hq
   by_cases h:q<i.toNat
   ·exact hf q h
   ·rw[show q=i.toNat by omega];exact he
 ·simp at hc
  have e:i.toNat=L.length:=by omega
  rw[e] at hf hI'
  exact hno H' v hf hI' hu hsub
end Ro
open Ro
open Ro
theorem six {A B C D E F:List Nat} (h:[A,B,C,D,E,F].Pairwise Dis):(Dis A B∧Dis A C∧Dis A D∧Dis A E∧Dis A F)∧(Dis B C∧Dis B D∧Dis B E∧Dis B F)∧(Dis C D∧Dis C E∧Dis C F)∧(Dis D E∧Dis D F)∧Dis E F:=by
 simpa [List.pairwise_cons] using h
section
variable {w:World}
theorem ZxE {x y:Int} {K:Bool→World→Prop} (hK:K (decide (x<y)) w):Zi3 x y w K:=by
 apply Zi3.of
 unfold Zqr Znz
 apply ZdI.of
 unfold ZnH
 exact ifF (by simp) hK
theorem ZtA {p:Option Addr} {n c:Nat} {L:List Int} {F:List Nat} {t:Int} {K:Int→Bool→World→Prop} (h:SlAt w 1 p n c (L.map (.int .i64)) F) (hr:L.Pairwise fun a b=>a<b) (hl:L.length<2^38)
  (hK:∀(i:Nat) b,i≤L.length→(∀j (hj:j<L.length),j<i→L[j]<t)→(∀j (hj:j<L.length),i≤j→t≤L[j])→K i b w) :
  ZbO p n c t w K:=by
 apply ZbO.of
 unfold ZgJ Zfo Zfy
 have hn:n=L.length:=by have:=h.1;rw[List.length_map] at this;omega
 have lt:∀{i j:Nat} (hj:j<L.length) (hij:i<j),L[i]'(by omega)<L[j]:=fun hj hij=>List.pairwise_iff_getElem.1 hr _ _ (by omega) hj hij
 refine⟨fun s v=>v=w∧0≤s.i∧s.i≤s.j∧s.j≤n∧(∀j (hj:j<L.length),(j:Int)<s.i→L[j]<t)∧(∀j (hj:j<L.length),s.j≤(j:Int)→t≤L[j]),fun s _=>(s.j-s.i).toNat,⟨rfl,by simp,by simp,by simp,fun j hj h=>by simp at h;omega,fun j hj h=>by simp at h;omega⟩,?_⟩
 rintro⟨i,j⟩ v ⟨rfl,h0,h1,h2,h3,h4⟩
 dsimp only at h0 h1 h2 h3 h4
 unfold ZfB
 dsimp only
 refine ifC (fun hc=>?_) (fun hc=>?_)
 ·simp only[decide_eq_true_eq] at hc
  rw[Po.mid_eq (by omega) (by omega)]
  obtain⟨m,hm⟩:∃m:Nat,(i+j) / 2=m:=⟨((i+j) / 2).toNat,by omega⟩
  rw[hm]
  have hm1:i≤m∧(m:Int)<j:=by omega
  have hml:m<L.length:=by omega
  obtain⟨b,off,hp,c1⟩:=Zmv h hml
  simp only[hp,X_,Int.toNat_natCast,Nat.mul_one,c1]
  refine⟨by omega,by omega,by omega,ZxE (ifC (fun hc2=>?_) (fun hc2=>?_))⟩
  ·have hlt:=of_decide_eq_true hc2
   rw[i64id (by omega) (by omega)]
   refine⟨⟨rfl,by omega,by omega,h2,fun k hk hk2=>?_,h4⟩,by omega⟩
   by_cases hkm:k=m
   ·subst hkm;exact hlt
   ·have:=lt hml (show k<m by omega);omega
  ·have hge:=of_decide_eq_false hc2
   refine⟨⟨rfl,h0,by omega,by omega,h3,fun k hk hk2=>?_⟩,by omega⟩
   by_cases hkm:k=m
   ·subst hkm;omega
   ·have:=lt hk (show m<k by omega);omega
 ·simp only[decide_eq_false_iff_not] at hc
  obtain rfl:j=i:=by omega
  obtain⟨m,rfl⟩:∃m:Nat,j=m:=⟨j.toNat,by omega⟩
  have fin:∀b,K (m:Int) b v:=fun b=>hK m b (by omega) (fun k hk hk2=>h3 k hk (by omega)) (fun k hk hk2=>h4 k hk (by omega))
  refine ifC (fun hc2=>?_) (fun hc2=>fin _)
  simp only[decide_eq_true_eq] at hc2
  have hml:m<L.length:=by omega
  obtain⟨b,off,hp,c1⟩:=Zmv h hml
  simp only[hp,X_,Int.toNat_natCast,Nat.mul_one,c1]
  refine⟨by omega,by omega,ifC (fun _=>fin _) fun _=>⟨by omega,by omega,?_⟩⟩
  apply Zec.of
  unfold ZmD
  exact ifF (by simp) (fin _)
end
section
variable {w v v':World} {d:HpD} {E:List Nat} {C:List Wd} {k0:Nat}
theorem Hp.mark (h:Hp w v d E) {i:Nat} (hi:i<d.marks.length):∃b off,d.mp=some ⟨b,off,none⟩∧d.MG=[b]∧v.cell? ⟨b,off+i,none⟩=some (.int .i64 d.marks[i]):=by
 rcases h.mr.2.2 with ⟨_,hc,_⟩ | ⟨b,off,arr,hp,hG,hb,hs,hc⟩
 ·have:=h.mr.2.1;omega
 ·refine⟨b,off,hp,hG,?_⟩
  rw[hb.cell,hc _ (by omega),List.getElem?_map,List.getElem?_eq_getElem hi];rfl
end
open Ro
end Go.Proofs.YtdaenijbokialaaGreat
