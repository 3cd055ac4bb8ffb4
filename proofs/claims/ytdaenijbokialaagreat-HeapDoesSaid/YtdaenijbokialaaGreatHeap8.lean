import Derived.Test.YtdaenijbokialaaGreatKeyT
import Derived.Test.YtdaenijbokialaaGreatPool6
import Derived.Test.YtdaenijbokialaaGreatRoom2
import Derived.Test.YtdaenijbokialaaGreatFun5
namespace Go.Proofs.YtdaenijbokialaaGreat
open Go Go.D Go.Proofs
set_option linter.unusedSimpArgs false
set_option linter.unusedVariables false
set_option maxRecDepth 8000
inductive Wd where
 | ref (i:Nat)
 | str (i:Nat)
 | atom (i:Nat)
 | int (n:Int)
 | fn (i:Nat)
 deriving DecidableEq
def Wd.tag:Wd→Int
 | .ref _=>1
 | .str _=>2
 | .atom _=>3
 | .int _=>4
 | .fn _=>5
def Wd.num:Wd→Int
 | .ref i=>i
 | .str i=>i
 | .atom i=>i
 | .int n=>n
 | .fn i=>i
def Wd.enc (x:Wd):Int:=mkW x.tag x.num
def Wd.fits (x:Wd):Prop:=-2^60≤x.num∧x.num<2^60
theorem Wd.tag5 (x:Wd):1≤x.tag∧x.tag≤5:=by cases x <;> simp [Wd.tag]
theorem Zxq {t n:Int} (h0:0≤t) (h1:t≤7):0≤mkW t n∧mkW t n<2^64:=by unfold mkW;omega
theorem Zvw {t n:Int} (h0:0≤t) (h1:t≤7):mkW t n % 8=t:=by unfold mkW;omega
theorem Zxw {t n:Int} (h0:1≤t) (h1:t≤7) (h2:-2^60≤n) (h3:n<2^60):numW (mkW t n)=n:=by
 unfold numW
 rw[Zvw (by omega) h1,if_neg (by omega)]
 unfold mkW
 by_cases h:n<0
 ·rw[if_neg (by omega)];omega
 ·rw[if_pos (by omega)];omega
theorem Wd.enc_bnd (x:Wd):0≤x.enc∧x.enc<2^64:=Zxq (by have:=x.tag5;omega) (by have:=x.tag5;omega)
theorem Wd.enc_tag (x:Wd):x.enc % 8=x.tag:=Zvw (by have:=x.tag5;omega) (by have:=x.tag5;omega)
theorem Wd.enc_num {x:Wd} (h:x.fits):numW x.enc=x.num:=Zxw (by have:=x.tag5;omega) (by have:=x.tag5;omega) h.1 h.2
theorem Wd.enc_inj {x y:Wd} (hx:x.fits) (hy:y.fits) (h:x.enc=y.enc):x=y:=by
 have h1:=congrArg numW h
 rw[x.enc_num hx,y.enc_num hy] at h1
 have h2:x.enc % 8=y.enc % 8:=by rw[h]
 rw[x.enc_tag,y.enc_tag] at h2
 cases x <;> cases y <;> simp [Wd.tag] at h2 <;> simp only[Wd.num] at h1 <;> first | (congr 1;omega) | (subst h1;rfl)
theorem Zxz {x:Int} (h0:0≤x) (h1:x<2^64) (h:x % 8≠0):x=mkW (x % 8) (numW x):=by
 unfold mkW numW
 rw[if_neg h]
 split <;> omega
def refs (i n:Nat):List Wd:=(List.range n).map fun k=>.ref (i+k)
theorem ZkC (i n:Nat):(refs i n).length=n:=by simp [refs]
theorem ZoP (i n k:Nat) (h:k<n):(refs i n)[k]?=some (.ref (i+k)):=by simp [refs,h]
section
variable {w:World}
theorem Zr5 {x:Wd} {K:Int→World→Prop} (hf:x.fits) (hK:K x.enc w):ZdJ x.tag x.num w K:=by
 apply ZdJ.of
 unfold Zpj
 have:=x.tag5
 exact ZxQ (fun _ _ _ _=>hK) (fun h=>absurd ⟨this.1,by omega,hf.1,hf.2⟩ h)
theorem ZqR {i:Nat} {K:Int→World→Prop} (hf:i<2^60) (hK:K (Wd.ref i).enc w):Zc7 (i:Int) w K:=by
 apply Zc7.of
 unfold Zqi
 exact Zr5 (x:=.ref i) ⟨by show -2^60≤(i:Int);omega,by show (i:Int)<2^60;omega⟩ hK
theorem Zqa {x:Wd} {t:Int} {K:Bool→World→Prop} (hK:K (decide (x.tag=t)) w):Zdv x.enc t w K:=by
 refine Zyk x.enc_bnd.1 x.enc_bnd.2 ?_
 rw[x.enc_tag]
 have h5:=x.tag5
 have:decide (0<t∧x.tag=t)=decide (x.tag=t):=by
  by_cases h:x.tag=t
  ·rw[decide_eq_true h,decide_eq_true ⟨by omega,h⟩]
  ·rw[decide_eq_false h,decide_eq_false (fun hh=>h hh.2)]
 rw[this];exact hK
theorem Zpa {x:Wd} {K:Int→World→Prop} (hf:x.fits) (hK:K x.num w):Zaz x.enc w K:=by
 refine Ztl x.enc_bnd.1 x.enc_bnd.2 ?_
 rw[x.enc_num hf];exact hK
theorem ZvV {x:Wd} {K:Int→World→Prop} (hK:K x.tag w):Zem x.enc w K:=by
 refine Zus x.enc_bnd.1 x.enc_bnd.2 ?_
 rw[x.enc_tag];exact hK
theorem Zsg {x:Wd} {K:Bool→World→Prop} (hK:K (decide (x.tag=1)) w):Zdd x.enc w K:=by
 apply Zdd.of
 unfold ZmG
 exact Zqa hK
theorem Zsi {x:Wd} {i:Int} {K:Int→World→Prop} (hf:x.fits) (hi:-2^62≤i∧i<2^62) (hK:K (x.num+i) w):Zel x.enc i w K:=by
 apply Zel.of
 unfold ZqN
 obtain⟨h1,h2⟩:=hf
 refine Zpa ⟨h1,h2⟩ ?_
 rw[i64id (by omega) (by omega)]
 exact hK
end
structure HpD where
 b:Nat
 pd:Po.PlD
 tm:Option Addr
 TL:List Int
 tlim:Int
 tmost:Int
 TF:List Nat
 cp:Option Addr
 cc:Nat
 cells:List Int
 CG:List Nat
 sp:Option Addr
 sc:Nat
 starts:List Int
 SG:List Nat
 mp:Option Addr
 mc:Nat
 marks:List Int
 MG:List Nat
 at_:Option Addr
 ft:Option Addr
 L:List Slot
 made:Int
 alim:Int
 FL:List Fn.Slot
 flim:Int
 fd:Fn.FtD
def HpD.a (d:HpD):Option Addr:=some ⟨d.b,0,none⟩
def HpD.parts (d:HpD):List (List Nat):=[[d.b],d.pd.FT,d.TF,d.CG,d.SG,d.MG]
def HpD.F (d:HpD):List Nat:=d.b::(d.pd.FT++(d.TF++(d.CG++(d.SG++d.MG))))
structure Hp (w v:World) (d:HpD) (E:List Nat):Prop where
 blk:Blk v d.b #[.pointer d.pd.a,.pointer d.tm,.pointer d.at_,.pointer d.ft,.slice d.cp d.cells.length d.cc,.slice d.sp d.starts.length d.sc,.slice d.mp d.marks.length d.mc]
 pl:Po.Pl v d.pd
 plok:Po.PlOk d.pd
 tr:Ro.RoomAt v d.tm d.TL d.tlim d.tmost d.TF
 cs:SlAt v 1 d.cp d.cells.length d.cc (d.cells.map (.int .u64)) d.CG
 st:SlAt v 1 d.sp d.starts.length d.sc (d.starts.map (.int .i64)) d.SG
 mr:SlAt v 1 d.mp d.marks.length d.mc (d.marks.map (.int .i64)) d.MG
 bf:Bf w v (d.F++E) d.at_ d.ft d.L d.made d.alim d.FL d.flim d.fd
 dis:(d.parts++[E]).Pairwise Dis
 sf:Since d.F w
section
variable {w v v':World} {d:HpD} {E:List Nat}
theorem Hp.U (h:Hp w v d E):Upd [] w v:=h.bf.U
theorem Zrq {d:HpD} {k:Nat}:k∈d.F↔∃P∈d.parts,k∈P:=by
 unfold HpD.F HpD.parts
 simp
theorem Hp.inn (h:Hp w v d E):In (d.F++E) v:=fun k hk=>h.bf.tl.in_ k (by simp only[List.mem_append] at hk ⊢;exact .inr hk)
theorem Hp.upd {F:List Nat} (h:Hp w v d E) (u:Upd F v v') (hd:Dis d.F F) (hE:∀x∈F,x∈E) (hS:Since F w) {E':List Nat} (hE':Sub E' E v) (hin:In E' v'):Hp w v' d E':=by
 have m:∀k,k∈d.F→k∉F:=hd
 have e:=h.dis
 refine⟨h.blk.upd u (m _ (by simp [HpD.F])),h.pl.upd u (fun k hk=>m k (by simp [HpD.F,hk])),h.plok,h.tr.upd u (fun k hk=>m k (by simp [HpD.F,hk])),h.cs.upd u (fun k hk=>m k (by simp [HpD.F,hk])),h.st.upd u (fun k hk=>m k (by simp [HpD.F,hk])),h.mr.upd u (fun k hk=>m k (by simp [HpD.F,hk])),?_,?_,h.sf⟩
 ·refine h.bf.own u (fun x hx=>by simp [hE x hx]) hS (fun k hk=>?_) (fun k hk=>?_)
  ·rcases List.mem_append.1 hk with h1 | h1
   ·left;simp [h1]
   ·exact(hE' k h1).imp (by intro h;simp [h]) id
  ·rcases List.mem_append.1 hk with h1 | h1
   ·exact(show In d.F v from fun k hk=>h.inn k (by simp [hk])).upd u k h1
   ·exact hin k h1
 ·rw[List.pairwise_append] at e ⊢
  refine⟨e.1,by simp,fun P hP Q hQ=>?_⟩
  simp at hQ
  subst hQ
  have hPE:Dis P E:=e.2.2 P hP E (by simp)
  exact(hPE.symm.step hE' (fun k hk=>h.inn k (by simp [Zrq];left;exact⟨P,hP,hk⟩))).symm
theorem Hp.keep (h:Hp w v d E) (u:Upd [] v v'):Hp w v' d E:=
 h.upd u (by intro k _ h;cases h) (by simp) (by intro k hk;cases hk) (Sub.refl _ _) ((show In E v from fun k hk=>h.inn k (by simp [hk])).upd u)
theorem Hp.less (h:Hp w v d E) {E':List Nat} (hs:∀k∈E',k∈E):Hp w v d E':=
 h.upd (Upd.refl [] v) (by intro k _ h;cases h) (by simp) (by intro k hk;cases hk) (fun k hk=>.inl (hs k hk)) (fun k hk=>h.inn k (by simp [hs k hk]))
theorem Hp.watch (h:Hp w v d E) (u:Upd [] v v') {Y:List Nat} (hY:Since Y v) (hin:In Y v'):Hp w v' d (Y++E):=
 h.upd u (by intro k _ h;cases h) (by simp) (by intro k hk;cases hk) (fun k hk=>by
  rcases List.mem_append.1 hk with h1 | h1
  ·exact .inr (hY k h1)
  ·exact .inl h1) (fun k hk=>by
  rcases List.mem_append.1 hk with h1 | h1
  ·exact hin k h1
  ·exact(show In E v from fun k hk=>h.inn k (by simp [hk])).upd u k h1)
theorem Hp.tables (h:Hp w v d E) {L:List Slot} {made:Int} {FL:List Fn.Slot} {fd:Fn.FtD} (b:Bf w v' (d.F++E) d.at_ d.ft L made d.alim FL d.flim fd) (f:Far (d.F++E) v v'):Hp w v' { d with L:=L,made:=made,FL:=FL,fd:=fd } E:=by
 obtain⟨F,u,hd⟩:=f
 have m:∀k,k∈d.F→k∉F:=fun k hk=>hd k (by simp [hk])
 exact⟨h.blk.upd u (m _ (by simp [HpD.F])),h.pl.upd u (fun k hk=>m k (by simp [HpD.F,hk])),h.plok,h.tr.upd u (fun k hk=>m k (by simp [HpD.F,hk])),h.cs.upd u (fun k hk=>m k (by simp [HpD.F,hk])),h.st.upd u (fun k hk=>m k (by simp [HpD.F,hk])),h.mr.upd u (fun k hk=>m k (by simp [HpD.F,hk])),b,h.dis,h.sf⟩
theorem pair6 {A B C D G H:List Nat} {E:List Nat}:([A,B,C,D,G,H]++[E]).Pairwise Dis↔
  (Dis A B∧Dis A C∧Dis A D∧Dis A G∧Dis A H∧Dis A E)∧(Dis B C∧Dis B D∧Dis B G∧Dis B H∧Dis B E)∧(Dis C D∧Dis C G∧Dis C H∧Dis C E)∧(Dis D G∧Dis D H∧Dis D E)∧(Dis G H∧Dis G E)∧Dis H E:=by
 simp
theorem Hp.six (h:Hp w v d E):(Dis [d.b] d.pd.FT∧Dis [d.b] d.TF∧Dis [d.b] d.CG∧Dis [d.b] d.SG∧Dis [d.b] d.MG∧Dis [d.b] E)∧(Dis d.pd.FT d.TF∧Dis d.pd.FT d.CG∧Dis d.pd.FT d.SG∧Dis d.pd.FT d.MG∧Dis d.pd.FT E)∧(Dis d.TF d.CG∧Dis d.TF d.SG∧Dis d.TF d.MG∧Dis d.TF E)∧(Dis d.CG d.SG∧Dis d.CG d.MG∧Dis d.CG E)∧(Dis d.SG d.MG∧Dis d.SG E)∧Dis d.MG E:=pair6.1 h.dis
theorem Hp.own {F X:List Nat} (h:Hp w v d E) (u:Upd F v v') (hF:∀x∈F,x∈d.F) (hs:Sub X d.F v) (hi:In X v'):Bf w v' (X++E) d.at_ d.ft d.L d.made d.alim d.FL d.flim d.fd:=
 h.bf.own u (fun x hx=>by simp [hF x hx]) (fun x hx=>h.sf x (hF x hx)) (fun k hk=>by
  rcases List.mem_append.1 hk with h1 | h1
  ·exact(hs k h1).imp (by intro h;simp [h]) id
  ·left;simp [h1]) (fun k hk=>by
  rcases List.mem_append.1 hk with h1 | h1
  ·exact hi k h1
  ·exact(show In E v from fun k hk=>h.inn k (by simp [hk])).upd u k h1)
end
theorem Zyc {v:World} {l:List (List Nat)} {j:Nat} {X:List Nat} (hj:j<l.length) (h:l.Pairwise Dis) (hi:∀P∈l,In P v) (hs:Sub X l[j] v):(l.set j X).Pairwise Dis:=by
 rw[List.pairwise_iff_getElem] at h ⊢
 intro a b ha hb hab
 have ha':a<l.length:=by simpa using ha
 have hb':b<l.length:=by simpa using hb
 by_cases h1:a=j
 ·subst h1
  rw[List.getElem_set_self,List.getElem_set_ne (by omega)]
  exact(h a b ha' hb' hab).step hs (hi _ (List.getElem_mem hb'))
 ·by_cases h2:b=j
  ·subst h2
   rw[List.getElem_set_self,List.getElem_set_ne (by omega)]
   exact((h a b ha' hb' hab).symm.step hs (hi _ (List.getElem_mem ha'))).symm
  ·rw[List.getElem_set_ne (by omega),List.getElem_set_ne (by omega)]
   exact h a b ha' hb' hab
section
variable {w v v':World} {d:HpD} {E:List Nat}
theorem Hp.inP (h:Hp w v d E):∀P∈d.parts++[E],In P v:=fun P hP k hk=>h.inn k (by
 rcases List.mem_append.1 hP with h1 | h1
 ·simp [Zrq];left;exact⟨P,h1,hk⟩
 ·simp at h1;subst h1;simp [hk])
theorem Hp.turn {F X:List Nat} (h:Hp w v d E) (u:Upd F v v') (hF:∀x∈F,x∈d.F) (d':HpD) (j:Nat) (hj:j<d.parts.length) (hp:d'.parts=d.parts.set j X) (hs:Sub X d.parts[j] v) (hX:In X v')
  (hb:d'.b=d.b) (e1:d'.at_=d.at_) (e2:d'.ft=d.ft) (e3:d'.L=d.L) (e4:d'.made=d.made) (e5:d'.alim=d.alim) (e6:d'.FL=d.FL) (e7:d'.flim=d.flim) (e8:d'.fd=d.fd)
  (blk:Blk v' d.b #[.pointer d'.pd.a,.pointer d'.tm,.pointer d.at_,.pointer d.ft,.slice d'.cp d'.cells.length d'.cc,.slice d'.sp d'.starts.length d'.sc,.slice d'.mp d'.marks.length d'.mc])
  (pl:Po.Pl v' d'.pd) (plok:Po.PlOk d'.pd) (tr:Ro.RoomAt v' d'.tm d'.TL d'.tlim d'.tmost d'.TF) (cs:SlAt v' 1 d'.cp d'.cells.length d'.cc (d'.cells.map (.int .u64)) d'.CG)
  (st:SlAt v' 1 d'.sp d'.starts.length d'.sc (d'.starts.map (.int .i64)) d'.SG) (mr:SlAt v' 1 d'.mp d'.marks.length d'.mc (d'.marks.map (.int .i64)) d'.MG):Hp w v' d' E:=by
 have hjE:j<(d.parts++[E]).length:=by simp;omega
 have sub:Sub d'.F d.F v:=fun k hk=>by
  obtain⟨P,hP,hkP⟩:=Zrq.1 hk
  rw[hp] at hP
  rcases List.mem_or_eq_of_mem_set hP with h1 | h1
  ·exact .inl (Zrq.2 ⟨P,h1,hkP⟩)
  ·subst h1
   exact(hs k hkP).imp (fun h2=>Zrq.2 ⟨_,List.getElem_mem hj,h2⟩) id
 have inn:In d'.F v':=fun k hk=>by
  obtain⟨P,hP,hkP⟩:=Zrq.1 hk
  rw[hp] at hP
  rcases List.mem_or_eq_of_mem_set hP with h1 | h1
  ·exact(h.inP P (by simp [h1])).upd u k hkP
  ·subst h1;exact hX k hkP
 refine⟨by rw[hb,e1,e2];exact blk,pl,plok,tr,cs,st,mr,by rw[e1,e2,e3,e4,e5,e6,e7,e8];exact h.own u hF sub inn,?_,h.sf.step sub h.U.size⟩
 have:d'.parts++[E]=(d.parts++[E]).set j X:=by rw[hp,List.set_append_left _ _ hj]
 rw[this]
 refine Zyc hjE h.dis h.inP ?_
 rw[List.getElem_append_left hj]
 exact hs
theorem Hp.cell (h:Hp w v d E) {i:Nat} (hi:i<d.cells.length):∃b off,d.cp=some ⟨b,off,none⟩∧d.CG=[b]∧v.cell? ⟨b,off+i,none⟩=some (.int .u64 d.cells[i]):=by
 rcases h.cs.2.2 with ⟨_,hc,_⟩ | ⟨b,off,arr,hp,hG,hb,hs,hc⟩
 ·have:=h.cs.2.1;omega
 ·refine⟨b,off,hp,hG,?_⟩
  rw[hb.cell,hc _ (by omega),List.getElem?_map,List.getElem?_eq_getElem hi];rfl
theorem Hp.setCell (h:Hp w v d E) {i:Nat} (hi:i<d.cells.length) {x:Int} {K:World→Prop} (hK:∀v',Hp w v' { d with cells:=d.cells.set i x } E→Upd d.CG v v'→K v') {b off:Nat} (hp:d.cp=some ⟨b,off,none⟩):St v ⟨b,off+i,none⟩ (.int .u64 x) K:=by
 rcases h.cs.2.2 with ⟨_,hc,_⟩ | ⟨b',off',arr,hp',hG,hb,hs,hc⟩
 ·have:=h.cs.2.1;omega
 rw[hp] at hp'
 cases hp'
 have hsz:d.cells.length≤d.cc:=h.cs.2.1
 refine Zbi hb (by omega) rfl fun v' u hb'=>?_
 have hu:Upd d.CG v v':=by rw[hG];exact u
 have six:=h.six
 have m:∀{Q:List Nat},Dis d.CG Q→Dis Q [b]:=fun hd=>by rw[←hG];exact hd.symm
 refine hK v' (h.turn hu (fun x hx=>by simp [HpD.F,hx]) _ 3 (by simp [HpD.parts]) (X:=d.CG) (by rfl) (Sub.refl _ _) ?_ rfl rfl rfl rfl rfl rfl rfl rfl rfl ?_ (h.pl.upd hu (six.2.1.2.1)) h.plok (h.tr.upd hu six.2.2.1.1) ?_ (h.st.upd hu six.2.2.2.1.1.symm) (h.mr.upd hu six.2.2.2.1.2.1.symm)) hu
 ·exact(h.inP d.CG (by simp [HpD.parts])).upd hu
 ·simp only[List.length_set]
  exact h.blk.upd hu (six.1.2.2.1 _ (by simp))
 ·have hl1:=h.cs.1
  refine⟨by simp,by simpa using hsz,.inr ⟨b,off,_,hp,hG,hb',by simpa using hs,fun k hk=>?_⟩⟩
  simp only[List.length_set] at hk
  simp only[List.map_set]
  by_cases hki:k=i
  ·subst hki
   rw[List.getElem?_set_self (by simpa using hi),Array.getElem?_setIfInBounds_self_of_lt (by omega)]
  ·rw[List.getElem?_set_ne (by omega),Array.getElem?_setIfInBounds_ne (by omega)]
   exact hc k hk
theorem Hp.setCells (h:Hp w v d E) {v2:World} {p:Option Addr} {c:Nat} {L:List Int} {G:List Nat} (u:Upd d.CG v v2) (hs:SlAt v2 1 p L.length c (L.map (.int .u64)) G) (sub:Sub G d.CG v) {K:World→Prop}
  (hK:∀v',Hp w v' { d with cp:=p,cc:=c,cells:=L,CG:=G } E→Upd (d.b::d.CG) v v'→K v'):St v2 ⟨d.b,4,none⟩ (.slice p L.length c) K:=by
 have six:=h.six
 have hb2:=h.blk.upd u (six.1.2.2.1 _ (by simp))
 have hGb:d.b∉G:=fun hx=>by
  rcases sub _ hx with h1 | h1
  ·exact six.1.2.2.1 _ (by simp) h1
  ·have:=h.blk.lt;omega
 refine Zbi hb2 (by simp) rfl fun v' u' hb'=>?_
 simp at hb'
 have U:Upd (d.b::d.CG) v v':=u.trans u' (by intro k hk;simp [hk]) (by intro k hk;simp at hk;simp [hk])
 have m:∀{Q:List Nat},Dis [d.b] Q→Dis d.CG Q→Dis Q (d.b::d.CG):=fun h1 h2 k hk hx=>by
  rcases List.mem_cons.1 hx with e | e
  ·subst e;exact h1 _ (by simp) hk
  ·exact h2 _ e hk
 refine hK v' (h.turn U (fun x hx=>by simp [HpD.F] at hx ⊢;rcases hx with h1 | h1 <;> simp [h1]) _ 3 (by simp [HpD.parts]) (X:=G) (by rfl) sub ?_ rfl rfl rfl rfl rfl rfl rfl rfl rfl hb' (h.pl.upd U (m six.1.1 six.2.1.2.1.symm)) h.plok (h.tr.upd U (m six.1.2.1 six.2.2.1.1.symm)) ?_ (h.st.upd U (m six.1.2.2.2.1 six.2.2.2.1.1)) (h.mr.upd U (m six.1.2.2.2.2.1 six.2.2.2.1.2.1))) U
 ·exact fun k hk=>Nat.lt_of_lt_of_le (hs.inn k hk) u'.size
 ·exact hs.upd u' (by intro k hk;simp;rintro rfl;exact hGb hk)
theorem Hp.setPool (h:Hp w v d E) {pd':Po.PlD} (hp:Po.Pl v' pd') (ok:Po.PlOk pd') (ha:pd'.a=d.pd.a) (u:Upd d.pd.FT v v') (s:Sub pd'.FT d.pd.FT v):Hp w v' { d with pd:=pd' } E:=by
 have six:=h.six
 refine h.turn u (fun x hx=>by simp [HpD.F,hx]) _ 1 (by simp [HpD.parts]) (X:=pd'.FT) (by rfl) s hp.inn rfl rfl rfl rfl rfl rfl rfl rfl rfl ?_ hp ok (h.tr.upd u six.2.1.1.symm) (h.cs.upd u six.2.1.2.1.symm) (h.st.upd u six.2.1.2.2.1.symm) (h.mr.upd u six.2.1.2.2.2.1.symm)
 show Blk v' d.b #[.pointer pd'.a,_,_,_,_,_,_]
 rw[ha]
 exact h.blk.upd u (six.1.1 _ (by simp))
theorem Hp.setTrail (h:Hp w v d E) {TL:List Int} {tmost:Int} {TF:List Nat} (hr:Ro.RoomAt v' d.tm TL d.tlim tmost TF) (u:Upd d.TF v v') (s:Sub TF d.TF v):Hp w v' { d with TL:=TL,tmost:=tmost,TF:=TF } E:=by
 have six:=h.six
 exact h.turn u (fun x hx=>by simp [HpD.F,hx]) _ 2 (by simp [HpD.parts]) (X:=TF) (by rfl) s hr.inn rfl rfl rfl rfl rfl rfl rfl rfl rfl (h.blk.upd u (six.1.2.1 _ (by simp))) (h.pl.upd u six.2.1.1) h.plok hr (h.cs.upd u six.2.2.1.1.symm) (h.st.upd u six.2.2.1.2.1.symm) (h.mr.upd u six.2.2.1.2.2.1.symm)
theorem Hp.setStarts (h:Hp w v d E) {v2:World} {p:Option Addr} {c:Nat} {L:List Int} {G:List Nat} (u:Upd d.SG v v2) (hs:SlAt v2 1 p L.length c (L.map (.int .i64)) G) (sub:Sub G d.SG v) {K:World→Prop}
  (hK:∀v',Hp w v' { d with sp:=p,sc:=c,starts:=L,SG:=G } E→Upd (d.b::d.SG) v v'→K v'):St v2 ⟨d.b,5,none⟩ (.slice p L.length c) K:=by
 have six:=h.six
 have hb2:=h.blk.upd u (six.1.2.2.2.1 _ (by simp))
 have hGb:d.b∉G:=fun hx=>by
  rcases sub _ hx with h1 | h1
  ·exact six.1.2.2.2.1 _ (by simp) h1
  ·have:=h.blk.lt;omega
 refine Zbi hb2 (by simp) rfl fun v' u' hb'=>?_
 simp at hb'
 have U:Upd (d.b::d.SG) v v':=u.trans u' (by intro k hk;simp [hk]) (by intro k hk;simp at hk;simp [hk])
 have m:∀{Q:List Nat},Dis [d.b] Q→Dis d.SG Q→Dis Q (d.b::d.SG):=fun h1 h2 k hk hx=>by
  rcases List.mem_cons.1 hx with e | e
  ·subst e;exact h1 _ (by simp) hk
  ·exact h2 _ e hk
 refine hK v' (h.turn U (fun x hx=>by simp [HpD.F] at hx ⊢;rcases hx with h1 | h1 <;> simp [h1]) _ 4 (by simp [HpD.parts]) (X:=G) (by rfl) sub ?_ rfl rfl rfl rfl rfl rfl rfl rfl rfl hb' (h.pl.upd U (m six.1.1 six.2.1.2.2.1.symm)) h.plok (h.tr.upd U (m six.1.2.1 six.2.2.1.2.1.symm)) (h.cs.upd U (m six.1.2.2.1 six.2.2.2.1.1.symm)) ?_ (h.mr.upd U (m six.1.2.2.2.2.1 six.2.2.2.2.1.1))) U
 ·exact fun k hk=>Nat.lt_of_lt_of_le (hs.inn k hk) u'.size
 ·exact hs.upd u' (by intro k hk;simp;rintro rfl;exact hGb hk)
theorem Hp.setMarks (h:Hp w v d E) {v2:World} {p:Option Addr} {c:Nat} {L:List Int} {G:List Nat} (u:Upd d.MG v v2) (hs:SlAt v2 1 p L.length c (L.map (.int .i64)) G) (sub:Sub G d.MG v) {K:World→Prop}
  (hK:∀v',Hp w v' { d with mp:=p,mc:=c,marks:=L,MG:=G } E→Upd (d.b::d.MG) v v'→K v'):St v2 ⟨d.b,6,none⟩ (.slice p L.length c) K:=by
 have six:=h.six
 have hb2:=h.blk.upd u (six.1.2.2.2.2.1 _ (by simp))
 have hGb:d.b∉G:=fun hx=>by
  rcases sub _ hx with h1 | h1
  ·exact six.1.2.2.2.2.1 _ (by simp) h1
  ·have:=h.blk.lt;omega
 refine Zbi hb2 (by simp) rfl fun v' u' hb'=>?_
 simp at hb'
 have U:Upd (d.b::d.MG) v v':=u.trans u' (by intro k hk;simp [hk]) (by intro k hk;simp at hk;simp [hk])
 have m:∀{Q:List Nat},Dis [d.b] Q→Dis d.MG Q→Dis Q (d.b::d.MG):=fun h1 h2 k hk hx=>by
  rcases List.mem_cons.1 hx with e | e
  ·subst e;exact h1 _ (by simp) hk
  ·exact h2 _ e hk
 refine hK v' (h.turn U (fun x hx=>by simp [HpD.F] at hx ⊢;rcases hx with h1 | h1 <;> simp [h1]) _ 5 (by simp [HpD.parts]) (X:=G) (by rfl) sub ?_ rfl rfl rfl rfl rfl rfl rfl rfl rfl hb' (h.pl.upd U (m six.1.1 six.2.1.2.2.2.1.symm)) h.plok (h.tr.upd U (m six.1.2.1 six.2.2.1.2.2.1.symm)) (h.cs.upd U (m six.1.2.2.1 six.2.2.2.1.2.1.symm)) (h.st.upd U (m six.1.2.2.2.1 six.2.2.2.2.1.1.symm)) ?_) U
 ·exact fun k hk=>Nat.lt_of_lt_of_le (hs.inn k hk) u'.size
 ·exact hs.upd u' (by intro k hk;simp;rintro rfl;exact hGb hk)
end
structure HOk (d:HpD) (C:List Wd):Prop where
 cells:d.cells=C.map Wd.enc
 fits:∀x∈C,x.fits
 nf:∀k,¬Po.freeP d.pd k
 len:(C.length:Int)=d.pd.top
 starts:d.starts=d.pd.L.map (·.start)
 ml:d.marks.length=d.starts.length
section
variable {w v v':World} {d:HpD} {E:List Nat} {C:List Wd}
theorem HOk.bound (ok:HOk d C) (h:Hp w v d E):C.length≤1048576:=by
 have:=ok.len;have:=h.plok.top;have:=h.plok.lim;omega
theorem HOk.cl (ok:HOk d C):d.cells.length=C.length:=by rw[ok.cells,List.length_map]
theorem HOk.runs (ok:HOk d C) (h:Hp w v d E) {s:Nat} (hs:s<d.pd.L.length):d.pd.L[s].runs=[]:=by
 rcases hr:d.pd.L[s].runs with _ | ⟨r,rs⟩
 ·rfl
 ·exfalso
  have h1:=(h.plok.ok s hs).within r (by rw[hr];simp)
  exact ok.nf r.1 ⟨d.pd.L[s],List.getElem_mem hs,r,by rw[hr];simp,by omega,by omega⟩
theorem Hp.word (h:Hp w v d E) (ok:HOk d C) {i:Nat} (hi:i<C.length):∃b off,d.cp=some ⟨b,off,none⟩∧d.CG=[b]∧v.cell? ⟨b,off+i,none⟩=some (.int .u64 C[i].enc):=by
 obtain⟨b,off,h1,h2,h3⟩:=h.cell (i:=i) (by rw[ok.cl];exact hi)
 refine⟨b,off,h1,h2,?_⟩
 rw[h3]
 simp only[ok.cells,List.getElem_map]
theorem ZdE {K:Bool→World→Prop} (h:Hp w v d E) (hK:K true v):Zaj d.a v K:=by
 apply Zaj.of
 unfold Zlj HpD.a
 refine ifT rfl ?_
 simp only[X_,h.blk.cell]
 exact hK
theorem ZpQ {t:Int} {K:Bool→World→Prop} (h:Hp w v d E) (ok:HOk d C) (hK:∀v',Hp w v' d E→Upd [] v v'→K (decide (0≤t∧t<C.length)) v'):Zbs d.a t v K:=by
 apply Zbs.of
 unfold Zkq ZhP HpD.a
 have hcl:=ok.cl
 have hlen:=ok.len
 have ud:=Zah v
 refine ifC (fun g=>?_) (fun g=>?_)
 ·simp at g
  simp only[X_,h.blk.cell]
  refine Po.Top_ok (h.pl.keep ud) h.plok.ne ?_
  refine⟨by simp only[X_,h.blk.cell],ifC (fun g2=>?_) (fun g2=>?_)⟩
  ·simp only[decide_eq_true_eq] at g2
   simp only[X_,h.blk.cell]
   refine Po.Free_ok (h.pl.keep ud) h.plok fun b v' hb u=>?_
   have hbf:b=false:=by
    cases b
    ·rfl
    ·exact absurd (hb.1 rfl).2.2 (ok.nf t)
   have hm:t<(C.length:Int):=by
    unfold minI at g2
    split at g2 <;> omega
   have:=hK v' ((h.keep ud).keep u) (ud.after u)
   rw[decide_eq_true ⟨g,hm⟩] at this
   rw[hbf];exact this
  ·simp only[decide_eq_false_iff_not] at g2
   have hm:¬t<(C.length:Int):=by
    unfold minI at g2
    split at g2 <;> omega
   have:=hK (drw v) (h.keep ud) ud
   rw[decide_eq_false (fun hh=>hm hh.2)] at this
   exact this
 ·simp at g
  have:=hK (drw v) (h.keep ud) ud
  rw[decide_eq_false (fun hh=>by omega)] at this
  exact this
theorem Zvh {n:Int} {K:Int→Int→World→Prop} (h:Hp w v d E) (ok:HOk d C) (h1:1≤n) (h2:n<2^40)
  (hfull:d.pd.limit<C.length+n→∀v',Hp w v' d E→Upd [] v v'→K 0 2 v')
  (hK:C.length+n≤d.pd.limit→∀v' pd' p c G,Hp w v' { d with pd:=pd',cp:=p,cc:=c,cells:=(C++refs C.length n.toNat).map Wd.enc,CG:=G } E→HOk { d with pd:=pd',cp:=p,cc:=c,cells:=(C++refs C.length n.toNat).map Wd.enc,CG:=G } (C++refs C.length n.toNat)→pd'.a=d.pd.a→pd'.limit=d.pd.limit→pd'.L.map (·.start)=d.pd.L.map (·.start)→Upd d.F v v'→K C.length 0 v') :
  Zce d.a n v K:=by
 apply Zce.of
 unfold Zk5 HpD.a
 have hcl:=ok.cl
 have hlen:=ok.len
 have hbd:=ok.bound h
 have hne:=h.plok.ne
 have hlast:d.pd.L.length-1<d.pd.L.length:=by omega
 have hruns:=ok.runs h hlast
 have hfits:Po.fits d.pd.L[d.pd.L.length-1].runs n=none:=by rw[hruns];rfl
 have six:=h.six
 simp only[X_,h.blk.cell]
 refine Po.Take6 (s:=d.pd.L.length-1) h.pl h.plok ⟨by omega,by omega⟩ hlast (by omega) (fun hh=>by omega) (fun i hi=>by rw[hfits] at hi;cases hi) (fun _ _ hl v1 hp1 u1=>?_) (fun _ v1 pd1 hp1 tk ht u1 s1=>?_)
 ·exact ifT rfl (hfull (by omega) v1 (h.keep u1) u1)
 have hH1:=h.setPool hp1 tk.ok tk.a u1 s1
 have hle:(C.length:Int)+n≤d.pd.limit:=by
  have:=tk.ok.top
  rw[tk.limit,ht] at this;omega
 refine ifF rfl ?_
 unfold Zix
 have U1:Upd d.F v v1:=u1.mono (by intro k hk;simp [HpD.F,hk])
 obtain⟨m,hm⟩:∃m:Nat,n=m:=⟨n.toNat,by omega⟩
 subst hm
 have fz:∀j:Nat,(d.cells++List.replicate j (0:Int)).length=C.length+j:=fun j=>by rw[List.length_append,List.length_replicate,hcl]
 refine⟨fun _ z=>∃(j:Nat) (p:Option Addr) (c:Nat) (G:List Nat),j≤m∧Hp w z { d with pd:=pd1,cp:=p,cc:=c,cells:=d.cells++List.replicate j 0,CG:=G } E∧Sub G d.CG v∧Upd d.F v z,fun _ z=>m-(match z.cell? ⟨d.b,4,none⟩ with | some (.slice _ k _)=>k-C.length | _=>0),⟨0,d.cp,d.cc,d.CG,by omega,by simpa using hH1,Sub.refl _ _,U1⟩,?_⟩
 rintro⟨⟩ z ⟨j,p,c,G,hj,hz,sG,uz⟩
 unfold ZiO
 have hbz:z.cell? ⟨d.b,4,none⟩=some (.slice p (d.cells++List.replicate j (0:Int)).length c):=by rw[hz.blk.cell];rfl
 have ud:=Zah z
 have hbz0:z.cell? ⟨d.b,0,none⟩=some (.pointer pd1.a):=by rw[hz.blk.cell];rfl
 simp only[X_,hbz,hbz0]
 refine Po.Top_ok (hz.pl.keep ud) tk.ok.ne ⟨by simp only[X_,hbz],ifC (fun g=>?_) (fun g=>?_)⟩
 ·simp only[decide_eq_true_eq,fz] at g
  have g:((C.length+j:Nat):Int)<pd1.top:=g
  simp only[X_,hbz]
  refine Za3 ZsL [.int .u64 0] (by rfl) (by simp [Value.cells]) (by rfl) (by omega) fun z2 hs2 u2=>?_
  have hz2:=(hz.keep ud).keep u2
  refine Ze1 (hE:=ZsL) hz2.cs hs2 (by simp [Value.cells,Value.oneCell']) (by rw[fz];omega) fun p' c' G' z3 hs3 u3 s3=>?_
  have hL:(d.cells++List.replicate j (0:Int))++[0]=d.cells++List.replicate (j+1) 0:=by rw[List.append_assoc,←List.replicate_succ']
  have e3:(((d.cells++List.replicate j (0:Int)).map (.int .u64))++([Value.int .u64 0]:List Value).flatMap fun v=>v.cells.toList)=(d.cells++List.replicate (j+1) 0).map (.int .u64):=by
   rw[←hL,List.map_append];simp [Value.cells]
  have hs3':SlAt z3 1 p' (d.cells++List.replicate (j+1) (0:Int)).length c' ((d.cells++List.replicate (j+1) 0).map (.int .u64)) G':=by
   have e4:(d.cells++List.replicate j (0:Int)).length+1=(d.cells++List.replicate (j+1) (0:Int)).length:=by rw[fz,fz];omega
   rw[←e3,←e4];exact hs3
  have e4:(d.cells++List.replicate j (0:Int)).length+1=(d.cells++List.replicate (j+1) (0:Int)).length:=by rw[fz,fz];omega
  rw[show (d.cells++List.replicate j (0:Int)).length+1=(d.cells++List.replicate (j+1) (0:Int)).length from e4]
  refine hz2.setCells u3 hs3' s3 fun z4 hz4 u4=>?_
  have usz:v.heap.size≤z2.heap.size:=Nat.le_trans uz.size (ud.after u2).size
  have hb4:z4.cell? ⟨d.b,4,none⟩=some (.slice p' (d.cells++List.replicate (j+1) (0:Int)).length c'):=by rw[hz4.blk.cell];rfl
  refine⟨⟨j+1,p',c',G',by omega,hz4,?_,?_⟩,?_⟩
  ·exact fun k hk=>by
    rcases s3 k hk with h5 | h5
    ·exact sG k h5
    ·right;omega
  ·refine(uz.before (ud.after u2)).trans u4 (fun k hk=>.inl hk) fun k hk=>?_
   rcases List.mem_cons.1 hk with h5 | h5
   ·left;rw[h5];simp [HpD.F]
   ·rcases sG k h5 with h6 | h6
    ·left;simp [HpD.F,h6]
    ·exact .inr h6
  ·rw[hb4]
   have hjm:j<m:=by omega
   show m-((d.cells++List.replicate (j+1) (0:Int)).length-C.length)<_
   rw[fz,fz,Nat.add_sub_cancel_left,Nat.add_sub_cancel_left]
   omega
 ·simp only[decide_eq_false_iff_not,fz] at g
  have g:¬((C.length+j:Nat):Int)<pd1.top:=g
  have hjm:j=m:=by omega
  subst hjm
  unfold ZiH
  rw[←hlen]
  have cz:∀k:Nat,k≤j→((C++refs C.length k).map Wd.enc++List.replicate (j-k) (0:Int)).length=C.length+j:=fun k hk=>by
   rw[List.length_append,List.length_map,List.length_append,ZkC,List.length_replicate];omega
  have hz0:=hz.keep ud
  refine⟨fun s y=>∃k:Nat,s.i=C.length+k∧k≤j∧Hp w y { d with pd:=pd1,cp:=p,cc:=c,cells:=(C++refs C.length k).map Wd.enc++List.replicate (j-k) 0,CG:=G } E∧Upd d.F v y,fun s _=>(C.length+j-s.i).toNat,⟨0,by simp,by omega,by simpa [refs,ok.cells] using hz0,uz.before ud⟩,?_⟩
  rintro⟨si⟩ y ⟨k,hk0,hk,hy,uy⟩
  dsimp only at hk0
  subst hk0
  unfold ZiQ
  dsimp only
  rw[i64id (x:=(C.length:Int)+(j:Int)) (by omega) (by omega)]
  have hby:y.cell? ⟨d.b,4,none⟩=some (.slice p ((C++refs C.length k).map Wd.enc++List.replicate (j-k) (0:Int)).length c):=by rw[hy.blk.cell];rfl
  have uyd:=Zah y
  refine ifC (fun g2=>?_) (fun g2=>?_)
  ·simp only[decide_eq_true_eq] at g2
   have hkj:k<j:=by omega
   simp only[X_,hby]
   rw[show (C.length:Int)+(k:Int)=((C.length+k:Nat):Int) by omega]
   refine ZqR (by omega) ⟨by simp only[X_,hby],by omega,by rw[cz k hk];omega,?_⟩
   have hyd:=hy.keep uyd
   obtain⟨cb,off,hcp,_,_⟩:=hyd.cell (i:=C.length+k) (by show C.length+k<((C++refs C.length k).map Wd.enc++List.replicate (j-k) (0:Int)).length;rw[cz k hk];omega)
   have hcp:p=some ⟨cb,off,none⟩:=hcp
   subst hcp
   simp only[X_,Int.toNat_natCast]
   refine hyd.setCell (i:=C.length+k) (by show C.length+k<((C++refs C.length k).map Wd.enc++List.replicate (j-k) (0:Int)).length;rw[cz k hk];omega) (fun y2 hy2 u2=>?_) rfl
   rw[i64id (by omega) (by omega)]
   have e5:((C++refs C.length k).map Wd.enc++List.replicate (j-k) (0:Int)).set (C.length+k) (Wd.ref (C.length+k)).enc=(C++refs C.length (k+1)).map Wd.enc++List.replicate (j-(k+1)) 0:=by
    have e6:refs C.length (k+1)=refs C.length k++[.ref (C.length+k)]:=by simp [refs,List.range_succ]
    have e7:((C++refs C.length k).map Wd.enc).length=C.length+k:=by rw[List.length_map,List.length_append,ZkC]
    rw[List.set_append_right _ _ (by omega),e7,Nat.sub_self,e6,show j-k=(j-(k+1))+1 by omega,List.replicate_succ,List.set_cons_zero]
    simp
   refine⟨⟨k+1,by omega,by omega,?_,(uy.before uyd).trans u2 (fun x hx=>.inl hx) fun x hx=>?_⟩,by omega⟩
   ·have:=hy2
    simp only[e5] at this
    exact this
   ·rcases sG x hx with h6 | h6
    ·left;simp [HpD.F,h6]
    ·exact .inr h6
  ·simp only[decide_eq_false_iff_not] at g2
   have hkj:k=j:=by omega
   subst hkj
   simp only[Nat.sub_self,List.replicate_zero,List.append_nil] at hy
   refine hK hle y pd1 p c G (by simpa using hy) ⟨by simp,?_,fun q hq=>ok.nf q ((tk.free q).1 hq).1,?_,?_,ok.ml⟩ tk.a tk.limit tk.starts uy
   ·intro x hx
    rcases List.mem_append.1 hx with h5 | h5
    ·exact ok.fits x h5
    ·unfold refs at h5
     obtain⟨q,hq,rfl⟩:=List.mem_map.1 h5
     simp at hq
     constructor
     ·show -2^60≤((C.length+q:Nat):Int);omega
     ·show ((C.length+q:Nat):Int)<2^60;omega
   ·show (((C++refs C.length (k:Int).toNat).length:Nat):Int)=pd1.top
    rw[List.length_append,ZkC,ht,←hlen];omega
   ·show d.starts=pd1.L.map (·.start)
    rw[tk.starts];exact ok.starts
end
inductive DerN (C:List Wd):Nat→Wd→Wd→Prop
 | stop {x:Wd} (h:x.tag≠1):DerN C 0 x x
 | root {i:Nat} (h:C[i]?=some (.ref i)):DerN C 0 (.ref i) (.ref i)
 | step {n i:Nat} {x y:Wd} (h:C[i]?=some x) (hne:x≠.ref i) (hd:DerN C n x y):DerN C (n+1) (.ref i) y
def Der (C:List Wd) (x y:Wd):Prop:=∃n,DerN C n x y
theorem DerN.uniq {C:List Wd} {n m:Nat} {x y z:Wd} (h:DerN C n x y) (g:DerN C m x z):n=m∧y=z:=by
 induction h generalizing m z with
 | stop h=>cases g with
  | stop _=>exact⟨rfl,rfl⟩
  | root _=>exact⟨rfl,rfl⟩
  | step _ _ _=>exact absurd rfl h
 | root h=>cases g with
  | stop _=>exact⟨rfl,rfl⟩
  | root _=>exact⟨rfl,rfl⟩
  | step h2 hne _=>rw[h] at h2;cases h2;exact absurd rfl hne
 | step h hne hd ih=>cases g with
  | stop h2=>exact absurd rfl h2
  | root h2=>rw[h] at h2;cases h2;exact absurd rfl hne
  | step h2 _ hd2=>
   rw[h] at h2;cases h2
   obtain⟨a,b⟩:=ih hd2
   exact⟨by omega,b⟩
theorem Der.uniq {C:List Wd} {x y z:Wd} (h:Der C x y) (g:Der C x z):y=z:=by
 obtain⟨n,h⟩:=h
 obtain⟨m,g⟩:=g
 exact(h.uniq g).2
theorem DerN.last {C:List Wd} {n:Nat} {x y:Wd} (h:DerN C n x y):y.tag≠1∨∃i,y=.ref i∧C[i]?=some (.ref i):=by
 induction h with
 | stop h=>exact .inl h
 | root h=>exact .inr ⟨_,rfl,h⟩
 | step _ _ _ ih=>exact ih
theorem Der.last {C:List Wd} {x y:Wd} (h:Der C x y):y.tag≠1∨∃i,y=.ref i∧C[i]?=some (.ref i):=by
 obtain⟨n,h⟩:=h
 exact h.last
theorem Der.self {C:List Wd} {x y:Wd} (h:Der C x y):Der C y y:=by
 rcases h.last with h1 | ⟨i,rfl,h1⟩
 ·exact⟨0,.stop h1⟩
 ·exact⟨0,.root h1⟩
theorem DerN.fits {C:List Wd} (hC:∀x∈C,x.fits) {n:Nat} {x y:Wd} (h:DerN C n x y) (hx:x.fits):y.fits:=by
 induction h with
 | stop _=>exact hx
 | root _=>exact hx
 | step h _ _ ih=>exact ih (hC _ (List.mem_of_getElem? h))
open Classical in
noncomputable def cntD (C:List Wd) (s:Int):Nat:=if h:∃n x y,s=Wd.enc x∧x.fits∧DerN C n x y then h.choose else 0
theorem Zwb {C:List Wd} {n:Nat} {x y:Wd} (hx:x.fits) (h:DerN C n x y):cntD C x.enc=n:=by
 have hex:∃n x' y,x.enc=Wd.enc x'∧x'.fits∧DerN C n x' y:=⟨n,x,y,rfl,hx,h⟩
 unfold cntD
 rw[dif_pos hex]
 obtain⟨x',y',e,hf,hd⟩:=hex.choose_spec
 have:=Wd.enc_inj hx hf e
 subst this
 exact(hd.uniq h).1
section
variable {w v v':World} {d:HpD} {E:List Nat} {C:List Wd}
theorem ZoM {x y:Wd} {K:Int→World→Prop} (h:Hp w v d E) (ok:HOk d C) (hx:x.fits) (hd:Der C x y) (hK:∀v',Hp w v' d E→Upd [] v v'→K y.enc v'):ZaD d.a x.enc v K:=by
 apply ZaD.of
 unfold Zkt ZhZ
 have hbd:=ok.bound h
 refine⟨fun s z=>∃(n:Nat) (x':Wd),s.wx_1=x'.enc∧x'.fits∧DerN C n x' y∧Upd [] v z,fun s _=>cntD C s.wx_1,⟨_,x,rfl,hx,hd.choose_spec,Upd.refl _ _⟩,?_⟩
 rintro⟨s⟩ z ⟨n,x',hs,hf,hn,uz⟩
 dsimp only at hs
 subst hs
 unfold ZhW
 dsimp only
 have hz:=h.keep uz
 have ud:=Zah z
 refine Zqa (ifC (fun g=>?_) (fun g=>?_))
 ·simp only[decide_eq_true_eq] at g
  have hzd:=hz.keep ud
  simp only[HpD.a,X_,hz.blk.cell]
  refine Zpa hf ⟨by simp only[X_,hz.blk.cell],?_⟩
  have hfind:∃(i:Nat) (q:Wd),x'=.ref i∧C[i]?=some q:=by
   cases hn with
   | stop h=>exact absurd g h
   | root h=>exact⟨_,_,rfl,h⟩
   | step h _ _=>exact⟨_,_,rfl,h⟩
  obtain⟨i,q,rfl,hq⟩:=hfind
  have hi:=(List.getElem?_eq_some_iff.1 hq).1
  have hCi:C[i]=q:=(List.getElem?_eq_some_iff.1 hq).2
  obtain⟨b,off,hp,_,hc⟩:=hzd.word ok hi
  rw[hCi] at hc
  simp only[drw_cell] at hc
  have hqf:=ok.fits q (List.mem_of_getElem? hq)
  simp only[Wd.num,hp,X_,Int.toNat_natCast,hc]
  have hcl:=ok.cl
  refine⟨by omega,by omega,ifC (fun g2=>?_) (fun g2=>?_)⟩
  ·simp only[beq_iff_eq] at g2
   have hqi:=Wd.enc_inj hqf hf g2
   subst hqi
   have hy:y=.ref i:=(hn.uniq (.root hq)).2
   rw[←hy]
   exact hK _ hzd (uz.after ud)
  ·simp only[beq_eq_false_iff_ne,ne_eq] at g2
   cases hn with
   | stop h=>exact absurd rfl h
   | root h=>rw[hq] at h;cases h;exact absurd rfl g2
   | @step n _ x2 _ h2 hne hd2=>
    rw[hq] at h2
    cases h2
    refine⟨⟨n,q,rfl,hqf,hd2,uz.after ud⟩,?_⟩
    rw[Zwb hqf hd2,Zwb hf (.step hq hne hd2)]
    omega
 ·simp only[decide_eq_false_iff_not] at g
  have hy:y=x':=by
   have:=(hn.uniq (.stop g)).2
   exact this
  rw[←hy]
  exact hK z hz uz
def rightW (C:List Wd) (L:List Slot):Wd→Bool
 | .ref i=>match C[i]? with | some y=>decide (y.tag≠5) | none=>false
 | .str i=>match C[i]? with | some y=>decide (y.tag=5) | none=>false
 | .atom i=>isN L i
 | .int n=>decide (-9007199254740991≤n∧n≤9007199254740991)
 | .fn _=>false
theorem ZtS {id:Int} {K:ByteArray→Int→World→Prop} (h:Hp w v d E) (hno:isN d.L id=false→∀v',Hp w v' d E→Far (d.F++E) v v'→K ⟨#[]⟩ 4 v')
  (hK:isN d.L id=true→∀(hi:id.toNat<d.L.length) v',Hp w v' d E→Far (d.F++E) v v'→K d.L[id.toNat].name 0 v'):ZaC d.at_ id v K:=by
 refine h.bf.tl.name (fun hn v' t f=>?_) (fun hn hi v' t f=>?_)
 ·obtain⟨b,f'⟩:=h.bf.name t f
  exact hno hn v' (h.tables b f') f'
 ·obtain⟨b,f'⟩:=h.bf.name t f
  exact hK hn hi v' (h.tables b f') f'
theorem ZoO {x:Wd} {K:Bool→World→Prop} (h:Hp w v d E) (ok:HOk d C) (hx:x.fits) (hK:∀v',Hp w v' d E→Far (d.F++E) v v'→K (rightW C d.L x) v'):Zaw d.a x.enc v K:=by
 apply Zaw.of
 unfold Zhu
 have hcl:=ok.cl
 refine ZdE h (ifF rfl (Zpa hx (ZvV ?_)))
 cases x with
 | ref i=>
  refine ifT rfl (ZpQ h ok fun v1 h1 u1=>ifC (fun g=>?_) (fun g=>?_))
  ·have g:=of_decide_eq_true g
   simp only[Wd.num] at g
   have hi:i<C.length:=by omega
   obtain⟨b,off,hp,_,hc⟩:=h1.word ok hi
   simp only[HpD.a,X_,h1.blk.cell,Wd.num,hp,Int.toNat_natCast,hc]
   refine⟨by omega,by omega,Zqa ?_⟩
   have:=hK v1 h1 (Far.keep u1)
   simp only[rightW,List.getElem?_eq_getElem hi] at this
   simpa using this
  ·have g:=of_decide_eq_false g
   simp only[Wd.num] at g
   have:=hK v1 h1 (Far.keep u1)
   have e:rightW C d.L (.ref i)=false:=by simp [rightW,List.getElem?_eq_none (show C.length≤i by omega)]
   rw[e] at this
   exact this
 | str i=>
  refine ifF rfl (ifF rfl (ifF rfl (ifT rfl (ZpQ h ok fun v1 h1 u1=>ifC (fun g=>?_) (fun g=>?_)))))
  ·have g:=of_decide_eq_true g
   simp only[Wd.num] at g
   have hi:i<C.length:=by omega
   obtain⟨b,off,hp,_,hc⟩:=h1.word ok hi
   simp only[HpD.a,X_,h1.blk.cell,Wd.num,hp,Int.toNat_natCast,hc]
   refine⟨by omega,by omega,Zqa ?_⟩
   have:=hK v1 h1 (Far.keep u1)
   simp only[rightW,List.getElem?_eq_getElem hi] at this
   exact this
  ·have g:=of_decide_eq_false g
   simp only[Wd.num] at g
   have:=hK v1 h1 (Far.keep u1)
   have e:rightW C d.L (.str i)=false:=by simp [rightW,List.getElem?_eq_none (show C.length≤i by omega)]
   rw[e] at this
   exact this
 | atom i=>
  refine ifF rfl (ifF rfl (ifT rfl ?_))
  simp only[HpD.a,X_,h.blk.cell]
  refine ZtS h (fun hn v1 h1 f1=>?_) (fun hn hi v1 h1 f1=>?_)
  ·have this:K (isN d.L (i:Int)) v1:=hK v1 h1 f1
   have hn:isN d.L (i:Int)=_:=hn
   rw[hn] at this
   exact this
  ·have this:K (isN d.L (i:Int)) v1:=hK v1 h1 f1
   have hn:isN d.L (i:Int)=_:=hn
   rw[hn] at this
   exact this
 | int n=>
  have:=hK v h (Far.refl _ _)
  simp only[rightW] at this
  refine ifF rfl (ifT rfl (ifC (fun g=>?_) (fun g=>?_)))
  ·have g:=of_decide_eq_true g
   simp only[Wd.num] at g
   have e:decide (-9007199254740991≤n∧n≤9007199254740991)=decide (n≤9007199254740991):=by
    rw[decide_eq_decide];omega
   rw[e] at this;exact this
  ·have g:=of_decide_eq_false g
   simp only[Wd.num] at g
   rw[decide_eq_false (fun hh=>g hh.1)] at this;exact this
 | fn i=>
  exact ifF rfl (ifF rfl (ifF rfl (ifF rfl (hK v h (Far.refl _ _)))))
end
structure WF (C:List Wd) (L:List Slot) (FL:List Fn.Slot):Prop where
 right:∀x∈C,x.tag≠5→rightW C L x=true
 der:∀x,rightW C L x=true→∃y,Der C x y
 fn:∀i j,C[i]?=some (.fn j)→∃(s:ByteArray) (m:Nat),At L FL j s (m:Int)∧1≤m∧m≤16∧i+m<C.length∧∀k,1≤k→k≤m→∀y,C[i+k]?=some y→y.tag≠5
structure HI (d:HpD) (C:List Wd) (k:Nat):Prop where
 ok:HOk d C
 wf:WF C d.L d.FL
 nL:d.L.length≤15+k
 nF:d.FL.length≤k
 nm:d.made≤k
 al:d.alim=16384
 fl:d.flim=16384
 n64:∀s∈d.L,s.name.size≤64
structure KinH (d d':HpD):Prop where
 a:d'.a=d.a
 limit:d'.pd.limit=d.pd.limit
 starts:d'.starts=d.starts
 marks:d'.marks=d.marks
 TL:d'.TL=d.TL
 tlim:d'.tlim=d.tlim
theorem KinH.refl (d:HpD):KinH d d:=⟨rfl,rfl,rfl,rfl,rfl,rfl⟩
theorem KinH.trans {d e f:HpD} (h:KinH d e) (g:KinH e f):KinH d f:=⟨g.a.trans h.a,g.limit.trans h.limit,g.starts.trans h.starts,g.marks.trans h.marks,g.TL.trans h.TL,g.tlim.trans h.tlim⟩
section
variable {C:List Wd} {L:List Slot} {FL:List Fn.Slot}
theorem Za2 {i:Nat}:rightW C L (.ref i)=true↔∃y,C[i]?=some y∧y.tag≠5:=by
 unfold rightW
 rcases h:C[i]? with _ | y <;> simp [h]
theorem ZcL {i:Nat}:rightW C L (.str i)=true↔∃j,C[i]?=some (.fn j):=by
 unfold rightW
 rcases h:C[i]? with _ | y
 ·simp [h]
 ·cases y <;> simp [h,Wd.tag]
theorem WF.last (wf:WF C L FL) {x y:Wd} (hx:rightW C L x=true) (hd:Der C x y):rightW C L y=true:=by
 obtain⟨n,hd⟩:=hd
 induction hd with
 | stop _=>exact hx
 | root _=>exact hx
 | step h hne hd ih=>
  refine ih (wf.right _ (List.mem_of_getElem? h) ?_)
  obtain⟨z,hz,ht⟩:=Za2.1 hx
  rw[h] at hz;cases hz;exact ht
theorem DerN.more {D:List Wd} {n:Nat} {x y:Wd} (h:DerN C n x y):DerN (C++D) n x y:=by
 have g:∀{i:Nat} {z:Wd},C[i]?=some z→(C++D)[i]?=some z:=fun h=>by
  rw[List.getElem?_append_left (List.getElem?_eq_some_iff.1 h).1];exact h
 induction h with
 | stop h=>exact .stop h
 | root h=>exact .root (g h)
 | step h hne _ ih=>exact .step (g h) hne ih
theorem Der.more {D:List Wd} {x y:Wd} (h:Der C x y):Der (C++D) x y:=by
 obtain⟨n,h⟩:=h
 exact⟨n,h.more⟩
theorem ZoV {D:List Wd} {i:Nat} {z:Wd} (h:C[i]?=some z):(C++D)[i]?=some z:=by
 rw[List.getElem?_append_left (List.getElem?_eq_some_iff.1 h).1];exact h
theorem Zpp {D:List Wd} {x:Wd} (h:rightW C L x=true):rightW (C++D) L x=true:=by
 cases x with
 | ref i=>
  obtain⟨y,hy,ht⟩:=Za2.1 h
  exact Za2.2 ⟨y,ZoV hy,ht⟩
 | str i=>
  obtain⟨j,hj⟩:=ZcL.1 h
  exact ZcL.2 ⟨j,ZoV hj⟩
 | atom i=>exact h
 | int n=>exact h
 | fn i=>exact h
theorem Zqk {i n:Nat} {x:Wd} {k:Nat} (h:(refs i n)[k]?=some x):k<n∧x=.ref (i+k):=by
 have hk:k<(refs i n).length:=(List.getElem?_eq_some_iff.1 h).1
 rw[ZkC] at hk
 rw[ZoP i n k hk] at h
 exact⟨hk,by cases h;rfl⟩
theorem WF.vars (wf:WF C L FL) (n:Nat):WF (C++refs C.length n) L FL:=by
 have new:∀k,k<n→(C++refs C.length n)[C.length+k]?=some (.ref (C.length+k)):=fun k hk=>by
  rw[List.getElem?_append_right (by omega),Nat.add_sub_cancel_left,ZoP _ _ _ hk]
 refine⟨fun x hx ht=>?_,fun x hx=>?_,fun i j h=>?_⟩
 ·rcases List.mem_append.1 hx with h1 | h1
  ·exact Zpp (wf.right x h1 ht)
  ·obtain⟨k,hk,rfl⟩:=List.getElem_of_mem h1
   have h2:=List.getElem?_eq_getElem hk
   obtain⟨hk',e⟩:=Zqk h2
   rw[e]
   exact Za2.2 ⟨_,new k hk',by simp [Wd.tag]⟩
 ·by_cases hr:rightW C L x=true
  ·obtain⟨y,hy⟩:=wf.der x hr
   exact⟨y,hy.more⟩
  ·cases x with
   | ref i=>
    obtain⟨y,hy,ht⟩:=Za2.1 hx
    by_cases hi:i<C.length
    ·rw[List.getElem?_append_left hi] at hy
     exact absurd (Za2.2 ⟨y,hy,ht⟩) hr
    ·rw[List.getElem?_append_right (by omega)] at hy
     obtain⟨hk,e⟩:=Zqk hy
     refine⟨.ref i,0,.root ?_⟩
     have:=new (i-C.length) hk
     rw[show C.length+(i-C.length)=i by omega] at this
     exact this
   | str i=>exact⟨_,0,.stop (by simp [Wd.tag])⟩
   | atom i=>exact⟨_,0,.stop (by simp [Wd.tag])⟩
   | int i=>exact⟨_,0,.stop (by simp [Wd.tag])⟩
   | fn i=>exact⟨_,0,.stop (by simp [Wd.tag])⟩
 ·by_cases hi:i<C.length
  ·rw[List.getElem?_append_left hi] at h
   obtain⟨s,m,h1,h2,h3,h4,h5⟩:=wf.fn i j h
   refine⟨s,m,h1,h2,h3,by rw[List.length_append];omega,fun k hk1 hk2 y hy=>?_⟩
   rw[List.getElem?_append_left (by omega)] at hy
   exact h5 k hk1 hk2 y hy
  ·rw[List.getElem?_append_right (by omega)] at h
   have:=(Zqk h).2
   cases this
end
section
variable {w v v':World} {d:HpD} {E:List Nat} {C:List Wd} {k:Nat}
theorem Zx7 {K:Int→Int→World→Prop} (h:Hp w v d E) (hi:HI d C k)
  (hfull:d.pd.limit<C.length+1→∀v',Hp w v' d E→Upd [] v v'→K 0 2 v')
  (hK:(C.length:Int)+1≤d.pd.limit→∀v' d',Hp w v' d' E→HI d' (C++[.ref C.length]) k→KinH d d'→d'.L=d.L→d'.FL=d.FL→Upd d.F v v'→K (Wd.ref C.length).enc 0 v'):Zdh d.a v K:=by
 apply Zdh.of
 unfold Zmn
 have hbd:=hi.ok.bound h
 refine ZdE h (ifF rfl (Zvh h hi.ok (by omega) (by omega) (fun hl v' h' u'=>ifT rfl (hfull hl v' h' u')) fun hl v' pd' p c G h' ok' e1 e2 e3 u'=>ifF rfl (ZqR (by omega) ?_)))
 have e:refs C.length (1:Int).toNat=[.ref C.length]:=by rfl
 rw[e] at h' ok'
 refine hK hl v' _ h' ⟨ok',?_,hi.nL,hi.nF,hi.nm,hi.al,hi.fl,hi.n64⟩ ⟨rfl,e2,rfl,rfl,rfl,rfl⟩ rfl rfl u'
 have:=hi.wf.vars 1
 exact this
end
section
variable {C:List Wd} {L L':List Slot} {FL FL':List Fn.Slot}
def StayL (L L':List Slot):Prop:=∀(j:Nat) (s:Slot),L[j]?=some s→s.is=true→L'[j]?=some s
def StayF (L L':List Fn.Slot):Prop:=∀(j:Nat) (s:Fn.Slot),L[j]?=some s→s.is=true→L'[j]?=some s
theorem StayL.refl (L:List Slot):StayL L L:=fun _ _ h _=>h
theorem StayF.refl (L:List Fn.Slot):StayF L L:=fun _ _ h _=>h
theorem StayL.trans {L'':List Slot} (h:StayL L L') (g:StayL L' L''):StayL L L'':=fun j s h1 h2=>g j s (h j s h1 h2) h2
theorem StayF.trans {L'':List Fn.Slot} (h:StayF FL FL') (g:StayF FL' L''):StayF FL L'':=fun j s h1 h2=>g j s (h j s h1 h2) h2
theorem At.stay {id:Nat} {n:ByteArray} {ar:Int} (h:At L FL id n ar) (hL:StayL L L') (hF:StayF FL FL'):At L' FL' id n ar:=by
 obtain⟨i,m,m',h1,h2⟩:=h
 exact⟨i,m,m',hF _ _ h1 rfl,hL _ _ h2 rfl⟩
theorem Zqp {id:Nat}:isN L (id:Int)=true↔∃s,L[id]?=some s∧s.is=true:=by
 unfold isN
 rcases h:L[id]? with _ | s <;> simp [h]
theorem ZrX {x:Wd} (h:rightW C L x=true) (hL:StayL L L'):rightW C L' x=true:=by
 cases x with
 | ref i=>exact h
 | str i=>exact h
 | atom i=>
  obtain⟨s,h1,h2⟩:=Zqp.1 h
  exact Zqp.2 ⟨s,hL _ _ h1 h2,h2⟩
 | int n=>exact h
 | fn i=>exact h
theorem WF.stay (wf:WF C L FL) (hL:StayL L L') (hF:StayF FL FL'):WF C L' FL':=by
 refine⟨fun x hx ht=>ZrX (wf.right x hx ht) hL,fun x hx=>?_,fun i j h=>?_⟩
 ·cases x with
  | ref i=>exact wf.der _ hx
  | str i=>exact⟨_,0,.stop (by simp [Wd.tag])⟩
  | atom i=>exact⟨_,0,.stop (by simp [Wd.tag])⟩
  | int i=>exact⟨_,0,.stop (by simp [Wd.tag])⟩
  | fn i=>exact⟨_,0,.stop (by simp [Wd.tag])⟩
 ·obtain⟨s,m,h1,h2⟩:=wf.fn i j h
  exact⟨s,m,h1.stay hL hF,h2⟩
theorem WF.comp (wf:WF C L FL) {id m:Nat} {s:ByteArray} (hat:At L FL id s (m:Int)) (h1:1≤m) (h16:m≤16):WF (C ++ .fn id::refs (C.length+1) m) L FL:=by
 have new:∀k,k<m→(C ++ .fn id::refs (C.length+1) m)[C.length+1+k]?=some (.ref (C.length+1+k)):=fun k hk=>by
  rw[List.getElem?_append_right (by omega),show C.length+1+k-C.length=k+1 by omega,List.getElem?_cons_succ,ZoP _ _ _ hk]
 have hd:(C ++ .fn id::refs (C.length+1) m)[C.length]?=some (.fn id):=by
  rw[List.getElem?_append_right (by omega),Nat.sub_self,List.getElem?_cons_zero]
 have cases':∀(i:Nat) (x:Wd),(C ++ .fn id::refs (C.length+1) m)[i]?=some x→C[i]?=some x∧i<C.length∨i=C.length∧x=.fn id∨∃k,k<m∧i=C.length+1+k∧x=.ref i:=fun i x h=>by
  by_cases hi:i<C.length
  ·rw[List.getElem?_append_left hi] at h
   exact .inl ⟨h,hi⟩
  ·rw[List.getElem?_append_right (by omega)] at h
   rcases hk:i-C.length with _ | k
   ·rw[hk,List.getElem?_cons_zero] at h
    exact .inr (.inl ⟨by omega,by cases h;rfl⟩)
   ·rw[hk,List.getElem?_cons_succ] at h
    obtain⟨a,b⟩:=Zqk h
    exact .inr (.inr ⟨k,a,by omega,by rw[b];congr 1;omega⟩)
 refine⟨fun x hx ht=>?_,fun x hx=>?_,fun i j h=>?_⟩
 ·obtain⟨i,hi⟩:=List.getElem?_of_mem hx
  rcases cases' i x hi with ⟨a,b⟩ | ⟨a,b⟩ | ⟨k,a,b,c⟩
  ·exact Zpp (wf.right x (List.mem_of_getElem? a) ht)
  ·subst b;exact absurd rfl ht
  ·subst c;subst b
   exact Za2.2 ⟨_,new k a,by simp [Wd.tag]⟩
 ·cases x with
  | ref i=>
   obtain⟨y,hy,ht⟩:=Za2.1 hx
   rcases cases' i y hy with ⟨a,b⟩ | ⟨a,b⟩ | ⟨k,a,b,c⟩
   ·obtain⟨z,hz⟩:=wf.der (.ref i) (Za2.2 ⟨y,a,ht⟩)
    exact⟨z,hz.more⟩
   ·subst b;exact absurd rfl ht
   ·subst b
    exact⟨_,0,.root (new k a)⟩
  | str i=>exact⟨_,0,.stop (by simp [Wd.tag])⟩
  | atom i=>exact⟨_,0,.stop (by simp [Wd.tag])⟩
  | int i=>exact⟨_,0,.stop (by simp [Wd.tag])⟩
  | fn i=>exact⟨_,0,.stop (by simp [Wd.tag])⟩
 ·rcases cases' i _ h with ⟨a,b⟩ | ⟨a,b⟩ | ⟨k,a,b,c⟩
  ·obtain⟨s,m',g1,g2,g3,g4,g5⟩:=wf.fn i j a
   refine⟨s,m',g1,g2,g3,by rw[List.length_append];omega,fun k hk1 hk2 y hy=>?_⟩
   rw[List.getElem?_append_left (by omega)] at hy
   exact g5 k hk1 hk2 y hy
  ·cases b
   subst a
   refine⟨s,m,hat,h1,h16,by rw[List.length_append,List.length_cons,ZkC];omega,fun k hk1 hk2 y hy=>?_⟩
   have:=new (k-1) (by omega)
   rw[show C.length+1+(k-1)=C.length+k by omega] at this
   rw[this] at hy;cases hy;simp [Wd.tag]
  ·cases c
theorem Zsv {lim made:Int} {n:ByteArray} (h1:n.size≤64) (h2:(L.length:Int)<lim):(internS lim made L n).e=0∧(internS lim made L n).L.length≤L.length+1:=by
 unfold internS
 rw[if_neg (by omega)]
 split
 ·exact⟨rfl,by simp⟩
 ·split
  ·exact⟨rfl,by simp⟩
  ·rw[if_neg (by omega)]
   exact⟨rfl,by simp⟩
theorem Zr3 {lim made:Int} {n:ByteArray} (h1:n.size≤64) (h:∀s∈L,s.name.size≤64):∀s∈(internS lim made L n).L,s.name.size≤64:=by
 intro s hs
 unfold internS at hs
 rw[if_neg (by omega)] at hs
 split at hs
 ·exact h s hs
 ·split at hs
  ·rcases List.mem_or_eq_of_mem_set hs with g | g
   ·exact h s g
   ·rw[g];exact h1
  ·split at hs
   ·exact h s hs
   ·rcases List.mem_append.1 hs with g | g
    ·exact h s g
    ·simp at g;rw[g];exact h1
theorem ZxX {alim made flim ar:Int} {n:ByteArray} (h1:n.size≤64) (h:∀s∈L,s.name.size≤64):∀s∈(putA alim made L flim FL n ar).L,s.name.size≤64:=by
 unfold putA
 split
 ·exact h
 ·split
  ·exact Zr3 h1 h
  ·exact Zr3 h1 h
theorem ZuD {lim:Int} {k:Fn.Key} (h2:(FL.length:Int)<lim):(Fn.putS lim FL k).e=0∧(Fn.putS lim FL k).L.length≤FL.length+1:=by
 unfold Fn.putS Fn.addS
 split
 ·exact⟨rfl,by simp⟩
 ·split
  ·exact⟨rfl,by simp⟩
  ·rw[if_neg (by omega)]
   exact⟨rfl,by simp⟩
theorem Zxt {alim made flim ar:Int} {n:ByteArray} (h1:n.size≤64) (h2:(L.length:Int)<alim) (h3:(FL.length:Int)<flim) (h4:1≤ar) (h5:ar≤16) :
  (putA alim made L flim FL n ar).e=0∧(putA alim made L flim FL n ar).L.length≤L.length+1∧(putA alim made L flim FL n ar).F.length≤FL.length+1:=by
 obtain⟨a,b⟩:=Zsv (made:=made) h1 h2
 unfold putA
 rw[if_neg (by omega),if_neg (by simp [a])]
 exact⟨(ZuD h3).1,b,(ZuD h3).2⟩
end
section
variable {w v v':World} {d:HpD} {E:List Nat} {C:List Wd} {k:Nat}
theorem ZxI {n:ByteArray} {K:Int→Int→World→Prop} (h:Hp w v d E) (hi:HI d C k) (hk:k<16000) (hn:n.size≤64)
  (hK:∀(id:Nat) v' d' (m:Bool),Hp w v' d' E→HI d' C (k+1)→KinH d d'→d'.L[id]?=some ⟨n,true,m⟩→StayL d.L d'.L→d'.FL=d.FL→Far (d.F++E) v v'→K (Wd.atom id).enc 0 v'):ZcN d.a n v K:=by
 apply ZcN.of
 unfold Zli
 have h0:=hi.nL;have h1:=hi.nm;have h2:=hi.al
 obtain⟨e0,e1⟩:=Zsv (lim:=d.alim) (made:=d.made) (L:=d.L) hn (by omega)
 obtain⟨id,m,e2,e3⟩:=Zs9 e0
 refine ZdE h (ifF rfl ?_)
 simp only[HpD.a,X_,h.blk.cell]
 refine h.bf.tl.intern' (by omega) fun v' t f=>?_
 obtain⟨b,f'⟩:=h.bf.name t f
 have h':=h.tables b f'
 rw[e0,e2]
 have hidl:=(List.getElem?_eq_some_iff.1 e3).1
 refine ifF rfl (Zr5 (x:=.atom id) ⟨by show -2^60≤(id:Int);omega,by show (id:Int)<2^60;omega⟩ ?_)
 have hst:StayL d.L (internS d.alim d.made d.L n).L:=fun j s hj hs=>Zpx hj hs
 have hm:=ZrZ d.alim d.made d.L n
 refine hK id v' _ m h' ⟨⟨hi.ok.cells,hi.ok.fits,hi.ok.nf,hi.ok.len,hi.ok.starts,hi.ok.ml⟩,hi.wf.stay hst (StayF.refl _),?_,by show d.FL.length≤_;have:=hi.nF;omega,?_,hi.al,hi.fl,Zr3 hn hi.n64⟩ ⟨rfl,rfl,rfl,rfl,rfl,rfl⟩ e3 hst rfl f'
 ·show (internS d.alim d.made d.L n).L.length≤_;omega
 ·show (internS d.alim d.made d.L n).m≤_;omega
theorem Zx8 {n:Int} {K:Int→Int→World→Prop} (h:Hp w v d E) (hn:-9007199254740991≤n∧n≤9007199254740991) (hK:K (Wd.int n).enc 0 v):Zdj d.a n v K:=by
 apply Zdj.of
 unfold ZlP
 exact ZdE h (ifF rfl (ifF (by simp;omega) (ifF (by simp;omega) (Zr5 (x:=.int n) ⟨by show -2^60≤n;omega,by show n<2^60;omega⟩ hK))))
theorem Ztm {i j:Nat} {s:ByteArray} {m:Int} {K:ByteArray→Int→World→Prop} (h:Hp w v d E) (ok:HOk d C) (hc:C[i]?=some (.fn j)) (hat:At d.L d.FL j s m)
  (hK:∀v',Hp w v' d E→Far (d.F++E) v v'→K s m v'):Zbp d.a (Wd.str i).enc v K:=by
 apply Zbp.of
 unfold ZlW
 have ud:=Zah v
 have hd:=h.keep ud
 have hil:=(List.getElem?_eq_some_iff.1 hc).1
 have hci:C[i]=.fn j:=(List.getElem?_eq_some_iff.1 hc).2
 have hbd:=ok.bound h
 have hcl:=ok.cl
 have hjf:(Wd.fn j).fits:=ok.fits _ (List.mem_of_getElem? hc)
 obtain⟨b,off,hp,_,hw⟩:=hd.word ok hil
 rw[hci] at hw
 simp only[drw_cell] at hw
 simp only[HpD.a,X_,h.blk.cell]
 refine Zpa (x:=.str i) ⟨by show -2^60≤(i:Int);omega,by show (i:Int)<2^60;omega⟩ ⟨by simp only[X_,h.blk.cell],by simp only[X_,h.blk.cell],?_⟩
 simp only[Wd.num,hp,X_,Int.toNat_natCast,hw]
 refine⟨by omega,by omega,Zpa hjf ⟨by simp only[X_,h.blk.cell],?_⟩⟩
 refine hd.bf.get fun v' b f=>?_
 have e:=hat.get
 simp only[Wd.num] at e ⊢
 rw[e]
 refine hK v' (hd.tables b f) ?_
 obtain⟨F,u,dd⟩:=f
 exact⟨F,ud.after u,dd⟩
theorem Ztt {n:ByteArray} {m:Nat} {K:Int→Int→World→Prop} (h:Hp w v d E) (hi:HI d C k) (hk:k<16000) (hn:n.size≤64) (h1:1≤m) (h16:m≤16)
  (hfull:d.pd.limit<C.length+(m+1)→∀v' d',Hp w v' d' E→HI d' C (k+1)→KinH d d'→StayL d.L d'.L→StayF d.FL d'.FL→Far E v v'→K 0 2 v')
  (hK:(C.length:Int)+(m+1)≤d.pd.limit→∀v' d' (id:Nat),Hp w v' d' E→HI d' (C ++ .fn id::refs (C.length+1) m) (k+1)→At d'.L d'.FL id n (m:Int)→KinH d d'→StayL d.L d'.L→StayF d.FL d'.FL→Far E v v'→K (Wd.str C.length).enc 0 v') :
  ZbE d.a n (m:Int) v K:=by
 apply ZbE.of
 unfold Zjk
 have g0:=hi.nL;have g1:=hi.nm;have g2:=hi.al;have g3:=hi.fl;have g4:=hi.nF
 obtain⟨e0,e1,e2⟩:=Zxt (L:=d.L) (FL:=d.FL) (alim:=d.alim) (made:=d.made) (flim:=d.flim) (ar:=(m:Int)) hn (by omega) (by omega) (by omega) (by omega)
 obtain⟨id,e3,hat⟩:=Zx0 e0
 have hm:=Zwj d.alim d.made d.L d.flim d.FL n (m:Int)
 have hst:StayL d.L (putA d.alim d.made d.L d.flim d.FL n m).L:=fun j s hj hs=>Zts hj hs
 have hsf:StayF d.FL (putA d.alim d.made d.L d.flim d.FL n m).F:=fun j s hj hs=>Ztu hj hs
 refine ZdE h (ifF rfl ?_)
 simp only[HpD.a,X_,h.blk.cell]
 refine h.bf.put (by omega) fun v1 fd1 b1 f1=>?_
 have h1':=h.tables b1 f1
 rw[e0,e3]
 obtain⟨d1,ed⟩:∃d1:HpD,d1={ d with L:=(putA d.alim d.made d.L d.flim d.FL n m).L,made:=(putA d.alim d.made d.L d.flim d.FL n m).m,FL:=(putA d.alim d.made d.L d.flim d.FL n m).F,fd:=fd1 }:=⟨_,rfl⟩
 rw[←ed] at h1'
 have hi1:HI d1 C (k+1):=by
  rw[ed]
  exact⟨⟨hi.ok.cells,hi.ok.fits,hi.ok.nf,hi.ok.len,hi.ok.starts,hi.ok.ml⟩,hi.wf.stay hst hsf,by show (putA d.alim d.made d.L d.flim d.FL n m).L.length≤_;omega,by show (putA d.alim d.made d.L d.flim d.FL n m).F.length≤_;omega,by show (putA d.alim d.made d.L d.flim d.FL n m).m≤_;omega,hi.al,hi.fl,ZxX hn hi.n64⟩
 have ea:(some ⟨d.b,0,none⟩:Option Addr)=d1.a:=by rw[ed];rfl
 have eb:d1.b=d.b:=by rw[ed]
 have epd:d1.pd=d.pd:=by rw[ed]
 have eL:d1.L=(putA d.alim d.made d.L d.flim d.FL n m).L:=by rw[ed]
 have eF:d1.FL=(putA d.alim d.made d.L d.flim d.FL n m).F:=by rw[ed]
 have eHF:d1.F=d.F:=by rw[ed];rfl
 rw[←eL,←eF] at hat
 rw[←eL] at hst
 rw[←eF] at hsf
 have hidl:(id:Int)<2^60:=by
  obtain⟨i,m1,m2,g5,_⟩:=hat
  have:=(List.getElem?_eq_some_iff.1 g5).1
  have:=hi1.nF
  omega
 have hbd:=hi1.ok.bound h1'
 have fE:Far E v v1:=f1.less fun k hk=>by simp [hk]
 refine ifF rfl ?_
 rw[i64id (by omega) (by omega),ea]
 refine Zvh h1' hi1.ok (by omega) (by omega) (fun hl v2 h2 u2=>ifT rfl ?_) fun hl v2 pd2 p c G h2 ok2 q1 q2 q3 u2=>ifF rfl ?_
 ·exact hfull (by rw[←epd];exact hl) v2 d1 h2 hi1 (by rw[ed];exact⟨rfl,rfl,rfl,rfl,rfl,rfl⟩) hst hsf (fE.then (Far.keep u2))
 have ud:=Zah v2
 have h2d:=h2.keep ud
 have hb2:v2.cell? ⟨d.b,4,none⟩=some (.slice p ((C++refs C.length ((m:Int)+1).toNat).map Wd.enc).length c):=by rw[←eb];exact h2.blk.cell 4
 have hlen:((C++refs C.length ((m:Int)+1).toNat).map Wd.enc).length=C.length+(m+1):=by rw[List.length_map,List.length_append,ZkC];omega
 simp only[HpD.a,X_,hb2]
 refine Zr5 (x:=.fn id) ⟨by show -2^60≤(id:Int);omega,hidl⟩ ⟨by simp only[X_,hb2],by omega,by rw[hlen];omega,?_⟩
 obtain⟨cb,off,hcp,_,_⟩:=h2d.cell (i:=C.length) (by show C.length<((C++refs C.length ((m:Int)+1).toNat).map Wd.enc).length;rw[hlen];omega)
 have hcp:p=some ⟨cb,off,none⟩:=hcp
 subst hcp
 simp only[X_,Int.toNat_natCast]
 refine h2d.setCell (i:=C.length) (by show C.length<((C++refs C.length ((m:Int)+1).toNat).map Wd.enc).length;rw[hlen];omega) (fun v3 h3 u3=>?_) rfl
 have eC:((C++refs C.length ((m:Int)+1).toNat).map Wd.enc).set C.length (Wd.fn id).enc=(C ++ .fn id::refs (C.length+1) m).map Wd.enc:=by
  have e6:refs C.length ((m:Int)+1).toNat=.ref C.length::refs (C.length+1) m:=by
   have:((m:Int)+1).toNat=m+1:=by omega
   rw[this]
   unfold refs
   rw[List.range_succ_eq_map,List.map_cons,List.map_map]
   congr 1
   apply List.map_congr_left
   intro q _
   simp;omega
  rw[e6,←List.map_set,List.set_append_right _ _ (by omega),Nat.sub_self,List.set_cons_zero]
 simp only[eC] at h3
 refine Zr5 (x:=.str C.length) ⟨by show -2^60≤(C.length:Int);omega,by show (C.length:Int)<2^60;omega⟩ ?_
 refine hK (by rw[←epd];exact hl) v3 _ id h3 ⟨⟨rfl,?_,ok2.nf,?_,ok2.starts,ok2.ml⟩,?_,hi1.nL,hi1.nF,hi1.nm,hi1.al,hi1.fl,hi1.n64⟩ hat ⟨by rw[ed];rfl,by rw[←epd];exact q2,by rw[ed],by rw[ed],by rw[ed],by rw[ed]⟩ hst hsf ?_
 ·intro x hx
  rcases List.mem_append.1 hx with g5 | g5
  ·exact hi1.ok.fits x g5
  ·rcases List.mem_cons.1 g5 with rfl | g5
   ·exact⟨by show -2^60≤(id:Int);omega,hidl⟩
   ·unfold refs at g5
    obtain⟨q,hq,rfl⟩:=List.mem_map.1 g5
    simp at hq
    constructor
    ·show -2^60≤((C.length+1+q:Nat):Int);omega
    ·show ((C.length+1+q:Nat):Int)<2^60;omega
 ·have:=ok2.len
  rw[List.length_append,ZkC] at this
  rw[List.length_append,List.length_cons,ZkC]
  show _=pd2.top
  have this:((C.length+((m:Int)+1).toNat:Nat):Int)=pd2.top:=this
  omega
 ·exact hi1.wf.comp hat h1 h16
 ·have uu:Far E v1 v2:=⟨_,u2,fun k hk hx=>by
   have:=h1'.six
   obtain⟨P,hP,hkP⟩:=Zrq.1 hx
   have hd:=h1'.dis
   rw[List.pairwise_append] at hd
   exact hd.2.2 P hP E (by simp) k hkP hk⟩
  have uu3:Far E (drw v2) v3:=⟨_,u3,fun k hk hx=>by
   have h6:=h2.six
   exact h6.2.2.2.1.2.2 k hx hk⟩
  exact(fE.then uu).then ((Far.keep ud).then uu3)
end
theorem Far.after {X:List Nat} {v v' v'':World} (f:Far X v v') (u:Upd [] v' v''):Far X v v'':=f.then (Far.keep u)
section
variable {w v v':World} {d:HpD} {E:List Nat} {C:List Wd} {k:Nat}
theorem ZsV {x y:Wd} {K:Int→World→Prop} (h:Hp w v d E) (hi:HI d C k) (hx:x.fits) (hr:rightW C d.L x=true) (hd:Der C x y) (hK:∀v',Hp w v' d E→Far (d.F++E) v v'→K y.enc v'):Zbr d.a x.enc v K:=by
 apply Zbr.of
 unfold Zkp
 refine ZoO h hi.ok hx fun v1 h1 f1=>ifF (by rw[hr];rfl) ?_
 exact ZoM h1 hi.ok hx hd fun v2 h2 u2=>hK v2 h2 (f1.after u2)
theorem ZtM {x:Wd} {q:Int} {i j:Nat} {s:ByteArray} {m:Nat} {K:Int→Bool→World→Prop} (h:Hp w v d E) (hi:HI d C k) (hx:x.fits) (hr:rightW C d.L x=true) (hd:Der C x (.str i)) (hc:C[i]?=some (.fn j)) (hat:At d.L d.FL j s (m:Int))
  (hK:∀v',Hp w v' d E→Far (d.F++E) v v'→K (Wd.str i).enc (decide (1≤q∧q≤m)) v'):Zbz d.a x.enc q v K:=by
 apply Zbz.of
 unfold ZhS
 refine ZsV h hi hx hr hd fun v1 h1 f1=>Zqa (ifF rfl (Ztm h1 hi.ok hc hat fun v2 h2 f2=>?_))
 have:=hK v2 h2 (f1.then f2)
 refine ifC (fun g=>?_) (fun g=>?_)
 ·simp only[ge_iff_le,decide_eq_true_eq] at g
  have e:decide (1≤q∧q≤(m:Int))=decide (q≤(m:Int)):=by rw[decide_eq_decide];omega
  rw[e] at this;exact this
 ·simp only[ge_iff_le,decide_eq_false_iff_not] at g
  rw[decide_eq_false (fun hh=>g hh.1)] at this;exact this
theorem Zya {x:Wd} {q:Int} {i j:Nat} {s:ByteArray} {m:Nat} {K:Int→Int→World→Prop} (h:Hp w v d E) (hi:HI d C k) (hx:x.fits) (hr:rightW C d.L x=true) (hd:Der C x (.str i)) (hc:C[i]?=some (.fn j)) (hat:At d.L d.FL j s (m:Int)) (hm:m≤16)
  (hno:¬(1≤q∧q≤m)→∀v',Hp w v' d E→Far (d.F++E) v v'→K 0 1 v')
  (hK:1≤q→q≤m→∀v',Hp w v' d E→Far (d.F++E) v v'→K (Wd.ref (i+q.toNat)).enc 0 v'):Zdt d.a x.enc q v K:=by
 apply Zdt.of
 unfold Zmm
 have hbd:=hi.ok.bound h
 have hil:=(List.getElem?_eq_some_iff.1 hc).1
 refine ZdE h (ifF rfl (ZtM h hi hx hr hd hc hat fun v1 h1 f1=>ifC (fun g=>?_) (fun g=>?_)))
 ·simp only[Bool.not_eq_true',decide_eq_false_iff_not] at g
  exact hno g v1 h1 f1
 ·simp only[Bool.not_eq_false',decide_eq_true_eq] at g
  refine Zsi (x:=.str i) ⟨by show -2^60≤(i:Int);omega,by show (i:Int)<2^60;omega⟩ (by omega) ?_
  have e:(Wd.str i).num+q=((i+q.toNat:Nat):Int):=by show (i:Int)+q=_;omega
  rw[e]
  exact ZqR (by omega) (hK g.1 g.2 v1 h1 f1)
theorem Zxp {x:Wd} {i j:Nat} {s:ByteArray} {m:Nat} {K:Bool→World→Prop} (h:Hp w v d E) (hi:HI d C k) (hx:x.fits) (hr:rightW C d.L x=true) (hd:Der C x (.str i)) (hc:C[i]?=some (.fn j)) (hat:At d.L d.FL j s (m:Int))
  (hK:∀v',Hp w v' d E→Far (d.F++E) v v'→K true v'):Zej d.a x.enc s (m:Int) v K:=by
 apply Zej.of
 unfold ZmL
 refine ZsV h hi hx hr hd fun v1 h1 f1=>ZvV (ifF rfl (ifT rfl (Ztm h1 hi.ok hc hat fun v2 h2 f2=>ifT (by simp) ?_)))
 rw[beq_self_eq_true]
 exact hK v2 h2 (f1.then f2)
theorem ZxU {t:Int} {K:Int→World→Prop} (h:Hp w v d E) (hi:HI d C k) (hno:¬(0≤t∧t<C.length)→∀v',Hp w v' d E→Upd [] v v'→K 0 v') (hK:∀x,C[t.toNat]?=some x→∀v',Hp w v' d E→Upd [] v v'→K x.enc v'):ZcP d.a t v K:=by
 apply ZcP.of
 unfold Zk4
 have hcl:=hi.ok.cl
 refine ZdE h (ifF rfl (ZpQ h hi.ok fun v1 h1 u1=>ifC (fun g=>?_) (fun g=>?_)))
 ·simp only[Bool.not_eq_true',decide_eq_false_iff_not] at g
  exact hno g v1 h1 u1
 ·simp only[Bool.not_eq_false',decide_eq_true_eq] at g
  have hil:t.toNat<C.length:=by omega
  obtain⟨b,off,hp,_,hc⟩:=h1.word hi.ok hil
  simp only[HpD.a,X_,h1.blk.cell,hp,hc]
  exact⟨by omega,by omega,hK _ (List.getElem?_eq_getElem hil) v1 h1 u1⟩
end
structure Kn where
 S:Nat→Prop
 C:List Wd
 L:List Slot
 FL:List Fn.Slot
 V:List (Int×Nat)
mutual
def Rep (q:Kn):Tm→Wd→Prop
 | .mk k n s l,x=>
  if k=1 then ∃i,x=.ref i∧(n,i)∈q.V∧¬q.S i∧q.C[i]?=some (.ref i)
  else if k=2 then x=.int n
  else if k=3 then ∃id m,x=.atom id∧q.L[id]?=some ⟨s,true,m⟩
  else ∃i id,x=.str i∧¬q.S i∧q.C[i]?=some (.fn id)∧At q.L q.FL id s (l.length:Int)∧RepL q l (i+1)
def RepL (q:Kn):List Tm→Nat→Prop
 | [],_=>True
 | t::r,i=>(∃y,¬q.S i∧q.C[i]?=some y∧Rep q t y)∧RepL q r (i+1)
end
theorem Rep.eq {q:Kn} {t:Tm} {x:Wd}:Rep q t x↔if t.kind=1 then ∃i,x=.ref i∧(t.n,i)∈q.V∧¬q.S i∧q.C[i]?=some (.ref i)
  else if t.kind=2 then x=.int t.n
  else if t.kind=3 then ∃id m,x=.atom id∧q.L[id]?=some ⟨t.s,true,m⟩
  else ∃i id,x=.str i∧¬q.S i∧q.C[i]?=some (.fn id)∧At q.L q.FL id t.s (t.l.length:Int)∧RepL q t.l (i+1):=by
 cases t
 rw[Rep]
 rfl
theorem RepL.at {q:Kn}:∀{l:List Tm} {i:Nat},RepL q l i↔∀k (hk:k<l.length),∃y,¬q.S (i+k)∧q.C[i+k]?=some y∧Rep q l[k] y
 | [],i=>by rw[RepL];simp
 | t::r,i=>by
  rw[RepL,RepL.at]
  constructor
  ·rintro⟨h1,h2⟩ k hk
   rcases k with _ | k
   ·exact h1
   ·have:=h2 k (by simpa using hk)
    simp only[List.getElem_cons_succ]
    rw[show i+(k+1)=i+1+k by omega]
    exact this
  ·intro h
   refine⟨h 0 (by simp),fun k hk=>?_⟩
   have:=h (k+1) (by simpa using hk)
   simp only[List.getElem_cons_succ] at this
   rw[show i+1+k=i+(k+1) by omega]
   exact this
structure Kn.le (q r:Kn):Prop where
 C:∀(i:Nat) (x:Wd),¬q.S i→q.C[i]?=some x→r.C[i]?=some x
 S:∀(i:Nat),¬q.S i→i<q.C.length→¬r.S i
 L:StayL q.L r.L
 FL:StayF q.FL r.FL
 V:∀x∈q.V,x∈r.V
theorem Kn.le.refl (q:Kn):q.le q:=⟨fun _ _ _ h=>h,fun _ h _=>h,StayL.refl _,StayF.refl _,fun _ h=>h⟩
theorem Kn.le.trans {q r s:Kn} (h:q.le r) (g:r.le s):q.le s:=
 ⟨fun i x hs hx=>g.C i x (h.S i hs (List.getElem?_eq_some_iff.1 hx).1) (h.C i x hs hx),fun i hs hi=>by
  refine g.S i (h.S i hs hi) ?_
  have:=h.C i _ hs (List.getElem?_eq_getElem hi)
  exact(List.getElem?_eq_some_iff.1 this).1,h.L.trans g.L,h.FL.trans g.FL,fun x hx=>g.V x (h.V x hx)⟩
theorem Rep.mono {q r:Kn} (hl:q.le r) (t:Tm):∀{x:Wd},Rep q t x→Rep r t x:=by
 induction t using Tm.ind with | _ t ih=>?_
 intro x h
 rw[Rep.eq] at h ⊢
 by_cases h1:t.kind=1
 ·rw[if_pos h1] at h ⊢
  obtain⟨i,a,b,c,d⟩:=h
  exact⟨i,a,hl.V _ b,hl.S i c (List.getElem?_eq_some_iff.1 d).1,hl.C i _ c d⟩
 rw[if_neg h1] at h ⊢
 by_cases h2:t.kind=2
 ·rw[if_pos h2] at h ⊢;exact h
 rw[if_neg h2] at h ⊢
 by_cases h3:t.kind=3
 ·rw[if_pos h3] at h ⊢
  obtain⟨id,m,a,b⟩:=h
  exact⟨id,m,a,hl.L _ _ b rfl⟩
 rw[if_neg h3] at h ⊢
 obtain⟨i,id,a,b,c,d,e⟩:=h
 refine⟨i,id,a,hl.S i b (List.getElem?_eq_some_iff.1 c).1,hl.C i _ b c,d.stay hl.L hl.FL,RepL.at.2 fun k hk=>?_⟩
 obtain⟨y,f,g,g2⟩:=RepL.at.1 e k hk
 exact⟨y,hl.S _ f (List.getElem?_eq_some_iff.1 g).1,hl.C _ _ f g,ih _ (List.getElem_mem hk) g2⟩
section
variable {C:List Wd} {L:List Slot} {FL:List Fn.Slot}
theorem Zha {α:Type} {l:List α} {j i:Nat} {y:α} (hj:j<l.length):(l.set j y)[i]?=if i=j then some y else l[i]?:=by
 by_cases h:i=j
 ·subst h;rw[if_pos rfl,List.getElem?_set_self hj]
 ·rw[if_neg h,List.getElem?_set_ne (Ne.symm h)]
theorem WF.set (wf:WF C L FL) {j:Nat} {y:Wd} (hj:C[j]?=some (.ref j)) (hy:rightW C L y=true) (hyd:Der C y y):WF (C.set j y) L FL∧(∀x,rightW (C.set j y) L x=rightW C L x):=by
 have hjl:=(List.getElem?_eq_some_iff.1 hj).1
 have ht5:y.tag≠5:=by
  cases y <;> simp [Wd.tag]
  simp [rightW] at hy
 have hr:∀x,rightW (C.set j y) L x=rightW C L x:=fun x=>by
  cases x with
  | ref i=>
   unfold rightW
   simp only[Zha hjl]
   by_cases h:i=j
   ·subst h;rw[if_pos rfl,hj]
    show decide (y.tag≠5)=decide ((Wd.ref i).tag≠5)
    rw[decide_eq_true ht5];rfl
   ·rw[if_neg h]
  | str i=>
   unfold rightW
   simp only[Zha hjl]
   by_cases h:i=j
   ·subst h;rw[if_pos rfl,hj]
    show decide (y.tag=5)=decide ((Wd.ref i).tag=5)
    rw[decide_eq_false ht5];rfl
   ·rw[if_neg h]
  | atom i=>rfl
  | int n=>rfl
  | fn i=>rfl
 have hyy:∃z,Der (C.set j y) y z:=by
  rcases hyd.last with h | ⟨i,rfl,h⟩
  ·exact⟨y,0,.stop h⟩
  ·refine⟨.ref i,0,.root ?_⟩
   rw[Zha hjl]
   by_cases e:i=j
   ·subst e;rw[if_pos rfl]
   ·rw[if_neg e];exact h
 refine⟨⟨fun x hx ht=>?_,fun x hx=>?_,fun i k h=>?_⟩,hr⟩
 ·rw[hr]
  rcases List.mem_or_eq_of_mem_set hx with h | h
  ·exact wf.right x h ht
  ·rw[h];exact hy
 ·rw[hr] at hx
  obtain⟨z,n,hz⟩:=wf.der x hx
  clear hx
  induction hz with
  | stop h=>exact⟨_,0,.stop h⟩
  | @root i h=>
   by_cases e:i=j
   ·subst e
    by_cases e2:y=.ref i
    ·exact⟨.ref i,0,.root (by rw[Zha hjl,if_pos rfl,e2])⟩
    ·obtain⟨z,n,hz⟩:=hyy
     exact⟨z,n+1,.step (by rw[Zha hjl,if_pos rfl]) e2 hz⟩
   ·exact⟨.ref i,0,.root (by rw[Zha hjl,if_neg e];exact h)⟩
  | @step n i x' z' h hne hd ih=>
   obtain⟨z,m,hz⟩:=ih
   have e:i≠j:=by
    rintro rfl
    rw[hj] at h;cases h;exact hne rfl
   exact⟨z,m+1,.step (by rw[Zha hjl,if_neg e];exact h) hne hz⟩
 ·rw[Zha hjl] at h
  have e:i≠j:=by
   rintro rfl
   rw[if_pos rfl] at h
   cases h
   exact ht5 rfl
  rw[if_neg e] at h
  obtain⟨s,m,h1,h2,h3,h4,h5⟩:=wf.fn i k h
  refine⟨s,m,h1,h2,h3,by rw[List.length_set];exact h4,fun q hq1 hq2 z hz=>?_⟩
  rw[Zha hjl] at hz
  by_cases e2:i+q=j
  ·rw[if_pos e2] at hz
   cases hz;exact ht5
  ·rw[if_neg e2] at hz
   exact h5 q hq1 hq2 z hz
theorem Rep.self {q:Kn} {t:Tm} {x:Wd} (h:Rep q t x) (hr:t.right=true):Der q.C x x∧rightW q.C q.L x=true:=by
 rw[Rep.eq] at h
 rw[Tm.right_eq] at hr
 simp only[Bool.and_eq_true] at hr
 have hp:=hr.1
 unfold partT at hp
 by_cases h1:t.kind=1
 ·rw[if_pos h1] at h
  obtain⟨i,rfl,_,_,h4⟩:=h
  exact⟨⟨0,.root h4⟩,Za2.2 ⟨_,h4,by simp [Wd.tag]⟩⟩
 rw[if_neg h1] at h hp
 by_cases h2:t.kind=2
 ·rw[if_pos h2] at h hp
  subst h
  refine⟨⟨0,.stop (by simp [Wd.tag])⟩,?_⟩
  simp only[Bool.and_eq_true,decide_eq_true_eq] at hp
  unfold rightW
  simp only[decide_eq_true_eq]
  exact hp.1.1
 rw[if_neg h2] at h hp
 by_cases h3:t.kind=3
 ·rw[if_pos h3] at h
  obtain⟨id,m,rfl,h4⟩:=h
  exact⟨⟨0,.stop (by simp [Wd.tag])⟩,Zqp.2 ⟨_,h4,rfl⟩⟩
 rw[if_neg h3] at h
 obtain⟨i,id,rfl,_,h4,_⟩:=h
 exact⟨⟨0,.stop (by simp [Wd.tag])⟩,ZcL.2 ⟨id,h4⟩⟩
end
def vmM (V:List (Int×Nat)):List (Int×Value):=V.map fun x=>(x.1,.int .u64 (Wd.ref x.2).enc)
theorem ZsX {n:Int}:∀{V:List (Int×Nat)},Go.D.look n (vmM V)=(V.find? fun x=>decide (x.1=n)).map fun x=>Value.int .u64 (Wd.ref x.2).enc
 | []=>rfl
 | x::V=>by
  have:=ZsX (n:=n) (V:=V)
  unfold vmM at this ⊢
  rw[List.map_cons,ZdS,List.find?_cons,this]
  by_cases h:n=x.1
  ·rw[if_pos h];simp [h]
  ·rw[if_neg h];simp [Ne.symm h]
theorem Zye {n:Int} {i:Nat} {V:List (Int×Nat)} (h:n∉V.map (·.1)):Go.D.put n (.int .u64 (Wd.ref i).enc) (vmM V)=vmM (V++[(n,i)]):=by
 have hl:Go.D.look n (vmM V)=none:=by
  rw[ZsX]
  have:(V.find? fun x=>decide (x.1=n))=none:=by
   rw[List.find?_eq_none]
   intro x hx
   simp
   rintro rfl
   exact h (List.mem_map.2 ⟨x,hx,rfl⟩)
  rw[this];rfl
 have hs:Go.D.spot n (vmM V) 0=none:=by
  unfold Go.D.look at hl
  simpa using hl
 rw[Znn _ _ _ 0 hs]
 unfold vmM
 simp
structure VmOk (S:Nat→Prop) (C:List Wd) (V:List (Int×Nat)):Prop where
 once:(V.map (·.1)).Nodup
 two:(V.map (·.2)).Nodup
 cell:∀x∈V,¬S x.2∧C[x.2]?=some (.ref x.2)
theorem mapKey:KeyOf Tryz.prog 3 (fun a:Int=>Value.int .i64 a):=keyInt (by rfl)
section
variable {w v v':World} {d:HpD} {E:List Nat} {C:List Wd} {k r:Nat} {V:List (Int×Nat)} {S:Nat→Prop}
theorem ZtT {n:Int} {K:Int→Int→World→Prop} (h:Hp w v d (r::E)) (hi:HI d C k) (hrw:w.heap.size≤r) (hrE:r∉E) (hm:MapAt v r (fun a:Int=>Value.int .i64 a) (vmM V)) (hv:VmOk S C V) (hS:∀j,S j→j<C.length)
  (hin:∀i,(n,i)∈V→∀v',Hp w v' d (r::E)→MapAt v' r (fun a:Int=>Value.int .i64 a) (vmM V)→Far E v v'→K (Wd.ref i).enc 0 v')
  (hfull:n∉V.map (·.1)→d.pd.limit<C.length+1→∀v',Hp w v' d (r::E)→Far E v v'→K 0 2 v')
  (hnew:n∉V.map (·.1)→(C.length:Int)+1≤d.pd.limit→∀v' d',Hp w v' d' (r::E)→HI d' (C++[.ref C.length]) k→KinH d d'→d'.L=d.L→d'.FL=d.FL→MapAt v' r (fun a:Int=>Value.int .i64 a) (vmM (V++[(n,C.length)]))→Far E v v'→K (Wd.ref C.length).enc 0 v') :
  Zbw d.a n (some r) v K:=by
 apply Zbw.of
 unfold ZhJ
 have hbd:=hi.ok.bound h
 refine ZkT (z:=.int .u64 0) mapKey (by rfl) ⟨_,by rfl,by rfl⟩ hm ?_
 rw[ZsX]
 have less:∀{X:List Nat} {v1 v2:World},Far (X++(r::E)) v1 v2→Far E v1 v2:=fun f=>f.less fun k hk=>by simp [hk]
 have mapF:∀{X:List Nat} {v1 v2:World} {M:List (Int×Value)},Far (X++(r::E)) v1 v2→MapAt v1 r (fun a:Int=>Value.int .i64 a) M→MapAt v2 r (fun a:Int=>Value.int .i64 a) M:=fun f hm=>by
  obtain⟨F,u,dd⟩:=f
  exact hm.upd u (dd r (by simp))
 rcases hf:V.find? (fun x=>decide (x.1=n)) with _ | x
 ·have hno:n∉V.map (·.1):=by
   intro hx
   obtain⟨x,hx2,rfl⟩:=List.mem_map.1 hx
   have:=List.find?_eq_none.1 hf x hx2
   simp at this
  rw[hf]
  refine⟨0,false,rfl,ifF rfl ?_⟩
  unfold ZfM ZdV
  refine Zx7 h hi (fun hl v1 h1 u1=>ifF rfl (hfull hno hl v1 h1 (Far.keep u1))) fun hl v1 d1 h1 hi1 e1 e3 e4 u1=>ifT rfl (ifT rfl ?_)
  have f1:Far (r::E) v v1:=⟨_,u1,fun k hk hx=>by
   obtain⟨P,hP,hkP⟩:=Zrq.1 hx
   have hd:=h.dis
   rw[List.pairwise_append] at hd
   exact hd.2.2 P hP (r::E) (by simp) k hkP hk⟩
  have hm1:=mapF (X:=[]) f1 hm
  refine Zie mapKey (by rfl) hm1 fun v2 hm2 u2=>?_
  rw[Zye hno] at hm2
  have hr1:r∉d1.F:=fun hx=>by
   obtain⟨P,hP,hkP⟩:=Zrq.1 hx
   have hd:=h1.dis
   rw[List.pairwise_append] at hd
   exact hd.2.2 P hP (r::E) (by simp) r hkP (by simp)
  have h2:=h1.upd u2 (fun k hk hx=>by simp at hx;subst hx;exact hr1 hk) (by simp) (by intro k hk;simp at hk;omega) (Sub.refl _ _) ((show In (r::E) v1 from fun k hk=>h1.inn k (List.mem_append.2 (.inr hk))).upd u2)
  refine hnew hno hl v2 d1 h2 hi1 e1 e3 e4 hm2 ?_
  exact(f1.less fun k hk=>by simp [hk]).then ⟨_,u2,fun k hk hx=>by simp at hx;subst hx;exact hrE hk⟩
 ·have hx:=List.mem_of_find?_eq_some hf
  have hn:x.1=n:=by have:=List.find?_some hf;simpa using this
  obtain⟨hS1,hc⟩:=hv.cell x hx
  rw[hf]
  refine⟨_,true,rfl,ifT rfl ?_⟩
  have hil:=(List.getElem?_eq_some_iff.1 hc).1
  refine ZoO (x:=.ref x.2) h hi.ok ⟨by show -2^60≤(x.2:Int);omega,by show (x.2:Int)<2^60;omega⟩ fun v1 h1 f1=>ifT (Za2.2 ⟨_,hc,by simp [Wd.tag]⟩) ?_
  exact hin x.2 (by rw[←hn];exact hx) v1 h1 (mapF f1 hm) (less f1)
end
end Go.Proofs.YtdaenijbokialaaGreat
