import Derived.Test.YtdaenijbokialaaGreatGenAll
namespace Go.Proofs.YtdaenijbokialaaGreat
open Go Go.D Go.Proofs
namespace Ro
set_option linter.unusedSimpArgs false
set_option linter.unusedVariables false
set_option maxRecDepth 8000
def RoomAt (w:World) (m:Option Addr) (L:List Int) (lim most:Int) (F:List Nat):Prop:=
 ∃b p n c G,m=some ⟨b,0,none⟩∧Blk w b #[.slice p n c,.int .i64 lim,.int .i64 most]∧SlAt w 1 p n c (L.map (.int .u64)) G∧F=b::G∧b∉G
theorem RoomAt.inn {w:World} {m:Option Addr} {L:List Int} {lim most:Int} {F:List Nat} (h:RoomAt w m L lim most F):In F w:=by
 obtain⟨b,p,n,c,G,rfl,hb,hs,rfl,hn⟩:=h
 intro k hk
 rcases List.mem_cons.1 hk with rfl | hk
 ·exact hb.lt
 ·exact hs.inn k hk
theorem RoomAt.upd {w w':World} {m:Option Addr} {L:List Int} {lim most:Int} {F G:List Nat} (h:RoomAt w m L lim most F) (u:Upd G w w') (hd:Dis F G):RoomAt w' m L lim most F:=by
 obtain⟨b,p,n,c,H,rfl,hb,hs,rfl,hn⟩:=h
 exact⟨b,p,n,c,H,rfl,hb.upd u (hd b (by simp)),hs.upd u (fun k hk=>hd k (by simp [hk])),rfl,hn⟩
theorem RoomAt.drw {w:World} {m:Option Addr} {L:List Int} {lim most:Int} {F:List Nat} (h:RoomAt w m L lim most F):RoomAt (drw w) m L lim most F:=
 h.upd (Zah w) (fun _ _ h=>by cases h)
theorem len_n {w:World} {p:Option Addr} {n c:Nat} {L:List Int} {G:List Nat} (h:SlAt w 1 p n c (L.map (.int .u64)) G):n=L.length:=by
 have:=h.1;simp at this;exact this.symm
theorem New_ok {lim:Int} {w:World} {K:Option Addr→Int→World→Prop} (h0:0≤lim) (h1:lim≤1048576)
  (hK:∀m w' F,RoomAt w' m [] lim 0 F→Upd [] w w'→Since F w→m.isNone=false→K m 0 w'):Zf7 lim w K:=by
 apply Zf7.of
 unfold ZoX
 refine ifF (by simp;omega) (ifF (by simp;omega) (Zai fun b w' hb hu hblk=>hK _ w' [b] ⟨b,none,0,0,[],rfl,hblk,SlAt.nil _ _,rfl,by simp⟩ hu ?_ rfl))
 intro k hk;simp at hk;omega
theorem New_bad {lim:Int} {w:World} {K:Option Addr→Int→World→Prop} (h:lim<0∨1048576<lim) (hK:K none 1 w):Zf7 lim w K:=by
 apply Zf7.of
 unfold ZoX
 by_cases h0:lim<0
 ·exact ifT (by simp [h0]) hK
 ·exact ifF (by simp;omega) (ifT (by simp;omega) hK)
theorem ZxC {w:World} {m:Option Addr} {L:List Int} {lim most:Int} {F:List Nat} {K:World→Prop} (h:RoomAt w m L lim most F)
  (hK:∀w',RoomAt w' m L lim (max most L.length) F→Upd F w w'→K w'):ZcM m w K:=by
 obtain⟨b,p,n,c,G,rfl,hb,hs,rfl,hn⟩:=h
 have hl:=len_n hs
 apply ZcM.of
 unfold Zk7
 simp only[X_,hb.cell]
 refine Zbi hb.drw (by simp) rfl fun w' hu hb'=>hK w' ⟨b,p,n,c,G,rfl,?_,hs.upd ((Zah w).after hu) ?_,rfl,hn⟩ (((Zah w).after hu).mono (by simp))
 ·subst hl;simpa using hb'
 ·intro k hk;simp;rintro rfl;exact hn hk
theorem Zvv {w:World} {b:Nat} {p:Option Addr} {n c:Nat} {L:List Int} {lim most x:Int} {G:List Nat} {K:World→Prop} (hb:Blk w b #[.slice p n c,.int .i64 lim,.int .i64 most]) (hs:SlAt w 1 p n c (L.map (.int .u64)) G) (hn:b∉G) (hl:L.length<2^40)
  (hK:∀w' F',RoomAt w' (some ⟨b,0,none⟩) (L++[x]) lim most F'→Upd (b::G) w w'→Sub F' (b::G) w→K w') :
  BSl Tryz.prog 36 1 [(0,.int .u64 x)] w fun t25P t25N t25C w1=>
   App Tryz.prog #[36,36] 36 #[.slice p n c,.slice t25P t25N t25C] w1 fun t26P t26N t26C w1_1=>
   St w1_1 ⟨b,0,none⟩ (.slice t26P t26N t26C) K:=by
 have hln:=len_n hs
 refine Zui (cs:=[.int .u64 x]) ZsL (ZwH rfl) (by rfl) (by omega) fun w1 hs1 hu1=>?_
 refine Ze1 (hE:=ZsL) (hs.upd hu1 (by intro k hk hx;cases hx)) hs1 (by simp [Value.oneCell']) (by omega) fun p' c' F' w2 hs2 hu2 hsub=>?_
 have hb2:Blk w2 b #[.slice p n c,.int .i64 lim,.int .i64 most]:=(hb.upd hu1 (by simp)).upd hu2 hn
 have hu02:Upd G w w2:=hu1.after hu2
 have hbF:b∉F':=fun hx=>by
  rcases hsub b hx with h | h
  ·exact hn h
  ·have:=(hb.upd hu1 (by simp)).lt;omega
 refine Zbi hb2 (by simp) rfl fun w3 hu3 hb3=>hK w3 (b::F') ⟨b,p',n+1,c',F',rfl,hb3,?_,rfl,hbF⟩ ?_ ?_
 ·simp only[List.map_append,List.map_cons,List.map_nil]
  exact hs2.upd hu3 (by intro k hk;simp;rintro rfl;exact hbF hk)
 ·exact hu02.trans hu3 (by intro k hk;simp [hk]) (by intro k hk;simp at hk;simp [hk])
 ·intro k hk
  rcases List.mem_cons.1 hk with rfl | hk
  ·simp
  ·exact((hsub.old hu1.size) k hk).imp (by intro h;simp [h]) id
theorem Push_ok {w:World} {m:Option Addr} {L:List Int} {lim most x:Int} {F:List Nat} {K:Int→World→Prop} (h:RoomAt w m L lim most F) (hc:L.length<lim) (hl:L.length<2^40)
  (hK:∀w' F',RoomAt w' m (L++[x]) lim (max most (L.length+1)) F'→Upd F w w'→Sub F' F w→K 0 w'):ZcO m x w K:=by
 obtain⟨b,p,n,c,G,rfl,hb,hs,rfl,hn⟩:=h
 have hln:=len_n hs
 apply ZcO.of
 unfold Zlv
 simp only[X_,hb.cell]
 refine ifF rfl (ifF (by simp;omega) ?_)
 refine Zvv hb.drw hs.drw hn hl fun w1 F1 hr hu hsub=>ZxC hr fun w2 hr2 hu2=>hK w2 F1 (by simpa using hr2) ?_ (hsub.old (Nat.le_refl _))
 exact((Zah w).after hu).trans hu2 (fun k hk=>.inl hk) hsub
theorem Len_ok {w:World} {m:Option Addr} {L:List Int} {lim most:Int} {F:List Nat} {K:Int→World→Prop} (h:RoomAt w m L lim most F) (hK:K L.length w):Za1 m w K:=by
 obtain⟨b,p,n,c,G,rfl,hb,hs,rfl,hn⟩:=h
 have hln:=len_n hs
 apply Za1.of
 unfold Zl6
 simp only[X_,hb.cell]
 exact ifF rfl (by rw[hln];exact hK)
theorem Zv7 {w:World} {m:Option Addr} {L:List Int} {lim most i:Int} {F:List Nat} {K:Int→World→Prop} (h:RoomAt w m L lim most F) (hK:K (if 0≤i∧i<L.length then 0 else 4) w):Zdu m i w K:=by
 obtain⟨b,p,n,c,G,rfl,hb,hs,rfl,hn⟩:=h
 have hln:=len_n hs
 apply Zdu.of
 unfold Zmd
 simp only[X_,hb.cell]
 refine ifF rfl (ifC (fun hc=>?_) (fun hc=>ifC (fun hd=>?_) (fun hd=>?_)))
 ·simp at hc;rwa [if_neg (by omega)] at hK
 ·simp at hd;rwa [if_neg (by omega)] at hK
 ·simp at hc hd;rwa [if_pos (by omega)] at hK
theorem ZpO {w:World} {p:Option Addr} {n c:Nat} {L:List Int} {G:List Nat} (h:SlAt w 1 p n c (L.map (.int .u64)) G) {i:Int} (h0:0≤i) (h1:i<L.length) :
  ∃b off,p=some ⟨b,off,none⟩∧w.cell? ⟨b,off+i.toNat,none⟩=some (.int .u64 (L[i.toNat]'(by omega))):=by
 obtain⟨b,off,hp,hc⟩:=h.cell (i:=i.toNat) (by have:=len_n h;omega)
 refine⟨b,off,hp,?_⟩
 rw[hc,List.getElem?_map,List.getElem?_eq_getElem (by omega)];rfl
theorem Zyb {w:World} {m:Option Addr} {L:List Int} {lim most i:Int} {F:List Nat} {K:Int→Int→World→Prop} (h:RoomAt w m L lim most F) (h0:0≤i) (h1:i<L.length) (hK:K (L[i.toNat]'(by omega)) 0 w):Zdm m i w K:=by
 apply Zdm.of
 unfold Zmc
 refine Zv7 h ?_
 obtain⟨b,p,n,c,G,rfl,hb,hs,rfl,hn⟩:=h
 have hln:=len_n hs
 obtain⟨b',off,rfl,hc⟩:=ZpO hs h0 h1
 rw[if_pos ⟨h0,h1⟩]
 simp only[X_,hb.cell]
 refine ifF (by simp) ⟨h0,by omega,?_⟩
 simp only[hc,exI]
 exact hK
end Ro
namespace Ro
set_option linter.unusedSimpArgs false
set_option linter.unusedVariables false
set_option maxRecDepth 8000
theorem Zwn {w:World} {b:Nat} {p:Option Addr} {n c k:Nat} {L:List Int} {lim most:Int} {G:List Nat} {K:World→Prop} (hb:Blk w b #[.slice p n c,.int .i64 lim,.int .i64 most]) (hs:SlAt w 1 p n c (L.map (.int .u64)) G) (hn:b∉G) (hk:k≤L.length)
  (hK:∀w',RoomAt w' (some ⟨b,0,none⟩) (L.take k) lim most (b::G)→Upd (b::G) w w'→K w'):St w ⟨b,0,none⟩ (.slice p k c) K:=by
 have hln:=len_n hs
 refine Zbi hb (by simp) rfl fun w1 hu hb1=>hK w1 ⟨b,p,k,c,G,rfl,by simpa using hb1,?_,rfl,hn⟩ (hu.mono (by simp))
 have:=hs.take (k:=k) (by omega)
 rw[Nat.mul_one,←List.map_take] at this
 exact this.upd hu (by intro x hx;simp;rintro rfl;exact hn hx)
theorem Pop_ok {w:World} {m:Option Addr} {L:List Int} {lim most:Int} {F:List Nat} {K:Int→Int→World→Prop} (h:RoomAt w m L lim most F) (h0:0<L.length) (hl:L.length<2^40)
  (hK:∀w',RoomAt w' m (L.take (L.length-1)) lim most F→Upd F w w'→K (L[L.length-1]'(by omega)) 0 w'):Zdy m w K:=by
 apply Zdy.of
 unfold Zmi Zjr
 refine Len_ok h ?_
 rw[i64id (by omega) (by omega)]
 have hq:(((L.length:Int)-1).toNat)=L.length-1:=by omega
 refine Zyb h (by omega) (by omega) ?_
 have hg:∀hh,L[((L.length:Int)-1).toNat]'hh=L[L.length-1]'(by omega):=fun _=>by congr 1
 rw[hg]
 refine ifT rfl ?_
 obtain⟨b,p,n,c,G,rfl,hb,hs,rfl,hn⟩:=h
 have hln:=len_n hs
 have hnc:=hs.2.1
 simp only[X_,hb.cell,hq]
 exact⟨by omega,by omega,Zwn hb hs hn (by omega) fun w' hr hu=>hK w' hr hu⟩
theorem Zt7 {w:World} {p q:Option Addr} {n c m d:Nat} {L:List Int} {F G:List Nat} {K:Bool→World→Prop} (hs:SlAt w 1 p n c (L.map (.int .u64)) F) (ht:SlAt w 1 q m d (L.map (.int .u64)) G) (hl:L.length<2^40)
  (hK:∀w',Upd [] w w'→K true w'):ZgN p n c q m d w K:=by
 apply ZgN.of
 unfold ZoK ZlT
 have hn:=len_n hs
 have hm:=len_n ht
 refine ifF (by simp;omega) ?_
 refine⟨fun s w1=>0≤s.i∧s.i≤L.length∧Upd [] w w1,fun s _=>(L.length-s.i).toNat,⟨by simp,by simp,Upd.refl _ _⟩,?_⟩
 rintro⟨j⟩ w1 ⟨hj0,hj1,hu⟩
 simp only at hj0 hj1 ⊢
 unfold Zmh
 refine ifC (fun hc=>?_) (fun hc=>hK w1 hu)
 simp at hc
 obtain⟨b1,o1,rfl,h1⟩:=ZpO (hs.upd hu (by intro k hk hx;cases hx)) hj0 (by omega)
 obtain⟨b2,o2,rfl,h2⟩:=ZpO (ht.upd hu (by intro k hk hx;cases hx)) hj0 (by omega)
 simp only[X_,h1,h2]
 refine⟨hj0,by omega,hj0,by omega,ifF (by simp) ?_⟩
 rw[i64id (by omega) (by omega)]
 exact⟨⟨by omega,by omega,hu.after (Zah w1)⟩,by simp;omega⟩
end Ro
end Go.Proofs.YtdaenijbokialaaGreat
