import Derived.Test.YtdaenijbokialaaGreatDec4
import Derived.Test.YtdaenijbokialaaGreatOwn17
namespace Go.Proofs.YtdaenijbokialaaGreat
open Go Go.D Go.Proofs
set_option linter.unusedSimpArgs false
set_option linter.unusedVariables false
set_option maxRecDepth 8000
structure Fresh (d:HpD) (cells trail:Int):Prop where
 hi:HI d [] 0
 TL:d.TL=[]
 lim:d.pd.limit=cells
 tlim:d.tlim=trail
 starts:d.starts=[0]
 marks:d.marks=[0]
 L:d.L=initL
 FL:d.FL=[]
section
variable {w v:World}
theorem Zv5 {cells trail:Int} {K:Option Addr→Int→World→Prop} (U:Upd [] w v) (h0:0≤cells) (h1:cells≤1048576) (h2:0≤trail) (h3:trail≤1048576)
  (hK:∀v' d,Hp w v' d []→Fresh d cells trail→Upd [] v v'→Since d.F v→K d.a 0 v'):ZeG cells trail v K:=by
 apply ZeG.of
 unfold ZoS
 refine Po.New_ok h0 h1 fun w1 pd pl plok e1 e2 e3 u1 s1=>ifF rfl ?_
 refine Ro.New_ok h2 h3 fun tm w2 TF tr u2 s2 hn=>ifF rfl ?_
 have pl2:=pl.keep u2
 refine Tl.new (w:=w2) (Upd.refl _ _) (by omega) (by omega) fun w3 ab t3=>?_
 have u3:=t3.U
 refine Bf.new t3 (by omega) (by omega) fun w4 fd b4 u4=>?_
 refine Za3 Zq0 [.int .i64 0] (by rfl) (by simp [Value.cells]) (by rfl) (by omega) fun w5 hs5 u5=>?_
 refine Za3 Zq0 [.int .i64 0] (by rfl) (by simp [Value.cells]) (by rfl) (by omega) fun w6 hs6 u6=>?_
 refine Zai fun b w7 hb u7 hblk=>?_
 have U24:=u3.after u4
 have U47:=(u5.after u6).after u7
 have U27:=U24.after U47
 have U07:=(u1.after u2).after U27
 have z1:=u1.size;have z2:=u2.size;have z3:=u3.size;have z4:=u4.size;have z5:=u5.size;have z6:=u6.size
 have hUw:=U.size
 have y5:=hs5.inn w4.heap.size (by simp)
 have y6:=hs6.inn w5.heap.size (by simp)
 obtain⟨d,hd⟩:∃d:HpD,d=⟨b,pd,tm,[],trail,0,TF,none,0,[],[],some ⟨w4.heap.size,0,none⟩,1,[0],[w4.heap.size],some ⟨w5.heap.size,0,none⟩,1,[0],[w5.heap.size],some ⟨ab,0,none⟩,fd.a,initL,0,16384,[],16384,fd⟩:=⟨_,rfl⟩
 have hF:d.F=b::(pd.FT++(TF++([]++([w4.heap.size]++[w5.heap.size])))):=by rw[hd];rfl
 have lP:∀k∈pd.FT,v.heap.size≤k∧k<w1.heap.size:=fun k hk=>⟨s1 k hk,pl.inn k hk⟩
 have lT:∀k∈TF,w1.heap.size≤k∧k<w2.heap.size:=fun k hk=>⟨s2 k hk,tr.inn k hk⟩
 have lF:∀k∈d.F,v.heap.size≤k∧(k<w2.heap.size∨w4.heap.size≤k)∧k<w7.heap.size:=fun k hk=>by
  rw[hF] at hk
  simp only[List.mem_cons,List.mem_append,List.not_mem_nil,or_false,false_or] at hk
  have hb7:=hblk.lt
  rcases hk with e | e | e | e | e
  ·omega
  ·have:=lP k e;omega
  ·have:=lT k e;omega
  ·omega
  ·omega
 have bf:Bf w w7 (d.F++[]) (some ⟨ab,0,none⟩) fd.a initL 0 16384 [] 16384 fd:=by
  have bk:=b4.keep U47
  refine⟨?_,bk.ft,bk.ok,bk.atoms,rfl,bk.eL,bk.el,fun k hk=>by have:=b4.sd k hk;omega,fun k hk hx=>?_⟩
  ·obtain⟨FT,has,s,u,dd,ii⟩:=b4.tl
   refine⟨FT,has.keep U47,fun k hk=>by have:=s k hk;omega,U.after U07,fun k hk hx=>?_,fun k hk=>?_⟩
   ·rcases List.mem_append.1 hk with e | e
    ·exact dd k (by simp [e]) hx
    ·have:=lF k (by simpa using e);have:=s k hx;have:=has.inn k hx;omega
   ·rcases List.mem_append.1 hk with e | e
    ·have:=b4.ft.inn k e;have:=U47.size;omega
    ·exact(lF k (by simpa using e)).2.2
  ·have:=lF k (by simpa using hx);have:=b4.sd k hk;have:=b4.ft.inn k hk;omega
 have hp:Hp w w7 d []:=by
  have g1:=pl2.keep U27
  have g2:=tr.upd U27 (by intro k _ h;cases h)
  have g3:=(hs5.upd u6 (by intro k _ h;cases h)).upd u7 (by intro k _ h;cases h)
  have g4:=hs6.upd u7 (by intro k _ h;cases h)
  subst hd
  refine⟨hblk,g1,plok,g2,SlAt.nil _ _,g3,g4,bf,pair6.2 ⟨⟨?_,?_,?_,?_,?_,?_⟩,⟨?_,?_,?_,?_,?_⟩,⟨?_,?_,?_,?_⟩,⟨?_,?_,?_⟩,⟨?_,?_⟩,?_⟩,fun k hk=>by have:=lF k hk;omega⟩ <;> intro k hk hx <;> simp at hk hx <;>
   first
   | (have:=lP k hk;have:=lT k hx;omega)
   | (have:=lP k hx;omega)
   | (have:=lT k hx;omega)
   | (have:=lP k hk;omega)
   | (have:=lT k hk;omega)
   | omega
 have ea:(some ⟨b,0,none⟩:Option Addr)=d.a:=by rw[hd];rfl
 rw[ea]
 obtain⟨sl,e3⟩:=e3
 have hnf:∀k,¬Po.freeP pd k:=fun k hh=>by
  obtain⟨x,hx,r,hr,_⟩:=hh
  rw[e3] at hx
  simp at hx
  subst hx
  simp at hr
 refine hK w7 d hp ?_ U07 fun k hk=>(lF k hk).1
 subst hd
 refine⟨⟨⟨rfl,(by intro x hx;cases hx),hnf,by show ((0:Nat):Int)=pd.top;rw[e1];rfl,by show [0]=pd.L.map (·.start);rw[e3];rfl,rfl⟩,⟨(by intro x hx;cases hx),fun x hx=>?_,(by intro i j h;simp at h)⟩,by show initL.length≤15;decide,by show (0:Nat)≤0;omega,by show (0:Int)≤0;omega,rfl,rfl,fun s hs=>?_⟩,rfl,e2,rfl,rfl,rfl,rfl,rfl⟩
 ·cases x with
  | ref i=>obtain⟨y,hy,_⟩:=Za2.1 hx;simp at hy
  | str i=>exact⟨_,0,.stop (by simp [Wd.tag])⟩
  | atom i=>exact⟨_,0,.stop (by simp [Wd.tag])⟩
  | int i=>exact⟨_,0,.stop (by simp [Wd.tag])⟩
  | fn i=>exact⟨_,0,.stop (by simp [Wd.tag])⟩
 ·have:∀s∈initL,s.name.size≤64:=by decide
  exact this s hs
theorem ZwF {cells trail:Int} {K:Option Addr→Int→World→Prop} (h:cells<0∨1048576<cells) (hK:K none 1 v):ZeG cells trail v K:=by
 apply ZeG.of
 unfold ZoS
 exact Po.New_bad h (ifT rfl hK)
theorem Acy.nil {L:List Slot} (FL:List Fn.Slot) (h:∀s∈L,s.name.size≤64):Acy [] L FL:=by
 intro x hx
 cases x with
 | ref i=>obtain⟨y,hy,_⟩:=Za2.1 hx;simp at hy
 | str i=>obtain⟨y,hy⟩:=ZcL.1 hx;simp at hy
 | atom i=>exact ZsA h hx
 | int i=>exact⟨_,Zuq⟩
 | fn i=>simp [rightW] at hx
theorem Hp.base {d:HpD} {E:List Nat} (h:Hp w v d E):Hp w v d (E++List.range w.heap.size):=by
 have hU:=h.U.size
 have hin:In (d.F++(E++List.range w.heap.size)) v:=fun k hk=>by
  simp only[List.mem_append,List.mem_range] at hk
  rcases hk with g | g | g
  ·exact h.inn k (by simp [g])
  ·exact h.inn k (by simp [g])
  ·omega
 refine⟨h.blk,h.pl,h.plok,h.tr,h.cs,h.st,h.mr,?_,?_,h.sf⟩
 ·have b:=h.bf
  refine⟨?_,b.ft,b.ok,b.atoms,b.fa,b.eL,b.el,b.sd,fun k hk hx=>?_⟩
  ·obtain⟨FT,has,s,u,dd,ii⟩:=b.tl
   refine⟨FT,has,s,u,fun k hk hx=>?_,fun k hk=>?_⟩
   ·simp only[List.mem_append,List.mem_range] at hk
    rcases hk with g | g | g | g
    ·exact dd k (by simp [g]) hx
    ·exact dd k (by simp [g]) hx
    ·exact dd k (by simp [g]) hx
    ·have:=s k hx;omega
   ·rcases List.mem_append.1 hk with g | g
    ·exact ii k (by simp [g])
    ·exact hin k g
  ·simp only[List.mem_append,List.mem_range] at hx
   rcases hx with g | g | g
   ·exact b.dx k hk (by simp [g])
   ·exact b.dx k hk (by simp [g])
   ·have:=b.sd k hk;omega
 ·have e:=h.dis
  rw[List.pairwise_append] at e ⊢
  refine⟨e.1,by simp,fun P hP Q hQ k hk hx=>?_⟩
  simp at hQ
  subst hQ
  simp only[List.mem_append,List.mem_range] at hx
  rcases hx with g | g
  ·exact e.2.2 P hP E (by simp) k hk g
  ·have:=h.sf k (Zrq.2 ⟨P,hP,hk⟩);omega
end
def seenM (SN:List Wd):List (Int×Value):=SN.map fun x=>(x.enc,.bool true)
theorem Zr0 {x:Wd} (hx:x.fits):∀{SN:List Wd},(∀z∈SN,z.fits)→Go.D.look x.enc (seenM SN)=if x∈SN then some (.bool true) else none
 | [],_=>rfl
 | z::SN,h=>by
  have ih:=Zr0 hx (SN:=SN) fun y hy=>h y (by simp [hy])
  unfold seenM at ih ⊢
  rw[List.map_cons,ZdS,ih]
  by_cases e:x=z
  ·subst e;simp
  ·rw[if_neg fun hh=>e (Wd.enc_inj hx (h z (by simp)) hh)]
   by_cases g:x∈SN
   ·rw[if_pos g,if_pos (by simp [g])]
   ·rw[if_neg g,if_neg (by simp [g,e])]
theorem Zwq {x:Wd} (hx:x.fits) {SN:List Wd} (h:∀z∈SN,z.fits) (hn:x∉SN):Go.D.put x.enc (.bool true) (seenM SN)=seenM (SN++[x]):=by
 have hl:=Zr0 hx h
 rw[if_neg hn] at hl
 have hs:Go.D.spot x.enc (seenM SN) 0=none:=by
  unfold Go.D.look at hl
  simpa using hl
 rw[Znn _ _ _ 0 hs]
 unfold seenM
 simp
def unseen (C:List Wd) (SN:List Wd):Nat:=(List.range C.length).countP fun i=>decide (Wd.str i∉SN)
theorem ZtN {C SN SN':List Wd} (h:∀z∈SN,z∈SN'):unseen C SN'≤unseen C SN:=by
 unfold unseen
 refine List.countP_mono_left fun i _ hi=>?_
 simp only[decide_eq_true_eq] at hi ⊢
 exact fun hh=>hi (h _ hh)
theorem Zox {α:Type} {p q:α→Bool}:∀{l:List α} {a:α},(∀x∈l,p x=true→q x=true)→a∈l→q a=true→p a=false→l.countP p<l.countP q
 | x::l,a,h,ha,hq,hp=>by
  have hm:l.countP p≤l.countP q:=List.countP_mono_left fun y hy=>h y (by simp [hy])
  rcases List.mem_cons.1 ha with e | e
  ·subst e
   rw[List.countP_cons_of_neg (by simp [hp]),List.countP_cons_of_pos hq]
   omega
  ·have ih:=Zox (l:=l) (fun y hy=>h y (by simp [hy])) e hq hp
   have hx:=h x (by simp)
   by_cases g:p x=true
   ·rw[List.countP_cons_of_pos g,List.countP_cons_of_pos (hx g)];omega
   ·rw[List.countP_cons_of_neg g]
    have:l.countP q≤(x::l).countP q:=by
     by_cases g2:q x=true
     ·rw[List.countP_cons_of_pos g2];omega
     ·rw[List.countP_cons_of_neg g2];omega
    omega
theorem Zvk {C SN:List Wd} {i:Nat} (hi:i<C.length) (hn:Wd.str i∉SN):unseen C (SN++[.str i])<unseen C SN:=by
 unfold unseen
 refine Zox (a:=i) (fun x _ hx=>?_) (List.mem_range.2 hi) (by simp [hn]) (by simp)
 simp only[decide_eq_true_eq,List.mem_append,List.mem_singleton,not_or] at hx ⊢
 exact hx.1
section
variable {C:List Wd} {L:List Slot} {FL:List Fn.Slot} {y:Wd}
def Hit (C:List Wd) (y:Wd) (SN:List Wd) (x:Wd):Prop:=∃p,Der C x p∧p≠y∧(p.tag=2→p∈SN)
def Closed (C:List Wd) (L:List Slot) (FL:List Fn.Slot) (y:Wd) (SN:List Wd) (z:Wd):Prop:=
 ∀i id s (m k:Nat),z=.str i→C[i]?=some (.fn id)→At L FL id s (m:Int)→k<m→Hit C y SN (.ref (i+1+k))
theorem Hit.mono {SN SN':List Wd} {x:Wd} (h:Hit C y SN x) (hs:∀z∈SN,z∈SN'):Hit C y SN' x:=by
 obtain⟨p,a,b,c⟩:=h
 exact⟨p,a,b,fun ht=>hs _ (c ht)⟩
theorem Closed.mono {SN SN':List Wd} {z:Wd} (h:Closed C L FL y SN z) (hs:∀z∈SN,z∈SN'):Closed C L FL y SN' z:=
 fun i id s m k a b c d=>(h i id s m k a b c d).mono hs
theorem ZvX {SN:List Wd} (hc:∀z∈SN,Closed C L FL y SN z) {x:Wd} (h:Rch C L FL y x):Hit C y SN x→False:=by
 induction h with
 | here h=>
  rintro⟨p,a,b,_⟩
  exact b (a.uniq h)
 | @down x i id s m k h hcc hat hk hr ih=>
  rintro⟨p,a,b,c⟩
  obtain rfl:=a.uniq h
  exact ih (hc _ (c rfl) i id s m k rfl hcc hat hk)
end
theorem boolKey:KeyOf Tryz.prog 32 (fun a:Int=>Value.int .u64 a):=keyInt (by rfl)
section
variable {w:World} {d:HpD} {E:List Nat} {C:List Wd} {k0 m:Nat} {y:Wd}
theorem ZwR (hi:HI d C k0) (hy:y.fits) (hm:w.heap.size≤m) (hmE:m∉E):∀(N:Nat) {v:World} {x:Wd} {SN:List Wd} {K:Bool→World→Prop},unseen C SN<N→Hp w v d (m::E)→MapAt v m (fun a:Int=>Value.int .u64 a) (seenM SN)→(∀z∈SN,z.fits)→x.fits→rightW C d.L x=true→
  (∀b v' SN',Hp w v' d (m::E)→MapAt v' m (fun a:Int=>Value.int .u64 a) (seenM SN')→(∀z∈SN,z∈SN')→(∀z∈SN',z.fits)→(b=true→Rch C d.L d.FL y x)→(b=false→Hit C y SN' x∧∀z∈SN',z∉SN→Closed C d.L d.FL y SN' z)→Far E v v'→K b v')→
  Zbt d.a y.enc x.enc (some m) v K:=by
 intro N
 induction N with
 | zero=>intro v x SN K hN;omega
 | succ N ih=>?_
 intro v x SN K hN h hmap hSN hx hr hK
 apply Zbt.of
 unfold Zku
 have hbd:=hi.ok.bound h
 obtain⟨p,hd⟩:=hi.wf.der x hr
 have hpf:p.fits:=hd.choose_spec.fits hi.ok.fits hx
 have hpr:=hi.wf.last hr hd
 refine ZoM h hi.ok hx hd fun v1 h1 u1=>?_
 have hmap1:=hmap.upd u1 (by simp)
 by_cases e:p=y
 ·refine ifT (by simp [e]) ?_
  exact hK true v1 SN h1 hmap1 (fun _ hz=>hz) hSN (fun _=>.here (e ▸ hd)) (fun hb=>by cases hb) (Far.keep u1)
 refine ifF (by simp;exact fun hh=>e (Wd.enc_inj hpf hy hh)) (Zqa ?_)
 by_cases t2:p.tag=2
 ·obtain⟨i,rfl⟩:∃i,p=.str i:=by cases p <;> simp [Wd.tag] at t2;exact⟨_,rfl⟩
  refine ifF (by simp [Wd.tag]) ?_
  refine Zmg (mt:=139) (et:=4) (z:=.bool false) (k:=(Wd.str i).enc) boolKey (by rfl) ⟨_,by rfl,by rfl⟩ hmap1 ?_
  rw[Zr0 hpf hSN]
  by_cases hin:Wd.str i∈SN
  ·rw[if_pos hin]
   refine⟨true,rfl,ifT rfl ?_⟩
   exact hK false v1 SN h1 hmap1 (fun _ hz=>hz) hSN (fun hb=>by cases hb) (fun _=>⟨⟨_,hd,e,fun _=>hin⟩,fun z hz hn=>absurd hz hn⟩) (Far.keep u1)
  rw[if_neg hin]
  refine⟨false,rfl,ifF rfl ?_⟩
  refine Zie (mt:=139) (et:=4) (k:=(Wd.str i).enc) boolKey (by rfl) hmap1 fun v2 hmap2 u2=>?_
  rw[Zwq hpf hSN hin] at hmap2
  have hap:=h1.apart
  have h2:Hp w v2 d (m::E):=h1.upd u2 (fun k hk hx=>by simp at hx;subst hx;exact hap k hk (by simp)) (by simp) (by intro k hk;simp at hk;omega) (Sub.refl _ _) ((show In (m::E) v1 from fun k hk=>h1.inn k (List.mem_append.2 (.inr hk))).upd u2)
  have f2:Far E v v2:=(Far.keep u1).then ⟨[m],u2,fun k hk hx=>by simp at hx;subst hx;exact hmE hk⟩
  obtain⟨id,hc⟩:=ZcL.1 hpr
  obtain⟨s,a,hat,ha1,ha16,hil,hargs⟩:=hi.wf.fn i id hc
  have hiC:=(List.getElem?_eq_some_iff.1 hc).1
  have mapF:∀{X:List Nat} {v1 v2:World} {M:List (Int×Value)},Far (X++(m::E)) v1 v2→MapAt v1 m (fun a:Int=>Value.int .u64 a) M→MapAt v2 m (fun a:Int=>Value.int .u64 a) M:=fun f hm=>by
   obtain⟨F,u,dd⟩:=f
   exact hm.upd u (dd m (by simp))
  refine Ztm h2 hi.ok hc hat fun v3 h3 f3=>?_
  have hmap3:=mapF f3 hmap2
  have f3':Far E v v3:=f2.then (f3.less fun k hk=>by simp [hk])
  have hSN1:∀z∈SN++[.str i],z.fits:=fun z hz=>by
   rcases List.mem_append.1 hz with g | g
   ·exact hSN z g
   ·simp at g;subst g;exact hpf
  have hun:=Zvk hiC hin
  unfold ZhV
  refine⟨fun st z=>∃(k:Nat) (SNk:List Wd),st.i=k+1∧k≤a∧Hp w z d (m::E)∧MapAt z m (fun a:Int=>Value.int .u64 a) (seenM SNk)∧(∀u∈SN++[.str i],u∈SNk)∧(∀u∈SNk,u.fits)∧(∀j,j<k→Hit C y SNk (.ref (i+1+j)))∧(∀u∈SNk,u∉SN++[.str i]→Closed C d.L d.FL y SNk u)∧Far E v z,
   fun st _=>(a+1-st.i).toNat,⟨0,SN++[.str i],rfl,by omega,h3,hmap3,fun _ hz=>hz,hSN1,fun j hj=>by omega,fun u hu hn=>absurd hu hn,f3'⟩,?_⟩
  rintro⟨si⟩ z ⟨k,SNk,hi0,hk,hz,hmz,hsub,hfk,hhit,hcl,fz⟩
  dsimp only at hi0
  subst hi0
  unfold ZhM
  dsimp only
  refine ifC (fun g=>?_) (fun g=>?_)
  ·simp only[decide_eq_true_eq] at g
   have gk:k<a:=by omega
   refine Zsi hpf (by omega) ?_
   have ei:(Wd.str i).num+((k:Int)+1)=((i+1+k:Nat):Int):=by show (i:Int)+_=_;omega
   rw[ei]
   refine ZqR (by omega) ?_
   have hilk:i+1+k<C.length:=by omega
   have hrk:rightW C d.L (.ref (i+1+k))=true:=Za2.2 ⟨_,List.getElem?_eq_getElem hilk,hargs (1+k) (by omega) (by omega) _ (by rw[←List.getElem?_eq_getElem hilk];congr 1;omega)⟩
   refine ih (v:=z) (x:=.ref (i+1+k)) (SN:=SNk) (by have:=ZtN (C:=C) hsub;omega) hz hmz hfk (ZlI (by omega)) hrk fun b v4 SN4 h4 hm4 hs4 hf4 hb1 hb2 f4=>?_
   cases b with
   | true=>
    refine ifT rfl (hK true v4 SN4 h4 hm4 (fun u hu=>hs4 u (hsub u (by simp [hu]))) hf4 (fun _=>.down hd hc hat gk (hb1 rfl)) (fun hb=>by cases hb) (fz.then f4))
   | false=>
    obtain⟨g1,g2⟩:=hb2 rfl
    refine ifF rfl ?_
    rw[i64id (by omega) (by omega)]
    refine⟨⟨k+1,SN4,by simp,by omega,h4,hm4,fun u hu=>hs4 u (hsub u hu),hf4,fun j hj=>?_,fun u hu hn=>?_,fz.then f4⟩,by simp;omega⟩
    ·by_cases e2:j=k
     ·subst e2;exact g1
     ·exact(hhit j (by omega)).mono hs4
    ·by_cases e2:u∈SNk
     ·exact(hcl u e2 hn).mono hs4
     ·exact g2 u hu e2
  ·simp only[decide_eq_false_iff_not] at g
   obtain rfl:k=a:=by omega
   refine hK false z SNk hz hmz (fun u hu=>hsub u (by simp [hu])) hfk (fun hb=>by cases hb) (fun _=>⟨⟨_,hd,e,fun _=>hsub _ (by simp)⟩,fun u hu hn=>?_⟩) fz
   by_cases e2:u=.str i
   ·subst e2
    intro i' id' s' m' k' a1 a2 a3 a4
    cases a1
    rw[hc] at a2;cases a2
    obtain⟨_,em⟩:=hat.uniq a3
    exact hhit k' (by omega)
   ·exact hcl u hu (by simp [hn,e2])
 ·refine ifT (by simp [t2]) ?_
  exact hK false v1 SN h1 hmap1 (fun _ hz=>hz) hSN (fun hb=>by cases hb) (fun _=>⟨⟨p,hd,e,fun hh=>absurd hh t2⟩,fun z hz hn=>absurd hz hn⟩) (Far.keep u1)
theorem ZvN {v:World} {x:Wd} {r:Nat} {K:Bool→World→Prop} (h:Hp w v d E) (hi:HI d C k0) (hy:y.fits) (hx:x.fits) (hr:rightW C d.L x=true) (hmap:MapAt v r (fun a:Int=>Value.int .u64 a) []) (hrv:w.heap.size≤r) (hrE:r∉E) (h':Hp w v d (r::E))
  (hK:∀b v',(b=true↔Rch C d.L d.FL y x)→Hp w v' d E→Far E v v'→K b v'):Zbt d.a y.enc x.enc (some r) v K:=by
 refine ZwR hi hy hrv hrE (unseen C []+1) (SN:=[]) (by omega) h' (by simpa [seenM] using hmap) (by simp) hx hr fun b v' SN' h2 _ _ _ hb1 hb2 f=>?_
 refine hK b v' ⟨hb1,fun hh=>?_⟩ (h2.less fun k hk=>by simp [hk]) f
 cases b with
 | true=>rfl
 | false=>
  obtain⟨a,b⟩:=hb2 rfl
  exact absurd hh fun hh=>ZvX (fun z hz=>b z hz (by simp)) hh a
end
def unbC (C:List Wd):Nat:=(List.range C.length).countP fun i=>decide (C[i]?=some (.ref i))
theorem ZwV {C:List Wd} {j:Nat} {x:Wd} (hj:C[j]?=some (.ref j)) (hx:x≠.ref j):unbC (C.set j x)<unbC C:=by
 have hjl:=(List.getElem?_eq_some_iff.1 hj).1
 unfold unbC
 rw[List.length_set]
 refine Zox (a:=j) (fun i _ hi=>?_) (List.mem_range.2 hjl) (by simpa using hj) ?_
 ·simp only[decide_eq_true_eq] at hi ⊢
  rw[Zha hjl] at hi
  by_cases e:i=j
  ·subst e;exact hj
  ·rw[if_neg e] at hi;exact hi
 ·rw[decide_eq_false]
  rw[Zha hjl,if_pos rfl]
  simpa using hx
theorem Zwe {C:List Wd} {j:Nat} (hj:C[j]?=some (.ref j)):0<unbC C:=by
 have hjl:=(List.getElem?_eq_some_iff.1 hj).1
 unfold unbC
 exact List.countP_pos_iff.2 ⟨j,List.mem_range.2 hjl,by simpa using hj⟩
theorem Zxn (C:List Wd):unbC C≤C.length:=by
 have:=List.countP_le_length (p:=fun i=>decide (C[i]?=some (.ref i))) (l:=List.range C.length)
 rw[List.length_range] at this
 exact this
structure Bd (d:HpD) (C:List Wd) (d':HpD) (C':List Wd) (s:Nat):Prop where
 a:d'.a=d.a
 limit:d'.pd.limit=d.pd.limit
 starts:d'.starts=d.starts
 marks:d'.marks=d.marks
 tlim:d'.tlim=d.tlim
 L:d'.L=d.L
 FL:d'.FL=d.FL
 ext:BExt C C'
 rw_:∀x,rightW C' d.L x=rightW C d.L x
 snap:∀C0 T0,C0.length=s→Snap C0 T0 C d.TL→Snap C0 T0 C' d'.TL
 room:d'.TL.length+unbC C'≤d.TL.length+unbC C
 low:s=0→d'.TL=d.TL
 acy:Acy C d.L d.FL→Acy C' d.L d.FL
theorem Bd.refl (d:HpD) (C:List Wd) (s:Nat):Bd d C d C s:=⟨rfl,rfl,rfl,rfl,rfl,rfl,rfl,BExt.refl _,fun _=>rfl,fun _ _ _ h=>h,Nat.le_refl _,fun _=>rfl,id⟩
theorem Bd.trans {d d' d'':HpD} {C C' C'':List Wd} {s:Nat} (h:Bd d C d' C' s) (g:Bd d' C' d'' C'' s):Bd d C d'' C'' s:=
 ⟨g.a.trans h.a,g.limit.trans h.limit,g.starts.trans h.starts,g.marks.trans h.marks,g.tlim.trans h.tlim,g.L.trans h.L,g.FL.trans h.FL,h.ext.trans g.ext,fun x=>by have:=g.rw_ x;rw[h.L] at this;exact this.trans (h.rw_ x),
  fun C0 T0 e k=>g.snap C0 T0 e (h.snap C0 T0 e k),Nat.le_trans g.room h.room,fun e=>(g.low e).trans (h.low e),fun k=>by have:=g.acy;rw[h.L,h.FL] at this;exact this (h.acy k)⟩
section
variable {w:World} {d:HpD} {E:List Nat} {C:List Wd} {k0:Nat}
theorem Hp.lastStart {v:World} (h:Hp w v d E) {s:Nat} (hs:d.starts[d.starts.length-1]?=some (s:Int)) (hl:d.starts.length<2^40):0<d.starts.length∧∃b off,d.sp=some ⟨b,off,none⟩∧v.cell? ⟨b,off+(d.starts.length-1),none⟩=some (.int .i64 (s:Int)):=by
 have h0:d.starts.length-1<d.starts.length:=(List.getElem?_eq_some_iff.1 hs).1
 refine⟨by omega,?_⟩
 obtain⟨b,off,hp,hc⟩:=h.st.cell (i:=d.starts.length-1) (by omega)
 refine⟨b,off,hp,?_⟩
 rw[hc,List.getElem?_map,hs];rfl
theorem HI.slen {v:World} (hi:HI d C k0) (h:Hp w v d E):d.starts.length≤4096:=by
 have:=hi.ok.starts
 rw[this,List.length_map];exact h.plok.len
theorem ZxG {v:World} {j s:Nat} {x:Wd} {K:Bool→Int→World→Prop} (h:Hp w v d E) (hi:HI d C k0) (hj:C[j]?=some (.ref j)) (hx:x.fits) (hr:rightW C d.L x=true) (hxx:Der C x x) (hs:d.starts[d.starts.length-1]?=some (s:Int)) (hroom:s=0∨d.TL.length+unbC C≤d.tlim∧d.tlim≤1048576)
  (heq:x=.ref j→∀v',Hp w v' d E→Far E v v'→K true 0 v')
  (hocc:x≠.ref j→Rch C d.L d.FL (.ref j) x→∀v',Hp w v' d E→Far E v v'→K false 0 v')
  (hset:x≠.ref j→¬Rch C d.L d.FL (.ref j) x→∀v' d',Hp w v' d' E→HI d' (C.set j x) k0→Bd d C d' (C.set j x) s→Far E v v'→K true 0 v'):ZcT d.a (Wd.ref j).enc x.enc v K:=by
 apply ZcT.of
 unfold ZkV
 have hjl:=(List.getElem?_eq_some_iff.1 hj).1
 have hbd:=hi.ok.bound h
 have hjf:(Wd.ref j).fits:=ZlI (by omega)
 by_cases e:x=.ref j
 ·exact ifT (by simp [e]) (heq e v h (Far.refl _ _))
 refine ifF (by simp;exact fun hh=>e (Wd.enc_inj hjf hx hh).symm) (Zqa ?_)
 have go:∀{v1:World},Hp w v1 d E→Far E v v1→¬Rch C d.L d.FL (.ref j) x→ZfT d.a (Wd.ref j).enc x.enc K v1:=by
  intro v1 h1 f1 hno
  unfold ZfT
  refine Zpa hjf ?_
  have ud:=Zah v1
  have h1d:=h1.keep ud
  obtain⟨hs0,sb,so,hsp,hsc⟩:=h1.lastStart hs (by have:=hi.slen h1;omega)
  have hsl:=hi.slen h1
  have e1:IntKind.i64.wrap ((d.starts.length:Int)-1)=((d.starts.length-1:Nat):Int):=by rw[i64id (by omega) (by omega)];omega
  have put:∀{v2:World} {d1:HpD},Hp w v2 d1 E→d1.cells=d.cells→d1.cp=d.cp→d1.a=d.a→d1.b=d.b→Far E v v2→(∀v3,Hp w v3 { d1 with cells:=d1.cells.set j x.enc } E→Far E v v3→K true 0 v3)→ZfZ d.a x.enc K (j:Int) v2:=by
   intro v2 d1 h2 ec ecp ea eb f2 hK
   unfold ZfZ
   have hcl:=hi.ok.cl
   have hb2:v2.cell? ⟨d.b,4,none⟩=some (.slice d1.cp d1.cells.length d1.cc):=by rw[←eb];exact h2.blk.cell 4
   have hjc:j<d1.cells.length:=by rw[ec,hcl];exact hjl
   obtain⟨cb,off,hcp,_,_⟩:=h2.cell hjc
   simp only[HpD.a,X_,hb2,hcp,Int.toNat_natCast]
   refine⟨by omega,by omega,h2.setCell hjc (fun v3 h3 u3=>hK v3 h3 (f2.then ⟨_,u3,fun k hk hx=>?_⟩)) hcp⟩
   exact h2.six.2.2.2.1.2.2 k hx hk
  have fin:∀{v3:World} {d1:HpD},Hp w v3 { d1 with cells:=d1.cells.set j x.enc } E→d1.cells=d.cells→d1.pd=d.pd→d1.b=d.b→d1.starts=d.starts→d1.marks=d.marks→d1.tlim=d.tlim→d1.L=d.L→d1.FL=d.FL→d1.made=d.made→d1.alim=d.alim→d1.flim=d.flim→d1.TL=d.TL++(if j<s then [(j:Int)] else [])→Far E v v3→K true 0 v3:=by
   intro v3 d1 h3 ec epd eb est emk etl eL eFL em eal efl eTL f3
   obtain⟨wf',rw'⟩:=hi.wf.set hj hr hxx
   have hun:=ZwV hj e
   refine hset e hno v3 _ h3 ⟨⟨?_,fun z hz=>?_,by rw[show ({ d1 with cells:=d1.cells.set j x.enc }:HpD).pd=d.pd from epd];exact hi.ok.nf,?_,?_,?_⟩,?_,by show d1.L.length≤_;rw[eL];exact hi.nL,by show d1.FL.length≤_;rw[eFL];exact hi.nF,by show d1.made≤_;rw[em];exact hi.nm,by show d1.alim=_;rw[eal];exact hi.al,by show d1.flim=_;rw[efl];exact hi.fl,by show ∀s∈d1.L,_;rw[eL];exact hi.n64⟩
    ⟨by show (some ⟨d1.b,0,none⟩:Option Addr)=some ⟨d.b,0,none⟩;rw[eb],by show d1.pd.limit=_;rw[epd],est,emk,etl,eL,eFL,Zrj hj,rw',fun C0 T0 hl hsn=>?_,?_,fun h0=>?_,fun ac=>ac.set hi.wf hj hr hxx e hno⟩ f3
   ·show d1.cells.set j x.enc=(C.set j x).map Wd.enc
    rw[ec,hi.ok.cells,List.map_set]
   ·rcases List.mem_or_eq_of_mem_set hz with g | g
    ·exact hi.ok.fits z g
    ·rw[g];exact hx
   ·show (((C.set j x).length:Nat):Int)=d1.pd.top
    rw[List.length_set,epd];exact hi.ok.len
   ·show d1.starts=d1.pd.L.map _
    rw[est,epd];exact hi.ok.starts
   ·show d1.marks.length=d1.starts.length
    rw[est,emk];exact hi.ok.ml
   ·show WF (C.set j x) d1.L d1.FL
    rw[eL,eFL];exact wf'
   ·show Snap C0 T0 (C.set j x) d1.TL
    rw[eTL,←hl]
    exact hsn.set hj
   ·show d1.TL.length+_≤_
    rw[eTL,List.length_append]
    split
    ·simp;omega
    ·simp;omega
   ·show d1.TL=d.TL
    rw[eTL,if_neg (by omega),List.append_nil]
  have hb1:=h1.blk
  simp only[HpD.a,X_,hb1.cell,e1,Int.toNat_natCast,hsp,hsc,Wd.num]
  refine⟨by omega,by omega,ifC (fun g=>?_) (fun g=>?_)⟩
  ·have g:=of_decide_eq_true g
   have gj:j<s:=by omega
   have hw:IntKind.u64.wrap (j:Int)=j:=by rw[u64w'];omega
   rw[hw]
   have hup:=Zwe hj
   refine Ro.Push_ok (x:=(j:Int)) h1d.tr (by omega) (by omega) fun v2 TF tr u2 s2=>ifF rfl ?_
   have h2:=h1d.setTrail tr u2 s2
   have f2:Far E v v2:=(f1.after ud).then ⟨_,u2,fun k hk hx=>h1d.six.2.2.1.2.2.2 k hx hk⟩
   refine put h2 rfl rfl rfl rfl f2 fun v3 h3 f3=>fin h3 rfl rfl rfl rfl rfl rfl rfl rfl rfl rfl rfl ?_ f3
   rw[if_pos gj]
  ·have g:=of_decide_eq_false g
   refine put h1d rfl rfl rfl rfl (f1.after ud) fun v3 h3 f3=>fin h3 rfl rfl rfl rfl rfl rfl rfl rfl rfl rfl rfl ?_ f3
   rw[if_neg (by omega),List.append_nil]
 by_cases t2:x.tag=2
 ·refine ifT (by simp [t2]) (ZmQ fun r v1 hr1 u1 hm1=>?_)
  have hE:r∉E:=fun hx=>by have:=h.inn r (by simp [hx]);omega
  have hrl:r<v1.heap.size:=(Array.getElem?_eq_some_iff.1 hm1).1
  refine ZvN (h.keep u1) hi hjf hx hr (MapAt.new _ hm1) (by have:=h.U.size;omega) hE (h.watch u1 (Y:=[r]) (by intro k hk;simp at hk;omega) (by intro k hk;simp at hk;subst hk;exact hrl)) fun b v2 hb h2 f2=>?_
  cases b with
  | true=>exact ifT rfl (hocc e (hb.1 rfl) v2 h2 ((Far.keep u1).then f2))
  | false=>exact ifF rfl (go h2 ((Far.keep u1).then f2) fun hh=>by have:=hb.2 hh;cases this)
 ·refine ifF (by simp [t2]) (go h (Far.refl _ _) fun hh=>?_)
  cases hh with
  | here hd=>exact e (hxx.uniq hd)
  | down hd=>
   have:=hxx.uniq hd
   subst this
   exact t2 rfl
end
def injP (x:Int×Int):Value:=.agg #[.int .u64 x.1,.int .u64 x.2]
def pairM (P:List (Wd×Wd)):List ((Int×Int)×Value):=P.map fun z=>((z.1.enc,z.2.enc),.bool true)
theorem ZrV {x:Wd×Wd} (hx:x.1.fits∧x.2.fits):∀{P:List (Wd×Wd)},(∀z∈P,z.1.fits∧z.2.fits)→Go.D.look (x.1.enc,x.2.enc) (pairM P)=if x∈P then some (.bool true) else none
 | [],_=>rfl
 | z::P,h=>by
  have ih:=ZrV hx (P:=P) fun y hy=>h y (by simp [hy])
  unfold pairM at ih ⊢
  rw[List.map_cons,ZdS,ih]
  by_cases e:x=z
  ·subst e;simp
  ·have hz:=h z (by simp)
   rw[if_neg fun hh=>by
    simp only[Prod.mk.injEq] at hh
    exact e (Prod.ext (Wd.enc_inj hx.1 hz.1 hh.1) (Wd.enc_inj hx.2 hz.2 hh.2))]
   by_cases g:x∈P
   ·rw[if_pos g,if_pos (by simp [g])]
   ·rw[if_neg g,if_neg (by simp [g,e])]
theorem Zwp {x:Wd×Wd} (hx:x.1.fits∧x.2.fits) {P:List (Wd×Wd)} (h:∀z∈P,z.1.fits∧z.2.fits) (hn:x∉P):Go.D.put (x.1.enc,x.2.enc) (.bool true) (pairM P)=pairM (P++[x]):=by
 have hl:=ZrV hx h
 rw[if_neg hn] at hl
 have hs:Go.D.spot (x.1.enc,x.2.enc) (pairM P) 0=none:=by
  unfold Go.D.look at hl
  simpa using hl
 rw[Znn _ _ _ 0 hs]
 unfold pairM
 simp
def allP (n:Nat):List (Nat×Nat):=(List.range n).flatMap fun i=>(List.range n).map fun j=>(i,j)
theorem Zw8 {n i j:Nat} (hi:i<n) (hj:j<n):(i,j)∈allP n:=by
 unfold allP
 simp [hi,hj]
def unseenP (n:Nat) (P:List (Wd×Wd)):Nat:=(allP n).countP fun x=>decide ((Wd.str x.1,Wd.str x.2)∉P)
theorem Zty {n:Nat} {P P':List (Wd×Wd)} (h:∀z∈P,z∈P'):unseenP n P'≤unseenP n P:=by
 unfold unseenP
 refine List.countP_mono_left fun i _ hi=>?_
 simp only[decide_eq_true_eq] at hi ⊢
 exact fun hh=>hi (h _ hh)
theorem Zu2 {n:Nat} {P:List (Wd×Wd)} {i j:Nat} (hi:i<n) (hj:j<n) (hn:(Wd.str i,Wd.str j)∉P):unseenP n (P++[(.str i,.str j)])<unseenP n P:=by
 unfold unseenP
 refine Zox (a:=(i,j)) (fun x _ hx=>?_) (Zw8 hi hj) (by simp [hn]) (by simp)
 simp only[decide_eq_true_eq,List.mem_append,List.mem_singleton,not_or] at hx ⊢
 exact hx.1
theorem pairKey:KeyOf Tryz.prog 208 injP:=keyPair (et:=32) (i:=_) (by rfl) (by rfl) (by rfl) (by kernel_rfl)
section
variable {w:World} {E:List Nat} {k0 mb r:Nat}
theorem Jn.step {d d':HpD} {C C':List Wd} {s:Nat} {P P':List (Wd×Wd)} {x y:Wd} (hi:HI d C k0) (hi':HI d' C' k0) (b:Bd d C d' C' s) (hx:rightW C d.L x=true) (h:Jn C P x y) (hP:∀z∈P,z∈P'):Jn C' P' x y:=
 h.mono b.ext (fun z hz=>by
  have h1:=hi.wf.last hx hz
  rw[←b.rw_] at h1
  exact hi'.wf.der z (by rw[b.L];exact h1)) hP
theorem Zqc {d:HpD} {C:List Wd} (hi:HI d C k0) {i id:Nat} {s:ByteArray} {m k:Nat} (hc:C[i]?=some (.fn id)) (hat:At d.L d.FL id s (m:Int)) (hk:k<m):i+1+k<C.length∧rightW C d.L (.ref (i+1+k))=true:=by
 obtain⟨s',m',h1,_,_,h4,h5⟩:=hi.wf.fn i id hc
 obtain⟨_,e⟩:=hat.uniq h1
 have hl:i+1+k<C.length:=by omega
 exact⟨hl,Za2.2 ⟨_,List.getElem?_eq_getElem hl,h5 (1+k) (by omega) (by omega) _ (by rw[←List.getElem?_eq_getElem hl];congr 1;omega)⟩⟩
theorem PairOk.step {d d':HpD} {C C':List Wd} {s:Nat} {P P':List (Wd×Wd)} {z:Wd×Wd} (hi:HI d C k0) (hi':HI d' C' k0) (b:Bd d C d' C' s) (h:PairOk C d.L d.FL P z) (hP:∀z∈P,z∈P'):PairOk C' d.L d.FL P' z:=by
 obtain⟨i,j,id,e,h1,h2,h3⟩:=h
 exact⟨i,j,id,e,b.ext.fn h1,b.ext.fn h2,fun n m hat k hk=>(h3 n m hat k hk).step hi hi' b (Zqc hi h1 hat hk).2 hP⟩
theorem Zws {d:HpD} {C:List Wd} {v:World} {j s:Nat} {x:Wd} {K:Bool→World→Prop} (h:Hp w v d (mb::r::E)) (hi:HI d C k0) (hb:Blk v mb #[.pointer d.a,.map (some r),.int .i64 0]) (hmw:w.heap.size≤mb) (hmE:mb∉E) (hmr:mb≠r)
  (hj:C[j]?=some (.ref j)) (hx:x.fits) (hr:rightW C d.L x=true) (hxx:Der C x x) (hs:d.starts[d.starts.length-1]?=some (s:Int)) (hroom:s=0∨d.TL.length+unbC C≤d.tlim∧d.tlim≤1048576) (hne:x≠.ref j)
  (hocc:Rch C d.L d.FL (.ref j) x→∀v',Hp w v' d (mb::r::E)→Blk v' mb #[.pointer d.a,.map (some r),.int .i64 0]→Far (r::E) v v'→K false v')
  (hset:¬Rch C d.L d.FL (.ref j) x→∀v' d',Hp w v' d' (mb::r::E)→HI d' (C.set j x) k0→Bd d C d' (C.set j x) s→Blk v' mb #[.pointer d.a,.map (some r),.int .i64 0]→Far (r::E) v v'→K true v') :
  ZaQ (some ⟨mb,0,none⟩) (Wd.ref j).enc x.enc v K:=by
 apply ZaQ.of
 unfold Ziy
 simp only[X_,hb.cell]
 have put:∀{v1:World} {d1:HpD} {K':World→Prop},Hp w v1 d1 (mb::r::E)→Far (mb::r::E) v v1→(∀v2,Hp w v2 d1 (mb::r::E)→Blk v2 mb #[.pointer d.a,.map (some r),.int .i64 0]→Far (r::E) v v2→K' v2)→∃ex:Int,v1.cell? ⟨mb,2,none⟩=some (.int .i64 ex)∧St v1 ⟨mb,2,none⟩ (.int .i64 (max ex 0)) K':=by
  intro v1 d1 K' h1 f1 hK
  have b1:=f1.blk hb (by simp)
  refine⟨0,by rw[b1.cell];rfl,Zbi b1 (by simp) rfl fun v2 u2 b2=>?_⟩
  simp at b2
  have hap:=h1.apart
  have h2:Hp w v2 d1 (mb::r::E):=h1.upd u2 (fun k hk hx=>by simp at hx;subst hx;exact hap k hk (by simp)) (by simp) (by intro k hk;simp at hk;omega) (Sub.refl _ _) ((show In (mb::r::E) v1 from fun k hk=>h1.inn k (List.mem_append.2 (.inr hk))).upd u2)
  refine hK v2 h2 b2 ((f1.less fun k hk=>by simp at hk ⊢;rcases hk with g | g <;> simp [g]).then ⟨[mb],u2,fun k hk hx=>by
   simp at hx;subst hx
   rcases List.mem_cons.1 hk with g | g
   ·exact hmr g
   ·exact hmE g⟩)
 refine ZxG h hi hj hx hr hxx hs hroom (fun e=>absurd e hne) (fun _ hrc v1 h1 f1=>?_) (fun _ hrc v1 d1 h1 hi1 b1 f1=>?_)
 ·obtain⟨ex,e1,e2⟩:=put (K':=K false) h1 f1 (fun v2 h2 b2 f2=>hocc hrc v2 h2 b2 f2)
  exact⟨ex,by simpa [addN] using e1,by simpa [addN] using e2⟩
 ·obtain⟨ex,e1,e2⟩:=put (K':=K true) h1 f1 (fun v2 h2 b2 f2=>hset hrc v2 d1 h2 hi1 b1 b2 f2)
  exact⟨ex,by simpa [addN] using e1,by simpa [addN] using e2⟩
theorem Zwo (hmw:w.heap.size≤mb) (hrw:w.heap.size≤r) (hmE:mb∉E) (hrE:r∉E) (hmr:mb≠r) (n:Nat):∀(N:Nat) {v:World} {d:HpD} {C:List Wd} {P:List (Wd×Wd)} {a b:Wd} {s:Nat} {K:Bool→World→Prop},unseenP n P<N→C.length=n→
  Hp w v d (mb::r::E)→HI d C k0→Unq d.L d.FL→Blk v mb #[.pointer d.a,.map (some r),.int .i64 0]→MapAt v r injP (pairM P)→(∀z∈P,z.1.fits∧z.2.fits)→a.fits→b.fits→rightW C d.L a=true→rightW C d.L b=true→
  d.starts[d.starts.length-1]?=some (s:Int)→(s=0∨d.TL.length+unbC C≤d.tlim∧d.tlim≤1048576)→
  (∀ok v' d' C' P',Hp w v' d' (mb::r::E)→HI d' C' k0→Bd d C d' C' s→Blk v' mb #[.pointer d.a,.map (some r),.int .i64 0]→MapAt v' r injP (pairM P')→(∀z∈P,z∈P')→(∀z∈P',z.1.fits∧z.2.fits)→
   (ok=true→Jn C' P' a b∧(∀z∈P',z∉P→PairOk C' d.L d.FL P' z)∧∀θ,Sol C d.L d.FL θ→wval C d.L d.FL θ a=wval C d.L d.FL θ b→Sol C' d.L d.FL θ)→
   (ok=false→∀θ,Sol C d.L d.FL θ→wval C d.L d.FL θ a≠wval C d.L d.FL θ b)→Far E v v'→K ok v')→
  ZaZ (some ⟨mb,0,none⟩) a.enc b.enc v K:=by
 intro N
 induction N with
 | zero=>intro v d C P a b s K hN;omega
 | succ N ih=>?_
 intro v d C P a b s K hN hn h hi un hb hmap hP ha hbf hra hrb hs hroom hK
 apply ZaZ.of
 unfold ZhL
 have hbd:=hi.ok.bound h
 obtain⟨p,hpd⟩:=hi.wf.der a hra
 obtain⟨q,hqd⟩:=hi.wf.der b hrb
 have hpf:p.fits:=hpd.choose_spec.fits hi.ok.fits ha
 have hqf:q.fits:=hqd.choose_spec.fits hi.ok.fits hbf
 have hpr:=hi.wf.last hra hpd
 have hqr:=hi.wf.last hrb hqd
 have mapF:∀{X:List Nat} {v1 v2:World} {M:List ((Int×Int)×Value)},(r∈X)→Far X v1 v2→MapAt v1 r injP M→MapAt v2 r injP M:=fun hx f hm=>by
  obtain⟨F,u,dd⟩:=f
  exact hm.upd u (dd r hx)
 have fr:∀{v1 v2:World},Far (r::E) v1 v2→Far E v1 v2:=fun f=>f.less fun k hk=>by simp [hk]
 have ud:=Zah v
 simp only[X_,hb.cell]
 refine ZoM (h.keep ud) hi.ok ha hpd fun v1 h1 u1=>⟨by simp only[X_,((hb.upd ud (by simp)).upd u1 (by simp)).cell],ZoM h1 hi.ok hbf hqd fun v2 h2 u2=>?_⟩
 have U2:=(ud.after u1).after u2
 have b2:=hb.upd U2 (by simp)
 have m2:=hmap.upd U2 (by simp)
 by_cases e:p=q
 ·refine ifT (by simp [e]) ?_
  exact hK true v2 d C P h2 hi (Bd.refl d C s) b2 m2 (fun _ hz=>hz) hP (fun _=>⟨⟨p,p,hpd,by rw[e];exact hqd,.inl rfl⟩,fun z hz hn=>absurd hz hn,fun θ hs _=>hs⟩) (fun hh=>by cases hh) (Far.keep U2)
 refine ifF (by simp;exact fun hh=>e (Wd.enc_inj hpf hqf hh)) (Zsg ?_)
 have var:∀{j:Nat} {x:Wd} {K':Bool→World→Prop},C[j]?=some (.ref j)→x.fits→rightW C d.L x=true→Der C x x→x≠.ref j→(∀θ,wval C d.L d.FL θ (.ref j)=wval C d.L d.FL θ x↔wval C d.L d.FL θ p=wval C d.L d.FL θ q)→
   (∀C':List Wd,BExt C C'→C'[j]?=some x→Der C' x x→Jn C' P a b)→(∀ok v',K ok v'→K' ok v')→ZaQ (some ⟨mb,0,none⟩) (Wd.ref j).enc x.enc v2 K':=by
  intro j x K' hj hx hr hxx hne hw hjn hKK
  refine Zws h2 hi b2 hmw hmE hmr hj hx hr hxx hs hroom hne (fun hrc v3 h3 b3 f3=>hKK _ _ ?_) (fun hrc v3 d3 h3 hi3 bd3 b3 f3=>hKK _ _ ?_)
  ·refine hK false v3 d C P h3 hi (Bd.refl d C s) b3 (mapF (by simp) f3 m2) (fun _ hz=>hz) hP (fun hh=>by cases hh) (fun _ θ hs hh=>?_) ((Far.keep U2).then (fr f3))
   rw[hs.der hpd,hs.der hqd] at hh
   exact hrc.ne hs hxx hne ((hw θ).2 hh)
  ·have hjl:=(List.getElem?_eq_some_iff.1 hj).1
   have hjx:(C.set j x)[j]?=some x:=by rw[Zha hjl,if_pos rfl]
   have hxx':Der (C.set j x) x x:=by
    rcases hxx.last with g | ⟨i,rfl,g⟩
    ·exact⟨0,.stop g⟩
    ·refine⟨0,.root ?_⟩
     rw[Zha hjl,if_neg]
     ·exact g
     ·rintro rfl;exact hne rfl
   refine hK true v3 d3 (C.set j x) P h3 hi3 bd3 b3 (mapF (by simp) f3 m2) (fun _ hz=>hz) hP (fun _=>⟨hjn _ (Zrj hj) hjx hxx',fun z hz hn=>absurd hz hn,fun θ hs hh=>?_⟩) (fun hh=>by cases hh) ((Far.keep U2).then (fr f3))
   rw[hs.der hpd,hs.der hqd] at hh
   exact(Zxx hi.wf hj hr).2 ⟨hs,(hw θ).2 hh⟩
 by_cases t1:p.tag=1
 ·refine ifT (by simp [t1]) ?_
  obtain⟨j,rfl,hj⟩:∃j,p=.ref j∧C[j]?=some (.ref j):=by
   rcases hpd.last with g | g
   ·exact absurd t1 g
   ·exact g
  refine var hj hqf hqr hqd.self (fun hh=>e hh.symm) (fun θ=>Iff.rfl) (fun C' hx hjx hxx'=>⟨q,q,hx.der hpd ?_,hx.der hqd hxx',.inl rfl⟩) fun ok v' hk=>hk
  obtain⟨n,hn⟩:=hxx'
  exact⟨n+1,.step hjx (fun hh=>e hh.symm) hn⟩
 refine ifF (by simp [t1]) (Zsg ?_)
 by_cases s1:q.tag=1
 ·refine ifT (by simp [s1]) ?_
  obtain⟨j,rfl,hj⟩:∃j,q=.ref j∧C[j]?=some (.ref j):=by
   rcases hqd.last with g | g
   ·exact absurd s1 g
   ·exact g
  refine var hj hpf hpr hpd.self e (fun θ=>⟨fun hh=>hh.symm,fun hh=>hh.symm⟩) (fun C' hx hjx hxx'=>⟨p,p,hx.der hpd hxx',hx.der hqd ?_,.inl rfl⟩) fun ok v' hk=>hk
  obtain⟨n,hn⟩:=hxx'
  exact⟨n+1,.step hjx e hn⟩
 refine ifF (by simp [s1]) ?_
 have ud2:=Zah v2
 have h3:=h2.keep ud2
 have b3:=b2.upd ud2 (by simp)
 have m3:=m2.upd ud2 (by simp)
 have U3:=U2.after ud2
 have no:(∀i j id,p=.str i→q=.str j→C[i]?=some (.fn id)→C[j]?≠some (.fn id))→K false (drw v2):=fun hcl=>
  hK false (drw v2) d C P h3 hi (Bd.refl d C s) b3 m3 (fun _ hz=>hz) hP (fun hh=>by cases hh) (fun _ θ hs hh=>by
   rw[hs.der hpd,hs.der hqd] at hh
   exact clash hi.wf un hpr hqr t1 s1 e hcl hh) (Far.keep U3)
 refine Zqa ?_
 by_cases t2:p.tag=2
 ·obtain⟨i,rfl⟩:∃i,p=.str i:=by cases p <;> simp [Wd.tag] at t2;exact⟨_,rfl⟩
  refine ifF rfl (Zqa ?_)
  by_cases s2:q.tag=2
  ·obtain⟨j,rfl⟩:∃j,q=.str j:=by cases q <;> simp [Wd.tag] at s2;exact⟨_,rfl⟩
   refine ifF rfl ?_
   obtain⟨id,hci⟩:=ZcL.1 hpr
   obtain⟨id',hcj⟩:=ZcL.1 hqr
   have hil:=(List.getElem?_eq_some_iff.1 hci).1
   have hjl:=(List.getElem?_eq_some_iff.1 hcj).1
   obtain⟨cb,off,hcp,_,hwi⟩:=h3.word hi.ok hil
   obtain⟨cb',off',hcp',_,hwj⟩:=h3.word hi.ok hjl
   rw[hcp] at hcp'
   cases hcp'
   rw[(List.getElem?_eq_some_iff.1 hci).2] at hwi
   rw[(List.getElem?_eq_some_iff.1 hcj).2] at hwj
   simp only[drw_cell] at hwi hwj
   have hcl:=hi.ok.cl
   have hid:(Wd.fn id).fits:=hi.ok.fits _ (List.mem_of_getElem? hci)
   have hid':(Wd.fn id').fits:=hi.ok.fits _ (List.mem_of_getElem? hcj)
   simp only[X_,b2.cell,HpD.a,h2.blk.cell]
   refine Zpa hpf ⟨by simp only[X_,h2.blk.cell],by simp only[X_,b2.cell,HpD.a],by simp only[X_,h2.blk.cell],by simp only[X_,b2.cell,HpD.a],?_⟩
   simp only[Wd.num,hcp,X_,Int.toNat_natCast,hwi]
   refine⟨by omega,by omega,Zpa hqf ⟨by simp only[X_,hwi],by simp only[X_,h2.blk.cell,hcp],by simp only[X_,b2.cell,HpD.a],by simp only[X_,h2.blk.cell,hcp],by simp only[X_,b2.cell,HpD.a],?_⟩⟩
   simp only[Wd.num,X_,Int.toNat_natCast,hwj]
   refine⟨by omega,by omega,?_⟩
   by_cases hidd:id=id'
   ·subst hidd
    refine ifF (by simp) ?_
    refine Zai fun qb v4 hq4 u4 c4=>Zfe (Upd.refl _ _) c4 (by simp) rfl fun v5 u5 c5=>Zfe u5 c5 (by simp) rfl fun v6 u6 c6=>?_
    simp at c6
    have U6:Upd [] (drw v2) v6:=u4.fresh u6 (by intro k hk;simp at hk;omega)
    have h6:=h3.keep U6
    have b6:=b3.upd U6 (by simp)
    have m6:=m3.upd U6 (by simp)
    have V6:=U3.after U6
    simp only[X_,b6.cell,c6.cell]
    have hpq:(Wd.str i,Wd.str j).1.fits∧(Wd.str i,Wd.str j).2.fits:=⟨hpf,hqf⟩
    have ud6:=Zah v6
    have m7:=m6.upd ud6 (by simp)
    refine Zmg (mt:=141) (et:=4) (z:=.bool false) (inj:=injP) (k:=((Wd.str i).enc,(Wd.str j).enc)) pairKey (by rfl) ⟨_,by rfl,by rfl⟩ m7 ?_
    rw[ZrV hpq hP]
    by_cases hin:(Wd.str i,Wd.str j)∈P
    ·rw[if_pos hin]
     refine⟨true,rfl,ifT rfl ?_⟩
     exact hK true (drw v6) d C P (h6.keep ud6) hi (Bd.refl d C s) (b6.upd ud6 (by simp)) m7 (fun _ hz=>hz) hP (fun _=>⟨⟨_,_,hpd,hqd,.inr ⟨i,j,id,rfl,rfl,hci,hcj,hin⟩⟩,fun z hz hn=>absurd hz hn,fun θ hs _=>hs⟩) (fun hh=>by cases hh) (Far.keep (V6.after ud6))
    rw[if_neg hin]
    refine⟨false,rfl,ifF rfl ?_⟩
    have ud7:=Zah (drw v6)
    have h7:=(h6.keep ud6).keep ud7
    have b7:=(b6.upd ud6 (by simp)).upd ud7 (by simp)
    have V7:=(V6.after ud6).after ud7
    simp only[X_,b6.cell,c6.cell]
    refine Zie (mt:=141) (et:=4) (inj:=injP) (k:=((Wd.str i).enc,(Wd.str j).enc)) pairKey (by rfl) (m7.upd ud7 (by simp)) fun v8 m8 u8=>?_
    rw[Zwp hpq hP hin] at m8
    have hap:=h7.apart
    have h8:Hp w v8 d (mb::r::E):=h7.upd u8 (fun k hk hx=>by simp at hx;subst hx;exact hap k hk (by simp)) (by simp) (by intro k hk;simp at hk;omega) (Sub.refl _ _) ((show In (mb::r::E) (drw (drw v6)) from fun k hk=>h7.inn k (List.mem_append.2 (.inr hk))).upd u8)
    have b8:=b7.upd u8 (by simpa using hmr)
    have f8:Far E v v8:=(Far.keep V7).then ⟨[r],u8,fun k hk hx=>by simp at hx;subst hx;exact hrE hk⟩
    simp only[X_,b8.cell]
    obtain⟨s0,m,hat,hm1,hm16,him,_⟩:=hi.wf.fn i id hci
    refine Ztm h8 hi.ok hci hat fun v9 h9 f9=>?_
    have b9:=f9.blk b8 (by simp)
    have m9:=mapF (by simp) f9 m8
    have F9:Far E v v9:=f8.then (f9.less fun k hk=>by simp [hk])
    have hP1:∀z∈P++[(Wd.str i,Wd.str j)],z.1.fits∧z.2.fits:=fun z hz=>by
     rcases List.mem_append.1 hz with g | g
     ·exact hP z g
     ·simp at g;subst g;exact hpq
    have hun:=Zu2 (n:=n) (P:=P) (i:=i) (j:=j) (by omega) (by omega) hin
    unfold ZfP
    refine⟨fun st z=>∃(k:Nat) (dk:HpD) (Ck:List Wd) (Pk:List (Wd×Wd)),st.i=k+1∧k≤m∧Hp w z dk (mb::r::E)∧HI dk Ck k0∧Bd d C dk Ck s∧Blk z mb #[.pointer d.a,.map (some r),.int .i64 0]∧MapAt z r injP (pairM Pk)∧(∀u∈P++[(Wd.str i,Wd.str j)],u∈Pk)∧(∀u∈Pk,u.1.fits∧u.2.fits)∧
     (∀l,l<k→Jn Ck Pk (.ref (i+1+l)) (.ref (j+1+l)))∧(∀u∈Pk,u∉P++[(Wd.str i,Wd.str j)]→PairOk Ck d.L d.FL Pk u)∧(∀θ,Sol C d.L d.FL θ→wval C d.L d.FL θ (.str i)=wval C d.L d.FL θ (.str j)→Sol Ck d.L d.FL θ)∧Far E v z,
     fun st _=>(m+1-st.i).toNat,⟨0,d,C,P++[(Wd.str i,Wd.str j)],rfl,by omega,h9,hi,Bd.refl d C s,b9,m9,fun _ hz=>hz,hP1,fun l hl=>by omega,fun u hu hn=>absurd hu hn,fun θ hs _=>hs,F9⟩,?_⟩
    rintro⟨si⟩ z ⟨k,dk,Ck,Pk,hi0,hk,hz,hik,bdk,bz,mz,hsub,hfk,hjn,hpk,hsol,fz⟩
    dsimp only at hi0
    subst hi0
    unfold Zf0
    dsimp only
    refine ifC (fun g=>?_) (fun g=>?_)
    ·simp only[decide_eq_true_eq] at g
     have gk:k<m:=by omega
     obtain⟨hil1,hri⟩:=Zqc hi hci hat gk
     obtain⟨hjl1,hrj⟩:=Zqc hi hcj hat gk
     have ei:(Wd.str i).num+((k:Int)+1)=((i+1+k:Nat):Int):=by show (i:Int)+_=_;omega
     have ej:(Wd.str j).num+((k:Int)+1)=((j+1+k:Nat):Int):=by show (j:Int)+_=_;omega
     refine Zsi hpf (by omega) ?_
     rw[ei]
     refine ZqR (by omega) (Zsi hqf (by omega) ?_)
     rw[ej]
     refine ZqR (by omega) ?_
     have hri':rightW Ck dk.L (.ref (i+1+k))=true:=by rw[bdk.L,bdk.rw_];exact hri
     have hrj':rightW Ck dk.L (.ref (j+1+k))=true:=by rw[bdk.L,bdk.rw_];exact hrj
     have hroomk:s=0∨dk.TL.length+unbC Ck≤dk.tlim∧dk.tlim≤1048576:=by
      rcases hroom with g2 | ⟨g2,g3⟩
      ·exact .inl g2
      ·right;rw[bdk.tlim];have:=bdk.room;omega
     refine ih (a:=.ref (i+1+k)) (b:=.ref (j+1+k)) (s:=s) (by have:=Zty (n:=n) hsub;omega) (bdk.ext.len.trans hn) hz hik (by rw[bdk.L,bdk.FL];exact un) (by rw[bdk.a];exact bz) mz hfk (ZlI (by omega)) (ZlI (by omega)) hri' hrj' (by rw[bdk.starts];exact hs) hroomk fun ok v10 d10 C10 P10 h10 hi10 bd10 bl10 m10 hs10 hf10 hok hno f10=>?_
     rw[bdk.a] at bl10
     rw[bdk.L,bdk.FL] at hok hno
     have bd':=bdk.trans bd10
     have args:∀θ,Sol C d.L d.FL θ→wval C d.L d.FL θ (.str i)=wval C d.L d.FL θ (.str j)→θ (i+1+k)=θ (j+1+k):=fun θ hs hh=>by
      rw[Zjs hci hat,Zjs hcj hat] at hh
      have h5:=congrArg Tm.l hh
      simp only[mk_l] at h5
      have h6:=congrArg (fun l=>l[k]?) h5
      simpa [gk] using h6
     cases ok with
     | false=>
      refine ifT rfl ?_
      refine hK false v10 d10 C10 P10 h10 hi10 bd' bl10 m10 (fun u hu=>hs10 u (hsub u (by simp [hu]))) hf10 (fun hh=>by cases hh) (fun _ θ hs hh=>?_) (fz.then f10)
      rw[hs.der hpd,hs.der hqd] at hh
      exact hno rfl θ (hsol θ hs hh) (args θ hs hh)
     | true=>
      obtain⟨g1,g2,g3⟩:=hok rfl
      refine ifF rfl ?_
      rw[i64id (by omega) (by omega)]
      have stp:∀{x y:Wd},rightW C d.L x=true→Jn Ck Pk x y→Jn C10 P10 x y:=fun {x y} hx hj=>Jn.step hik hi10 bd10 (by rw[bdk.L,bdk.rw_];exact hx) hj hs10
      refine⟨⟨k+1,d10,C10,P10,by simp,by omega,h10,hi10,bd',bl10,m10,fun u hu=>hs10 u (hsub u hu),hf10,fun l hl=>?_,fun u hu hn=>?_,fun θ hs hh=>g3 θ (hsol θ hs hh) (args θ hs hh),fz.then f10⟩,by simp;omega⟩
      ·by_cases e2:l=k
       ·subst e2;exact g1
       ·exact stp (Zqc hi hci hat (by omega)).2 (hjn l (by omega))
      ·by_cases e2:u∈Pk
       ·have:=hpk u e2 hn
        rw[←bdk.L,←bdk.FL] at this
        have:=this.step hik hi10 bd10 hs10
        rw[bdk.L,bdk.FL] at this;exact this
       ·exact g2 u hu e2
    ·simp only[decide_eq_false_iff_not] at g
     obtain rfl:k=m:=by omega
     have hself:∀{i:Nat},Der Ck (.str i) (.str i):=⟨0,.stop (by simp [Wd.tag])⟩
     refine hK true z dk Ck Pk hz hik bdk bz mz (fun u hu=>hsub u (by simp [hu])) hfk (fun _=>⟨⟨.str i,.str j,bdk.ext.der hpd hself,bdk.ext.der hqd hself,.inr ⟨i,j,id,rfl,rfl,bdk.ext.fn hci,bdk.ext.fn hcj,hsub _ (by simp)⟩⟩,fun u hu hn=>?_,fun θ hs hh=>?_⟩) (fun hh=>by cases hh) fz
     ·by_cases e2:u=(.str i,.str j)
      ·subst e2
       refine⟨i,j,id,rfl,bdk.ext.fn hci,bdk.ext.fn hcj,fun s' m' hat' l hl=>?_⟩
       obtain⟨_,em⟩:=hat.uniq hat'
       exact hjn l (by omega)
      ·exact hpk u hu (by simp [hn,e2])
     ·rw[hs.der hpd,hs.der hqd] at hh
      exact hsol θ hs hh
   ·refine ifT ?_ (no fun i' j' id2 e1 e2 e3 e4=>?_)
    ·simp only[bne_iff_ne,ne_eq]
     intro hh
     have:=Wd.enc_inj hid hid' hh
     cases this;exact hidd rfl
    ·cases e1;cases e2
     rw[hci] at e3;rw[hcj] at e4
     cases e3;cases e4;exact hidd rfl
  ·exact ifT (by simp [s2]) (no fun i' j' id2 e1 e2=>by subst e2;exact absurd rfl s2)
 ·exact ifT (by simp [t2]) (no fun i' j' id2 e1 e2=>by subst e1;exact absurd rfl t2)
end
section
variable {w:World} {d:HpD} {E:List Nat} {C:List Wd} {k0:Nat}
theorem Hp.unq {v:World} (h:Hp w v d E):Unq d.L d.FL:=by
 obtain⟨M,X,hat⟩:=h.bf.tl.atm
 have ha:=h.bf.tl.atm
 have hf:=h.bf.atm
 refine⟨fun i j s m m' h1 h2=>?_,fun i j s ar h1 h2=>?_⟩
 ·have e1:=find_of ha h1 rfl
  have e2:=find_of ha h2 rfl
  simp only at e1 e2
  rw[e1] at e2;cases e2;rfl
 ·have e1:=h1.find ha hf
  have e2:=h2.find ha hf
  rw[e1] at e2;cases e2;rfl
theorem ZwY {v:World} {a b:Int} {K:Bool→Int→World→Prop} (h:Hp w v d E) (hi:HI d C k0) (ha:0≤a∧a<2^64) (hb:0≤b∧b<2^64) (hno:rightI C d.L a=false∨rightI C d.L b=false)
  (hK:∀v',Hp w v' d E→Far E v v'→K false 1 v'):ZaB d.a a b v K:=by
 apply ZaB.of
 unfold Zhp
 refine ZdE h (ifF rfl (Ztf h hi.ok ha.1 ha.2 fun v1 h1 f1=>?_))
 have f1':Far E v v1:=f1.less fun k hk=>by simp [hk]
 by_cases e:rightI C d.L a=false
 ·rw[e]
  exact ifT rfl (hK v1 h1 f1')
 have e:rightI C d.L a=true:=by simpa using e
 rw[e] at hno ⊢
 refine ifF rfl (Ztf h1 hi.ok hb.1 hb.2 fun v2 h2 f2=>?_)
 rcases hno with g | g
 ·cases g
 ·rw[g]
  exact ifT rfl (hK v2 h2 (f1'.then (f2.less fun k hk=>by simp [hk])))
theorem ZsU {v:World} {a b:Wd} {s:Nat} {K:Bool→Int→World→Prop} (h:Hp w v d E) (hi:HI d C k0) (ha:a.fits) (hb:b.fits) (hra:rightW C d.L a=true) (hrb:rightW C d.L b=true) (hs:d.starts[d.starts.length-1]?=some (s:Int)) (hroom:s=0∨d.TL.length+unbC C≤d.tlim∧d.tlim≤1048576)
  (hK:∀ok v' d' C',Hp w v' d' E→HI d' C' k0→Bd d C d' C' s→(ok=true→∀θ,Sol C' d.L d.FL θ↔Sol C d.L d.FL θ∧wval C d.L d.FL θ a=wval C d.L d.FL θ b)→(ok=false→∀θ,Sol C d.L d.FL θ→wval C d.L d.FL θ a≠wval C d.L d.FL θ b)→Far E v v'→K ok 0 v') :
  ZaB d.a a.enc b.enc v K:=by
 apply ZaB.of
 unfold Zhp
 refine ZdE h (ifF rfl (ZoO h hi.ok ha fun v1 h1 f1=>ifF (by rw[hra];rfl) (ZoO h1 hi.ok hb fun v2 h2 f2=>ifF (by rw[hrb];rfl) ?_)))
 have f2':Far E v v2:=(f1.less fun k hk=>by simp [hk]).then (f2.less fun k hk=>by simp [hk])
 refine ZmQ fun r v3 hr3 u3 hm3=>Zai fun mb v4 hb4 u4 c4=>?_
 have U4:=u3.after u4
 have hm4:MapAt v4 r injP (pairM []):=(MapAt.new injP hm3).upd u4 (by simp)
 have hEi:In E v2:=fun k hk=>h2.inn k (by simp [hk])
 have hrl:r<v3.heap.size:=(Array.getElem?_eq_some_iff.1 hm3).1
 have hws:=h2.U.size
 have hmE:mb∉E:=fun hx=>by have:=hEi mb hx;have:=u3.size;omega
 have hrE:r∉E:=fun hx=>by have:=hEi r hx;omega
 have h4:Hp w v4 d (mb::r::E):=h2.watch U4 (Y:=[mb,r]) (by intro k hk;simp at hk;rcases hk with g | g <;> (have:=u3.size;omega)) (by intro k hk;simp at hk;rcases hk with rfl | rfl;exact c4.lt;have:=u4.size;omega)
 refine Zwo (P:=[]) (by have:=u3.size;omega) (by omega) hmE hrE (by omega) C.length (unseenP C.length []+1) (by omega) rfl h4 hi h4.unq c4 hm4 (by simp) ha hb hra hrb hs hroom fun ok v5 d5 C5 P5 h5 hi5 bd5 b5 m5 _ hP5 hok hno f5=>?_
 have b5':=b5.upd (Zah v5) (by simp)
 simp only[X_,b5.cell]
 have h5':=(h5.less (E':=E) fun k hk=>by simp [hk]).keep (Zah v5)
 refine⟨trivial,hK ok (drw v5) d5 C5 h5' hi5 bd5 (fun e θ=>?_) hno (((f2'.then (Far.keep U4)).then f5).after (Zah v5))⟩
 obtain⟨g1,g2,g3⟩:=hok e
 have wf5:WF C5 d.L d.FL:=by have:=hi5.wf;rw[bd5.L,bd5.FL] at this;exact this
 constructor
 ·intro hs5
  refine⟨hs5.back hi.wf bd5.ext,?_⟩
  have:=Zu0 wf5 hs5 (fun z hz=>g2 z hz (by simp)) _ a b (Nat.le_refl _) g1
  rw[ZlK bd5.ext hra,ZlK bd5.ext hrb] at this
  exact this
 ·rintro⟨hs,he⟩
  exact g3 θ hs he
end
structure KinS (d d':HpD):Prop where
 a:d'.a=d.a
 limit:d'.pd.limit=d.pd.limit
 tlim:d'.tlim=d.tlim
 L:d'.L=d.L
 FL:d'.FL=d.FL
 made:d'.made=d.made
 alim:d'.alim=d.alim
 flim:d'.flim=d.flim
theorem KinS.refl (d:HpD):KinS d d:=⟨rfl,rfl,rfl,rfl,rfl,rfl,rfl,rfl⟩
theorem KinS.trans {d e f:HpD} (h:KinS d e) (g:KinS e f):KinS d f:=⟨g.a.trans h.a,g.limit.trans h.limit,g.tlim.trans h.tlim,g.L.trans h.L,g.FL.trans h.FL,g.made.trans h.made,g.alim.trans h.alim,g.flim.trans h.flim⟩
theorem HI.of {d d':HpD} {C C':List Wd} {k:Nat} (hi:HI d C k) (g:KinS d d') (ok:HOk d' C') (wf:WF C' d.L d.FL):HI d' C' k:=
 ⟨ok,by rw[g.L,g.FL];exact wf,by rw[g.L];exact hi.nL,by rw[g.FL];exact hi.nF,by rw[g.made];exact hi.nm,by rw[g.alim];exact hi.al,by rw[g.flim];exact hi.fl,by rw[g.L];exact hi.n64⟩
theorem ZwA {α:Type} {l:List α} {x:α}:(l++[x])[(l++[x]).length-1]?=some x:=by simp
section
variable {w:World} {d:HpD} {E:List Nat} {C:List Wd} {k0:Nat}
theorem ZxN {v:World} {T0 N:List Int} {K:Int→World→Prop} (h:Hp w v d E) (ok:HOk d C) (hT:d.TL=T0++N) (hN:∀n∈N,0≤n∧n<C.length) (hl:d.TL.length<2^30)
  (hK:∀v' d',Hp w v' d' E→HOk d' (unb C N)→d'.TL=T0→KinS d d'→d'.pd=d.pd→d'.starts=d.starts→d'.marks=d.marks→Far E v v'→K 0 v'):ZcU d.a (T0.length:Int) v K:=by
 apply ZcU.of
 unfold Zlf Zin
 have hlen:d.TL.length=T0.length+N.length:=by rw[hT,List.length_append]
 refine ZdE h (ifF rfl (ifF (by simp) ?_))
 simp only[HpD.a,X_,h.blk.cell]
 refine Ro.Len_ok h.tr (ifF (by simp;omega) ?_)
 refine⟨fun _ z=>∃(N1:List Int) (Ck:List Wd) (dk:HpD),dk.TL=T0++N1∧Hp w z dk E∧HOk dk Ck∧unb Ck N1=unb C N∧Ck.length=C.length∧(∀n∈N1,0≤n∧n<C.length)∧N1.length≤N.length∧KinS d dk∧dk.pd=d.pd∧dk.starts=d.starts∧dk.marks=d.marks∧dk.b=d.b∧dk.tm=d.tm∧Far E v z,
  fun _ z=>match z.cell? ⟨d.b,1,none⟩ with | some (.pointer (some x))=>(match z.cell? x with | some (.slice _ n _)=>n | _=>0) | _=>0,⟨N,C,d,hT,h,ok,rfl,rfl,hN,Nat.le_refl _,KinS.refl d,rfl,rfl,rfl,rfl,rfl,Far.refl _ _⟩,?_⟩
 rintro⟨⟩ z ⟨N1,Ck,dk,hTk,hz,okk,hunb,hCl,hN1,hNl,kin,epd,est,emk,eb,etm,fz⟩
 unfold Ziq
 have hlk:dk.TL.length=T0.length+N1.length:=by rw[hTk,List.length_append]
 have hbz:z.cell? ⟨d.b,1,none⟩=some (.pointer dk.tm):=by rw[←eb,hz.blk.cell];rfl
 simp only[X_,hbz]
 refine Ro.Len_ok hz.tr (ifC (fun g=>?_) (fun g=>?_))
 ·simp only[gt_iff_lt,decide_eq_true_eq] at g
  have hne:N1≠[]:=by
   rintro rfl
   simp at hlk;omega
  obtain⟨N2,n,rfl⟩:∃N2 n,N1=N2++[n]:=⟨N1.dropLast,N1.getLast hne,(List.dropLast_concat_getLast hne).symm⟩
  obtain⟨hn0,hn1⟩:=hN1 n (by simp)
  obtain⟨j,rfl⟩:=Int.eq_ofNat_of_zero_le hn0
  simp only[List.length_append,List.length_singleton] at hlk hNl
  simp only[X_,hbz]
  refine Ro.Pop_ok hz.tr (by omega) (by omega) fun z1 tr1 u1=>?_
  have ez:dk.TL[dk.TL.length-1]'(by omega)=(j:Int):=by
   have:dk.TL=(T0++N2)++[(j:Int)]:=by rw[hTk,List.append_assoc]
   simp only[this]
   simp
  rw[ez]
  have etk:dk.TL.take (dk.TL.length-1)=T0++N2:=by
   have:dk.TL=(T0++N2)++[(j:Int)]:=by rw[hTk,List.append_assoc]
   rw[this,show (T0++N2++[(j:Int)]).length-1=(T0++N2).length by rw[List.length_append];rfl,List.take_left]
  rw[etk] at tr1
  have hz1:=hz.setTrail tr1 u1 (Sub.refl _ _)
  have ud:=Zah z1
  have hz1d:=hz1.keep ud
  have hjl:j<Ck.length:=by omega
  have hjc:j<dk.cells.length:=by rw[okk.cl];exact hjl
  obtain⟨cb,off,hcp,_,_⟩:=hz1.cell (i:=j) hjc
  have hcp:dk.cp=some ⟨cb,off,none⟩:=hcp
  have hb1:z1.cell? ⟨d.b,4,none⟩=some (.slice dk.cp dk.cells.length dk.cc):=by rw[←eb];exact hz1.blk.cell 4
  have hbd:=okk.bound hz
  simp only[X_,hb1,hcp]
  rw[i64id (by omega) (by omega)]
  refine ZqR (by omega) ⟨by simp only[X_,hb1,hcp],by omega,by omega,?_⟩
  simp only[X_,Int.toNat_natCast]
  refine hz1d.setCell (i:=j) hjc (fun z2 hz2 u2=>?_) hcp
  have hfit:(Wd.ref j).fits:=ZlI (by omega)
  refine⟨⟨N2,Ck.set j (.ref j),_,rfl,hz2,⟨?_,fun x hx=>?_,okk.nf,by rw[List.length_set];exact okk.len,okk.starts,okk.ml⟩,by rw[←hunb,ZwW hjl],by rw[List.length_set];exact hCl,fun n hn=>hN1 n (by simp [hn]),by omega,⟨kin.a,kin.limit,kin.tlim,kin.L,kin.FL,kin.made,kin.alim,kin.flim⟩,epd,est,emk,eb,etm,?_⟩,?_⟩
  ·show dk.cells.set j (Wd.ref j).enc=(Ck.set j (.ref j)).map Wd.enc
   rw[okk.cells,List.map_set]
  ·rcases List.mem_or_eq_of_mem_set hx with g2 | g2
   ·exact okk.fits x g2
   ·rw[g2];exact hfit
  ·have f1:Far E z z1:=⟨_,u1,fun k hk hx=>hz.six.2.2.1.2.2.2 k hx hk⟩
   exact((fz.then f1).after ud).then ⟨_,u2,fun k hk hx=>hz1d.six.2.2.2.1.2.2 k hx hk⟩
  ·obtain⟨mb,p,n,c,G,em,eb1,es1,_,_⟩:=hz.tr
   obtain⟨mb',p',n',c',G',em',eb1',es1',_,_⟩:=hz2.tr
   have em':dk.tm=some ⟨mb',0,none⟩:=em'
   rw[em] at em'
   cases em'
   have hb2:z2.cell? ⟨d.b,1,none⟩=some (.pointer dk.tm):=by rw[←eb,hz2.blk.cell];rfl
   simp only[hb2,hbz,em,eb1.cell,eb1'.cell]
   have e1:=Ro.len_n es1
   have e2:=Ro.len_n es1'
   have e2:n'=(T0++N2).length:=e2
   simp
   rw[e1,e2,hlk,List.length_append]
   omega
 ·simp only[gt_iff_lt,decide_eq_false_iff_not] at g
  have:N1=[]:=List.eq_nil_of_length_eq_zero (by omega)
  subst this
  rw[List.append_nil] at hTk
  rw[ZxS] at hunb
  rw[hunb] at okk
  exact hK z dk hz okk hTk kin epd est emk fz
theorem ZtL {v:World} {K:Int→Int→World→Prop} (h:Hp w v d E) (hi:HI d C k0) (hlen:d.starts.length<4096) (hT:d.TL.length<2^30)
  (hK:∀v' d',Hp w v' d' E→HI d' C k0→KinS d d'→d'.TL=d.TL→d'.starts=d.starts++[(C.length:Int)]→d'.marks=d.marks++[(d.TL.length:Int)]→Far E v v'→K d.TL.length 0 v'):Zbq d.a v K:=by
 apply Zbq.of
 unfold Zlu
 have hml:=hi.ok.ml
 have hsl:d.pd.L.length=d.starts.length:=by rw[hi.ok.starts,List.length_map]
 refine ZdE h (ifF rfl ?_)
 simp only[HpD.a,X_,h.blk.cell]
 refine Po.Open6 h.pl h.plok (fun hf=>by omega) fun _ v1 pd1 pl1 sg hL u1 s1=>ifF rfl ?_
 have h1:=h.setPool pl1 sg.ok sg.a u1 s1
 obtain⟨d1,ed1⟩:∃d1:HpD,d1={ d with pd:=pd1 }:=⟨_,rfl⟩
 have hb1:=h1.blk
 simp only[X_,hb1.cell]
 have ud1:=Zah v1
 have h1d:=h1.keep ud1
 have hne:0<pd1.L.length:=by rw[hL];simp
 refine Po.Top_ok h1d.pl hne ?_
 refine⟨by simp only[X_,hb1.cell],Za3 Zq0 [.int .i64 pd1.top] (by rfl) (by simp [Value.cells]) (by rfl) (by omega) fun v2 hs2 u2=>?_⟩
 have h2:=h1d.keep u2
 refine⟨by simp only[X_,h2.blk.cell,hb1.cell],?_⟩
 refine Ze1 (hE:=Zq0) h2.st hs2 (by simp [Value.cells,Value.oneCell']) (by show (d.starts.length+1)*_≤_;omega) fun p3 c3 G3 v3 hs3 u3 s3=>?_
 have e3:d.starts.map (Value.int .i64)++([Value.int .i64 pd1.top]:List Value).flatMap (fun v=>v.cells.toList)=(d.starts++[pd1.top]).map (.int .i64):=by rw[List.map_append];simp [Value.cells]
 have l3:d.starts.length+1=(d.starts++[pd1.top]).length:=by simp
 have hs3':SlAt v3 1 p3 (d.starts++[pd1.top]).length c3 ((d.starts++[pd1.top]).map (.int .i64)) G3:=by rw[←e3,←l3];exact hs3
 rw[show d.starts.length+1=(d.starts++[pd1.top]).length from l3]
 refine h2.setStarts u3 hs3' s3 fun v4 h4 u4=>?_
 have hb4:=h4.blk
 simp only[X_,hb4.cell]
 have ud4:=Zah v4
 have h4d:=h4.keep ud4
 refine Ro.Len_ok h4d.tr ?_
 refine⟨by simp only[X_,hb4.cell],Za3 Zq0 [.int .i64 (d.TL.length:Int)] (by rfl) (by simp [Value.cells]) (by rfl) (by omega) fun v5 hs5 u5=>?_⟩
 have h5:=h4d.keep u5
 refine⟨by simp only[X_,h5.blk.cell,hb4.cell],?_⟩
 refine Ze1 (hE:=Zq0) h5.mr hs5 (by simp [Value.cells,Value.oneCell']) (by show (d.marks.length+1)*_≤_;omega) fun p6 c6 G6 v6 hs6 u6 s6=>?_
 have e6:d.marks.map (Value.int .i64)++([Value.int .i64 (d.TL.length:Int)]:List Value).flatMap (fun v=>v.cells.toList)=(d.marks++[(d.TL.length:Int)]).map (.int .i64):=by rw[List.map_append];simp [Value.cells]
 have l6:d.marks.length+1=(d.marks++[(d.TL.length:Int)]).length:=by simp
 have hs6':SlAt v6 1 p6 (d.marks++[(d.TL.length:Int)]).length c6 ((d.marks++[(d.TL.length:Int)]).map (.int .i64)) G6:=by rw[←e6,←l6];exact hs6
 rw[show d.marks.length+1=(d.marks++[(d.TL.length:Int)]).length from l6]
 refine h5.setMarks u6 hs6' s6 fun v7 h7 u7=>?_
 have hb7:=h7.blk
 simp only[X_,hb7.cell]
 refine Ro.Len_ok h7.tr ?_
 have htop:pd1.top=(C.length:Int):=by rw[sg.top,hi.ok.len]
 refine hK v7 _ h7 ⟨⟨hi.ok.cells,hi.ok.fits,fun q hq=>hi.ok.nf q ((sg.free q).1 hq),by show (C.length:Int)=pd1.top;rw[htop],?_,by show (d.marks++[(d.TL.length:Int)]).length=(d.starts++[pd1.top]).length;simp [hml]⟩,hi.wf,hi.nL,hi.nF,hi.nm,hi.al,hi.fl,hi.n64⟩ ⟨rfl,sg.limit,rfl,rfl,rfl,rfl,rfl,rfl⟩ rfl (by show d.starts++[pd1.top]=_;rw[htop]) rfl ?_
 ·show d.starts++[pd1.top]=pd1.L.map (·.start)
  rw[hL,List.map_append,←hi.ok.starts,sg.top];rfl
 ·have f1:Far E v v1:=⟨_,u1,fun k hk hx=>h.six.2.1.2.2.2.2 k hx hk⟩
  have f4:Far E v2 v4:=⟨_,u4,fun k hk hx=>by
   rcases List.mem_cons.1 hx with e | e
   ·exact h2.six.1.2.2.2.2.2 k (by simp [e]) hk
   ·exact h2.six.2.2.2.2.1.2 k e hk⟩
  have f7:Far E v5 v7:=⟨_,u7,fun k hk hx=>by
   rcases List.mem_cons.1 hx with e | e
   ·exact h5.six.1.2.2.2.2.2 k (by simp [e]) hk
   ·exact h5.six.2.2.2.2.2 k e hk⟩
  exact((((f1.after ud1).after u2).then f4).after ud4 |>.after u5).then f7
end
theorem Zs4 {α:Type} {l:List α}:l.take (l.length-1)=l.dropLast:=by rw[List.dropLast_eq_take]
section
variable {w:World} {d:HpD} {E:List Nat} {C:List Wd} {k0:Nat}
theorem SlAt.front {v:World} {k:IntKind} {p:Option Addr} {c:Nat} {L:List Int} {G:List Nat} (h:SlAt v 1 p L.length c (L.map (.int k)) G) {m:Nat} (hm:m≤L.length):SlAt v 1 p (L.take m).length c ((L.take m).map (.int k)) G:=by
 have:=h.take (k:=m) hm
 rw[Nat.mul_one,←List.map_take] at this
 have e:(L.take m).length=m:=by rw[List.length_take];omega
 rw[e];exact this
theorem ZsC {v:World} {K:Int→World→Prop} (h:Hp w v d E) (hi:HI d C k0) (hlen:2≤d.starts.length)
  (hK:∀v' d',Hp w v' d' E→HI d' C k0→KinS d d'→d'.TL=d.TL→d'.starts=d.starts.dropLast→d'.marks=d.marks.dropLast→Far E v v'→K 0 v'):Za4 d.a v K:=by
 apply Za4.of
 unfold Zkj Zh4
 have hml:=hi.ok.ml
 have hsl:d.pd.L.length=d.starts.length:=by rw[hi.ok.starts,List.length_map]
 have hs4:=hi.slen h
 refine ZdE h (ifF rfl ?_)
 simp only[HpD.a,X_,h.blk.cell]
 refine Po.Close6 h.pl h.plok (fun h1=>by omega) fun s hs hse v1 pd1 pl1 sg ⟨sl,hL⟩ u1 s1=>ifT rfl ?_
 have h1:=h.setPool pl1 sg.ok sg.a u1 s1
 have hb1:=h1.blk
 have ud1:=Zah v1
 have h1d:=h1.keep ud1
 have e1:IntKind.i64.wrap ((d.starts.length:Int)-1)=((d.starts.length-1:Nat):Int):=by rw[i64id (by omega) (by omega)];omega
 have e2:IntKind.i64.wrap ((d.marks.length:Int)-1)=((d.marks.length-1:Nat):Int):=by rw[i64id (by omega) (by omega)];omega
 have c1:=h1d.st.2.1
 have c1:d.starts.length≤d.sc:=c1
 have c2:d.marks.length≤d.mc:=h1d.mr.2.1
 simp only[X_,hb1.cell,e1,Int.toNat_natCast]
 refine⟨by omega,by omega,?_⟩
 have l1:(d.starts.take (d.starts.length-1)).length=d.starts.length-1:=by rw[List.length_take];omega
 have l2:(d.marks.take (d.marks.length-1)).length=d.marks.length-1:=by rw[List.length_take];omega
 have st1:=SlAt.front h1d.st (m:=d.starts.length-1) (by show d.starts.length-1≤d.starts.length;omega)
 rw[show d.starts.length-1=(d.starts.take (d.starts.length-1)).length from l1.symm]
 refine h1d.setStarts (L:=d.starts.take (d.starts.length-1)) (Upd.refl _ _) st1 (Sub.refl _ _) fun v2 h2 u2=>?_
 have hb2:=h2.blk
 have ud2:=Zah v2
 have h2d:=h2.keep ud2
 simp only[X_,hb2.cell,e2,Int.toNat_natCast]
 refine⟨by omega,by omega,?_⟩
 have st2:=SlAt.front h2d.mr (m:=d.marks.length-1) (by show d.marks.length-1≤d.marks.length;omega)
 rw[show d.marks.length-1=(d.marks.take (d.marks.length-1)).length from l2.symm]
 refine h2d.setMarks (L:=d.marks.take (d.marks.length-1)) (Upd.refl _ _) st2 (Sub.refl _ _) fun v3 h3 u3=>?_
 have hs':s+1=d.starts.length-1:=by omega
 refine hK v3 _ h3 ⟨⟨hi.ok.cells,hi.ok.fits,fun q hq=>hi.ok.nf q ((sg.free q).1 hq),by show (C.length:Int)=pd1.top;rw[sg.top];exact hi.ok.len,?_,by show (d.marks.take _).length=(d.starts.take _).length;omega⟩,hi.wf,hi.nL,hi.nF,hi.nm,hi.al,hi.fl,hi.n64⟩ ⟨rfl,sg.limit,rfl,rfl,rfl,rfl,rfl,rfl⟩ rfl Zs4 Zs4 ?_
 ·show d.starts.take (d.starts.length-1)=pd1.L.map (·.start)
  rw[hL,List.map_set,←hs',hi.ok.starts,←List.map_take]
  refine List.ext_getElem? fun i=>?_
  rw[List.getElem?_set]
  split
  ·rename_i e
   subst e
   rw[if_pos (by simp;omega),List.getElem?_map,List.getElem?_take,if_pos (by omega),List.getElem?_eq_getElem (by omega)];rfl
  ·rfl
 ·have f1:Far E v v1:=⟨_,u1,fun k hk hx=>h.six.2.1.2.2.2.2 k hx hk⟩
  have f2:Far E (drw v1) v2:=⟨_,u2,fun k hk hx=>by
   rcases List.mem_cons.1 hx with e | e
   ·exact h1d.six.1.2.2.2.2.2 k (by simp [e]) hk
   ·exact h1d.six.2.2.2.2.1.2 k e hk⟩
  have f3:Far E (drw v2) v3:=⟨_,u3,fun k hk hx=>by
   rcases List.mem_cons.1 hx with e | e
   ·exact h2d.six.1.2.2.2.2.2 k (by simp [e]) hk
   ·exact h2d.six.2.2.2.2.2 k e hk⟩
  exact(((f1.after ud1).then f2).after ud2).then f3
theorem Zt3 {v:World} {C0:List Wd} {T0:List Int} {K:Int→World→Prop} (h:Hp w v d E) (hi:HI d C k0) (hs:d.starts[d.starts.length-1]?=some (C0.length:Int)) (hm:d.marks[d.marks.length-1]?=some (T0.length:Int)) (sn:Snap C0 T0 C d.TL) (wf0:WF C0 d.L d.FL) (hT:d.TL.length<2^30)
  (hK:∀v' d',Hp w v' d' E→HI d' C0 k0→KinS d d'→d'.TL=T0→d'.starts=d.starts→d'.marks=d.marks→Far E v v'→K 0 v'):ZbU d.a v K:=by
 apply ZbU.of
 unfold Zlo
 have hml:=hi.ok.ml
 have hsl:d.pd.L.length=d.starts.length:=by rw[hi.ok.starts,List.length_map]
 have hs4:=hi.slen h
 obtain⟨N,hTN,_,_,hN⟩:=sn.n
 have hbk:=sn.back hTN
 have hle:=sn.le
 refine ZdE h (ifF rfl ?_)
 have ud:=Zah v
 have hd:=h.keep ud
 have h0:d.marks.length-1<d.marks.length:=(List.getElem?_eq_some_iff.1 hm).1
 obtain⟨b,off,hp,hc⟩:=h.mr.cell (i:=d.marks.length-1) (by omega)
 rw[List.getElem?_map,hm] at hc
 have hc:v.cell? ⟨b,off+(d.marks.length-1),none⟩=some (.int .i64 (T0.length:Int)):=hc
 have e2:IntKind.i64.wrap ((d.marks.length:Int)-1)=((d.marks.length-1:Nat):Int):=by rw[i64id (by omega) (by omega)];omega
 simp only[HpD.a,X_,h.blk.cell,e2,Int.toNat_natCast,hp,hc]
 refine⟨by omega,by omega,Ro.Len_ok hd.tr ⟨by simp only[X_,hc],by simp only[X_,h.blk.cell,hp],by simp only[X_,h.blk.cell,hp],?_⟩⟩
 have hmin:minI (T0.length:Int) (d.TL.length:Int)=T0.length:=by
  have:d.TL.length=T0.length+N.length:=by rw[hTN,List.length_append]
  unfold minI;split <;> omega
 rw[hmin]
 refine ZxN hd hi.ok hTN hN hT fun v2 d2 h2 ok2 eT kin epd est emk f2=>?_
 have eb:d2.b=d.b:=by have:=kin.a;unfold HpD.a at this;simpa using this
 have hb2:v2.cell? ⟨d.b,0,none⟩=some (.pointer d2.pd.a):=by rw[←eb,h2.blk.cell];rfl
 simp only[X_,hb2]
 have hlast:d2.pd.L.length-1<d2.pd.L.length:=by rw[epd];omega
 have hstart:d2.pd.L[d2.pd.L.length-1].start=(C0.length:Int):=by
  have h1:=hs
  rw[hi.ok.starts,List.length_map,List.getElem?_map,←epd,List.getElem?_eq_getElem hlast] at h1
  simpa using h1
 refine Po.Back6 (s:=d2.pd.L.length-1) h2.pl h2.plok hlast (by omega) fun v3 pd3 pl3 ok3 ea etop elim est3 efree u3 s3=>?_
 have h3:=h2.setPool pl3 ok3 ea u3 s3
 have hb3:∀i,v3.cell? ⟨d.b,i,none⟩=(#[.pointer pd3.a,.pointer d2.tm,.pointer d2.at_,.pointer d2.ft,.slice d2.cp d2.cells.length d2.cc,.slice d2.sp d2.starts.length d2.sc,.slice d2.mp d2.marks.length d2.mc]:Array Value)[i]?:=fun i=>by rw[←eb];exact h3.blk.cell i
 have ud3:=Zah v3
 have h3d:=h3.keep ud3
 simp only[X_,hb3]
 refine Po.Top_ok h3d.pl ok3.ne ?_
 have hcl2:=ok2.cl
 rw[ZxA] at hcl2
 have c2:d2.cells.length≤d2.cc:=h3d.cs.2.1
 rw[etop,hstart]
 simp only[X_,hb3,Int.toNat_natCast]
 refine⟨trivial,by omega,by omega,?_⟩
 have st:=SlAt.front h3d.cs (m:=C0.length) (by show C0.length≤d2.cells.length;omega)
 have l1:(d2.cells.take C0.length).length=C0.length:=by rw[List.length_take];omega
 rw[←eb]
 have go:∀K':World→Prop,(∀v',Hp w v' { d2 with pd:=pd3,cp:=d2.cp,cc:=d2.cc,cells:=d2.cells.take C0.length,CG:=d2.CG } E→Upd (d2.b::d2.CG) (drw v3) v'→K' v')→St (drw v3) ⟨d2.b,4,none⟩ (.slice d2.cp (d2.cells.take C0.length).length d2.cc) K':=
  fun K' hK'=>h3d.setCells (L:=d2.cells.take C0.length) (Upd.refl _ _) st (Sub.refl _ _) hK'
 rw[l1] at go
 refine go _ fun v4 h4 u4=>?_
 have ec:d2.cells.take C0.length=C0.map Wd.enc:=by rw[ok2.cells,←List.map_take,hbk]
 refine hK v4 _ h4 ⟨⟨ec,fun x hx=>ok2.fits x (by rw[←hbk] at hx;exact List.mem_of_mem_take hx),fun q hq=>ok2.nf q ((efree q).1 hq).1,by show (C0.length:Int)=pd3.top;rw[etop,hstart],?_,ok2.ml⟩,by show WF C0 d2.L d2.FL;rw[kin.L,kin.FL];exact wf0,by show d2.L.length≤_;rw[kin.L];exact hi.nL,by show d2.FL.length≤_;rw[kin.FL];exact hi.nF,by show d2.made≤_;rw[kin.made];exact hi.nm,by show d2.alim=_;rw[kin.alim];exact hi.al,by show d2.flim=_;rw[kin.flim];exact hi.fl,by show ∀s∈d2.L,_;rw[kin.L];exact hi.n64⟩ ⟨kin.a,elim.trans kin.limit,kin.tlim,kin.L,kin.FL,kin.made,kin.alim,kin.flim⟩ eT est emk ?_
 ·show d2.starts=pd3.L.map (·.start)
  rw[est3];exact ok2.starts
 ·have f3:Far E v2 v3:=⟨_,u3,fun k hk hx=>h2.six.2.1.2.2.2.2 k hx hk⟩
  have f4:Far E (drw v3) v4:=⟨_,u4,fun k hk hx=>by
   rcases List.mem_cons.1 hx with e | e
   ·exact h3d.six.1.2.2.2.2.2 k (by simp [e]) hk
   ·exact h3d.six.2.2.2.1.2.2 k e hk⟩
  exact(((Far.keep ud).then f2).then f3).after ud3 |>.then f4
end
end Go.Proofs.YtdaenijbokialaaGreat
