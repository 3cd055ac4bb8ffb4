import Derived.Test.YtdaenijbokialaaGreatWithin2
namespace Go.Proofs.YtdaenijbokialaaGreat
open Go Go.D Go.Proofs
set_option linter.unusedSimpArgs false
set_option linter.unusedVariables false
set_option maxRecDepth 8000
def EqP (P:List (Int×Int)) (θ:Int→Tm) (N:Nat):Prop:=∀z∈P,(θ z.1).size≤N→θ z.1=θ z.2
theorem EqP.mono {P P':List (Int×Int)} {θ:Int→Tm} {N:Nat} (h:EqP P' θ N) (hs:∀z∈P,z∈P'):EqP P θ N:=fun z hz=>h z (hs z hz)
theorem EqP.less {P:List (Int×Int)} {θ:Int→Tm} {N M:Nat} (h:EqP P θ N) (hm:M≤N):EqP P θ M:=fun z hz hs=>h z hz (by omega)
structure GT (ks:List Int) (t:Tm):Prop where
 pv:t.pv
 sz:t.size<2^40
 vs:∀n∈t.vars [],n∈ks
theorem GT.sub {ks:List Int} {t u:Tm} (h:GT ks t) (hu:u∈t.l):GT ks u:=by
 have hp:=(Tm.pv_eq t).1 h.pv
 have h1:t.kind≠1:=fun e=>by rw[(hp.1 e).2] at hu;cases hu
 exact⟨hp.2 u hu,by have:=Zev hu;have:=t.size_eq;have:=h.sz;omega,fun n hn=>h.vs n (Zcy h1 hu hn)⟩
def GB (ks:List Int) (B:Bnd):Prop:=∀x∈B,x.1∈ks∧GT ks x.2
theorem WB.gt {ks:List Int} {B:Bnd} {t u:Tm} (hB:GB ks B) (h:WB B t u) (ht:GT ks t):GT ks u:=by
 induction h with
 | stop _=>exact ht
 | step _ hb _ ih=>exact ih (hB _ hb).2
theorem SolB.of_app {B X:Bnd} {θ:Int→Tm} (h:SolB (B++X) θ):SolB B θ:=fun x hx=>h x (by simp [hx])
structure UniT (B B':Bnd) (P P':List (Int×Int)) (a b:Tm):Prop where
 same:∀θ,SolB B' θ→∀N,EqP P' θ N→(a.app θ).size≤N→a.app θ=b.app θ
 new:∀θ,SolB B' θ→∀N,EqP P' θ N→∀z∈P',z∉P→(θ z.1).size≤N+1→θ z.1=θ z.2
 sol:∀θ,SolB B θ→a.app θ=b.app θ→SolB B' θ
theorem UniT.top {B B':Bnd} {P':List (Int×Int)} {a b:Tm} {X:Bnd} (h:UniT B B' [] P' a b) (e:B'=B++X) (θ:Int→Tm):SolB B' θ↔SolB B θ∧a.app θ=b.app θ:=by
 refine⟨fun hs=>⟨by rw[e] at hs;exact hs.of_app,?_⟩,fun hs=>h.sol θ hs.1 hs.2⟩
 have all:∀N,EqP P' θ N:=by
  intro N
  induction N with
  | zero=>intro z _ hz;rw[Tm.size_eq] at hz;omega
  | succ N ih=>exact fun z hz hs'=>h.new θ hs N ih z hz (by simp) hs'
 exact h.same θ hs _ (all _) (Nat.le_refl _)
theorem Zyg {B:Bnd} {σ θ:Int→Tm} (id:Idm B σ) (hs:SolB B θ) {n:Int} {t:Tm} (hk:t.kind≠1) (h:n∈(t.app σ).vars []):θ n≠t.app θ:=fun e=>by
 have h1:(t.app σ).kind≠1:=by rw[ZeV hk,ZrD];exact hk
 have:=ZrI (f:=θ) h1 n h
 rw[id.go hs,←e] at this
 omega
theorem ZvJ {f:Int→Tm} {p:Tm} (hk:p.kind≠1) {i:Nat} (hi:i<p.l.length):(p.l[i].app f).size<(p.app f).size:=by
 rw[ZeV hk,Zpw]
 have:=Zev (List.mem_map_of_mem (f:=Tm.app f) (List.getElem_mem hi))
 omega
theorem ZuV {f g:Int→Tm} {p q:Tm} (hp:p.kind≠1) (hk:p.kind=q.kind) (hn:p.n=q.n) (hs:p.s=q.s) (hl:p.l.length=q.l.length) (h:∀i (h1:i<p.l.length) (h2:i<q.l.length),p.l[i].app f=q.l[i].app g):p.app f=q.app g:=by
 rw[ZeV hp,ZeV (by rw[←hk];exact hp),hk,hn,hs]
 congr 1
 exact List.ext_getElem (by simp [hl]) fun i h1 h2=>by simpa using h i (by simpa using h1) (by simpa using h2)
theorem Zsf {f g:Int→Tm} {p q:Tm} (hp:p.kind≠1) (hq:q.kind≠1) (h:p.app f=q.app g):p.kind=q.kind∧p.n=q.n∧p.s=q.s∧p.l.length=q.l.length∧∀i (h1:i<p.l.length) (h2:i<q.l.length),p.l[i].app f=q.l[i].app g:=by
 rw[ZeV hp,ZeV hq,Tm.mk.injEq] at h
 obtain⟨a,b,c,d⟩:=h
 have e:p.l.length=q.l.length:=by simpa using congrArg List.length d
 refine⟨a,b,c,e,fun i h1 h2=>?_⟩
 have:=List.getElem_of_eq d (i:=i) (by simpa using h1)
 simpa using this
structure Stp (m:List Nat) (d d':SbD) (w w':World):Prop where
 b:d'.b=d.b
 r:d'.r=d.r
 sub:Sub d'.G d.G w
 upd:Upd (m++d.b::d.r::d.G) w w'
theorem Stp.keep {m:List Nat} {d:SbD} {w w':World} (u:Upd [] w w'):Stp m d d w w':=⟨rfl,rfl,Sub.refl _ _,u.mono (by simp)⟩
theorem Stp.a {m:List Nat} {d d':SbD} {w w':World} (h:Stp m d d' w w'):d'.a=d.a:=by unfold SbD.a;rw[h.b]
theorem Stp.trans {m:List Nat} {d d1 d2:SbD} {w w1 w2:World} (h:Stp m d d1 w w1) (g:Stp m d1 d2 w1 w2):Stp m d d2 w w2:=
 ⟨g.b.trans h.b,g.r.trans h.r,h.sub.trans g.sub h.upd.size,h.upd.trans g.upd (fun _ hx=>.inl hx) fun x hx=>by
  rw[h.b,h.r] at hx
  simp only[List.mem_append,List.mem_cons] at hx ⊢
  rcases hx with g1 | g1 | g1 | g1
  ·simp [g1]
  ·simp [g1]
  ·simp [g1]
  ·rcases h.sub x g1 with g2 | g2
   ·simp [g2]
   ·exact .inr g2⟩
theorem Stp.more {m m':List Nat} {d d':SbD} {w w':World} (h:Stp m d d' w w') (hs:∀x∈m,x∈m'∨w.heap.size≤x):Stp m' d d' w w':=
 ⟨h.b,h.r,h.sub,h.upd.mono fun x hx=>by
  rcases List.mem_append.1 hx with g | g
  ·rcases hs x g with g2 | g2
   ·simp [g2]
   ·exact .inr g2
  ·exact .inl (List.mem_append.2 (.inr g))⟩
theorem Stp.turn {m:List Nat} {d:SbD} {w w':World} (u:Upd m w w'):Stp m d d w w':=⟨rfl,rfl,Sub.refl _ _,u.mono fun x hx=>.inl (by simp [hx])⟩
theorem Stp.out {m:List Nat} {d d':SbD} {w w':World} (h:Stp m d d' w w') {x:Nat} (hx:x∉d.b::d.r::d.G) (hl:x<w.heap.size):x∉d'.b::d'.r::d'.G:=by
 rw[h.b,h.r]
 simp only[List.mem_cons,not_or] at hx ⊢
 refine⟨hx.1,hx.2.1,fun hg=>?_⟩
 rcases h.sub x hg with g | g
 ·exact hx.2.2 g
 ·omega
section
variable {w:World} {d:SbD} {B:Bnd} {F:List Nat}
theorem Sb.low (h:Sb w d B F):∀x∈d.b::d.r::d.G,x<w.heap.size:=fun x hx=>by
 obtain⟨L,e1,e2,e3⟩:=h.row
 simp only[List.mem_cons] at hx
 rcases hx with rfl | rfl | g
 ·exact h.blk.lt
 ·exact h.map.lt
 ·exact e2.inn x g
theorem put_at {n:Int} {v:Value} (h:n∉B.map (·.1)) (ho:(B.map (·.1)).Nodup):Go.D.put n v (atM B)=atM B++[(n,v)]:=by
 have hl:=(ZvB (n:=n) ho).1 h
 have hs:Go.D.spot n (atM B) 0=none:=by
  unfold Go.D.look at hl
  simpa using hl
 exact Znn _ _ _ 0 hs
theorem ZwS {σ:Int→Tm} {n:Int} {t:Tm} {q:Option Addr} {c:Nat} {K:Bool→World→Prop} (h:Sb w d B F) (ord:OrdB B) (id:Idm B σ) (hnB:n∉B.map (·.1)) (hBz:∀x∈B,x.2.size<2^40) (hB:B.length<2^30) (ht:RdA w F t.l q 0) (hs:t.s.size<2^63) (hz:t.size<2^40)
  (hno:n∈(t.app σ).vars []→∀w',Sb w' d B F→Upd [] w w'→K false w')
  (hyes:n∉(t.app σ).vars []→∀w' d',Sb w' d' (B++[(n,t)]) F→Stp [] d d' w w'→K true w') :
  Zat d.a n t.kind t.n t.s q t.l.length c w K:=by
 apply Zat.of
 unfold ZjW
 refine Zai fun r w1 hr u1 b1=>⟨_,b1.cell 0,_,b1.cell 1,_,b1.cell 2,_,_,_,b1.cell 3,ZmQ fun m w2 hm u2 hmm=>?_⟩
 have hlow:=h.low
 have U2:=u1.after u2
 have s1:=u1.size
 have s2:=u2.size
 have rl:=b1.lt
 have mF:m∉F:=fun hx=>by have:=h.inn m hx;omega
 have mD:m∉d.b::d.r::d.G:=fun hx=>by have:=hlow m hx;omega
 have rD:r∉d.b::d.r::d.G:=fun hx=>by have:=hlow r hx;omega
 have h2:=h.keep U2
 refine Zvj (SN:=[]) mF hnB hBz _ t (Nat.lt_succ_self _) h2 mD (MapAt.new _ hmm) (RdA.keep U2 ht) hs hz fun b w3 SN h3 _ u3 _ hf htr=>?_
 have U3:Upd [] w w3:=U2.fresh u3 (by intro x hx;simp at hx;omega)
 refine ifC (fun g=>hno (htr g σ id) w3 h3 U3) (fun g=>?_)
 obtain⟨f1,f2⟩:=hf g
 have hocc:=ZxW id ord hnB (SN:=SN) (fun m hm=>f2 m hm (by simp)) f1
 have ud:=Zah w3
 have h3d:=h3.keep ud
 have bb:=h3d.blk
 have br3:Blk (drw w3) r _:=((b1.upd u2 (by simp)).upd u3 (by simp;omega)).upd ud (by simp)
 simp only[SbD.a,X_,h3.blk.cell]
 refine Zie (κ:=Int) (kt:=3) (et:=3) (inj:=fun a:Int=>Value.int .i64 a) mapKey (by rfl) h3d.map fun w4 hm4 u4=>?_
 rw[put_at hnB h.once,←Zum B n t] at hm4
 have u4':Upd [d.r] (drw w3) (drw w4):=u4.before (Zah w4)
 have bb4:=bb.upd u4' (by simpa using h.br)
 simp only[List.mem_cons,not_or] at rD
 have br4:=br3.upd u4' (by simpa using rD.2.1)
 have c0:=br4.cell 0;have c1:=br4.cell 1;have c2:=br4.cell 2;have c3:=br4.cell 3
 simp at c0 c1 c2 c3
 have bc0:=bb4.cell 0
 simp at bc0
 refine⟨_,_,_,bc0,_,c0,_,c1,_,c2,_,_,_,c3,Za3 Zxh [.agg #[.int .i64 n,.int .i64 t.kind,.int .i64 t.n,.string t.s,.slice q t.l.length c]] (by rfl) (by simp [Value.cells]) (by rfl) (by omega) fun w5 hs5 u5=>?_⟩
 have hs5':SlAt w5 5 (some ⟨(drw w4).heap.size,0,none⟩) 1 1 (bdC (n,t,q,c)) [(drw w4).heap.size]:=by simpa [bdC,tmC,Value.cells] using hs5
 obtain⟨L,e1,e2,e3⟩:=h3d.row
 have e2':=(e2.upd u4' (fun x hx hy=>by simp at hy;subst hy;exact h.rG hx)).upd u5 (by intro x _ h;cases h)
 have hm5:=((hm4.upd (Zah w4) (by simp)).upd u5 (by simp))
 have bb5:=bb4.upd u5 (by simp)
 have bc5:=bb5.cell 0
 simp at bc5
 refine⟨by rw[bc5,bc0],Ze1 (hE:=Zxh) e2' hs5' (by simp [bdC,tmC,Value.oneCell']) (by omega) fun p6 c6 G6 w6 hs6 u6 g6=>?_⟩
 refine Zbi (bb5.upd u6 h.bG) (by simp) rfl fun w7 u7 b7=>?_
 simp at b7
 have uu:Upd [] (drw w4) w5:=u5
 have sz3:=U3.size
 have szd:=ud.size
 have sz4:=u4'.size
 have sz5:=u5.size
 have sz6:=u6.size
 have bl:=hlow d.b (by simp)
 have rl2:=hlow d.r (by simp)
 have bG6:d.b∉G6:=fun hx=>by
  rcases g6 _ hx with g | g
  ·exact h.bG g
  ·omega
 have rG6:d.r∉G6:=fun hx=>by
  rcases g6 _ hx with g | g
  ·exact h.rG g
  ·omega
 have all:Upd (d.b::d.r::d.G) w w7:=by
  have a1:Upd [d.r] w w5:=((U3.after ud).after u4').before u5
  have a2:Upd (d.b::d.r::d.G) w w6:=a1.trans u6 (fun x hx=>.inl (by simp at hx;simp [hx])) (fun x hx=>.inl (by simp [hx]))
  exact a2.trans u7 (fun x hx=>.inl hx) (fun x hx=>.inl (by simp at hx;simp [hx]))
 have dF:Dis F (d.b::d.r::d.G):=h.dis.symm
 refine hyes hocc w7 { d with p:=p6,c:=c6,G:=G6 } ⟨?_,⟨L++[(n,t,q,c)],by rw[List.map_append,e1];rfl,?_,fun x hx=>?_⟩,(hm5.upd u6 h.rG).upd u7 (by simpa using Ne.symm h.br),?_,h.inn.upd all,h.br,bG6,rG6,?_⟩ ⟨rfl,rfl,g6.old (by omega),by simpa using all⟩
 ·show Blk w7 d.b #[.slice p6 (B++[(n,t)]).length c6,.map (some d.r)]
  rw[List.length_append,List.length_singleton]
  exact b7
 ·rw[List.length_append,List.length_singleton,List.flatMap_append]
  exact(by simpa using hs6:SlAt w6 5 p6 (B.length+1) c6 (L.flatMap bdC++[(n,t,q,c)].flatMap bdC) G6).upd u7 (fun x hx hy=>by simp at hy;subst hy;exact bG6 hx)
 ·rcases List.mem_append.1 hx with g | g
  ·obtain⟨a,b⟩:=e3 x g
   exact⟨a,RdA.upd' (((u4'.before u5).trans u6 (H:=d.b::d.r::d.G) (fun x hx=>.inl (by simp at hx;simp [hx])) (fun x hx=>.inl (by simp [hx]))).trans u7 (H:=d.b::d.r::d.G) (fun x hx=>.inl hx) (fun x hx=>.inl (by simp at hx;simp [hx]))) dF b⟩
  ·simp at g;subst g
   exact⟨hs,RdA.upd' all dF ht⟩
 ·rw[List.map_append];exact List.nodup_append.2 ⟨h.once,by simp,fun a ha b hb=>by simp at hb;subst hb;rintro rfl;exact hnB ha⟩
 ·intro x hx hf
  simp only[List.mem_cons] at hx
  rcases hx with g | g | g
  ·exact h.dis x (by simp [g]) hf
  ·exact h.dis x (by simp [g]) hf
  ·rcases g6 x g with g2 | g2
   ·exact h.dis x (by simp [g2]) hf
   ·have:=h.inn x hf;omega
end
def injQ (x:Int×Int):Value:=.agg #[.int .i64 x.1,.int .i64 x.2]
theorem pairKeyQ:KeyOf Tryz.prog 213 injQ:=keyPair (et:=3) (i:=_) (by rfl) (by rfl) (by rfl) (by kernel_rfl)
theorem ZpM {α:Type} [DecidableEq α]:∀{l ks:List α},l.Nodup→(∀x∈l,x∈ks)→l.length≤ks.length
 | [],_,_,_=>by simp
 | x::l,ks,hn,hs=>by
  rw[List.nodup_cons] at hn
  have hx:=hs x (by simp)
  have:=ZpM (l:=l) (ks:=ks.erase x) hn.2 fun y hy=>(List.mem_erase_of_ne (by rintro rfl;exact hn.1 hy)).2 (hs y (by simp [hy]))
  rw[List.length_erase_of_mem hx] at this
  have:=List.length_pos_of_mem hx
  rw[List.length_cons];omega
section
variable {F:List Nat} {ks:List Int}
theorem Zuc {w:World} {d:SbD} {B:Bnd} {n:Int} {K:Bool→World→Prop} (h:Sb w d B F) (hK:∀b w',(b=true↔n∈B.map (·.1))→Upd [] w w'→K b w') :
  Zax d.a n w fun t0 t1 t2 t3P t3N t3C b w1=>New w1 (.cells #[.int .i64 0,.int .i64 0,.string ⟨#[]⟩,.slice none 0 0] 31) fun r w2=>
   St w2 ((⟨r,0,none⟩:Addr).add 0) (.int .i64 t0) fun w3=>St w3 ((⟨r,0,none⟩:Addr).add 1) (.int .i64 t1) fun w4=>St w4 ((⟨r,0,none⟩:Addr).add 2) (.string t2) fun w5=>St w5 ((⟨r,0,none⟩:Addr).add 3) (.slice t3P t3N t3C) fun w6=>K b w6:=by
 refine Zs0 h (fun hn w2 h2 u2=>?_) (fun i hi e q2 c2 w2 h2 u2 ra2 hs2=>?_)
 ·refine Zai fun r2 w3 hr2 u3 b3=>St4q b3 rfl rfl rfl rfl fun w4 u4 b4=>?_
  exact hK false w4 (by simp only[Bool.false_eq_true,false_iff];exact hn) ((u2.after u3).fresh u4 (by intro x hx;simp at hx;have:=u2.size;omega))
 ·refine Zai fun r2 w3 hr2 u3 b3=>St4q b3 rfl rfl rfl rfl fun w4 u4 b4=>?_
  exact hK true w4 (by simp only[true_iff];rw[←e];exact List.mem_map_of_mem (List.getElem_mem hi)) ((u2.after u3).fresh u4 (by intro x hx;simp at hx;have:=u2.size;omega))
theorem ZxZ {m:Nat} (hmF:m∉F) (hks:ks.length<2^30):∀(U N:Nat) (a b:Tm) {w:World} {d:SbD} {B:Bnd} {σ:Int→Tm} {P:List (Int×Int)} {q1 q2:Option Addr} {c1 c2:Nat} {K:Bool→World→Prop},
  ks.length-B.length<U→(a.app σ).size<N→Sb w d B F→Idm B σ→OrdB B→GB ks B→m∉d.b::d.r::d.G→MapAt w m injQ (seenI P)→RdA w F a.l q1 0→RdA w F b.l q2 0→a.s.size<2^63→b.s.size<2^63→GT ks a→GT ks b→
  (∀ok w' d' X P',Sb w' d' (B++X) F→(∃σ',Idm (B++X) σ')→OrdB (B++X)→GB ks (B++X)→MapAt w' m injQ (seenI P')→(∀z∈P,z∈P')→Stp [m] d d' w w'→(ok=true→UniT B (B++X) P P' a b)→(ok=false→∀θ,SolB B θ→a.app θ≠b.app θ)→K ok w')→
  Zbo d.a a.kind a.n a.s q1 a.l.length c1 b.kind b.n b.s q2 b.l.length c2 (some m) w K:=by
 intro U
 induction U with
 | zero=>intro N a b w d B σ P q1 q2 c1 c2 K h;omega
 | succ U ihU=>
 intro N
 induction N with
 | zero=>intro a b w d B σ P q1 q2 c1 c2 K _ h;omega
 | succ N ihN=>
 intro a b w d B σ P q1 q2 c1 c2 K hU hN h id ord gb hmD hm ra rb hsa hsb ga gB hK
 apply Zbo.of
 unfold Ziw
 refine Zai fun r w1 hr u1 b1=>Zai fun r1 w2 hr1 u2 b2=>?_
 have b1':=b1.upd u2 (by simp)
 have U2:=u1.after u2
 have hlow:=h.low
 have hml:=hm.lt
 have s1:=u1.size
 have s2:=u2.size
 have rl:=b1.lt
 have rl1:=b2.lt
 have dm:Dis (d.b::d.r::d.G) [m]:=fun x hx hy=>by simp at hy;subst hy;exact hmD hx
 have dF:Dis F [m]:=fun x hx hy=>by simp at hy;subst hy;exact hmF hx
 have hBl:B.length≤ks.length:=by
  have:=ZpM (l:=B.map (·.1)) (ks:=ks) h.once fun x hx=>by
   obtain⟨y,hy,rfl⟩:=List.mem_map.1 hx
   exact(gb y hy).1
  rwa [List.length_map] at this
 have k5:∀(z:World) (P1:List (Int×Int)),(∀x∈P,x∈P1)→(∀x∈P1,x∉P→x=(a.n,b.n)∧a.kind=1∧b.kind=1)→Upd [m] w2 z→MapAt z m injQ (seenI P1)→ZbC d.a (some m) K r r1 z:=by
  intro z P1 hsub hnew uz hmz
  unfold ZbC
  have zs:=uz.size
  have ud:=Zah z
  have Uz:Upd [m] w z:=(U2.mono (by simp)).both uz
  have hz:=(h.upd Uz dm dF).keep ud
  have raz:=RdA.keep ud (RdA.upd' Uz dF ra)
  have rbz:=RdA.keep ud (RdA.upd' Uz dF rb)
  have bz1:=(b1'.upd uz (by simp;omega)).upd ud (by simp)
  have bz2:=(b2.upd uz (by simp;omega)).upd ud (by simp)
  refine⟨_,bz1.cell 0,_,bz1.cell 1,_,bz1.cell 2,_,_,_,bz1.cell 3,_,bz2.cell 0,_,bz2.cell 1,_,bz2.cell 2,_,_,_,bz2.cell 3,?_⟩
  refine ZsN hz ord raz hsa fun p qp cp z1 wp h1 v1 rp sp=>⟨fun i hi=>?_,ZsN h1 ord (RdA.keep v1 rbz) hsb fun q qq cq z2 wq h2 v2 rq sq=>?_⟩
  ·have e1:=(bz2.upd v1 (by simp)).cell i
   have e2:=bz2.cell i
   rw[addN,Nat.zero_add,e1,e2]
  have V2:=ud.after (v1.after v2)
  refine St4q ((bz1.upd v1 (by simp)).upd v2 (by simp)) rfl rfl rfl rfl fun z3 v3 b3=>St4q (((bz2.upd v1 (by simp)).upd v2 (by simp)).upd v3 (by simp;omega)) rfl rfl rfl rfl fun z4 v4 b4=>?_
  have b3':=b3.upd v4 (by simp;omega)
  have V4:Upd [m] w z4:=((Uz.before V2).trans v3 (fun _ hx=>.inl hx) (by intro x hx;simp at hx;right;omega)).trans v4 (fun _ hx=>.inl hx) (by intro x hx;simp at hx;right;omega)
  have h4:=h.upd V4 dm dF
  have m4:MapAt z4 m injQ (seenI P1):=((hmz.upd V2 (by simp)).upd v3 (by simp;omega)).upd v4 (by simp;omega)
  have nF:∀{x:Nat},w.heap.size≤x→Dis F [x]:=fun {x} hx k hk hy=>by simp at hy;have:=h.inn k hk;omega
  have rp4:RdA z4 F p.l qp 0:=RdA.upd' v4 (nF (by omega)) (RdA.upd' v3 (nF (by omega)) (RdA.keep v2 rp))
  have rq4:RdA z4 F q.l qq 0:=RdA.upd' v4 (nF (by omega)) (RdA.upd' v3 (nF (by omega)) rq)
  have gp:=wp.gt gb ga
  have gq:=wq.gt gb gB
  have ea:∀{θ:Int→Tm},SolB B θ→a.app θ=p.app θ:=fun hs=>wp.val hs
  have eb:∀{θ:Int→Tm},SolB B θ→b.app θ=q.app θ:=fun hs=>wq.val hs
  have S4:Stp [m] d d w z4:=Stp.turn V4
  have one:(∀θ,SolB B θ→a.app θ=b.app θ)→K true z4:=fun he=>by
   refine hK true z4 d [] P1 (by simpa using h4) ⟨σ,by simpa using id⟩ (by simpa using ord) (by simpa using gb) m4 hsub S4 (fun _=>?_) (fun e=>by cases e)
   rw[List.append_nil]
   refine⟨fun θ hs _ _ _=>he θ hs,fun θ hs _ _ x hx hn _=>?_,fun θ hs _=>hs⟩
   obtain⟨rfl,ka,kb⟩:=hnew x hx hn
   have:=he θ hs
   rwa [ZbG ka,ZbG kb] at this
  have non:(∀θ,SolB B θ→a.app θ≠b.app θ)→K false z4:=fun he=>
   hK false z4 d [] P1 (by simpa using h4) ⟨σ,by simpa using id⟩ (by simpa using ord) (by simpa using gb) m4 hsub S4 (fun e=>by cases e) (fun _=>he)
  have bnd:∀{p q:Tm} {qq:Option Addr} {cq:Nat},p.n∈ks→p.n∉B.map (·.1)→(q.kind=1→q.n∉B.map (·.1)∧q.n≠p.n)→RdA z4 F q.l qq 0→q.s.size<2^63→GT ks q→(∀θ,SolB B θ→(a.app θ=b.app θ↔θ p.n=q.app θ))→Zat d.a p.n q.kind q.n q.s qq q.l.length cq z4 K:=by
   intro p q qq cq hpk hpB hq rq sq gq hv
   refine ZwS h4 ord id hpB (fun x hx=>(gb x hx).2.sz) (by omega) rq sq gq.sz (fun hin w' h' u'=>?_) (fun hout w' d' h' st=>?_)
   ·refine hK false w' d [] P1 (by simpa using h') ⟨σ,by simpa using id⟩ (by simpa using ord) (by simpa using gb) (m4.upd u' (by simp)) hsub (S4.trans (Stp.keep u')) (fun e=>by cases e) (fun _ θ hs he=>?_)
    have he:=(hv θ hs).1 he
    by_cases k1:q.kind=1
    ·obtain⟨g1,g2⟩:=hq k1
     rw[ZbG k1,id.free _ g1,Zrr] at hin
     simp at hin
     exact g2 hin.symm
    ·exact Zyg id hs k1 hin he
   ·refine hK true w' d' [(p.n,q)] P1 h' ⟨_,id.bind hpB gq.pv hout⟩ (ord.snoc hpB hq) (fun x hx=>?_) (m4.upd st.upd (by simpa using hmD)) hsub (S4.trans (st.more (by simp))) (fun _=>?_) (fun e=>by cases e)
    ·rcases List.mem_append.1 hx with g | g
     ·exact gb x g
     ·simp at g;subst g;exact⟨hpk,gq⟩
    ·have he:∀θ,SolB (B++[(p.n,q)]) θ→a.app θ=b.app θ:=fun θ hs=>(hv θ hs.of_app).2 (hs (p.n,q) (by simp))
     refine⟨fun θ hs _ _ _=>he θ hs,fun θ hs _ _ x hx hn _=>?_,fun θ hs e x hx=>?_⟩
     ·obtain⟨rfl,ka,kb⟩:=hnew x hx hn
      have:=he θ hs
      rwa [ZbG ka,ZbG kb] at this
     ·rcases List.mem_append.1 hx with g | g
      ·exact hs x g
      ·simp at g;subst g;exact(hv θ hs).1 e
  have pk:p.kind=1→p.n∈ks:=fun k1=>gp.vs p.n (by rw[Tm.vars_eq,if_pos k1];simp)
  have qk:q.kind=1→q.n∈ks:=fun k1=>gq.vs q.n (by rw[Tm.vars_eq,if_pos k1];simp)
  have pB:p.kind=1→p.n∉B.map (·.1):=fun k1=>wp.last.resolve_left (fun h=>h k1)
  have qB:q.kind=1→q.n∉B.map (·.1):=fun k1=>wq.last.resolve_left (fun h=>h k1)
  have bp:p.kind=1→(q.kind=1→q.n≠p.n)→Zat d.a p.n q.kind q.n q.s qq q.l.length cq z4 K:=fun k1 hne=>
   bnd (pk k1) (pB k1) (fun k2=>⟨qB k2,hne k2⟩) rq4 sq gq fun θ hs=>by rw[ea hs,eb hs,ZbG k1]
  have bq:p.kind≠1→q.kind=1→Zat d.a q.n p.kind p.n p.s qp p.l.length cp z4 K:=fun k1 k2=>
   bnd (qk k2) (qB k2) (fun k=>absurd k k1) rp4 sp gp fun θ hs=>by rw[ea hs,eb hs,ZbG k2];exact eq_comm
  refine⟨p.kind,b3'.cell 0,ifC (fun g=>⟨q.kind,b4.cell 0,ifC (fun g2=>⟨p.n,b3'.cell 1,q.n,b4.cell 1,ifC (fun g3=>?_) (fun g3=>⟨p.kind,b3'.cell 0,ifT g ⟨p.n,b3'.cell 1,_,b4.cell 0,_,b4.cell 1,_,b4.cell 2,_,_,_,b4.cell 3,?_⟩⟩)⟩) (fun g2=>?_)⟩) (fun g=>?_)⟩
  ·have k1:p.kind=1:=by simpa using g
   have k2:q.kind=1:=by simpa using g2
   have e:p.n=q.n:=by simpa using g3
   exact one fun θ hs=>by rw[ea hs,eb hs,ZbG k1,ZbG k2,e]
  ·exact bp (by simpa using g) fun _ e=>by rw[e] at g3;simp at g3
  ·unfold Zew
   refine⟨p.kind,b3'.cell 0,ifT g ⟨p.n,b3'.cell 1,_,b4.cell 0,_,b4.cell 1,_,b4.cell 2,_,_,_,b4.cell 3,?_⟩⟩
   exact bp (by simpa using g) fun k2=>by rw[k2] at g2;simp at g2
  have k1:p.kind≠1:=by simpa using g
  unfold Zew Zeu
  refine⟨p.kind,b3'.cell 0,ifF g ⟨q.kind,b4.cell 0,ifC (fun g2=>⟨q.n,b4.cell 1,_,b3'.cell 0,_,b3'.cell 1,_,b3'.cell 2,_,_,_,b3'.cell 3,bq k1 (by simpa using g2)⟩) (fun g2=>?_)⟩⟩
  have k2:q.kind≠1:=by simpa using g2
  have cl:¬(p.kind=q.kind∧p.n=q.n∧p.s=q.s∧p.l.length=q.l.length)→K false z4:=fun hc=>non fun θ hs he=>by
   rw[ea hs,eb hs] at he
   obtain⟨x1,x2,x3,x4,_⟩:=Zsf k1 k2 he
   exact hc ⟨x1,x2,x3,x4⟩
  refine⟨p.kind,b3'.cell 0,q.kind,b4.cell 0,ifC (fun g3=>cl fun hc=>by rw[hc.1] at g3;simp at g3) (fun g3=>⟨p.n,b3'.cell 1,q.n,b4.cell 1,ifC (fun g4=>cl fun hc=>by rw[hc.2.1] at g4;simp at g4) (fun g4=>⟨p.s,b3'.cell 2,q.s,b4.cell 2,ifC (fun g5=>cl fun hc=>by rw[hc.2.2.1] at g5;simp at g5) (fun g5=>⟨_,_,_,b3'.cell 3,_,_,_,b4.cell 3,ifC (fun g6=>cl fun hc=>by rw[hc.2.2.2] at g6;simp at g6) (fun g6=>?_)⟩)⟩)⟩)⟩
  have x1:p.kind=q.kind:=by simpa using g3
  have x2:p.n=q.n:=by simpa using g4
  have x3:p.s=q.s:=by
   have:p.s.toList=q.s.toList:=by simpa using g5
   simpa [ByteArray.toList_eq,←ByteArray.ext_iff] using this
  have x4:p.l.length=q.l.length:=by
   clear hU hN
   have:(p.l.length:Int)=q.l.length:=by simpa using g6
   omega
  unfold Zgn Zgj
  have pz:=p.size_eq
  have pl:=ZcC (l:=p.l)
  have pg:=gp.sz
  have ml4:=m4.lt
  have low4:=h4.low
  refine⟨fun s z'=>∃(i:Nat) (d':SbD) (X:Bnd) (P':List (Int×Int)),s.i=i∧i≤p.l.length∧Sb z' d' (B++X) F∧(∃σ',Idm (B++X) σ')∧OrdB (B++X)∧GB ks (B++X)∧MapAt z' m injQ (seenI P')∧(∀x∈P1,x∈P')∧Stp [m] d d' z4 z'∧
   (∀θ,SolB (B++X) θ→∀M,EqP P' θ M→∀j (hj:j<p.l.length) (hj':j<q.l.length),j<i→(p.l[j].app θ).size≤M→p.l[j].app θ=q.l[j].app θ)∧(∀θ,SolB (B++X) θ→∀M,EqP P' θ M→∀x∈P',x∉P1→(θ x.1).size≤M+1→θ x.1=θ x.2)∧(∀θ,SolB B θ→a.app θ=b.app θ→SolB (B++X) θ),
   fun s _=>(p.l.length-s.i).toNat,⟨0,d,[],P1,rfl,by omega,by simpa using h4,⟨σ,by simpa using id⟩,by simpa using ord,by simpa using gb,m4,fun _ hx=>hx,Stp.keep (Upd.refl _ _),fun θ _ M _ j _ _ hj=>by omega,fun θ _ M _ x hx hn=>absurd hx hn,fun θ hs _=>by simpa using hs⟩,?_⟩
  rintro⟨si⟩ z' ⟨i,d',X,P',rfl,hi,hz',⟨σ',id'⟩,ord',gb',mz',sub',st',hsame,hnew',hsol⟩
  unfold Zga
  have rm:r∉[m]++d.b::d.r::d.G:=fun hx=>by
   rcases List.mem_append.1 hx with g | g
   ·simp at g;omega
   ·have:=hlow r g;omega
  have rm1:r1∉[m]++d.b::d.r::d.G:=fun hx=>by
   rcases List.mem_append.1 hx with g | g
   ·simp at g;omega
   ·have:=hlow r1 g;omega
  have c3:=(b3'.upd st'.upd rm)
  have c4:=(b4.upd st'.upd rm1)
  have ud':=Zah z'
  refine⟨_,_,_,c3.cell 3,ifC (fun g7=>?_) (fun g7=>?_)⟩
  ·have gi:i<p.l.length:=by have:=of_decide_eq_true g7;dsimp only at this;omega
   have gi':i<q.l.length:=by omega
   have dF':Dis F ([m]++d.b::d.r::d.G):=fun x hx hy=>by
    rcases List.mem_append.1 hy with g | g
    ·exact dF x hx g
    ·exact h.dis.symm x hx g
   obtain⟨x,y2,cq1,f1,f2,f3,f4,f5,f6,f7,f8⟩:=(RdA.keep ud' (RdA.upd' st'.upd dF' rp4)).at i gi
   obtain⟨x',y3,cq2,e1,e2,e3,e4,e5,e6,e7,e8⟩:=(RdA.keep ud' (RdA.upd' st'.upd dF' rq4)).at i gi'
   simp only[Nat.zero_add] at f3 f4 f5 f6 e3 e4 e5 e6
   refine⟨_,_,_,(c3.upd ud' (by simp)).cell 3,by show (0:Int)≤(i:Int);omega,by show (i:Int)<_;omega,?_⟩
   have c5:=(c4.upd ud' (by simp)).cell 3
   rw[f1]
   simp only[Zch,addA,Int.toNat_natCast,Nat.add_zero]
   refine⟨_,f3,_,f4,_,f5,_,_,_,f6,_,_,_,c5,by omega,by omega,?_⟩
   rw[e1]
   simp only[Zch,addA,Int.toNat_natCast,Nat.add_zero]
   refine⟨_,e3,_,e4,_,e5,_,_,_,e6,?_⟩
   rw[←st'.a]
   have hXl:(B++X).length≤ks.length:=by
    have:=ZpM (l:=(B++X).map (·.1)) (ks:=ks) hz'.once fun x hx=>by
     obtain⟨y,hy,rfl⟩:=List.mem_map.1 hx
     exact(gb' y hy).1
    rwa [List.length_map] at this
   have mD':=st'.out (fun hx=>hmD hx) ml4
   have lift:∀{θ:Int→Tm},SolB B θ→a.app θ=b.app θ→p.l[i].app θ=q.l[i].app θ:=fun hs he=>by
    rw[ea hs,eb hs] at he
    exact(Zsf k1 k2 he).2.2.2.2 i gi gi'
   have hk:∀ok w' d2 X2 P2,Sb w' d2 ((B++X)++X2) F→(∃σ',Idm ((B++X)++X2) σ')→OrdB ((B++X)++X2)→GB ks ((B++X)++X2)→MapAt w' m injQ (seenI P2)→(∀z∈P',z∈P2)→Stp [m] d' d2 (drw z') w'→(ok=true→UniT (B++X) ((B++X)++X2) P' P2 p.l[i] q.l[i])→(ok=false→∀θ,SolB (B++X) θ→p.l[i].app θ≠q.l[i].app θ)→
     If (!ok) (K false w') ((∃(i':Nat) (d':SbD) (X:Bnd) (P':List (Int×Int)),(IntKind.i64.wrap ((i:Int)+1))=(i':Int)∧i'≤p.l.length∧Sb w' d' (B++X) F∧(∃σ',Idm (B++X) σ')∧OrdB (B++X)∧GB ks (B++X)∧MapAt w' m injQ (seenI P')∧(∀x∈P1,x∈P')∧Stp [m] d d' z4 w'∧
      (∀θ,SolB (B++X) θ→∀M,EqP P' θ M→∀j (hj:j<p.l.length) (hj':j<q.l.length),j<i'→(p.l[j].app θ).size≤M→p.l[j].app θ=q.l[j].app θ)∧(∀θ,SolB (B++X) θ→∀M,EqP P' θ M→∀x∈P',x∉P1→(θ x.1).size≤M+1→θ x.1=θ x.2)∧(∀θ,SolB B θ→a.app θ=b.app θ→SolB (B++X) θ))∧((p.l.length:Int)-(IntKind.i64.wrap ((i:Int)+1))).toNat<((p.l.length:Int)-(i:Int)).toNat):=by
    intro ok w' d2 X2 P2 h2 id2 ord2 gb2 m2 sub2 st2 hy hn
    have ST:=(st'.trans (Stp.keep ud')).trans st2
    cases ok with
    | false=>
     refine ifT rfl (hK false w' d2 (X++X2) P2 (by rwa [←List.append_assoc]) (by rwa [←List.append_assoc]) (by rwa [←List.append_assoc]) (by rwa [←List.append_assoc]) m2 (fun x hx=>sub2 x (sub' x (hsub x hx))) (S4.trans ST) (fun e=>by cases e) (fun _ θ hs he=>?_))
     exact hn rfl θ (hsol θ hs he) (lift hs he)
    | true=>
     have t:=hy rfl
     rw[i64id (by omega) (by omega)]
     refine ifF rfl ⟨⟨i+1,d2,X++X2,P2,by simp,by omega,by rwa [←List.append_assoc],by rwa [←List.append_assoc],by rwa [←List.append_assoc],by rwa [←List.append_assoc],m2,fun x hx=>sub2 x (sub' x hx),ST,fun θ hs M hM j hj hj' hji hz=>?_,fun θ hs M hM x hx hnx hz=>?_,fun θ hs he=>?_⟩,by omega⟩
     ·rw[←List.append_assoc] at hs
      by_cases e:j=i
      ·subst e;exact t.same θ hs M hM hz
      ·exact hsame θ hs.of_app M (hM.mono sub2) j hj hj' (by omega) hz
     ·rw[←List.append_assoc] at hs
      by_cases e:x∈P'
      ·exact hnew' θ hs.of_app M (hM.mono sub2) x e hnx hz
      ·exact t.new θ hs M hM x hx e hz
     ·rw[←List.append_assoc]
      exact t.sol θ (hsol θ hs he) (lift hs he)
   by_cases hX:X=[]
   ·subst hX
    have esz:(p.l[i].app σ).size<N:=by
     have h1:=ZvJ (f:=σ) k1 gi
     have h2:=ea (θ:=σ) id.sol
     rw[h2] at hN;omega
    simp only[List.append_nil] at hk hz' ord' gb' hXl
    exact ihN p.l[i] q.l[i] (σ:=σ) (P:=P') hU esz (hz'.keep ud') id ord' gb' mD' (mz'.upd ud' (by simp)) f8 e8 f7 e7 (gp.sub (List.getElem_mem gi)) (gq.sub (List.getElem_mem gi')) hk
   ·have:0<X.length:=List.length_pos_iff.2 hX
    rw[List.length_append] at hXl
    exact ihU _ p.l[i] q.l[i] (σ:=σ') (P:=P') (B:=B++X) (by rw[List.length_append];omega) (Nat.lt_succ_self _) (hz'.keep ud') id' ord' gb' mD' (mz'.upd ud' (by simp)) f8 e8 f7 e7 (gp.sub (List.getElem_mem gi)) (gq.sub (List.getElem_mem gi')) hk
  ·have gi:i=p.l.length:=by have:=of_decide_eq_false g7;dsimp only at this;omega
   have whole:∀θ,SolB (B++X) θ→∀M,EqP P' θ M→(a.app θ).size≤M+1→a.app θ=b.app θ:=fun θ hs M hM hz=>by
    rw[ea hs.of_app] at hz ⊢
    rw[eb hs.of_app]
    refine ZuV k1 x1 x2 x3 x4 fun j h1 h2=>hsame θ hs M hM j h1 h2 (by omega) ?_
    have:=ZvJ (f:=θ) k1 h1
    omega
   refine hK true z' d' X P' hz' ⟨σ',id'⟩ ord' gb' mz' (fun x hx=>sub' x (hsub x hx)) (S4.trans st') (fun _=>⟨fun θ hs M hM hz=>whole θ hs M hM (by omega),fun θ hs M hM x hx hn hz=>?_,hsol⟩) (fun e=>by cases e)
   by_cases e:x∈P1
   ·obtain⟨rfl,ka,kb⟩:=hnew x e hn
    have:=whole θ hs M hM (by rw[ZbG ka];exact hz)
    rwa [ZbG ka,ZbG kb] at this
   ·exact hnew' θ hs M hM x hx e hz
 refine⟨a.kind,b1'.cell 0,ifC (fun g=>⟨b.kind,b2.cell 0,ifC (fun g2=>⟨a.n,b1'.cell 1,?_⟩) (fun _=>k5 w2 P (fun _ hx=>hx) (fun x hx hn=>absurd hx hn) (Upd.refl _ _) (hm.upd U2 (by simp)))⟩) (fun _=>k5 w2 P (fun _ hx=>hx) (fun x hx hn=>absurd hx hn) (Upd.refl _ _) (hm.upd U2 (by simp)))⟩
 refine Zuc (h.keep U2) fun y1 w3 hy1 u3=>⟨b.n,(b2.upd u3 (by simp)).cell 1,Zuc (h.keep (U2.after u3)) fun y2 w4 hy2 u4=>?_⟩
 have V4:=u3.after u4
 have m4:=(hm.upd U2 (by simp)).upd V4 (by simp)
 refine ifC (fun _=>ifC (fun _=>?_) (fun _=>k5 w4 P (fun _ hx=>hx) (fun x hx hn=>absurd hx hn) (V4.mono (by simp)) m4)) (fun _=>k5 w4 P (fun _ hx=>hx) (fun x hx hn=>absurd hx hn) (V4.mono (by simp)) m4)
 have ka:a.kind=1:=by simpa using g
 have kb:b.kind=1:=by simpa using g2
 have c1:=b1'.upd V4 (by simp)
 have c2:=b2.upd V4 (by simp)
 refine⟨a.n,c1.cell 1,b.n,c2.cell 1,Zmg (mt:=154) (et:=4) (z:=.bool false) (inj:=injQ) (k:=(a.n,b.n)) pairKeyQ (by rfl) ⟨_,by rfl,by rfl⟩ m4 ?_⟩
 rw[ZqI]
 by_cases hin:(a.n,b.n)∈P
 ·rw[if_pos hin]
  refine⟨true,rfl,ifT rfl ?_⟩
  have U4:Upd [m] w w4:=(U2.after V4).mono (by simp)
  refine hK true w4 d [] P (by simpa using h.keep (U2.after V4)) ⟨σ,by simpa using id⟩ (by simpa using ord) (by simpa using gb) m4 (fun _ hx=>hx) (Stp.turn U4) (fun _=>?_) (fun e=>by cases e)
  rw[List.append_nil]
  refine⟨fun θ _ M hM hz=>?_,fun θ _ M _ x hx hn=>absurd hx hn,fun θ hs _=>hs⟩
  rw[ZbG ka] at hz ⊢
  rw[ZbG kb]
  exact hM _ hin hz
 ·rw[if_neg hin]
  refine⟨false,rfl,ifF rfl ⟨a.n,c1.cell 1,b.n,c2.cell 1,Zie (mt:=154) (et:=4) (inj:=injQ) (k:=(a.n,b.n)) pairKeyQ (by rfl) m4 fun w5 m5 u5=>?_⟩⟩
  rw[Zr7 hin] at m5
  exact k5 w5 (P++[(a.n,b.n)]) (fun x hx=>by simp [hx]) (fun x hx hn=>by simp [hn] at hx;exact⟨hx,ka,kb⟩) ((V4.mono (by simp)).both u5) m5
end
section
variable {d:SbD} {B:Bnd} {F:List Nat} {ks:List Int} {σ:Int→Tm}
theorem Zt9 (id:Idm B σ) {p:Tm} (hp:p.pv) (h:p.kind≠1∨p.n∉B.map (·.1)):p.app σ=.mk p.kind p.n p.s (p.l.map (Tm.app σ)):=by
 by_cases k1:p.kind=1
 ·rcases h with g | g
  ·exact absurd k1 g
  ·rw[ZbG k1,id.free _ g]
   obtain⟨e1,e2⟩:=((Tm.pv_eq p).1 hp).1 k1
   rw[k1,e1,e2];rfl
 ·exact ZeV k1
theorem Zv8 (ord:OrdB B) (id:Idm B σ) (gb:GB ks B):∀(N:Nat) (t:Tm) {w:World} {q:Option Addr} {c n:Nat} {K:Int→World→Prop},(t.app σ).size<N→Sb w d B F→RdA w F t.l q 0→t.s.size<2^63→GT ks t→n≤4096→
  (∀w',Sb w' d B F→Upd [] w w'→K ((min (n+(t.app σ).size) 4097:Nat):Int) w')→Zbl d.a t.kind t.n t.s q t.l.length c (n:Int) w K:=by
 intro N
 induction N with
 | zero=>intro t w q c n K h;omega
 | succ N ih=>
 intro t w q c n K hN h hp hs gt hn hK
 apply Zbl.of
 unfold ZiU
 refine Zai fun r w1 hr u1 b1=>⟨_,b1.cell 0,_,b1.cell 1,_,b1.cell 2,_,_,_,b1.cell 3,ZsN (h.keep u1) ord (RdA.keep u1 hp) hs fun p qp cp w2 wp h2 u2 rp sp=>St4q (b1.upd u2 (by simp)) rfl rfl rfl rfl fun w3 u3 b3=>?_⟩
 have U2:=u1.after u2
 have U3:Upd [] w w3:=U2.fresh u3 (by intro x hx;simp at hx;omega)
 have s2:=U2.size
 have rl:=b1.lt
 have gp:=wp.gt gb gt
 have ep:t.app σ=p.app σ:=wp.val id.sol
 have es:=Zt9 id gp.pv wp.last
 rw[ep,es] at hK
 rw[ep,es] at hN
 rw[Zpw] at hK hN
 have h3:=h.keep U3
 have nF:Dis F [r]:=fun k hk hy=>by simp at hy;have:=h.inn k hk;omega
 have rp3:=RdA.upd' u3 nF rp
 have pl:=ZcC (l:=p.l)
 have pz:=p.size_eq
 have pg:=gp.sz
 unfold Zgm
 rw[i64id (by omega) (by omega)]
 refine⟨fun s z=>∃i:Nat,s.i=i∧i≤p.l.length∧s.n_1=((min (n+1+sizeL ((p.l.map (Tm.app σ)).take i)) 4097:Nat):Int)∧Sb z d B F∧Upd [] w3 z,fun s _=>(p.l.length-s.i).toNat,⟨0,rfl,by omega,by simp [sizeL];omega,h3,Upd.refl _ _⟩,?_⟩
 rintro⟨sn,si⟩ z ⟨i,rfl,hi,hsn,hz,uz⟩
 dsimp only at hsn
 subst hsn
 unfold Zgg
 have bz:=b3.upd uz (by simp)
 have UZ:=U3.after uz
 have htl:=ZeH (l:=p.l.map (Tm.app σ)) i
 refine⟨_,_,_,bz.cell 3,ifC (fun g=>ifC (fun g2=>?_) (fun g2=>?_)) (fun g=>?_)⟩
 ·have gi:i<p.l.length:=by have:=of_decide_eq_true g;dsimp only at this;omega
  have g2:=of_decide_eq_true g2
  dsimp only at g2
  obtain⟨x,q2,cq,f1,f2,f3,f4,f5,f6,f7,f8⟩:=(RdA.keep uz rp3).at i gi
  simp only[Nat.zero_add] at f3 f4 f5 f6
  refine⟨_,_,_,bz.cell 3,by show (0:Int)≤(i:Int);omega,by show (i:Int)<_;omega,?_⟩
  simp only[f1,X_,addA,Int.toNat_natCast,f3,f4,f5,f6]
  have e1:=Zjd (l:=p.l.map (Tm.app σ)) (i:=i) (by simpa using gi)
  rw[List.getElem_map] at e1
  have hle:=Zev (List.mem_map_of_mem (f:=Tm.app σ) (List.getElem_mem gi))
  refine ih p.l[i] (by omega) hz f8 f7 (gp.sub (List.getElem_mem gi)) (by omega) fun w6 h6 u6=>?_
  rw[i64id (by omega) (by omega)]
  refine⟨⟨i+1,by simp,by omega,?_,h6,uz.after u6⟩,by show ((p.l.length:Int)-((i:Int)+1)).toNat<((p.l.length:Int)-(i:Int)).toNat;omega⟩
  show _=_
  rw[e1]
  congr 1
  omega
 ·have g2:=of_decide_eq_false g2
  dsimp only at g2
  have:=hK z hz UZ
  have e:min (n+(sizeL (p.l.map (Tm.app σ))+1)) 4097=min (n+1+sizeL ((p.l.map (Tm.app σ)).take i)) 4097:=by omega
  rw[e] at this
  exact this
 ·have gi:i=p.l.length:=by have:=of_decide_eq_false g;dsimp only at this;omega
  have:=hK z hz UZ
  have e:min (n+(sizeL (p.l.map (Tm.app σ))+1)) 4097=min (n+1+sizeL ((p.l.map (Tm.app σ)).take i)) 4097:=by
   rw[gi,List.take_of_length_le (by simp)];omega
  rw[e] at this
  exact this
theorem Zvn (ord:OrdB B) (id:Idm B σ) (gb:GB ks B):∀(N:Nat) (t:Tm) {w:World} {q:Option Addr} {c:Nat} {K:Int→Int→ByteArray→Option Addr→Nat→Nat→World→Prop},(t.app σ).size<N→N<2^29→Sb w d B F→RdA w F t.l q 0→t.s.size<2^63→GT ks t→
  (∀w' q c' G,RdA w' G (t.app σ).l q 0→In G w'→Since G w→(t.app σ).s.size<2^63→Sb w' d B F→Upd [] w w'→K (t.app σ).kind (t.app σ).n (t.app σ).s q (t.app σ).l.length c' w')→Zbn d.a t.kind t.n t.s q t.l.length c w K:=by
 intro N
 induction N with
 | zero=>intro t w q c K h;omega
 | succ N ih=>
 intro t w q c K hN hN2 h hp hs gt hK
 apply Zbn.of
 unfold Zir
 refine Zai fun r w1 hr u1 b1=>Zai fun r1 w2 hr1 u2 b2=>?_
 have b1':=b1.upd u2 (by simp)
 have U2:=u1.after u2
 refine⟨_,b1'.cell 0,_,b1'.cell 1,_,b1'.cell 2,_,_,_,b1'.cell 3,ZsN (h.keep U2) ord (RdA.keep U2 hp) hs fun p qp cp w3 wp h3 u3 rp sp=>St4q (b1'.upd u3 (by simp)) rfl rfl rfl rfl fun w4 u4 b4=>⟨_,b4.cell 0,_,b4.cell 1,_,b4.cell 2,Zai fun r2 w5 hr2 u5 b5=>St4q b5 rfl rfl rfl rfl fun w6 u6 b6=>?_⟩⟩
 have s1:=u1.size
 have s2:=u2.size
 have s3:=u3.size
 have s4:=u4.size
 have s5:=u5.size
 have l1:=b1.lt
 have l2:=b2.lt
 have U3:=U2.after u3
 have U4:Upd [] w w4:=U3.fresh u4 (by intro x hx;simp at hx;omega)
 have U6:Upd [] w4 w6:=u5.fresh u6 (by intro x hx;simp at hx;omega)
 have V6:=U4.after U6
 have gp:=wp.gt gb gt
 have ep:t.app σ=p.app σ:=wp.val id.sol
 have es:=Zt9 id gp.pv wp.last
 rw[ep,es] at hK
 rw[ep,es] at hN
 rw[Zpw] at hN
 simp only[ZrD,mk_n,mk_s,mk_l] at hK
 have nF:Dis F [r]:=fun k hk hy=>by simp at hy;have:=h.inn k hk;omega
 have rp6:=RdA.keep U6 (RdA.upd' u4 nF rp)
 have b46:=b4.upd U6 (by simp)
 have b26:=((b2.upd u3 (by simp)).upd u4 (by simp;omega)).upd U6 (by simp)
 have pl:=ZcC (l:=p.l.map (Tm.app σ))
 rw[List.length_map] at pl
 unfold Zgr
 refine⟨fun s z=>∃(i:Nat) (p2:Option Addr) (c2:Nat) (G2 F2:List Nat),s.i=i∧i≤p.l.length∧Blk z r2 #[.int .i64 p.kind,.int .i64 p.n,.string p.s,.slice p2 i c2]∧TmsAt z p2 i c2 ((p.l.take i).map (Tm.app σ)) G2 F2∧Since (G2++F2) w6∧Dis G2 F2∧Upd [r2] w6 z,fun s _=>(p.l.length-s.i).toNat,
  ⟨0,none,0,[],[],rfl,by omega,b6,by simpa using TmsAt.nil _,(by intro k hk;cases hk),(by intro k hk;cases hk),Upd.refl _ _⟩,?_⟩
 rintro⟨si⟩ z ⟨i,p2,c2,G2,F2,rfl,hi,bz,tz,hS2,hGF2,uz⟩
 unfold Zgo
 have V:Upd [] w z:=V6.fresh uz (by intro k hk;simp at hk;omega)
 have b1z:=b46.upd uz (by simp;omega)
 have b2z:=b26.upd uz (by simp;omega)
 have nF2:Dis F [r2]:=fun k hk hy=>by simp at hy;have:=h.inn k hk;omega
 have rpz:=RdA.upd' uz nF2 rp6
 have hz:=h.keep V
 refine⟨_,_,_,b1z.cell 3,ifC (fun g=>?_) (fun g=>?_)⟩
 ·have gi:i<p.l.length:=by have:=of_decide_eq_true g;dsimp only at this;omega
  have ud:=Zah z
  obtain⟨x,q2,cq,f1,f2,f3,f4,f5,f6,f7,f8⟩:=rpz.at i gi
  simp only[Nat.zero_add] at f3 f4 f5 f6
  simp only[f1,X_,addA,Int.toNat_natCast,f3,f4,f5,f6,bz.cell,b1z.cell]
  have hle:=Zev (List.mem_map_of_mem (f:=Tm.app σ) (List.getElem_mem gi))
  refine⟨by omega,by omega,ih p.l[i] (by omega) (by omega) (hz.keep ud) (RdA.keep ud f8) f7 (gp.sub (List.getElem_mem gi)) fun z2 q2 c3 F3 ra3 in3 s3 hns h2 u3=>?_⟩
  have bz2:=(bz.upd ud (by simp)).upd u3 (by simp)
  obtain⟨v,hv⟩:∃v,v=p.l[i].app σ:=⟨_,rfl⟩
  rw[←hv] at ra3 hns ⊢
  refine⟨by simp only[X_,bz2.cell],Za3 Zrf [.agg #[.int .i64 v.kind,.int .i64 v.n,.string v.s,.slice q2 v.l.length c3]] (by rfl) (by simp [Value.cells]) (by rfl) (by omega) fun z3 hs3 u3'=>?_⟩
  have hs3':SlAt z3 4 (some ⟨z2.heap.size,0,none⟩) 1 1 (tmC (v,q2,c3)) [z2.heap.size]:=by simpa [Value.cells,tmC] using hs3
  have bz3:=bz2.upd u3' (by simp)
  refine⟨by simp only[X_,bz3.cell],?_⟩
  have U3:=(ud.after u3).after u3'
  have tz3:=tz.keep U3
  have hzsz:z.heap.size≤(drw z).heap.size:=ud.size
  have GF3:Dis G2 F3:=fun k hk hx=>by have:=tz.inn.1 k hk;have:=s3 k hx;omega
  refine tz3.push (t:=v) (m:=1) hs3' hns (RdA.keep u3' ra3) (in3.upd u3') hGF2 GF3 (by rw[List.length_map,List.length_take];omega) fun p4 c4 G4 z4 t4 u4' s4'=>?_
  have r2G:r2∉G2:=fun hx=>by have:=hS2 r2 (by simp [hx]);have:=b6.lt;omega
  have r2G4:r2∉G4:=fun hx=>by
   rcases s4' _ hx with g2 | g2
   ·exact r2G g2
   ·have:=bz.lt;have:=U3.size;omega
  have r2F:r2∉F2++F3:=fun hx=>by
   rcases List.mem_append.1 hx with g2 | g2
   ·have:=hS2 r2 (by simp [g2]);have:=b6.lt;omega
   ·have:=s3 r2 g2;have:=bz.lt;omega
  refine Zbi (bz3.upd u4' r2G) (by simp) rfl fun z5 u5' b5'=>?_
  simp at b5'
  rw[i64id (by omega) (by omega)]
  have t5:=t4.upd u5' (fun k hk hx=>by simp at hx;subst hx;exact r2G4 hk) (fun k hk hx=>by simp at hx;subst hx;exact r2F hk)
  rw[show (p.l.take i).map (Tm.app σ)++[v]=(p.l.take (i+1)).map (Tm.app σ) by rw[Zca gi,List.map_append,hv];rfl] at t5
  have uzsz:=uz.size
  refine⟨⟨i+1,p4,c4,G4,F2++F3,by simp,by omega,b5',t5,fun k hk=>?_,fun k hk hx=>?_,?_⟩,by simp;omega⟩
  ·simp only[List.mem_append] at hk
   rcases hk with g2 | g2 | g2
   ·rcases s4' k g2 with e | e
    ·exact hS2 k (by simp [e])
    ·have:=U3.size;omega
   ·exact hS2 k (by simp [g2])
   ·have:=s3 k g2;omega
  ·rcases List.mem_append.1 hx with g2 | g2
   ·rcases s4' k hk with e | e
    ·exact hGF2 k e g2
    ·have:=tz.inn.2 k g2;have:=U3.size;omega
   ·rcases s4' k hk with e | e
    ·exact GF3 k e g2
    ·have:=in3 k g2;have:=u3'.size;omega
  ·exact uz.trans ((U3.trans u4' (F:=[]) (H:=G2) (by simp) fun _ hx=>.inl hx).trans u5' (F:=G2) (H:=r2::G2) (fun x hx=>.inl (by simp [hx])) (fun x hx=>.inl (by simp at hx;simp [hx]))) (fun x hx=>.inl hx) fun x hx=>by
    rcases List.mem_cons.1 hx with e | e
    ·exact .inl (by simp [e])
    ·exact .inr (hS2 x (by simp [e]))
 ·have gi:i=p.l.length:=by have:=of_decide_eq_false g;dsimp only at this;omega
  subst gi
  rw[List.take_length] at tz
  refine⟨_,bz.cell 0,_,bz.cell 1,_,bz.cell 2,_,_,_,bz.cell 3,St4q b2z rfl rfl rfl rfl fun z2 v2 c2'=>⟨_,c2'.cell 0,_,c2'.cell 1,_,c2'.cell 2,_,_,_,c2'.cell 3,?_⟩⟩
  have V2:Upd [] w z2:=V.fresh v2 (by intro x hx;simp at hx;omega)
  have ni:∀x∈G2++F2,x∉[r1]:=fun x hx hy=>by simp at hy;have:=hS2 x hx;have:=U6.size;omega
  have tz2:=tz.upd v2 (fun x hx=>ni x (by simp [hx])) (fun x hx=>ni x (by simp [hx]))
  have hin:=tz2.inn
  have:=hK z2 p2 c2 (G2++F2) tz2.rd (fun k hk=>by
   rcases List.mem_append.1 hk with g2 | g2
   ·exact hin.1 k g2
   ·exact hin.2 k g2) (fun k hk=>by have:=hS2 k hk;have:=V6.size;omega) sp (h.keep V2) V2
  rw[List.length_map] at this
  exact this
theorem Zut (ord:OrdB B) (id:Idm B σ) (gb:GB ks B) {t:Tm} {w:World} {q:Option Addr} {c:Nat} {K:Int→Int→ByteArray→Option Addr→Nat→Nat→Int→World→Prop} (h:Sb w d B F) (hp:RdA w F t.l q 0) (hs:t.s.size<2^63) (gt:GT ks t)
  (hbad:decE [t.app σ]≠0→∀w',Upd [] w w'→K 0 0 ⟨#[]⟩ none 0 0 (decE [t.app σ]) w')
  (hK:decE [t.app σ]=0→∀w' q c' G,RdA w' G (t.app σ).l q 0→In G w'→Since G w→(t.app σ).s.size<2^63→(t.app σ).size≤4096→Upd [] w w'→K (t.app σ).kind (t.app σ).n (t.app σ).s q (t.app σ).l.length c' 0 w'):Zbj d.a t.kind t.n t.s q t.l.length c w K:=by
 apply Zbj.of
 unfold Zij
 refine Zai fun r w1 hr u1 b1=>Zai fun r1 w2 hr1 u2 b2=>?_
 have b1':=b1.upd u2 (by simp)
 have U2:=u1.after u2
 have l1:=b1.lt
 have s1:=u1.size
 refine⟨_,b1'.cell 0,_,b1'.cell 1,_,b1'.cell 2,_,_,_,b1'.cell 3,Zv8 (n:=0) ord id gb _ t (Nat.lt_succ_self _) (h.keep U2) (RdA.keep U2 hp) hs gt (by omega) fun w3 h3 u3=>?_⟩
 have U3:=U2.after u3
 have bad:∀{e:Int} {z:World},Upd [] w3 z→decE [t.app σ]=e→e≠0→St z ((⟨r1,0,none⟩:Addr).add 0) (.int .i64 0) fun w1_3=>St w1_3 ((⟨r1,0,none⟩:Addr).add 1) (.int .i64 0) fun w1_4=>St w1_4 ((⟨r1,0,none⟩:Addr).add 2) (.string ⟨#[]⟩) fun w1_5=>St w1_5 ((⟨r1,0,none⟩:Addr).add 3) (.slice none 0 0) fun w1_6=>
   ∃r_2:Int,w1_6.cell? ((⟨r1,0,none⟩:Addr).add 0)=some (.int .i64 r_2)∧∃r_3:Int,w1_6.cell? ((⟨r1,0,none⟩:Addr).add 1)=some (.int .i64 r_3)∧∃r_4:ByteArray,w1_6.cell? ((⟨r1,0,none⟩:Addr).add 2)=some (.string r_4)∧
   ∃rP:Option Addr,∃rN:Nat,∃rC:Nat,w1_6.cell? ((⟨r1,0,none⟩:Addr).add 3)=some (.slice rP rN rC)∧K r_2 r_3 r_4 rP rN rC e w1_6:=fun {e z} uz he hne=>by
  subst he
  refine St4q ((b2.upd u3 (by simp)).upd uz (by simp)) rfl rfl rfl rfl fun z2 v2 c2=>⟨_,c2.cell 0,_,c2.cell 1,_,c2.cell 2,_,_,_,c2.cell 3,hbad hne z2 ((U3.after uz).fresh v2 (by intro x hx;simp at hx;omega))⟩
 rw[Nat.zero_add]
 refine ifC (fun g=>?_) (fun g=>?_)
 ·have g:=of_decide_eq_true g
  exact bad (Upd.refl _ _) (by unfold decE;rw[if_pos (by omega)]) (by omega)
 ·have g:=of_decide_eq_false g
  have b13:=b1'.upd u3 (by simp)
  refine⟨_,b13.cell 0,_,b13.cell 1,_,b13.cell 2,_,_,_,b13.cell 3,Zvn ord id gb _ t (Nat.lt_succ_self _) (by omega) h3 (RdA.keep U3 hp) hs gt fun w4 q4 c4 G4 ra4 in4 s4 hs4 h4 u4=>Zai fun r5 w5 hr5 u5 b5=>St4q b5 rfl rfl rfl rfl fun w6 u6 b6=>⟨_,b6.cell 0,_,b6.cell 1,_,b6.cell 2,_,_,_,b6.cell 3,?_⟩⟩
  have U6:Upd [] w4 w6:=u5.fresh u6 (by intro x hx;simp at hx;omega)
  have s3:=U3.size
  refine ZtB (t.app σ) (RdA.keep U6 ra4) (by omega) fun w7 u7=>?_
  have U7:=(u4.after U6).after u7
  refine ifC (fun g2=>?_) (fun g2=>?_)
  ·have g2:=of_decide_eq_true g2
   exact bad U7 (by unfold decE;rw[if_neg (by omega),if_pos (by omega)]) (by omega)
  ·have g2:=of_decide_eq_false g2
   have b67:=b6.upd u7 (by simp)
   refine⟨_,b67.cell 0,_,b67.cell 1,_,b67.cell 2,_,_,_,b67.cell 3,St4q ((b2.upd u3 (by simp)).upd U7 (by simp)) rfl rfl rfl rfl fun z2 v2 c2=>⟨_,c2.cell 0,_,c2.cell 1,_,c2.cell 2,_,_,_,c2.cell 3,?_⟩⟩
   have l2:=b2.lt
   have s3':=u3.size
   refine hK (by unfold decE;rw[if_neg (by omega),if_neg (by omega)];rfl) z2 q4 c4 G4 (RdA.upd' v2 (fun x hx hy=>by simp at hy;have:=s4 x hx;omega) (RdA.keep u7 (RdA.keep U6 ra4))) ?_ (fun x hx=>by have:=s4 x hx;omega) hs4 (by omega) ((U3.after U7).fresh v2 (by intro x hx;simp at hx;omega))
   intro x hx
   have:=in4 x hx
   have:=U6.size
   have:=u7.size
   have:=v2.size
   omega
end
section
variable {w:World} {d:SbD} {B:Bnd} {F:List Nat} {ks:List Int} {σ:Int→Tm}
theorem GB.len (gb:GB ks B) (h:(B.map (·.1)).Nodup):B.length≤ks.length:=by
 have:=ZpM (l:=B.map (·.1)) (ks:=ks) h fun x hx=>by
  obtain⟨y,hy,rfl⟩:=List.mem_map.1 hx
  exact(gb y hy).1
 rwa [List.length_map] at this
theorem Zvr (hks:ks.length<2^30) {a b:Tm} {q1 q2:Option Addr} {c1 c2:Nat} {K:Bool→World→Prop} (h:Sb w d B F) (id:Idm B σ) (ord:OrdB B) (gb:GB ks B) (ra:RdA w F a.l q1 0) (rb:RdA w F b.l q2 0) (hsa:a.s.size<2^63) (hsb:b.s.size<2^63) (ga:GT ks a) (gB:GT ks b)
  (hy:∀w' d' X σ',Sb w' d' (B++X) F→Idm (B++X) σ'→OrdB (B++X)→GB ks (B++X)→Stp [] d d' w w'→(∀θ,SolB (B++X) θ↔SolB B θ∧a.app θ=b.app θ)→K true w')
  (hn:∀w' d',Sb w' d' B F→Stp [] d d' w w'→(∀θ,SolB B θ→a.app θ≠b.app θ)→K false w') :
  ZaR d.a a.kind a.n a.s q1 a.l.length c1 b.kind b.n b.s q2 b.l.length c2 w K:=by
 apply ZaR.of
 unfold ZiB
 refine Zai fun r w1 hr u1 b1=>Zai fun r1 w2 hr1 u2 b2=>?_
 have b1':=b1.upd u2 (by simp)
 have U2:=u1.after u2
 have bb:=(h.keep U2).blk
 simp only[SbD.a,X_,bb.cell]
 refine⟨_,b1'.cell 0,_,b1'.cell 1,_,b1'.cell 2,_,_,_,b1'.cell 3,_,b2.cell 0,_,b2.cell 1,_,b2.cell 2,_,_,_,b2.cell 3,ZmQ fun m w3 hm u3 hmm=>?_⟩
 have U3:=U2.after u3
 have s2:=U2.size
 have s3:=u3.size
 have hlow:=h.low
 have mF:m∉F:=fun hx=>by have:=h.inn m hx;omega
 have mD:m∉d.b::d.r::d.G:=fun hx=>by have:=hlow m hx;omega
 refine ZxZ (σ:=σ) (P:=[]) mF hks _ _ a b (Nat.lt_succ_self _) (Nat.lt_succ_self _) (h.keep U3) id ord gb mD (MapAt.new _ hmm) (RdA.keep U3 ra) (RdA.keep U3 rb) hsa hsb ga gB fun ok w4 d4 X P4 h4 id4 ord4 gb4 _ _ st uy un=>?_
 obtain⟨σ',id4⟩:=id4
 have ST:Stp [] d d4 w w4:=((Stp.keep (m:=[m]) U3).trans st).more fun x hx=>by simp at hx;subst hx;right;omega
 refine ifC (fun g=>?_) (fun g=>?_)
 ·subst g
  exact hy w4 d4 X σ' h4 id4 ord4 gb4 ST ((uy rfl).top rfl)
 ·subst g
  have hl:=gb4.len h4.once
  rw[←show d4.a=some ⟨d.b,0,none⟩ from st.a]
  refine Zuh h4 (by simp) (by omega) fun w5 h5 u5=>?_
  rw[List.take_left] at h5
  exact hn w5 d4 h5 (ST.trans ⟨rfl,rfl,Sub.refl _ _,by simpa using u5⟩) (un rfl)
end
structure XdD where
 b:Nat
 p:Option Addr
 c:Nat
 G:List Nat
def XdD.a (x:XdD):Option Addr:=some ⟨x.b,0,none⟩
def Zx (x:XdD) (d:SbD):List Nat:=x.b::(x.G++d.b::d.r::d.G)
structure Wx (w:World) (x:XdD) (d:SbD) (B:Bnd) (F:List Nat) (M:List Nat):Prop where
 sb:Sb w d B F
 blk:Blk w x.b #[.pointer d.a,.slice x.p M.length x.c]
 row:SlAt w 1 x.p M.length x.c ((M.map fun (m:Nat)=>(m:Int)).map (.int .i64)) x.G
 d1:x.b∉x.G++d.b::d.r::d.G
 d2:Dis x.G (d.b::d.r::d.G)
 d3:Dis (x.b::x.G) F
section
variable {w w':World} {d d':SbD} {B B':Bnd} {F:List Nat} {ks:List Int} {σ:Int→Tm} {x:XdD} {M:List Nat}
theorem Wx.upd {X:List Nat} (h:Wx w x d B F M) (u:Upd X w w') (hd:Dis (Zx x d) X) (hF:Dis F X):Wx w' x d B F M:=
 ⟨h.sb.upd u (fun k hk=>hd k (by simp only[Zx,List.mem_cons,List.mem_append] at hk ⊢;rcases hk with g | g | g <;> simp [g])) hF,h.blk.upd u (hd _ (by simp [Zx])),h.row.upd u (fun k hk=>hd k (by simp [Zx,hk])),h.d1,h.d2,h.d3⟩
theorem Wx.keep (h:Wx w x d B F M) (u:Upd [] w w'):Wx w' x d B F M:=h.upd u (by intro k _ h;cases h) (by intro k _ h;cases h)
theorem Wx.stp (h:Wx w x d B F M) (st:Stp [] d d' w w') (hs:Sb w' d' B' F):Wx w' x d' B' F M:=by
 have u:=st.upd
 have h1:=h.d1
 simp only[List.mem_append,not_or] at h1
 refine⟨hs,by rw[st.a];exact h.blk.upd u (by simpa using h1.2),h.row.upd u (by simpa using h.d2),fun hx=>?_,fun k hk=>st.out (h.d2 k hk) (h.row.inn k hk),h.d3⟩
 rcases List.mem_append.1 hx with g | g
 ·exact h1.1 g
 ·exact st.out h1.2 h.blk.lt g
theorem Wx.low (h:Wx w x d B F M):In (Zx x d) w:=fun k hk=>by
 simp only[Zx,List.mem_cons,List.mem_append] at hk
 rcases hk with g | g | g
 ·rw[g];exact h.blk.lt
 ·exact h.row.inn k g
 ·exact h.sb.low k (by simpa using g)
theorem ZxJ {K:Option Addr→World→Prop} (hF:In F w) (hK:∀w' x d,Wx w' x d [] F []→Since (Zx x d) w→Upd [] w w'→K x.a w'):ZgI w K:=by
 apply ZgI.of
 unfold Zpm
 apply Ziu.of
 unfold ZpB
 refine ZmQ fun r w1 hr u1 hm1=>Zai fun b w2 hb u2 b2=>Zai fun xb w3 hx u3 b3=>?_
 have s1:=u1.size
 have s2:=u2.size
 have m1:MapAt w1 r (fun a:Int=>Value.int .i64 a) (atM []):=MapAt.new _ hm1
 have rl:=m1.lt
 have bl:=b2.lt
 have U3:=(u1.after u2).after u3
 have hd:Dis [b,r] F:=fun k hk hf=>by
  have:=hF k hf
  simp at hk
  omega
 refine hK w3 ⟨xb,none,0,[]⟩ ⟨b,r,none,0,[]⟩ ⟨⟨b2.upd u3 (by simp),⟨[],rfl,SlAt.nil _ _,by simp⟩,(m1.upd u2 (by simp)).upd u3 (by simp),by simp,hF.upd U3,by show b≠r;omega,by show b∉[];simp,by show r∉[];simp,hd⟩,b3,SlAt.nil _ _,?_,(by intro k hk;cases hk),fun k hk hf=>?_⟩ (fun k hk=>?_) U3
 ·show xb∉[]++[b,r]
  simp;omega
 ·have:=hF k hf
  have hk:k∈[xb]:=hk
  simp at hk;omega
 ·have hk:k∈[xb,b,r]:=hk
  simp at hk;omega
structure Stx (x:XdD) (d:SbD) (x':XdD) (d':SbD) (w w':World):Prop where
 b:x'.b=x.b
 sub:Sub (Zx x' d') (Zx x d) w
 upd:Upd (Zx x d) w w'
theorem Stx.a {x':XdD} (h:Stx x d x' d' w w'):x'.a=x.a:=by unfold XdD.a;rw[h.b]
theorem Stx.keep (u:Upd [] w w'):Stx x d x d w w':=⟨rfl,Sub.refl _ _,u.mono (by simp)⟩
theorem Stx.of (st:Stp [] d d' w w'):Stx x d x d' w w':=⟨rfl,fun k hk=>by
 simp only[Zx,List.mem_cons,List.mem_append,st.b,st.r] at hk ⊢
 rcases hk with g | g | g | g | g
 ·simp [g]
 ·simp [g]
 ·simp [g]
 ·simp [g]
 ·rcases st.sub k g with e | e
  ·simp [e]
  ·exact .inr e,st.upd.mono fun k hk=>.inl (by simp only[Zx,List.nil_append,List.mem_cons,List.mem_append] at hk ⊢;rcases hk with g | g | g <;> simp [g])⟩
theorem ZuG {K:World→Prop} (h:Wx w x d B F M) (hM:M.length<2^20) (hB:B.length<2^40) (hK:∀w' x',Wx w' x' d B F (M++[B.length])→Stx x d x' d w w'→K w'):ZbD x.a w K:=by
 apply ZbD.of
 unfold ZjA
 have ud:=Zah w
 have hd:=h.keep ud
 simp only[XdD.a,SbD.a,X_,h.blk.cell,h.sb.blk.cell]
 refine Za3 Zq0 [.int .i64 (B.length:Nat)] (by rfl) (by simp [Value.cells]) (by rfl) (by omega) fun w1 hs1 u1=>?_
 have b1:=hd.blk.upd u1 (by simp)
 refine⟨by simp only[X_,b1.cell,h.blk.cell],Ze1 (hE:=Zq0) (hd.row.upd u1 (by intro k _ h;cases h)) hs1 (by simp [Value.oneCell',Value.cells]) (by omega) fun p2 c2 G2 w2 hs2 u2 g2=>?_⟩
 have h1:=h.d1
 simp only[List.mem_append,not_or] at h1
 refine Zbi (b1.upd u2 h1.1) (by simp) rfl fun w3 u3 b3=>?_
 simp at b3
 have bl:=h.blk.lt
 have sd:=ud.size
 have s1:=u1.size
 have xG:x.b∉G2:=fun hx=>by
  rcases g2 _ hx with g | g
  ·exact h1.1 g
  ·omega
 have U1:=ud.after u1
 have all:Upd (x.b::x.G) w w3:=(U1.trans u2 (H:=x.b::x.G) (by simp) (fun k hk=>.inl (by simp [hk]))).trans u3 (fun k hk=>.inl hk) (fun k hk=>.inl (by simp at hk;simp [hk]))
 have g2':Sub G2 x.G w:=g2.old (by omega)
 have dA:Dis (d.b::d.r::d.G) (x.b::x.G):=fun k hk hx=>by
  rcases List.mem_cons.1 hx with g | g
  ·subst g;exact h1.2 hk
  ·exact h.d2 k g hk
 refine hK w3 ⟨x.b,p2,c2,G2⟩ ⟨h.sb.upd all dA h.d3.symm,?_,?_,?_,?_,?_⟩ ⟨rfl,fun k hk=>?_,all.mono fun k hk=>.inl ?_⟩
 ·rw[List.length_append];exact b3
 ·have:=hs2.upd u3 (fun k hk hy=>by simp at hy;subst hy;exact xG hk)
  rw[List.length_append,List.length_singleton]
  simpa [Value.cells] using this
 ·show x.b∉G2++_
  rw[List.mem_append,not_or]
  exact⟨xG,h1.2⟩
 ·intro k hk hx
  rcases g2' k hk with g | g
  ·exact h.d2 k g hx
  ·have:=h.sb.low k hx;omega
 ·intro k hk hx
  have hk:k∈x.b::G2:=hk
  rcases List.mem_cons.1 hk with g | g
  ·exact h.d3 k (by simp [g]) hx
  ·rcases g2' k g with e | e
   ·exact h.d3 k (by simp [e]) hx
   ·have:=h.sb.inn k hx;omega
 ·simp only[Zx,List.mem_cons,List.mem_append] at hk ⊢
  rcases hk with g | g | g
  ·simp [g]
  ·rcases g2' k g with e | e
   ·simp [e]
   ·exact .inr e
  ·exact .inl (.inr (.inr g))
 ·simp only[Zx,List.mem_cons,List.mem_append] at hk ⊢
  rcases hk with g | g
  ·exact .inl g
  ·exact .inr (.inl g)
theorem Zwl {m:Nat} {M0:List Nat} {K:World→Prop} (h:Wx w x d B F M) (hM:M=M0++[m]) (hl:M.length<2^20) (hm:m≤B.length) (hB:B.length<2^40) (hK:∀w',Wx w' x d (B.take m) F M→Stx x d x d w w'→K w'):Zb6 x.a w K:=by
 apply Zb6.of
 unfold ZjM
 have ud:=Zah w
 have hd:=h.keep ud
 have hMl:M.length=M0.length+1:=by rw[hM];simp
 obtain⟨b,off,e1,e2⟩:=Zmv (i:=M0.length) h.row (by rw[List.length_map];omega)
 have e3:(M.map fun (m:Nat)=>(m:Int))[M0.length]'(by rw[List.length_map];omega)=(m:Int):=by simp [hM]
 rw[e3] at e2
 simp only[XdD.a,SbD.a,X_,h.blk.cell]
 have ne:(((M.length:Nat):Int)==0)=false:=by rw[hMl];simp;omega
 refine ifF ne ?_
 rw[i64id (by omega) (by omega)]
 refine⟨by omega,by omega,?_⟩
 rw[e1]
 have ei:((M.length:Int)-1).toNat=M0.length:=by omega
 simp only[X_,ei,Nat.mul_one,e2]
 refine Zuh hd.sb hm hB fun w1 h1 u1=>?_
 have st:Stp [] d d w w1:=(Stp.keep ud).trans ⟨rfl,rfl,Sub.refl _ _,by simpa using u1⟩
 exact hK w1 (h.stp st h1) (Stx.of st)
theorem Zv3 {m:Nat} {M0:List Nat} {K:Bool→World→Prop} (h:Wx w x d B F M) (hM:M=M0++[m]) (hl:M.length<2^20) (hK:∀w',Wx w' x d B F M0→Stx x d x d w w'→K true w'):ZbH x.a w K:=by
 apply ZbH.of
 unfold ZiW
 have ud:=Zah w
 have hd:=h.keep ud
 have hMl:M.length=M0.length+1:=by rw[hM];simp
 have hc:=hd.row.2.1
 simp only[XdD.a,SbD.a,X_,h.blk.cell]
 have ne:(((M.length:Nat):Int)==0)=false:=by rw[hMl];simp;omega
 refine ifF ne ?_
 rw[i64id (by omega) (by omega)]
 have ei:((M.length:Int)-1).toNat=M0.length:=by omega
 rw[ei]
 refine⟨by omega,?_,?_⟩
 ·omega
 refine Zbi hd.blk (by simp) rfl fun w1 u1 b1=>?_
 simp at b1
 have h1:=h.d1
 simp only[List.mem_append,not_or] at h1
 have all:Upd [x.b] w w1:=ud.after u1
 have dA:Dis (d.b::d.r::d.G) [x.b]:=fun k hk hx=>by simp at hx;subst hx;exact h1.2 hk
 refine hK w1 ⟨h.sb.upd all dA (fun k hk hx=>by simp at hx;subst hx;exact h.d3 x.b (by simp) hk),b1,?_,h.d1,h.d2,h.d3⟩ ⟨rfl,Sub.refl _ _,all.mono fun k hk=>.inl (by simp at hk;simp [Zx,hk])⟩
 have:=(h.row.upd all (fun k hk hx=>by simp at hx;subst hx;exact h1.1 hk)).take (k:=M0.length) (by omega)
 rw[hM] at this
 simpa using this
end
end Go.Proofs.YtdaenijbokialaaGreat
