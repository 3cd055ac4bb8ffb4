import Derived.Test.YtdaenijbokialaaGreatAny
import Derived.Test.YtdaenijbokialaaGreatForget4
namespace Go.Proofs.YtdaenijbokialaaGreat
open Go Go.D Go.Proofs
set_option linter.unusedSimpArgs false
set_option linter.unusedVariables false
set_option maxRecDepth 8000
section
variable {w:World}
theorem ZxV {v:World} {p:Option Addr} {n c:Nat} {zs:List Int} {G E:List Nat} (h:SlAt v 1 p n c (zs.map (.int .u64)) G) (hn:n=zs.length):WRow v (G++E) p zs:=by
 subst hn
 refine⟨h.rd,fun x hx _=>?_⟩
 rcases h.2.2 with ⟨e,_,_⟩ | ⟨b,off,arr,e,eG,_⟩
 ·rw[e] at hx;cases hx
 ·rw[e] at hx;cases hx
  rw[eG];simp
end
abbrev OpT:=Int×Tm×Tm
def opC (o:OpT) (qa:Option Addr) (ca:Nat) (qb:Option Addr) (cb:Nat):List Value:=[.int .i64 o.1,.int .i64 o.2.1.kind,.int .i64 o.2.1.n,.string o.2.1.s,.slice qa o.2.1.l.length ca,.int .i64 o.2.2.kind,.int .i64 o.2.2.n,.string o.2.2.s,.slice qb o.2.2.l.length cb]
def OpsA (w:World) (F:List Nat) (l:List OpT) (p:Option Addr):Prop:=∀i (hi:i<l.length),∃x qa ca qb cb,p=some x∧x.block∈F∧(∀j,j<9→w.cell? (x.add (i*9+j))=(opC l[i] qa ca qb cb)[j]?)∧l[i].2.1.s.size<2^63∧RdA w F l[i].2.1.l qa 0∧l[i].2.2.s.size<2^63∧RdA w F l[i].2.2.l qb 0
def opTs (l:List OpT):List Tm:=l.flatMap fun o=>[o.2.1,o.2.2]
theorem Zvy (l:List OpT) (o:OpT):opTs (l++[o])=opTs l++[o.2.1,o.2.2]:=by simp [opTs]
theorem ZsD:∀l:List OpT,(opTs l).length=2*l.length
 | []=>rfl
 | o::l=>by
  have:=ZsD l
  show ([o.2.1,o.2.2]++opTs l).length=_
  rw[List.length_append,this,List.length_cons,List.length_cons,List.length_cons,List.length_nil];omega
theorem ZxT {w:World} {f:Nat} {cs:List Value} (h:Sees Tryz.prog w f 73 cs):∃(l:List OpT) (p:Option Addr) (c:Nat),cs=[.slice p l.length c]∧OpsA w (List.range w.heap.size) l p∧l.length<2^63:=by
 obtain⟨p,m,c,cs',g',hg,e3,hmc,hcm,hrd,hrow⟩:=Ztd (by rfl) (sz:=9) (by kernel_rfl) h
 obtain⟨l,hl,hp⟩:=pick (n:=m) (p:=fun i (o:OpT)=>∃(qa:Option Addr) (ca:Nat) (qb:Option Addr) (cb:Nat),(cs'.drop (i*9)).take 9=opC o qa ca qb cb∧tmIn w o.2.1 qa∧tmIn w o.2.2 qb) fun i hi=>by
  have hr:=hrow i hi
  obtain⟨g,rfl,hl,hf⟩:=Zso (fs:=_) (by rfl) (sz:=9) (by kernel_rfl) hr
  obtain⟨cc,hcc⟩:∃cc,cc=(cs'.drop (i*9)).take 9:=⟨_,rfl⟩
  rw[←hcc] at hl hf ⊢
  match cc,hl with
  | [c0,c1,c2,c3,c4,c5,c6,c7,c8],_=>
   have h0:Sees Tryz.prog w g 3 [c0]:=hf 0 _ rfl
   obtain⟨k,e0,k0⟩:=ZtU (by rfl) h0
   simp only[List.cons.injEq,and_true] at e0
   obtain rfl:=e0
   have h1:Sees Tryz.prog w g 31 [c1,c2,c3,c4]:=hf 1 _ rfl
   obtain⟨t,qa,ca,ea,ha⟩:=Zxl g h1
   simp only[List.cons.injEq,and_true] at ea
   obtain⟨rfl,rfl,rfl,rfl⟩:=ea
   have h2:Sees Tryz.prog w g 31 [c5,c6,c7,c8]:=hf 2 _ rfl
   obtain⟨u,qb,cb,eb,hb⟩:=Zxl g h2
   simp only[List.cons.injEq,and_true] at eb
   obtain⟨rfl,rfl,rfl,rfl⟩:=eb
   exact⟨(k,t,u),qa,ca,qb,cb,rfl,ha,hb⟩
 have hmax:maxLen<2^63:=by decide
 refine⟨l,p,c,by rw[hl];exact e3,fun i hi=>?_,by omega⟩
 obtain⟨qa,ca,qb,cb,hq,ha,hb⟩:=hp i hi
 obtain⟨x,hx,hc⟩:=hrd.elem (i:=i) (by omega)
 have hc:∀j,j<9→w.cell? (x.add (i*9+j))=(opC l[i] qa ca qb cb)[j]?:=fun j hj=>by
  rw[hc j hj,←hq,List.getElem?_take,if_pos hj,List.getElem?_drop]
 have c0:w.cell? (x.add (i*9+0))=some (.int .i64 l[i].1):=hc 0 (by omega)
 have hbl:=ZoN c0
 rw[ZkO] at hbl
 exact⟨x,qa,ca,qb,cb,hx,by simpa using hbl,hc,ha.2.1,ha.1,hb.2.1,hb.1⟩
theorem OpsA.far {v z:World} {F E:List Nat} (f:Far E v z) (hFE:∀k∈F,k∈E) {l:List OpT} {p:Option Addr} (h:OpsA v F l p):OpsA z F l p:=fun i hi=>by
 obtain⟨x,qa,ca,qb,cb,e,hx,hc,a1,a2,b1,b2⟩:=h i hi
 refine⟨x,qa,ca,qb,cb,e,hx,fun j hj=>?_,a1,RdA.far f hFE a2,b1,RdA.far f hFE b2⟩
 rw[←hc j hj]
 obtain⟨X,u,dd⟩:=f
 have hbl:x.block<v.heap.size:=by
  have c0:v.cell? (x.add (i*9+0))=some (.int .i64 l[i].1):=hc 0 (by omega)
  have:=ZoN c0
  rwa [ZkO] at this
 obtain⟨val,hval⟩:∃val,v.cell? (x.add (i*9+j))=some val:=by
  rw[hc j hj]
  exact⟨(opC l[i] qa ca qb cb)[j]'(by simpa [opC] using hj),List.getElem?_eq_getElem _⟩
 rw[hval]
 exact u.cell hval (by rw[ZkO];exact fun hh=>dd _ (hFE _ hx) hh)
theorem OpsA.keep {v z:World} {F:List Nat} (u:Upd [] v z) {l:List OpT} {p:Option Addr} (h:OpsA v F l p):OpsA z F l p:=h.far (Far.keep (X:=F) u) fun _ h=>h
section
variable {w:World}
theorem TmsAt.push2 {t u:Tm} {p q1:Option Addr} {n c m1:Nat} {l:List Tm} {G F:List Nat} {qa qb:Option Addr} {ca cb:Nat} {G1:List Nat} {K:Option Addr→Nat→Nat→World→Prop} (h:TmsAt w p n c l G F) (h1:SlAt w 4 q1 2 m1 (tmC (t,qa,ca)++tmC (u,qb,cb)) G1) (ht:t.s.size<2^63) (hu:u.s.size<2^63) (rt:RdA w F t.l qa 0) (ru:RdA w F u.l qb 0) (hGF:Dis G F) (hl:l.length<2^30)
  (hK:∀p' c' G' w',TmsAt w' p' (n+2) c' (l++[t,u]) G' F→Upd G w w'→Sub G' G w→K p' (n+2) c' w') :
  App Tryz.prog #[22,22] 22 #[.slice p n c,.slice q1 2 m1] w K:=by
 have hn:=h.len
 obtain⟨L,e1,e2,e3,e4⟩:=h
 refine Ze1 (hE:=Zrf) e2 h1 (by simp [tmC,Value.oneCell']) (by omega) fun p' c' G' w' hs' u' s=>?_
 refine hK p' c' G' w' ⟨L++[(t,qa,ca),(u,qb,cb)],by rw[List.map_append,e1];rfl,by rw[List.flatMap_append];simpa using hs',fun x hx=>?_,e4.upd u'⟩ u' s
 rcases List.mem_append.1 hx with g | g
 ·obtain⟨a,b⟩:=e3 x g
  exact⟨a,RdA.upd' u' hGF.symm b⟩
 ·simp at g
  rcases g with rfl | rfl
  ·exact⟨ht,RdA.upd' u' hGF.symm rt⟩
  ·exact⟨hu,RdA.upd' u' hGF.symm ru⟩
theorem ZsH {F:List Nat} {l:List OpT} {p:Option Addr} {c:Nat} {K:Option Addr→Nat→Nat→World→Prop} (h:OpsA w F l p) (hF:In F w) (hl:l.length<2^20)
  (hK:∀w' p' c' G,RdA w' (G++F) (opTs l) p' 0→In (G++F) w'→Since G w→Upd [] w w'→K p' (opTs l).length c' w'):Zdf p l.length c w K:=by
 apply Zdf.of
 unfold Znp Zlz
 refine⟨fun s v=>∃(i:Nat) (G:List Nat),s.i=i∧i≤l.length∧TmsAt v s.outP s.outN s.outC (opTs (l.take i)) G F∧Since G w∧Upd [] w v,fun s _=>(l.length-s.i).toNat,⟨0,[],rfl,by omega,⟨[],rfl,SlAt.nil _ _,(by intro x hx;cases hx),hF⟩,(by intro k hk;cases hk),Upd.refl _ _⟩,?_⟩
 rintro⟨op,on,oc,si⟩ v ⟨i,G,rfl,hi,ht,hG,u⟩
 unfold Zll
 dsimp only at ht ⊢
 have hav:=h.keep u
 refine ifC (fun g=>?_) (fun g=>?_)
 ·simp only[decide_eq_true_eq] at g
  have gi:i<l.length:=by omega
  obtain⟨x,qa,ca,qb,cb,rfl,hx,hc,a1,a2,b1,b2⟩:=hav i gi
  have c1:=hc 1 (by omega);have c2:=hc 2 (by omega);have c3:=hc 3 (by omega);have c4:=hc 4 (by omega)
  have c5:=hc 5 (by omega);have c6:=hc 6 (by omega);have c7:=hc 7 (by omega);have c8:=hc 8 (by omega)
  simp only[opC,List.getElem?_cons_zero,List.getElem?_cons_succ] at c1 c2 c3 c4 c5 c6 c7 c8
  have ud:=Zah v
  refine⟨by omega,by omega,?_⟩
  simp only[X_,addA,Int.toNat_natCast,Nat.add_assoc,Nat.reduceAdd,c1,c2,c3,c4]
  refine⟨by omega,by omega,?_⟩
  simp only[X_,addA,Int.toNat_natCast,Nat.add_assoc,Nat.reduceAdd,c5,c6,c7,c8]
  refine Za3 Zrf [.agg #[.int .i64 l[i].2.1.kind,.int .i64 l[i].2.1.n,.string l[i].2.1.s,.slice qa l[i].2.1.l.length ca],.agg #[.int .i64 l[i].2.2.kind,.int .i64 l[i].2.2.n,.string l[i].2.2.s,.slice qb l[i].2.2.l.length cb]] (by rfl) (by simp [Value.cells]) (by rfl) (by omega) fun v1 hs1 u1=>?_
  have U1:=ud.after u1
  have hs1':SlAt v1 4 (some ⟨(drw v).heap.size,0,none⟩) 2 2 (tmC (l[i].2.1,qa,ca)++tmC (l[i].2.2,qb,cb)) [(drw v).heap.size]:=by
   simpa [tmC,Value.cells] using hs1
  have ht1:=ht.keep U1
  have hdis:Dis G F:=fun k hk hk2=>by
   have:=hG k hk;have:=hF k hk2;omega
  have hol:(opTs (l.take i)).length<2^30:=by rw[ZsD,List.length_take];omega
  refine TmsAt.push2 ht1 hs1' a1 b1 (RdA.keep U1 a2) (RdA.keep U1 b2) hdis hol fun p' c' G' v2 ht2 u2 s2=>?_
  rw[i64id (by omega) (by omega)]
  have hsz:=(u.after U1).size
  refine⟨⟨i+1,G',by simp,by omega,by rw[Zca gi,Zvy];exact ht2,fun k hk=>?_,(u.after U1).fresh u2 hG⟩,by show ((l.length:Int)-((i:Int)+1)).toNat<((l.length:Int)-(i:Int)).toNat;omega⟩
  rcases s2 k hk with e | e
  ·exact hG k e
  ·omega
 ·simp only[decide_eq_false_iff_not] at g
  obtain rfl:i=l.length:=by omega
  rw[List.take_length] at ht
  have hn:=ht.len
  rw[hn]
  exact hK v op oc G ht.rd (fun k hk=>by
   rcases List.mem_append.1 hk with e | e
   ·exact ht.inn.1 k e
   ·exact ht.inn.2 k e) hG u
end
abbrev Snp:=List Wd×List Int
structure ChI (d5:HpD) (k B:Nat) (d:HpD) (C:List Wd) (r:List Snp):Prop where
 hi:HI d C k
 a:d.a=d5.a
 tlim:d.tlim=d5.tlim
 L:d.L=d5.L
 FL:d.FL=d5.FL
 ch:ChainOk r C d.TL
 st:d.starts=(r.map fun q=>(q.1.length:Int)).reverse
 mrk:d.marks=(r.map fun q=>(q.2.length:Int)).reverse
 wf:∀q∈r,WF q.1 d5.L d5.FL∧q.2.length+unbC q.1≤B
 room:d.TL.length+unbC C≤B
theorem ZuK {α:Type} {l:List α} {x:α}:((x::l).reverse)[(x::l).reverse.length-1]?=some x:=by
 rw[List.reverse_cons]
 exact ZwA
section
variable {w v:World} {d5 d:HpD} {E:List Nat} {C:List Wd} {k B:Nat} {r:List Snp}
theorem ChI.top (h:ChI d5 k B d C r):∃C0 T0 r',r=(C0,T0)::r'∧Snap C0 T0 C d.TL∧d.starts[d.starts.length-1]?=some (C0.length:Int)∧d.marks[d.marks.length-1]?=some (T0.length:Int):=by
 match r,h with
 | [],h=>exact h.ch.elim
 | (C0,T0)::r',h=>
  refine⟨C0,T0,r',rfl,h.ch.top,?_,?_⟩
  ·rw[h.st];exact ZuK
  ·rw[h.mrk];exact ZuK
theorem ChI.unify {z u:Int} {K:Bool→Int→World→Prop} (hc:ChI d5 k B d C r) (h:Hp w v d E) (hB:(B:Int)≤d5.tlim∧d5.tlim≤1048576) (hz:0≤z∧z<2^64) (hu:0≤u∧u<2^64)
  (hK:∀ok e v' d' C',Hp w v' d' E→ChI d5 k B d' C' r→Far E v v'→K ok e v'):ZaB d5.a z u v K:=by
 rw[←hc.a]
 obtain⟨C0,T0,r',rfl,sn,hs,_⟩:=hc.top
 rcases ZuL (C:=C) (d:=d) (z:=z) (u:=u) with e | ⟨e1,e2⟩
 ·exact ZwY h hc.hi hz hu e fun v1 h1 f1=>hK _ _ v1 d C h1 hc f1
 ·obtain⟨x,rfl,xf,xr⟩:=Zrv hz.1 hz.2 e1
  obtain⟨y,rfl,yf,yr⟩:=Zrv hu.1 hu.2 e2
  have hroom:=hc.room
  refine ZsU h hc.hi xf yf xr yr hs (.inr ⟨by rw[hc.tlim];omega,by rw[hc.tlim];exact hB.2⟩) fun ok v1 d1 C1 h1 hi1 bd _ _ f1=>hK ok 0 v1 d1 C1 h1 ⟨hi1,bd.a.trans hc.a,bd.tlim.trans hc.tlim,bd.L.trans hc.L,bd.FL.trans hc.FL,hc.ch.step (bd.snap C0 T0 rfl sn),bd.starts.trans hc.st,bd.marks.trans hc.mrk,hc.wf,by have:=bd.room;omega⟩ f1
theorem ChI.open_ {K:Int→Int→World→Prop} (hc:ChI d5 k B d C r) (h:Hp w v d E) (hB:(B:Int)≤d5.tlim∧d5.tlim≤1048576) (hr:r.length<4096)
  (hK:∀x v' d',Hp w v' d' E→ChI d5 k B d' C ((C,d.TL)::r)→Far E v v'→K x 0 v'):Zbq d5.a v K:=by
 rw[←hc.a]
 have hroom:=hc.room
 refine ZtL h hc.hi (by rw[hc.st,List.length_reverse,List.length_map];exact hr) (by omega) fun v1 d1 h1 hi1 kin eT est emk f1=>hK _ v1 d1 h1 ⟨hi1,kin.a.trans hc.a,kin.tlim.trans hc.tlim,kin.L.trans hc.L,kin.FL.trans hc.FL,by rw[eT];exact hc.ch.open_,by rw[est,hc.st];simp,by rw[emk,hc.mrk];simp,fun q hq=>?_,by rw[eT];exact hroom⟩ f1
 rcases List.mem_cons.1 hq with g | g
 ·rw[g,←hc.L,←hc.FL]
  exact⟨hc.hi.wf,hroom⟩
 ·exact hc.wf q g
theorem ChI.back {K:Int→World→Prop} (hc:ChI d5 k B d C r) (h:Hp w v d E) (hB:(B:Int)≤d5.tlim∧d5.tlim≤1048576)
  (hK:∀v' d' C0 T0 r',r=(C0,T0)::r'→d'.TL=T0→Hp w v' d' E→ChI d5 k B d' C0 r→Far E v v'→K 0 v'):ZbU d5.a v K:=by
 rw[←hc.a]
 obtain⟨C0,T0,r',rfl,sn,hs,hm⟩:=hc.top
 have hroom:=hc.room
 obtain⟨w0,b0⟩:=hc.wf (C0,T0) (by simp)
 refine Zt3 h hc.hi hs hm sn (by rw[hc.L,hc.FL];exact w0) (by omega) fun v1 d1 h1 hi1 kin eT est emk f1=>hK v1 d1 C0 T0 r' rfl eT h1 ⟨hi1,kin.a.trans hc.a,kin.tlim.trans hc.tlim,kin.L.trans hc.L,kin.FL.trans hc.FL,by rw[eT];exact hc.ch.back,est.trans hc.st,emk.trans hc.mrk,hc.wf,by rw[eT];exact b0⟩ f1
end
open Ro (kp)
end Go.Proofs.YtdaenijbokialaaGreat
