import Derived.Test.YtdaenijbokialaaGreatWorld
import Derived.Test.YtdaenijbokialaaGreatWithin2
namespace Go.Proofs.YtdaenijbokialaaGreat
open Go Go.D Go.Proofs
set_option linter.unusedSimpArgs false
set_option linter.unusedVariables false
set_option maxRecDepth 8000
structure Two (C5:List Wd) (L:List Slot) (FL:List Fn.Slot) (c:Int→Nat) (ks:List Int) (C:List Wd) (B:Bnd):Prop where
 rel:RelS C L FL B c ks
 idm:∃σ,Idm B σ
 ord:OrdB B
 gb:GB ks B
 ext:BExt C5 C
 rw_:∀x,rightW C L x=rightW C5 L x
 acy:Acy C L FL
def Pr (C5:List Wd) (L:List Slot) (FL:List Fn.Slot) (c:Int→Nat) (ks:List Int):List Snp→List Nat→Bnd→Prop
 | [],_,_=>False
 | _::r,[],_=>r=[]
 | q::r,m::M,B=>m≤B.length∧Two C5 L FL c ks q.1 (B.take m)∧Pr C5 L FL c ks r M (B.take m)
section
variable {C5 C:List Wd} {L:List Slot} {FL:List Fn.Slot} {c:Int→Nat} {ks:List Int} {B:Bnd} {r:List Snp} {M:List Nat} {m:Nat} {q:Snp}
theorem Pr.grow:∀{r:List Snp} {M:List Nat} {B:Bnd} (X:Bnd),Pr C5 L FL c ks r M B→Pr C5 L FL c ks r M (B++X)
 | [],_,_,_,h=>h
 | _::_,[],_,_,h=>h
 | q::r,m::M,B,X,⟨h1,h2,h3⟩=>by
  have e:(B++X).take m=B.take m:=List.take_append_of_le_length h1
  exact⟨by rw[List.length_append];omega,by rw[e];exact h2,by rw[e];exact h3⟩
theorem Pr.len:∀{r:List Snp} {M:List Nat} {B:Bnd},Pr C5 L FL c ks r M B→r.length=M.length+1
 | [],_,_,h=>h.elim
 | _::r,[],_,h=>by have h:r=[]:=h;rw[h];rfl
 | q::r,m::M,B,⟨h1,h2,h3⟩=>by have:=Pr.len h3;rw[List.length_cons,List.length_cons,this]
theorem Pr.open_ (h:Pr C5 L FL c ks r M B) (t:Two C5 L FL c ks C B) (T:List Int):Pr C5 L FL c ks ((C,T)::r) (B.length::M) B:=
 ⟨Nat.le_refl _,by rw[List.take_length];exact t,by rw[List.take_length];exact h⟩
theorem Pr.back (h:Pr C5 L FL c ks (q::r) (m::M) B):Pr C5 L FL c ks (q::r) (m::M) (B.take m):=by
 obtain⟨h1,h2,h3⟩:=h
 have e:(B.take m).take m=B.take m:=by rw[List.take_take,Nat.min_self]
 exact⟨by rw[List.length_take];omega,by rw[e];exact h2,by rw[e];exact h3⟩
theorem Pr.close (h:Pr C5 L FL c ks (q::r) (m::M) B):Pr C5 L FL c ks r M B:=by
 have:=h.2.2.grow (B.drop m)
 rwa [List.take_append_drop] at this
theorem Two.val (wf:WF C5 L FL) (t:Two C5 L FL c ks C B) {x:Wd} {a:Tm} (hr:rightW C5 L x=true) (hx:∀θ,Sol C5 L FL θ→wval C5 L FL θ x=a.app fun n=>θ (c n)):∀θ,Sol C L FL θ→wval C L FL θ x=a.app fun n=>θ (c n):=fun θ hs=>by
 rw[ZlK t.ext hr]
 exact hx θ (hs.back wf t.ext)
theorem Two.told (wf:WF C5 L FL) (t:Two C5 L FL c ks C B) {σ:Int→Tm} (id:Idm B σ) {l ts:List Tm} {xs:List Wd} (hl:∀t∈l,GT ks t) (n1:ts.length=l.length) (n2:xs.length=l.length) (hr:∀x∈xs,rightW C5 L x=true)
  (hx:∀i (h1:i<l.length) (h2:i<xs.length),∀θ,Sol C5 L FL θ→wval C5 L FL θ xs[i]=l[i].app fun n=>θ (c n)) (ht:∀i (h1:i<ts.length) (h2:i<xs.length),Ev C L FL ts[i] xs[i]) :
  decE ts=decE (l.map (Tm.app σ))∧ts.map (numT (varsL ts []))=(l.map (Tm.app σ)).map (numT (varsL (l.map (Tm.app σ)) [])):=by
 obtain⟨r,e,inj⟩:=t.rel.told id t.acy (fun u hu=>⟨(hl u hu).vs,(hl u hu).pv⟩) n1 n2 (fun i h1 h2=>t.val wf (hr _ (List.getElem_mem h2)) (hx i h1 h2)) ht
 have de:∀l:List Tm,decE (l.map (Tm.ren r))=decE l:=by
  intro l
  induction l with
  | nil=>rfl
  | cons u l ih=>rw[List.map_cons,decE,decE,ih,Zri,ZrH]
 subst e
 exact⟨de _,Zuk inj⟩
end
section
variable {w:World} {d:SbD} {B:Bnd} {F:List Nat} {ks:List Int} {σ:Int→Tm} {x:XdD} {M:List Nat}
theorem Zwz {l:List Tm} {k:Nat} (hk:k<l.length) (h:∀t∈l.take k,t.size≤4096∧t.depth≤200):(decE [l[k]]≠0→decE l=decE [l[k]])∧(decE [l[k]]=0→l[k].size≤4096∧l[k].depth≤200):=by
 rw[Zvq hk h]
 unfold decE
 by_cases a:4096<l[k].size
 ·rw[if_pos a]
  exact⟨fun _=>by rw[if_pos a],fun e=>by cases e⟩
 ·by_cases b:200<l[k].depth
  ·rw[if_neg a,if_pos b]
   exact⟨fun _=>by rw[if_neg a,if_pos b],fun e=>by cases e⟩
  ·rw[if_neg a,if_neg b]
   exact⟨fun e=>absurd (by rfl) e,fun _=>⟨by omega,by omega⟩⟩
theorem Zuw (ord:OrdB B) (id:Idm B σ) (gb:GB ks B) {l:List Tm} {p:Option Addr} {c:Nat} {K:Option Addr→Nat→Nat→Int→World→Prop} (h:Wx w x d B F M) (hp:RdA w F l p 0) (hl:∀t∈l,GT ks t) (hn:l.length<2^12)
  (hbad:decE (l.map (Tm.app σ))≠0→∀w',Upd [] w w'→K none 0 0 (decE (l.map (Tm.app σ))) w')
  (hK:decE (l.map (Tm.app σ))=0→∀w' q c' G,RdA w' G ((l.map (Tm.app σ)).map (numT (varsL (l.map (Tm.app σ)) []))) q 0→In G w'→Since G w→Upd [] w w'→K q l.length c' 0 w'):Zb4 x.a p l.length c w K:=by
 apply Zb4.of
 unfold Zjh Zg3
 obtain⟨U,hU⟩:∃U,U=l.map (Tm.app σ):=⟨_,rfl⟩
 rw[←hU] at hbad hK
 have hUl:U.length=l.length:=by rw[hU,List.length_map]
 refine⟨fun s z=>∃(i:Nat) (G2 F2:List Nat),s.i=i∧i≤l.length∧TmsAt z s.outP s.outN s.outC (U.take i) G2 F2∧Since (G2++F2) w∧Dis G2 F2∧Upd [] w z∧∀t∈U.take i,t.size≤4096∧t.depth≤200,fun s _=>(l.length-s.i).toNat,
  ⟨0,[],[],rfl,by omega,TmsAt.nil _,(by intro k hk;cases hk),(by intro k hk;cases hk),Upd.refl _ _,by simp⟩,?_⟩
 rintro⟨op,on,oc,si⟩ z ⟨i,G2,F2,rfl,hi,tz,hS2,hGF2,uz,hall⟩
 dsimp only at tz
 unfold ZgM
 have ud:=Zah z
 have V:=uz.after ud
 have hz:=h.keep V
 refine ifC (fun g=>?_) (fun g=>?_)
 ·have gi:i<l.length:=by have:=of_decide_eq_true g;dsimp only at this;omega
  obtain⟨y,q,cq,f1,f2,f3,f4,f5,f6,f7,f8⟩:=(RdA.keep V hp).at i gi
  simp only[Nat.zero_add] at f3 f4 f5 f6
  have hk:=Zwz (l:=U) (k:=i) (by omega) hall
  have eU:U[i]'(by omega)=l[i].app σ:=by simp [hU]
  obtain⟨v,hv⟩:∃v,v=l[i].app σ:=⟨_,rfl⟩
  rw[eU,←hv] at hk
  have k1:∀{r:Nat} {z1 z2:World} {q1:Option Addr} {c1:Nat} {G:List Nat},decE [v]=0→z.heap.size≤r→Upd [] z z1→RdA z1 G v.l q1 0→In G z1→Since G z→v.s.size<2^63→Blk z2 r #[.int .i64 v.kind,.int .i64 v.n,.string v.s,.slice q1 v.l.length c1]→Upd [] z z2→RdA z2 G v.l q1 0→In G z2→
    Zcn ⟨op,on,oc,(i:Int)⟩ (fun s' w'=>(∃(i:Nat) (G2 F2:List Nat),s'.i=i∧i≤l.length∧TmsAt w' s'.outP s'.outN s'.outC (U.take i) G2 F2∧Since (G2++F2) w∧Dis G2 F2∧Upd [] w w'∧∀t∈U.take i,t.size≤4096∧t.depth≤200)∧((l.length:Int)-s'.i).toNat<((l.length:Int)-(i:Int)).toNat) K ⟨r,0,none⟩ 0 z2:=by
   intro r z1 z2 q1 c1 G he hr u1 ra1 in1 sG hs b2 u2 ra2 in2
   unfold Zcn
   obtain⟨z40,d200⟩:=hk.2 he
   refine ifF rfl ⟨_,b2.cell 0,_,b2.cell 1,_,b2.cell 2,_,_,_,b2.cell 3,Za3 Zrf [.agg #[.int .i64 v.kind,.int .i64 v.n,.string v.s,.slice q1 v.l.length c1]] (by rfl) (by simp [Value.cells]) (by rfl) (by omega) fun z3 hs3 u3=>?_⟩
   have hs3':SlAt z3 4 (some ⟨z2.heap.size,0,none⟩) 1 1 (tmC (v,q1,c1)) [z2.heap.size]:=by simpa [Value.cells,tmC] using hs3
   have U3:=u2.after u3
   have tz3:=tz.keep U3
   have ws:=uz.size
   have GF3:Dis G2 G:=fun k hk hx=>by have:=tz.inn.1 k hk;have:=sG k hx;omega
   refine tz3.push (t:=v) (m:=1) hs3' hs (RdA.keep u3 ra2) (in2.upd u3) hGF2 GF3 (by rw[List.length_take];omega) fun p4 c4 G4 z4 t4 u4 s4=>?_
   dsimp only
   rw[i64id (by omega) (by omega)]
   have e1:U.take i++[v]=U.take (i+1):=by rw[Zca (by omega),eU,hv]
   rw[e1] at t4
   refine⟨⟨i+1,G4,F2++G,by simp,by omega,t4,fun k hk=>?_,fun k hk hx=>?_,(uz.after U3).fresh u4 (fun k hk=>hS2 k (by simp [hk])),fun t ht=>?_⟩,by show ((l.length:Int)-((i:Int)+1)).toNat<((l.length:Int)-(i:Int)).toNat;omega⟩
   ·simp only[List.mem_append] at hk
    have:=U3.size
    rcases hk with g2 | g2 | g2
    ·rcases s4 k g2 with e | e
     ·exact hS2 k (by simp [e])
     ·omega
    ·exact hS2 k (by simp [g2])
    ·have:=sG k g2;omega
   ·have:=U3.size
    have:=u3.size
    rcases List.mem_append.1 hx with g2 | g2
    ·rcases s4 k hk with e | e
     ·exact hGF2 k e g2
     ·have:=tz.inn.2 k g2;omega
    ·rcases s4 k hk with e | e
     ·exact GF3 k e g2
     ·have:=in2 k g2;omega
   ·rw[←e1] at ht
    rcases List.mem_append.1 ht with g2 | g2
    ·exact hall t g2
    ·simp at g2;subst g2;exact⟨z40,d200⟩
  have kb:∀{r:Nat} {z2:World} {kn:Zav→World→Prop},decE [v]≠0→Upd [] z z2→Zcn ⟨op,on,oc,(i:Int)⟩ kn K ⟨r,0,none⟩ (decE [v]) z2:=by
   intro r z2 kn he u2
   unfold Zcn
   refine ifT (by simpa using he) ?_
   have e:=hk.1 he
   rw[←e]
   exact hbad (by rw[e];exact he) z2 (uz.after u2)
  have bx:=hz.blk
  have gt:=hl _ (List.getElem_mem gi)
  rw[f1]
  simp only[XdD.a,X_,addA,bx.cell,Int.toNat_natCast]
  simp only[drw_cell] at f3 f4 f5 f6
  have bxz:=h.blk.upd uz (by simp)
  simp only[bxz.cell,X_,f3,f4,f5,f6]
  refine⟨by omega,by omega,?_,?_⟩
  ·refine Zut ord id gb hz.sb f8 f7 gt (fun he w1 u1=>?_) (fun he w1 q1 c1 G ra1 in1 sG hs z40 u1=>?_)
   ·refine Zai fun r w2 hr u2 b2=>St4q b2 rfl rfl rfl rfl fun w3 u3 b3=>?_
    have s1:=u1.size
    rw[←hv] at he ⊢
    exact kb he ((ud.after (u1.after u2)).fresh u3 (by intro k hk;simp at hk;have:=ud.size;omega))
   ·refine Zai fun r w2 hr u2 b2=>St4q b2 rfl rfl rfl rfl fun w3 u3 b3=>?_
    rw[←hv] at he ra1 hs b3
    have s1:=u1.size
    have sd:=ud.size
    have U3:=(u1.after u2).fresh u3 (by intro k hk;simp at hk;omega)
    have u13:Upd [] w1 w3:=u2.fresh u3 (by intro k hk;simp at hk;omega)
    exact k1 (r:=r) he (by omega) (ud.after u1) ra1 in1 (fun k hk=>by have:=sG k hk;omega) hs b3 (ud.after U3) (RdA.keep u13 ra1) (in1.upd u13)
  ·refine Zai fun r w1 hr u1 b1=>?_
   have cc:∀{a:Addr} {v:Value},z.cell? a=some v→w1.cell? a=some v:=fun hc=>(ud.after u1).cell hc (by simp)
   refine⟨fun j hj=>?_,(bxz.upd (ud.after u1) (by simp)).cell 0,?_⟩
   ·match j,hj with
    | 0,_=>exact(cc f3).trans f3.symm
    | 1,_=>exact(cc f4).trans f4.symm
    | 2,_=>exact(cc f5).trans f5.symm
    | 3,_=>exact(cc f6).trans f6.symm
   refine Zut ord id gb (hz.keep u1).sb (RdA.keep u1 f8) f7 gt (fun he w2 u2=>?_) (fun he w2 q1 c1 G ra1 in1 sG hs z40 u2=>?_)
   ·refine St4q (b1.upd u2 (by simp)) rfl rfl rfl rfl fun w3 u3 b3=>?_
    rw[←hv] at he ⊢
    exact kb he ((ud.after (u1.after u2)).fresh u3 (by intro k hk;simp at hk;have:=ud.size;omega))
   ·refine St4q (b1.upd u2 (by simp)) rfl rfl rfl rfl fun w3 u3 b3=>?_
    rw[←hv] at he ra1 hs b3
    have s1:=u1.size
    have sd:=ud.size
    have rl:=b1.lt
    have U3:=(ud.after (u1.after u2)).fresh u3 (by intro k hk;simp at hk;omega)
    have nr:Dis G [r]:=fun k hk hx=>by simp at hx;have:=sG k hk;omega
    exact k1 (r:=r) he (by omega) (ud.after (u1.after u2)) ra1 in1 (fun k hk=>by have:=sG k hk;omega) hs b3 U3 (RdA.upd' u3 nr ra1) (in1.upd u3)
 ·have gi:i=l.length:=by have:=of_decide_eq_false g;dsimp only at this;omega
  subst gi
  have eT:U.take l.length=U:=List.take_of_length_le (by omega)
  rw[eT] at tz hall
  have eN:on=l.length:=by have:=tz.len;omega
  dsimp only
  rw[eN]
  rw[show l.length=U.length from hUl.symm]
  have hsz:sizeL U≤U.length*4096:=by
   have:∀U:List Tm,(∀t∈U,t.size≤4096∧t.depth≤200)→sizeL U≤U.length*4096:=by
    intro U
    induction U with
    | nil=>intro _;rw[sizeL];omega
    | cons t U ih=>
     intro hh
     have:=ih fun u hu=>hh u (by simp [hu])
     have:=(hh t (by simp)).1
     rw[sizeL,List.length_cons];omega
   exact this U hall
  have d0:decE U=0:=by rw[Zp8 U U.length (by rw[List.take_length];exact hall),List.drop_length];rfl
  have hin:=tz.inn
  refine Zu5 tz.rd (fun k hk=>by
   rcases List.mem_append.1 hk with g2 | g2
   ·exact hin.1 k g2
   ·exact hin.2 k g2) ⟨fun t ht=>?_,by omega⟩ fun w' q c' F' ra' in' s' u'=>?_
  ·rw[hU] at ht
   obtain⟨u,hu,rfl⟩:=List.mem_map.1 ht
   exact Zua id.pv u (hl u hu).pv
  ·rw[hUl]
   exact hK d0 w' q c' F' ra' in' (fun k hk=>by have:=s' k hk;have:=uz.size;omega) (uz.after u')
end
section
variable {w v:World} {d5 d:HpD} {E:List Nat} {C:List Wd} {k B:Nat} {r:List Snp}
theorem ChI.unifyS {x y:Wd} {K:Bool→Int→World→Prop} (hc:ChI d5 k B d C r) (h:Hp w v d E) (hB:(B:Int)≤d5.tlim∧d5.tlim≤1048576) (xf:x.fits) (yf:y.fits) (xr:rightW C d5.L x=true) (yr:rightW C d5.L y=true)
  (hK:∀ok v' d' C',Hp w v' d' E→ChI d5 k B d' C' r→BExt C C'→(∀x,rightW C' d5.L x=rightW C d5.L x)→(Acy C d5.L d5.FL→Acy C' d5.L d5.FL)→(ok=true→∀θ,Sol C' d5.L d5.FL θ↔Sol C d5.L d5.FL θ∧wval C d5.L d5.FL θ x=wval C d5.L d5.FL θ y)→(ok=false→∀θ,Sol C d5.L d5.FL θ→wval C d5.L d5.FL θ x≠wval C d5.L d5.FL θ y)→Far E v v'→K ok 0 v'):ZaB d5.a x.enc y.enc v K:=by
 rw[←hc.a]
 obtain⟨C0,T0,r',rfl,sn,hs,_⟩:=hc.top
 have hroom:=hc.room
 refine ZsU h hc.hi xf yf (by rw[hc.L];exact xr) (by rw[hc.L];exact yr) hs (.inr ⟨by rw[hc.tlim];omega,by rw[hc.tlim];exact hB.2⟩) fun ok v1 d1 C1 h1 hi1 bd hy hn f1=>?_
 have hrw:=bd.rw_
 have hac:=bd.acy
 rw[hc.L,hc.FL] at hy hn hac
 rw[hc.L] at hrw
 exact hK ok v1 d1 C1 h1 ⟨hi1,bd.a.trans hc.a,bd.tlim.trans hc.tlim,bd.L.trans hc.L,bd.FL.trans hc.FL,hc.ch.step (bd.snap C0 T0 rfl sn),bd.starts.trans hc.st,bd.marks.trans hc.mrk,hc.wf,by have:=bd.room;omega⟩ bd.ext hrw hac hy hn f1
end
section
variable {w' w:World} {x:XdD} {d:SbD} {B:Bnd} {F F' X:List Nat} {M:List Nat}
theorem Wx.far (h:Wx w x d B F M) (f:Far X w w') (hz:∀k∈Zx x d,k∈X) (hF:∀k∈F,k∈X):Wx w' x d B F M:=by
 obtain⟨G,u,dd⟩:=f
 exact h.upd u (fun k hk=>dd k (hz k hk)) (fun k hk=>dd k (hF k hk))
theorem Wx.re (h:Wx w x d [] F M) (hF:In F' w) (hd:Dis (Zx x d) F'):Wx w x d [] F' M:=by
 obtain⟨L,e1,e2,e3⟩:=h.sb.row
 have eL:L=[]:=List.map_eq_nil_iff.1 e1
 subst eL
 refine⟨⟨h.sb.blk,⟨[],rfl,e2,by simp⟩,h.sb.map,h.sb.once,hF,h.sb.br,h.sb.bG,h.sb.rG,fun k hk=>hd k ?_⟩,h.blk,h.row,h.d1,h.d2,fun k hk=>hd k ?_⟩
 ·simp only[Zx,List.mem_cons,List.mem_append] at hk ⊢;exact .inr (.inr hk)
 ·simp only[Zx,List.mem_cons,List.mem_append] at hk ⊢;rcases hk with g | g <;> simp [g]
end
structure DoP (w4 v6:World) (d5:HpD) (kk n:Nat) (E0 F:List Nat) (xb:Nat) (z:World) (d:HpD) (C:List Wd) (q:List Snp) (x:XdD) (dx:SbD) (B:Bnd) (M:List Nat):Prop where
 hp:Hp w4 z d (Zx x dx++E0)
 ch:ChI d5 kk n d C q
 wx:Wx z x dx B F M
 si:Since (Zx x dx) w4
 dj:Dis E0 (Zx x dx)
 xa:x.b=xb
 far:Far E0 v6 z
section
variable {w4 v6:World} {d5:HpD} {kk n:Nat} {E0 F:List Nat} {xb:Nat} {z z':World} {d d':HpD} {C C':List Wd} {q q':List Snp} {x x':XdD} {dx dx':SbD} {B B':Bnd} {M M':List Nat}
theorem DoP.heap (h:DoP w4 v6 d5 kk n E0 F xb z d C q x dx B M) (hFE:∀k∈F,k∈E0) (hp':Hp w4 z' d' (Zx x dx++E0)) (ch':ChI d5 kk n d' C' q') (f:Far (Zx x dx++E0) z z'):DoP w4 v6 d5 kk n E0 F xb z' d' C' q' x dx B M:=
 ⟨hp',ch',h.wx.far f (fun k hk=>by simp [hk]) (fun k hk=>by simp [hFE k hk]),h.si,h.dj,h.xa,h.far.then (f.less fun k hk=>by simp [hk])⟩
theorem DoP.keep (h:DoP w4 v6 d5 kk n E0 F xb z d C q x dx B M) (u:Upd [] z z'):DoP w4 v6 d5 kk n E0 F xb z' d C q x dx B M:=
 ⟨h.hp.keep u,h.ch,h.wx.keep u,h.si,h.dj,h.xa,h.far.then (Far.keep u)⟩
theorem DoP.doc (h:DoP w4 v6 d5 kk n E0 F xb z d C q x dx B M) (wx':Wx z' x' dx' B' F M') (st:Stx x dx x' dx' z z'):DoP w4 v6 d5 kk n E0 F xb z' d C q x' dx' B' M':=by
 have hz:=h.hp.U.size
 have hE:In E0 z:=fun k hk=>h.hp.inn k (by simp [hk])
 refine⟨h.hp.upd st.upd (fun k hk hx=>h.hp.apart k hk (by simp [hx])) (fun k hk=>by simp [hk]) h.si (fun k hk=>?_) (fun k hk=>?_),h.ch,wx',h.si.step st.sub hz,fun k hk hx=>?_,st.b.trans h.xa,h.far.then ⟨_,st.upd,h.dj⟩⟩
 ·rcases List.mem_append.1 hk with g | g
  ·rcases st.sub k g with e | e
   ·exact .inl (by simp [e])
   ·exact .inr e
  ·exact .inl (by simp [g])
 ·rcases List.mem_append.1 hk with g | g
  ·exact wx'.low k g
  ·exact hE.upd st.upd k g
 ·rcases st.sub k hx with e | e
  ·exact h.dj k hk e
  ·have:=hE k hk;omega
theorem DoP.xaa (h:DoP w4 v6 d5 kk n E0 F xb z d C q x dx B M):x.a=some ⟨xb,0,none⟩:=by unfold XdD.a;rw[h.xa]
structure WsT (C5:List Wd) (d5:HpD) (c:Int→Nat) (ks:List Int) (T:List Tm) (xs:List Wd):Prop where
 wf:WF C5 d5.L d5.FL
 n:xs.length=T.length
 fits:∀x∈xs,x.fits
 right:∀x∈xs,rightW C5 d5.L x=true
 val:∀i (h1:i<T.length) (h2:i<xs.length),∀θ,Sol C5 d5.L d5.FL θ→wval C5 d5.L d5.FL θ xs[i]=T[i].app fun n=>θ (c n)
 gt:∀t∈T,GT ks t
theorem Zxs {C5:List Wd} {c:Int→Nat} {ks:List Int} {T:List Tm} {xs:List Wd} {pa pw:Option Addr} {ca cw:Nat} {s:Zaq} {Kn:Zaq→World→Prop} {Kr:Bool→World→Prop} (h:DoP w4 v6 d5 kk n E0 F xb z d C q x dx B M) (hFE:∀k∈F,k∈E0) (tw:Two C5 d5.L d5.FL c ks C B) (ws:WsT C5 d5 c ks T xs) (hT:T.length<2^12)
  (ra:RdA v6 F T pa 0) (wr:WRow v6 E0 pw (xs.map Wd.enc)) (hK:∀z',DoP w4 v6 d5 kk n E0 F xb z' d C q x dx B M→Kn ⟨IntKind.i64.wrap (s.i+1)⟩ z') :
  Zbm d5.a (some ⟨xb,0,none⟩) pa T.length ca pw xs.length cw s Kn Kr z:=by
 unfold Zbm
 obtain⟨σ,id⟩:=tw.idm
 have hwn:=ws.n
 have rt:∀x∈xs,rightW C d.L x=true:=fun x hx=>by rw[h.ch.L,tw.rw_];exact ws.right x hx
 obtain⟨ts,tl,tev⟩:∃ts:List Tm,ts.length=xs.length∧∀i (h1:i<ts.length) (h2:i<xs.length),Ev C d5.L d5.FL ts[i] xs[i]:=by
  refine⟨xs.map (evT C d5.L d5.FL),by simp,fun i h1 h2=>?_⟩
  obtain⟨t,ht⟩:=tw.acy xs[i] (by have:=rt _ (List.getElem_mem h2);rwa [h.ch.L] at this)
  rw[List.getElem_map,Ztz ht]
  exact ht
 obtain⟨e1,e2⟩:=tw.told ws.wf id (l:=T) (ts:=ts) (xs:=xs) ws.gt (by omega) (by omega) ws.right ws.val tev
 have raz:=RdA.far h.far hFE ra
 have wrz:=(wr.far h.far)
 have wrz':WRow z (Zx x dx++E0) pw (xs.map Wd.enc):=⟨wrz.1,fun y hy hn=>by simp [wrz.2 y hy hn]⟩
 have far_:∀{z1:World},Far (Zx x dx++E0) z z1→RdA z1 F T pa 0:=fun f=>RdA.far f (fun k hk=>by simp [hFE k hk]) raz
 rw[←h.ch.a,←h.xaa]
 refine ZrE h.hp h.ch.hi wrz' (by omega) ws.fits rt tl (by rw[h.ch.L,h.ch.FL];exact tev) (fun hb z1 h1 f1=>?_) (fun hb z1 p1 c1 vp vc Y RL h1 ra1 _ _ _ sY inY f1=>?_)
 ·have P1:=h.heap hFE h1 h.ch f1
  refine Zuw tw.ord id tw.gb P1.wx (far_ f1) ws.gt hT (fun _ z2 u2=>?_) (fun he=>absurd (by rw[e1];exact he) hb)
  rw[e1]
  have rn:∀{z:World},RdA z [] [] none 0:=fun {z}=>RdA.of fun i hi=>absurd hi (by simp)
  exact ifF (by simp) (Zt7 (l:=[]) (F:=[]) (G:=[]) rn rn (by simp [sizeL]) fun z3 u3=>ifF rfl (hK z3 ((P1.keep u2).keep u3)))
 ·have h1':=h1.less (E':=Zx x dx++E0) fun k hk=>by simp only[List.mem_append] at hk ⊢;exact .inr hk
  have P1:=h.heap hFE h1' h.ch f1
  refine Zuw tw.ord id tw.gb P1.wx (far_ f1) ws.gt hT (fun he=>absurd (by rw[←e1];exact hb) he) (fun _ z2 q2 c2 G2 ra2 in2 s2 u2=>?_)
  refine ifF rfl ?_
  have ra1':=RdA.keep u2 ra1
  rw[e2] at ra1'
  obtain⟨V,hV⟩:∃V,V=(T.map (Tm.app σ)).map (numT (varsL (T.map (Tm.app σ)) [])):=⟨_,rfl⟩
  rw[←hV] at ra1' ra2
  have vl:V.length=T.length:=by rw[hV,List.length_map,List.length_map]
  rw[show ts.length=V.length by omega,show T.length=V.length by omega]
  refine Zt7 ra1' ra2 ?_ fun z3 u3=>ifF rfl (hK z3 ((P1.keep u2).keep u3))
  have hz:∀(U:List Tm),decE U=0→sizeL U≤U.length*4096:=by
   intro U
   induction U with
   | nil=>intro _;rw[sizeL];omega
   | cons t U ih=>
    intro hh
    rw[decE] at hh
    split at hh
    ·cases hh
    ·split at hh
     ·cases hh
     ·have:=ih hh
      rw[sizeL,List.length_cons];omega
  have a1:=hz _ (e1 ▸ hb)
  have a2:sizeL V=sizeL (T.map (Tm.app σ)):=by rw[hV];exact Zrt fun t _=>Zri _ t
  rw[List.length_map] at a1
  omega
end
theorem Zxc {d1 d5:HpD} {k:Nat} {T:List Tm} {C5:List Wd} {V5:List (Int×Nat)} {xs:List Wd} (cd:Coded (fun _=>False) d1 [] [] k T d5 C5 V5 xs) (hck:∀t∈T,checkT t=0) (ac:Acy [] d1.L d1.FL) :
  WsT C5 d5 (fun n=>(cellOf V5 n).toNat) (varsL T []) T xs∧Two C5 d5.L d5.FL (fun n=>(cellOf V5 n).toNat) (varsL T []) C5 []:=by
 have lrt:∀k (hk:k<T.length),T[k].right=true:=fun k hk=>(ZsS (hck _ (List.getElem_mem hk))).1
 have vmo:=cd.vm.once
 have hn:=cd.n
 have keys:V5.map (·.1)=varsL T []:=cd.keys
 have inj:=Zve vmo cd.vm.two
 have ac5:=cd.acy ac
 have vc:∀n∈varsL T [],∃i:Nat,cellOf V5 n=i∧C5[i]?=some (.ref i):=fun n hn=>by
  rw[←keys] at hn
  obtain⟨⟨m,i⟩,hy,rfl⟩:=List.mem_map.1 hn
  exact⟨i,Zm6 vmo hy,(cd.vm.cell _ hy).2⟩
 refine⟨⟨cd.hi.wf,hn,cd.fits,fun x hx=>?_,fun i h1 h2 θ hs=>?_,fun t ht=>?_⟩,⟨RelS.init ac5 (fun n hn=>?_) (fun a ha b hb e=>?_),⟨_,Idm.nil⟩,fun i j hi=>absurd hi (by simp),(fun x hx=>by cases hx),BExt.refl _,fun _=>rfl,ac5⟩⟩
 ·obtain⟨i,h,rfl⟩:=List.getElem_of_mem hx
  exact((cd.rep i (by omega) h).self (lrt i (by omega))).2
 ·have:=hs.ev _ (Rep.ev vmo _ (cd.rep i h1 h2) (lrt i h1))
  rw[this,←ZvQ (Zun _ (lrt i h1)) (f:=fun n=>tV (cellOf V5 n)) fun _ _=>rfl,ZrU]
  exact ZkM _ fun n _=>ZnS
 ·obtain⟨a,b,e⟩:=ZsS (hck t ht)
  exact⟨Zun t a,by omega,fun n hn=>(ZdN T [] n).2 (.inr ⟨t,ht,hn⟩)⟩
 ·obtain⟨i,e1,e2⟩:=vc n hn
  rw[e1];exact e2
 ·obtain⟨i,e1,_⟩:=vc a ha
  obtain⟨j,e2,_⟩:=vc b hb
  rw[keys] at inj
  refine inj a ha b hb ?_
  rw[e1,e2] at e ⊢
  simp at e
  rw[e]
theorem Zx6 {α:Type}:∀{l:List α},2≤l.length→∃a b r,l=a::b::r
 | a::b::r,_=>⟨a,b,r,rfl⟩
theorem Zvd {p:Option Addr} {a:Addr} {K:Addr→Prop} (h:p=some a) (hk:K a):NN p K:=by rw[h,Zch];exact hk
section
variable {w4 v6 z:World} {d5 d:HpD} {kk n:Nat} {E0 F:List Nat} {xb:Nat} {C C2 C3 C5:List Wd} {q:List Snp} {x:XdD} {dx:SbD} {B:Bnd} {M:List Nat} {cf:Int→Nat} {ks:List Int}
theorem Zxk {ok:Bool} {a b:Tm} {xw yw:Wd} {qa qb:Option Addr} {ca cb:Nat} {K:Bool→World→Prop} (hks:ks.length<2^30) (P:DoP w4 v6 d5 kk n E0 F xb z d C3 q x dx B M) (tw:Two C5 d5.L d5.FL cf ks C B) (pr:Pr C5 d5.L d5.FL cf ks q M.reverse B)
  (va:∀θ,Sol C d5.L d5.FL θ→wval C d5.L d5.FL θ xw=a.app fun n=>θ (cf n)) (vb:∀θ,Sol C d5.L d5.FL θ→wval C d5.L d5.FL θ yw=b.app fun n=>θ (cf n)) (ga:GT ks a) (gB:GT ks b) (ra:RdA z F a.l qa 0) (rb:RdA z F b.l qb 0) (sa:a.s.size<2^63) (sb:b.s.size<2^63)
  (ext:BExt C C2) (rw2:∀x,rightW C2 d5.L x=rightW C d5.L x) (ac2:Acy C d5.L d5.FL→Acy C2 d5.L d5.FL) (hy:ok=true→∀θ,Sol C2 d5.L d5.FL θ↔Sol C d5.L d5.FL θ∧wval C d5.L d5.FL θ xw=wval C d5.L d5.FL θ yw) (hn:ok=false→∀θ,Sol C d5.L d5.FL θ→wval C d5.L d5.FL θ xw≠wval C d5.L d5.FL θ yw)
  (h1:ok=true→C3=C2) (h2:ok=false→C3=C) (hK:∀z' dx' B',DoP w4 v6 d5 kk n E0 F xb z' d C3 q x dx' B' M→Two C5 d5.L d5.FL cf ks C3 B'→Pr C5 d5.L d5.FL cf ks q M.reverse B'→K ok z') :
  ZaR dx.a a.kind a.n a.s qa a.l.length ca b.kind b.n b.s qb b.l.length cb z K:=by
 obtain⟨σ,id⟩:=tw.idm
 refine Zvr hks P.wx.sb id tw.ord tw.gb ra rb sa sb ga gB (fun z' dx' X σ' h' id' ord' gb' st iff'=>?_) (fun z' dx' h' st ne=>?_)
 ·have e:ok=true:=tw.rel.same (ok':=true) (B':=B++X) (σ:=σ) (σ':=σ') ga.vs gB.vs va vb (ac2 tw.acy) hy hn (fun _=>id') (fun _=>iff') (fun e=>by cases e)
  subst e
  obtain rfl:=h1 rfl
  exact hK z' dx' (B++X) (P.doc (P.wx.stp st h') (Stx.of st)) ⟨tw.rel.unify ga.vs gB.vs va vb (hy rfl) iff',⟨σ',id'⟩,ord',gb',tw.ext.trans ext,fun x=>(rw2 x).trans (tw.rw_ x),ac2 tw.acy⟩ (pr.grow X)
 ·have e:ok=false:=tw.rel.same (ok':=false) (B':=B) (σ:=σ) (σ':=σ) ga.vs gB.vs va vb (ac2 tw.acy) hy hn (fun e=>by cases e) (fun e=>by cases e) (fun _=>ne)
  subst e
  obtain rfl:=h2 rfl
  exact hK z' dx' B (P.doc (P.wx.stp st h') (Stx.of st)) tw pr
end
theorem Zs6 {w:World} {l:List OpT} {p:Option Addr} {c:Nat} (ho:OpsA w (List.range w.heap.size) l p) (hl63:l.length<2^63):ZdK p l.length c w fun r w'=>r=true∧Upd [] w w':=by
 apply ZdK.of
 unfold ZlB Zio
 have iF:In (List.range w.heap.size) w:=fun k hk=>List.mem_range.1 hk
 have bad:∀{z:World},Upd [] w z→Zcx z fun t30 w1_7=>t30=true∧Upd [] w w1_7:=fun U=>ZuI fun z' u=>⟨rfl,U.after u⟩
 refine ifC (fun _=>bad (Upd.refl _ _)) (fun g9=>?_)
 have g9:=of_decide_eq_false g9
 have ol:=ZsD l
 refine ZsH ho iF (by omega) fun w1 p1 c1 G1 ra1 in1 _ u1=>?_
 refine ZuZ ra1 in1 (by omega) (fun w2 u2=>ifT rfl (bad (u1.after u2))) fun _ hz w2 u2=>ifF rfl ?_
 have U2:=u1.after u2
 refine ZsH (ho.keep U2) (iF.upd U2) (by omega) fun w3 p3 c3 G3 ra3 in3 _ u3=>?_
 have U3:=U2.after u3
 refine ZwP ra3 hz (fun hck w4 u4=>ifF rfl ?_) fun w4 u4=>ifT rfl (bad (U3.after u4))
 have U4:=U3.after u4
 refine Zv5 (Upd.refl [] w4) (by omega) (by omega) (by omega) (by omega) fun v1 d1 h1 fr u5 _=>?_
 have h1b:=h1.base
 rw[List.nil_append] at h1b
 refine ZxJ (F:=[]) (by intro k hk;cases hk) fun v2 x0 dx0 wx2 si2 u6=>?_
 have h2:=h1b.watch u6 si2 wx2.low
 refine ZuI fun v3 u7=>ifF rfl (ifF rfl (ifF rfl ?_))
 have h3:=h2.keep u7
 have V3:=(u5.after u6).after u7
 have W3:=U4.after V3
 have sub:∀k∈List.range w.heap.size,k∈List.range w4.heap.size:=fun k hk=>by
  have:=U4.size
  simp only[List.mem_range] at hk ⊢;omega
 refine ZsH (ho.keep W3) (iF.upd W3) (by omega) fun v4 p4 c4 G4 ra4 in4 hG4 u8=>?_
 have h4:=h3.watch u8 (Y:=G4) hG4 (fun k hk=>in4 k (by simp [hk]))
 refine ZmQ fun r v5 hr u9 hm5=>?_
 have hm5:MapAt v5 r (fun a:Int=>Value.int .i64 a) (vmM []):=MapAt.new _ hm5
 have h5:=h4.watch u9 (Y:=[r]) (fun k hk=>by simp at hk;omega) (fun k hk=>by simp at hk;subst hk;exact hm5.lt)
 obtain⟨F,hF⟩:∃F,F=G4++List.range w.heap.size:=⟨_,rfl⟩
 obtain⟨T,hT⟩:∃T,T=opTs l:=⟨_,rfl⟩
 rw[←hF,←hT] at ra4
 rw[←hF] at in4
 rw[←hT] at hck hz ol
 rw[←hT]
 have sV5:=V3.after u8
 have rE:r∉G4++(Zx x0 dx0++List.range w4.heap.size):=fun hx=>by
  have:=h4.inn r (by simp only[List.mem_append] at hx ⊢;rcases hx with g | g | g <;> simp [g]);omega
 have hrw:w4.heap.size≤r:=by have:=sV5.size;omega
 have wx5:Wx v5 x0 dx0 [] F []:=by
  have a:=((wx2.keep u7).keep u8).keep u9
  refine a.re (in4.upd u9) fun k hk hx=>?_
  rw[hF] at hx
  have k2:=wx2.low k hk
  have k1:=si2 k hk
  have:=u7.size
  have:=u5.size
  have:=U4.size
  rcases List.mem_append.1 hx with g | g
  ·have:=hG4 k g;omega
  ·have:=List.mem_range.1 g;omega
 have hk:0+sizeL T<16000:=by omega
 refine Zwa (S:=fun _=>False) (V:=[]) (E:=G4++(Zx x0 dx0++List.range w4.heap.size)) (RdA.keep u9 ra4) (fun k hk=>by
  rw[hF] at hk
  rcases List.mem_append.1 hk with g | g
  ·simp [g]
  ·have:=List.mem_range.1 (sub k g);simp [this]) hck h5 fr.hi hk (by rw[fr.lim];simp;omega) hrw rE hm5 ⟨by simp,by simp,by simp⟩ (fun j hj=>hj.elim) fun v6 d5 C5 V5 xs wp wc G h6 cd hs6 hG6 _ _ f6=>?_
 have hn5:=cd.n
 refine ifF (by simp) ?_
 rw[←cd.kin.a]
 obtain⟨E0,hE0⟩:∃E0,E0=r::(G++(G4++List.range w4.heap.size)):=⟨_,rfl⟩
 have h6':Hp w4 v6 d5 (Zx x0 dx0++E0):=h6.less fun k hk=>by
  rw[hE0] at hk
  simp only[List.mem_append,List.mem_cons] at hk ⊢
  rcases hk with g | g | g | g | g <;> simp [g]
 have hFE:∀k∈F,k∈E0:=fun k hk=>by
  rw[hF] at hk;rw[hE0]
  rcases List.mem_append.1 hk with g | g
  ·simp [g]
  ·have:=List.mem_range.1 (sub k g);simp [this]
 have subE:∀k∈List.range w.heap.size,k∈E0:=fun k hk=>hFE k (by rw[hF];simp [List.mem_range.1 hk])
 have wr6:WRow v6 E0 wp (xs.map Wd.enc):=by
  have:=ZxV (E:=List.range w4.heap.size) hs6 (by rw[List.length_map,hn5])
  exact⟨this.1,fun x hx hn=>by
   have:=this.2 x hx hn
   rw[hE0]
   simp only[List.mem_append,List.mem_cons] at this ⊢
   rcases this with g | g <;> simp [g]⟩
 have ho6:OpsA v6 (List.range w.heap.size) l p:=by
  have a:=((ho.keep W3).keep u8).keep u9
  exact a.far f6 fun k hk=>by have:=List.mem_range.1 (sub k hk);simp [this]
 have ra6:RdA v6 F T p4 0:=RdA.far f6 (fun k hk=>by
  have:=hFE k hk
  rw[hE0] at this
  rw[hF] at hk
  rcases List.mem_append.1 hk with g | g
  ·simp [g]
  ·have:=List.mem_range.1 (sub k g);simp [this]) (RdA.keep u9 ra4)
 have wx6:Wx v6 x0 dx0 [] F []:=wx5.far f6 (fun k hk=>by simp [hk]) fun k hk=>by
  rw[hF] at hk
  rcases List.mem_append.1 hk with g | g
  ·simp [g]
  ·have:=List.mem_range.1 (sub k g);simp [this]
 have lim5:d5.tlim=65536:=by rw[cd.kin.tlim,fr.tlim]
 have hC5:C5.length≤24000:=by
  have:=cd.len
  have:=Zta T []
  simp at *
  omega
 obtain⟨kk,hkk⟩:∃kk,kk=0+sizeL T:=⟨_,rfl⟩
 have hi5:=cd.hi
 rw[←hkk] at hi5
 have ci5:ChI d5 kk C5.length d5 C5 [([],[])]:=by
  have eT:d5.TL=[]:=by rw[cd.kin.TL,fr.TL]
  refine⟨hi5,rfl,rfl,rfl,rfl,by rw[eT];exact ChainOk.first C5,by rw[cd.kin.starts,fr.starts];rfl,by rw[cd.kin.marks,fr.marks];rfl,fun q hq=>?_,by rw[eT];have:=Zxn C5;simpa using this⟩
  simp at hq
  rw[hq]
  exact⟨WF.nil _ _,by simp [unbC]⟩
 have hB:((C5.length:Nat):Int)≤d5.tlim∧d5.tlim≤1048576:=by rw[lim5];omega
 obtain⟨ws,tw5⟩:=Zxc cd hck (Acy.nil d1.FL fr.hi.n64)
 obtain⟨cf,hcf⟩:∃cf:Int→Nat,cf=fun n=>(cellOf V5 n).toNat:=⟨_,rfl⟩
 obtain⟨ks,hks⟩:∃ks,ks=varsL T []:=⟨_,rfl⟩
 rw[←hcf,←hks] at ws tw5
 have ksl:ks.length<2^30:=by
  have:=ZmY T []
  rw[hks];simp at this;omega
 have P6:DoP w4 v6 d5 kk C5.length E0 F x0.b v6 d5 C5 [([],[])] x0 dx0 [] []:=by
  refine⟨h6',ci5,wx6,fun k hk=>by have:=si2 k hk;have:=u5.size;omega,fun k hk hx=>?_,rfl,Far.refl _ _⟩
  have k1:=si2 k hx
  have k2:=wx2.low k hx
  have e7:=u7.size
  have e8:=u8.size
  have e9:=u9.size
  have e5:=u5.size
  rw[hE0] at hk
  simp only[List.mem_cons,List.mem_append,List.mem_range] at hk
  rcases hk with g | g | g | g
  ·omega
  ·have:=hG6 k g;omega
  ·have:=hG4 k g;omega
  ·omega
 refine ci5.open_ h6' hB (by simp) fun _ v7 d7 h7 ci7 f7=>ifF rfl ?_
 have P7:=P6.heap hFE h7 ci7 f7
 refine ZuG P7.wx (by simp) (by simp) fun v8 x8 wx8 st8=>?_
 have P8:=P7.doc wx8 st8
 rw[show x0.a=some ⟨x0.b,0,none⟩ from rfl]
 obtain⟨xb,hxb⟩:∃xb,xb=x0.b:=⟨_,rfl⟩
 rw[←hxb] at P8 ⊢
 have pr8:Pr C5 d5.L d5.FL cf ks [(C5,d5.TL),([],[])] ([]++[([]:Bnd).length]).reverse []:=⟨by simp,by simpa using tw5,rfl⟩
 have Tl:T.length=2*l.length:=ol
 unfold Zii
 refine⟨fun s z=>∃(i:Nat) (d:HpD) (C:List Wd) (q:List Snp) (x:XdD) (dx:SbD) (B:Bnd) (M:List Nat),s.i=i∧i≤l.length∧DoP w4 v6 d5 kk C5.length E0 F xb z d C q x dx B M∧Two C5 d5.L d5.FL cf ks C B∧Pr C5 d5.L d5.FL cf ks q M.reverse B∧M≠[]∧q.length≤i+2,fun s _=>(l.length-s.i).toNat,
  ⟨0,d7,C5,_,x8,dx0,[],_,rfl,by omega,P8,tw5,pr8,by simp,by simp⟩,?_⟩
 rintro⟨si⟩ z ⟨i,d,C,q,x,dx,B,M,rfl,hi,P,tw,pr,hM,hq⟩
 unfold Zis
 have hQ:=pr.len
 rw[List.length_reverse] at hQ
 have hBl:=tw.gb.len P.wx.sb.once
 have next:∀{z':World} {d':HpD} {C':List Wd} {q':List Snp} {x':XdD} {dx':SbD} {B':Bnd} {M':List Nat},i<l.length→DoP w4 v6 d5 kk C5.length E0 F xb z' d' C' q' x' dx' B' M'→Two C5 d5.L d5.FL cf ks C' B'→Pr C5 d5.L d5.FL cf ks q' M'.reverse B'→M'≠[]→q'.length≤i+3→
   Zbm d5.a (some ⟨xb,0,none⟩) p4 T.length c4 wp T.length wc ⟨(i:Int)⟩ (fun s' w'=>(∃(i:Nat) (d:HpD) (C:List Wd) (q:List Snp) (x:XdD) (dx:SbD) (B:Bnd) (M:List Nat),s'.i=i∧i≤l.length∧DoP w4 v6 d5 kk C5.length E0 F xb w' d C q x dx B M∧Two C5 d5.L d5.FL cf ks C B∧Pr C5 d5.L d5.FL cf ks q M.reverse B∧M≠[]∧q.length≤i+2)∧((l.length:Int)-s'.i).toNat<((l.length:Int)-(i:Int)).toNat) (fun r w'=>r=true∧Upd [] w w') z':=by
  intro z' d' C' q' x' dx' B' M' gi P' tw' pr' hM' hq'
  have hh:=Zxs (s:=⟨(i:Int)⟩) (ca:=c4) (cw:=wc) (Kr:=fun r w'=>r=true∧Upd [] w w') (Kn:=fun s' w'=>(∃(i:Nat) (d:HpD) (C:List Wd) (q:List Snp) (x:XdD) (dx:SbD) (B:Bnd) (M:List Nat),s'.i=i∧i≤l.length∧DoP w4 v6 d5 kk C5.length E0 F xb w' d C q x dx B M∧Two C5 d5.L d5.FL cf ks C B∧Pr C5 d5.L d5.FL cf ks q M.reverse B∧M≠[]∧q.length≤i+2)∧((l.length:Int)-s'.i).toNat<((l.length:Int)-(i:Int)).toNat) P' hFE tw' ws (by omega) ra6 wr6 fun z2 P2=>by
   dsimp only
   rw[i64id (by omega) (by omega)]
   exact⟨⟨i+1,d',C',q',x',dx',B',M',by simp,by omega,P2,tw',pr',hM',by omega⟩,by omega⟩
  rw[hn5] at hh
  exact hh
 refine ifC (fun g=>?_) (fun g=>?_)
 ·simp only[decide_eq_true_eq] at g
  have gi:i<l.length:=by omega
  obtain⟨y,qa,ca,qb,cb,ey,hy,hc,_⟩:=(ho6.far P.far subE) i gi
  have c0:z.cell? (y.add (i*9))=some (.int .i64 l[i].1):=hc 0 (by omega)
  refine⟨by show (0:Int)≤(i:Int);omega,by show (i:Int)<_;omega,?_⟩
  rw[ey]
  simp only[X_,addA,Nat.add_zero,Int.toNat_natCast,c0]
  refine ifC (fun _=>?_) (fun _=>ifC (fun _=>?_) (fun _=>ifC (fun _=>?_) (fun _=>ifC (fun _=>?_) (fun _=>next gi P tw pr hM (by omega)))))
  ·refine P.ch.open_ P.hp hB (by omega) fun _ z1 d1 hz1 ci1 f1=>ifF rfl ?_
   have P1:=P.heap hFE hz1 ci1 f1
   rw[i64id (x:=2*(i:Int)) (by omega) (by omega),i64id (by omega) (by omega)]
   obtain⟨j,hj⟩:∃j,j=2*i:=⟨_,rfl⟩
   have ej:2*(i:Int)=(j:Int):=by omega
   have ej1:(j:Int)+1=((j+1:Nat):Int):=by simp
   have jx:j+1<xs.length:=by omega
   rw[ej,ej1]
   have wr1:=wr6.far P1.far
   obtain⟨y',ey',y0⟩:=wr1.at (i:=j) (by rw[List.length_map];omega)
   obtain⟨y'',ey'',y1⟩:=wr1.at (i:=j+1) (by rw[List.length_map];omega)
   simp only[List.getElem_map,Nat.mul_one] at y0 y1
   refine⟨by omega,by omega,Zvd ey' ⟨xs[j].enc,by simpa only[drw_cell,Int.toNat_natCast,Nat.mul_one] using y0,by omega,by omega,Zvd ey'' ⟨xs[j+1].enc,by simpa only[drw_cell,Int.toNat_natCast,Nat.mul_one] using y1,?_⟩⟩⟩
   have rj:∀k (hk:k<xs.length),rightW C d5.L xs[k]=true:=fun k hk=>by rw[tw.rw_];exact ws.right _ (List.getElem_mem hk)
   have va:=tw.val ws.wf (ws.right _ (List.getElem_mem (by omega:j<xs.length))) (ws.val j (by omega) (by omega))
   have vb:=tw.val ws.wf (ws.right _ (List.getElem_mem jx)) (ws.val (j+1) (by omega) jx)
   refine ci1.unifyS (hz1.keep (Zah z1)) hB (ws.fits _ (List.getElem_mem _)) (ws.fits _ (List.getElem_mem _)) (rj j (by omega)) (rj (j+1) jx) fun ok z2 d2 C2 hz2 ci2 ext rw2 ac2 hy' hn' f2=>?_
   have P2:=((P1.keep (Zah z1)).heap hFE hz2 ci2 f2).keep (Zah z2)
   obtain⟨C9,T9,r9,eq9,_⟩:=P.ch.top
   refine ifC (fun go=>?_) (fun go=>?_)
   ·have ok0:ok=false:=by simpa using go
    refine P2.ch.back P2.hp hB fun z3 d3 C0 T0 r' er _ hz3 ci3 f3=>ifF rfl ?_
    have P3:=P2.heap hFE hz3 ci3 f3
    simp only[List.cons.injEq,Prod.mk.injEq] at er
    obtain⟨⟨rfl,rfl⟩,rfl⟩:=er
    have ch3:=P3.ch
    rw[eq9] at ch3
    refine ch3.close hz3 fun z4 d4 hz4 ci4 _ f4=>ifF rfl (ifF rfl ?_)
    rw[←eq9] at ci4
    have P4:=P3.heap hFE hz4 ci4 f4
    obtain⟨y3,qa,ca,g1,_,a0,a1,a2,a3,sa,raa⟩:=(RdA.far P4.far hFE ra6).at j (by omega)
    obtain⟨y4,qb,cb,g2,_,b0,b1,b2,b3,sb,rab⟩:=(RdA.far P4.far hFE ra6).at (j+1) (by omega)
    have bx:Blk z4 xb #[.pointer dx.a,.slice x.p M.length x.c]:=by rw[←P4.xa];exact P4.wx.blk
    simp only[Nat.zero_add] at a0 a1 a2 a3 b0 b1 b2 b3
    refine⟨_,bx.cell 0,by omega,by omega,Zvd g1 ?_⟩
    simp only[addA,Nat.add_zero,Int.toNat_natCast]
    refine⟨_,a0,_,a1,_,a2,_,_,_,a3,by omega,by omega,Zvd g2 ?_⟩
    refine⟨_,b0,_,b1,_,b2,_,_,_,b3,?_⟩
    refine Zxk ksl P4 tw pr va vb (ws.gt _ (List.getElem_mem _)) (ws.gt _ (List.getElem_mem _)) raa rab sa sb ext rw2 ac2 hy' hn' (fun e=>by rw[ok0] at e;cases e) (fun _=>rfl) fun z5 dx5 B5 P5 tw5 pr5=>?_
    unfold ZfO
    exact ifF (by simp) (next gi P5 tw5 pr5 hM (by omega))
   ·have ok1:ok=true:=by simpa using go
    have ch3:=P2.ch
    rw[eq9] at ch3
    refine ch3.close P2.hp fun z4 d4 hz4 ci4 _ f4=>ifF rfl (ifF rfl ?_)
    rw[←eq9] at ci4
    have P4:=P2.heap hFE hz4 ci4 f4
    obtain⟨y3,qa,ca,g1,_,a0,a1,a2,a3,sa,raa⟩:=(RdA.far P4.far hFE ra6).at j (by omega)
    obtain⟨y4,qb,cb,g2,_,b0,b1,b2,b3,sb,rab⟩:=(RdA.far P4.far hFE ra6).at (j+1) (by omega)
    have bx:Blk z4 xb #[.pointer dx.a,.slice x.p M.length x.c]:=by rw[←P4.xa];exact P4.wx.blk
    simp only[Nat.zero_add] at a0 a1 a2 a3 b0 b1 b2 b3
    refine⟨_,bx.cell 0,by omega,by omega,Zvd g1 ?_⟩
    simp only[addA,Nat.add_zero,Int.toNat_natCast]
    refine⟨_,a0,_,a1,_,a2,_,_,_,a3,by omega,by omega,Zvd g2 ?_⟩
    refine⟨_,b0,_,b1,_,b2,_,_,_,b3,?_⟩
    refine Zxk ksl P4 tw pr va vb (ws.gt _ (List.getElem_mem _)) (ws.gt _ (List.getElem_mem _)) raa rab sa sb ext rw2 ac2 hy' hn' (fun _=>rfl) (fun e=>by rw[ok1] at e;cases e) fun z5 dx5 B5 P5 tw5 pr5=>?_
    unfold ZfO
    exact ifF (by simp) (next gi P5 tw5 pr5 hM (by omega))
  ·refine P.ch.open_ P.hp hB (by omega) fun _ z1 d1 hz1 ci1 f1=>ifF rfl ?_
   have P1:=P.heap hFE hz1 ci1 f1
   rw[←P1.xaa]
   refine ZuG P1.wx (by omega) (by omega) fun z2 x2 wx2 st2=>?_
   rw[P1.xaa]
   exact next gi (P1.doc wx2 st2) tw (by rw[List.reverse_append];exact pr.open_ tw d.TL) (by simp) (by simp;omega)
  ·obtain⟨M0,m,rfl⟩:∃M0 m,M=M0++[m]:=⟨M.dropLast,M.getLast hM,(List.dropLast_concat_getLast hM).symm⟩
   obtain⟨C9,T9,r9,rfl,_⟩:=P.ch.top
   have pr':=pr
   rw[List.reverse_append] at pr'
   have pr':Pr C5 d5.L d5.FL cf ks ((C9,T9)::r9) (m::M0.reverse) B:=pr'
   rw[←P.xaa]
   refine Zwl P.wx rfl (by omega) pr'.1 (by omega) fun z1 wx1 st1=>?_
   have P1:=P.doc wx1 st1
   refine P1.ch.back P1.hp hB fun z2 d2 C0 T0 r' er _ hz2 ci2 f2=>ifF rfl ?_
   simp only[List.cons.injEq,Prod.mk.injEq] at er
   obtain⟨⟨rfl,rfl⟩,rfl⟩:=er
   rw[P.xaa]
   exact next gi (P1.heap hFE hz2 ci2 f2) pr'.2.1 (by rw[List.reverse_append];exact pr'.back) hM (by omega)
  ·have bx:Blk z xb #[.pointer dx.a,.slice x.p M.length x.c]:=by rw[←P.xa];exact P.wx.blk
   refine⟨_,_,_,bx.cell 1,ifC (fun gm=>?_) (fun _=>next gi P tw pr hM (by omega))⟩
   have gm:=of_decide_eq_true gm
   obtain⟨M0,m,rfl⟩:∃M0 m,M=M0++[m]:=⟨M.dropLast,M.getLast hM,(List.dropLast_concat_getLast hM).symm⟩
   rw[List.length_append,List.length_singleton] at gm hQ
   obtain⟨q1,q2,r2,rfl⟩:∃q1 q2 r2,q=q1::q2::r2:=Zx6 (by omega)
   have pr':=pr
   rw[List.reverse_append] at pr'
   have pr':Pr C5 d5.L d5.FL cf ks (q1::q2::r2) (m::M0.reverse) B:=pr'
   rw[←P.xaa]
   refine Zv3 P.wx rfl (by rw[List.length_append,List.length_singleton];simp only[List.length_cons] at hq hQ;omega) fun z1 wx1 st1=>ifF rfl ?_
   have P1:=P.doc wx1 st1
   refine P1.ch.close P1.hp fun z2 d2 hz2 ci2 _ f2=>ifF rfl ?_
   rw[P.xaa]
   exact next gi (P1.heap hFE hz2 ci2 f2) tw pr'.close (by rintro rfl;simp at gm) (by simp only[List.length_cons] at hq ⊢;omega)
 ·have hU:=P.hp.U
  exact⟨rfl,U4.after hU⟩
end Go.Proofs.YtdaenijbokialaaGreat
