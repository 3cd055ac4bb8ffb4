import Derived.Test.YtdaenijbokialaaGreatCodes
namespace Go.Proofs.YtdaenijbokialaaGreat
open Go Go.D Go.Proofs
set_option linter.unusedSimpArgs false
set_option linter.unusedVariables false
set_option maxRecDepth 8000
abbrev Bnd:=List (Int×Tm)
def SolB (B:Bnd) (θ:Int→Tm):Prop:=∀x∈B,θ x.1=x.2.app θ
structure Idm (B:Bnd) (σ:Int→Tm):Prop where
 once:(B.map (·.1)).Nodup
 free:∀n,n∉B.map (·.1)→σ n=tV n
 sol:SolB B σ
 out:∀n m,m∈(σ n).vars []→m∉B.map (·.1)
 pv:∀n,(σ n).pv
 thru:∀θ,SolB B θ→∀n,(σ n).app θ=θ n
theorem Zrr (n:Int):(tV n).vars []=[n]:=by rw[Tm.vars_eq,if_pos (by rfl)];rfl
theorem Idm.nil:Idm [] tV:=⟨by simp,fun _ _=>rfl,(by intro x hx;cases hx),(by simp),Zwy,fun _ _ _=>ZnS⟩
theorem Idm.go {B:Bnd} {σ θ:Int→Tm} (h:Idm B σ) (hs:SolB B θ) (t:Tm):(t.app σ).app θ=t.app θ:=by
 rw[ZrU]
 exact ZkM t fun n _=>h.thru θ hs n
theorem Zrk (f:Int→Tm) (t:Tm):∀m,m∈(t.app f).vars []→∃n∈t.vars [],m∈(f n).vars []:=by
 refine Tm.ind (P:=fun t=>∀m,m∈(t.app f).vars []→∃n∈t.vars [],m∈(f n).vars []) (fun t ih=>?_) t
 intro m hm
 by_cases h1:t.kind=1
 ·rw[ZbG h1] at hm
  exact⟨t.n,by rw[Tm.vars_eq,if_pos h1];simp,hm⟩
 ·rw[ZeV h1,Tm.vars_eq,if_neg (by rw[ZrD];exact h1),mk_l,ZdN] at hm
  rcases hm with hm | ⟨u,hu,hm⟩
  ·cases hm
  ·obtain⟨v,hv,rfl⟩:=List.mem_map.1 hu
   obtain⟨n,hn,e⟩:=ih v hv m hm
   exact⟨n,Zcy h1 hv hn,e⟩
theorem Zua {f:Int→Tm} (hf:∀n,(f n).pv) (t:Tm):t.pv→(t.app f).pv:=by
 refine Tm.ind (P:=fun t=>t.pv→(t.app f).pv) (fun t ih=>?_) t
 intro h
 by_cases h1:t.kind=1
 ·rw[ZbG h1];exact hf _
 ·rw[ZeV h1,Tm.pv_eq]
  refine⟨fun e=>absurd e (by rw[ZrD];exact h1),fun u hu=>?_⟩
  rw[mk_l] at hu
  obtain⟨v,hv,rfl⟩:=List.mem_map.1 hu
  exact ih v hv (((Tm.pv_eq t).1 h).2 v hv)
theorem Idm.bind {B:Bnd} {σ:Int→Tm} (h:Idm B σ) {n:Int} {t:Tm} (hn:n∉B.map (·.1)) (ht:t.pv) (ho:n∉(t.app σ).vars []):Idm (B++[(n,t)]) (fun m=>(σ m).app fun k=>if k=n then t.app σ else tV k):=by
 obtain⟨f,hf⟩:∃f:Int→Tm,f=fun k=>if k=n then t.app σ else tV k:=⟨_,rfl⟩
 have tp:(t.app σ).pv:=Zua h.pv t ht
 have fp:∀k,(f k).pv:=fun k=>by rw[hf];dsimp only;split;exact tp;exact Zwy k
 have fself:(t.app σ).app f=t.app σ:=ZsY tp fun k hk=>by
  rw[hf];dsimp only;rw[if_neg];rintro rfl;exact ho hk
 rw[←hf]
 have fσ:∀u:Tm,u.app (fun m=>(σ m).app f)=(u.app σ).app f:=fun u=>(ZrU σ f u).symm
 refine⟨by rw[List.map_append];exact List.nodup_append.2 ⟨h.once,by simp,fun a ha b hb=>by simp at hb;subst hb;rintro rfl;exact hn ha⟩,fun m hm=>?_,fun x hx=>?_,fun m k hk=>?_,fun m=>Zua fp _ (h.pv m),fun θ hs m=>?_⟩
 ·rw[List.map_append,List.mem_append,not_or] at hm
  have h2:m≠n:=by simpa using hm.2
  show (σ m).app f=_
  rw[h.free m hm.1,ZnS,hf]
  show (if m=n then _ else _)=_
  rw[if_neg h2]
 ·rcases List.mem_append.1 hx with g | g
  ·show (σ x.1).app f=_
   rw[fσ,h.sol x g]
  ·simp at g
   subst g
   show (σ n).app f=t.app _
   rw[fσ,fself,h.free n hn,ZnS,hf]
   show (if n=n then _ else _)=_
   rw[if_pos rfl]
 ·obtain⟨j,hj,hk⟩:=Zrk f _ k hk
  rw[List.map_append,List.mem_append,not_or]
  rw[hf] at hk
  dsimp only at hk
  split at hk
  ·obtain⟨i,_,hi⟩:=Zrk σ t k hk
   exact⟨h.out i k hi,by simp;rintro rfl;exact ho hk⟩
  ·rename_i hjn
   rw[Zrr] at hk
   simp at hk
   subst hk
   exact⟨h.out m k hj,by simpa using hjn⟩
 ·have hB:SolB B θ:=fun x hx=>hs x (by simp [hx])
  have e:=hs (n,t) (by simp)
  show ((σ m).app f).app θ=_
  rw[ZrU,ZkM (σ m) (g:=θ) (fun k _=>?_)]
  ·exact h.thru θ hB m
  ·rw[hf]
   dsimp only
   split
   ·rename_i hk
    rw[hk,h.go hB];exact e.symm
   ·exact ZnS
inductive WB (B:Bnd):Tm→Tm→Prop
 | stop {t:Tm} (h:t.kind≠1∨t.n∉B.map (·.1)):WB B t t
 | step {t u v:Tm} (h:t.kind=1) (hb:(t.n,u)∈B) (hw:WB B u v):WB B t v
theorem WB.val {B:Bnd} {θ:Int→Tm} (hs:SolB B θ) {t u:Tm} (h:WB B t u):t.app θ=u.app θ:=by
 induction h with
 | stop _=>rfl
 | step h hb _ ih=>rw[ZbG h,←ih];exact hs _ hb
theorem WB.last {B:Bnd} {t u:Tm} (h:WB B t u):u.kind≠1∨u.n∉B.map (·.1):=by
 induction h with
 | stop h=>exact h
 | step _ _ _ ih=>exact ih
def OrdB (B:Bnd):Prop:=∀i j (hi:i<B.length) (hj:j<B.length),B[i].2.kind=1→B[j].1=B[i].2.n→i<j
theorem OrdB.take {B:Bnd} (h:OrdB B) (k:Nat):OrdB (B.take k):=fun i j hi hj h1 h2=>by
 rw[List.length_take] at hi hj
 simp only[List.getElem_take] at h1 h2
 exact h i j (by omega) (by omega) h1 h2
theorem OrdB.snoc {B:Bnd} (h:OrdB B) {n:Int} {t:Tm} (hn:n∉B.map (·.1)) (ht:t.kind=1→t.n∉B.map (·.1)∧t.n≠n):OrdB (B++[(n,t)]):=fun i j hi hj h1 h2=>by
 rw[List.length_append,List.length_singleton] at hi hj
 by_cases e:i<B.length
 ·by_cases e2:j<B.length
  ·rw[List.getElem_append_left e] at h1
   rw[List.getElem_append_left e,List.getElem_append_left e2] at h2
   exact h i j e e2 h1 h2
  ·omega
 ·exfalso
  have:i=B.length:=by omega
  subst this
  simp at h1 h2
  obtain⟨a,b⟩:=ht h1
  by_cases e2:j<B.length
  ·rw[List.getElem_append_left e2] at h2
   exact a (by rw[←h2];exact List.mem_map_of_mem (List.getElem_mem e2))
  ·have:j=B.length:=by omega
   subst this
   simp at h2
   exact b h2.symm
structure RelS (C:List Wd) (L:List Slot) (FL:List Fn.Slot) (B:Bnd) (c:Int→Nat) (ks:List Int):Prop where
 to_:∀θ,Sol C L FL θ→SolB B fun n=>θ (c n)
 of_:∀θ',SolB B θ'→∃θ,Sol C L FL θ∧∀n∈ks,θ (c n)=θ' n
section
variable {C:List Wd} {L:List Slot} {FL:List Fn.Slot} {B:Bnd} {c:Int→Nat} {ks:List Int}
theorem RelS.init (ac:Acy C L FL) (hc:∀n∈ks,C[c n]?=some (.ref (c n))) (inj:∀a∈ks,∀b∈ks,c a=c b→a=b):RelS C L FL [] c ks:=by
 refine⟨fun θ _=>?_,fun θ' _=>?_⟩
 ·intro x hx;cases hx
 classical
 refine⟨_,ac.sol fun m=>match ks.find? fun n=>decide ((c n:Int)=m) with | some n=>θ' n | none=>tV 0,fun n hn=>?_⟩
 have e:sol0 C L FL (fun m=>match ks.find? fun n=>decide ((c n:Int)=m) with | some n=>θ' n | none=>tV 0) (c n)=(tV (c n:Int)).app (fun m=>match ks.find? fun n=>decide ((c n:Int)=m) with | some n=>θ' n | none=>tV 0):=by
  unfold sol0
  rw[Ztz (ZqU (hc n hn))]
 rw[e,ZnS]
 rcases hf:ks.find? fun q=>decide ((c q:Int)=(c n:Int)) with _ | q
 ·have:=List.find?_eq_none.1 hf n hn
  simp at this
 ·have h1:=List.find?_some hf
  have h2:=List.mem_of_find?_eq_some hf
  simp at h1
  dsimp only
  rw[inj q h2 n hn (by omega)]
theorem RelS.unify {C':List Wd} {B':Bnd} {a b:Tm} {x y:Wd} (h:RelS C L FL B c ks) (ha:∀n∈a.vars [],n∈ks) (hb:∀n∈b.vars [],n∈ks)
  (hx:∀θ,Sol C L FL θ→wval C L FL θ x=a.app fun n=>θ (c n)) (hy:∀θ,Sol C L FL θ→wval C L FL θ y=b.app fun n=>θ (c n))
  (hC:∀θ,Sol C' L FL θ↔Sol C L FL θ∧wval C L FL θ x=wval C L FL θ y) (hB:∀θ,SolB B' θ↔SolB B θ∧a.app θ=b.app θ):RelS C' L FL B' c ks:=by
 refine⟨fun θ hs=>?_,fun θ' hs=>?_⟩
 ·obtain⟨h1,h2⟩:=(hC θ).1 hs
  rw[hx θ h1,hy θ h1] at h2
  exact(hB _).2 ⟨h.to_ θ h1,h2⟩
 ·obtain⟨h1,h2⟩:=(hB θ').1 hs
  obtain⟨θ,h3,h4⟩:=h.of_ θ' h1
  refine⟨θ,(hC θ).2 ⟨h3,?_⟩,h4⟩
  rw[hx θ h3,hy θ h3,ZkM a (g:=θ') fun n hn=>h4 n (ha n hn),ZkM b (g:=θ') fun n hn=>h4 n (hb n hn)]
  exact h2
theorem RelS.same {B:Bnd} {σ:Int→Tm} {a b:Tm} {x y:Wd} {ok ok':Bool} {C':List Wd} {B':Bnd} {σ':Int→Tm} (h:RelS C L FL B c ks) (ha:∀n∈a.vars [],n∈ks) (hb:∀n∈b.vars [],n∈ks)
  (hx:∀θ,Sol C L FL θ→wval C L FL θ x=a.app fun n=>θ (c n)) (hy:∀θ,Sol C L FL θ→wval C L FL θ y=b.app fun n=>θ (c n))
  (ac':Acy C' L FL) (hC:ok=true→∀θ,Sol C' L FL θ↔Sol C L FL θ∧wval C L FL θ x=wval C L FL θ y) (hCn:ok=false→∀θ,Sol C L FL θ→wval C L FL θ x≠wval C L FL θ y)
  (id':ok'=true→Idm B' σ') (hB:ok'=true→∀θ,SolB B' θ↔SolB B θ∧a.app θ=b.app θ) (hBn:ok'=false→∀θ,SolB B θ→a.app θ≠b.app θ):ok=ok':=by
 cases ok with
 | true=>
  cases ok' with
  | true=>rfl
  | false=>
   exfalso
   obtain⟨h1,h2⟩:=(hC rfl _).1 (ac'.sol tV)
   rw[hx _ h1,hy _ h1] at h2
   exact hBn rfl _ (h.to_ _ h1) h2
 | false=>
  cases ok' with
  | false=>rfl
  | true=>
   exfalso
   obtain⟨h1,h2⟩:=(hB rfl _).1 (id' rfl).sol
   obtain⟨θ,h3,h4⟩:=h.of_ _ h1
   refine hCn rfl θ h3 ?_
   rw[hx θ h3,hy θ h3,ZkM a (g:=σ') fun n hn=>h4 n (ha n hn),ZkM b (g:=σ') fun n hn=>h4 n (hb n hn)]
   exact h2
theorem RelS.told {σ:Int→Tm} {l ts:List Tm} {xs:List Wd} (h:RelS C L FL B c ks) (id:Idm B σ) (ac:Acy C L FL) (hl:∀t∈l,(∀n∈t.vars [],n∈ks)∧t.pv) (n1:ts.length=l.length) (n2:xs.length=l.length)
  (hx:∀i (h1:i<l.length) (h2:i<xs.length),∀θ,Sol C L FL θ→wval C L FL θ xs[i]=l[i].app fun n=>θ (c n)) (ht:∀i (h1:i<ts.length) (h2:i<xs.length),Ev C L FL ts[i] xs[i]) :
  ∃r:Int→Int,ts=(l.map (Tm.app σ)).map (Tm.ren r)∧(∀a∈varsL (l.map (Tm.app σ)) [],∀b∈varsL (l.map (Tm.app σ)) [],r a=r b→a=b):=by
 have s1:=ac.sol tV
 obtain⟨θ2,s2,e2⟩:=h.of_ σ id.sol
 have tp:∀t∈ts,t.pv:=fun t ht'=>by
  obtain⟨i,hi,rfl⟩:=List.getElem_of_mem ht'
  exact Ev.pv _ (ht i hi (by omega))
 have up:∀u∈l.map (Tm.app σ),u.pv:=fun u hu=>by
  obtain⟨t,ht',rfl⟩:=List.mem_map.1 hu
  exact Zua id.pv t (hl t ht').2
 refine variants (f:=fun n=>sol0 C L FL tV (c n)) (g:=fun n=>θ2 n.toNat) tp up ?_ ?_
 ·refine List.ext_getElem (by simp [n1]) fun i h1 h2=>?_
  simp only[List.getElem_map]
  have g1:=hx i (by omega) (by omega) _ s1
  rw[ZpS (ht i h1 (by omega)),ZsY (tp _ (List.getElem_mem h1)) fun _ _=>rfl] at g1
  rw[id.go (h.to_ _ s1)]
  exact g1
 ·refine List.ext_getElem (by simp [n1]) fun i h1 h2=>?_
  simp only[List.getElem_map]
  rw[List.length_map] at h1
  have g1:=hx i h1 (by omega) _ s2
  have g2:=s2.ev _ (ht i (by omega) (by omega))
  rw[←g2,g1]
  exact(ZkM _ fun n hn=>e2 n ((hl _ (List.getElem_mem h1)).1 n hn)).symm
end
def bdC (x:Int×TmP):List Value:=.int .i64 x.1::tmC x.2
def atM (B:Bnd):List (Int×Value):=B.zipIdx.map fun x=>(x.1.1,.int .i64 (x.2:Nat))
theorem Zum (B:Bnd) (n:Int) (t:Tm):atM (B++[(n,t)])=atM B++[(n,.int .i64 (B.length:Nat))]:=by
 unfold atM
 rw[List.zipIdx_append,List.map_append]
 simp
theorem ZvB {n:Int}:∀{B:Bnd},(B.map (·.1)).Nodup→(n∉B.map (·.1)→Go.D.look n (atM B)=none)∧∀i (hi:i<B.length),B[i].1=n→Go.D.look n (atM B)=some (.int .i64 (i:Nat)):=by
 have gen:∀(B:Bnd) (k:Nat),(B.map (·.1)).Nodup→(n∉B.map (·.1)→Go.D.look n ((B.zipIdx k).map fun x=>(x.1.1,Value.int .i64 (x.2:Nat)))=none)∧∀i (hi:i<B.length),B[i].1=n→Go.D.look n ((B.zipIdx k).map fun x=>(x.1.1,Value.int .i64 (x.2:Nat)))=some (.int .i64 ((k+i:Nat):Int)):=by
  intro B
  induction B with
  | nil=>intro k _;exact⟨fun _=>rfl,fun i hi=>absurd hi (by simp)⟩
  | cons x B ih=>
   intro k hnd
   rw[List.map_cons,List.nodup_cons] at hnd
   obtain⟨a,b⟩:=ih (k+1) hnd.2
   constructor
   ·intro hn
    rw[List.map_cons,List.mem_cons,not_or] at hn
    rw[List.zipIdx_cons,List.map_cons,ZdS,if_neg hn.1]
    exact a hn.2
   ·intro i hi e
    rw[List.zipIdx_cons,List.map_cons]
    match i with
    | 0=>
     have e:x.1=n:=e
     rw[ZdS,if_pos e.symm];rfl
    | j+1=>
     have e:(B[j]'(by simpa using hi)).1=n:=e
     have hne:x.1≠n:=fun h=>hnd.1 (by rw[h,←e];exact List.mem_map_of_mem (List.getElem_mem _))
     rw[ZdS,if_neg (Ne.symm hne)]
     have:=b j (by simpa using hi) e
     rw[show k+(j+1)=k+1+j by omega]
     exact this
 intro B h
 obtain⟨a,b⟩:=gen B 0 h
 exact⟨a,fun i hi e=>by have:=b i hi e;rwa [Nat.zero_add] at this⟩
structure SbD where
 b:Nat
 r:Nat
 p:Option Addr
 c:Nat
 G:List Nat
def SbD.a (d:SbD):Option Addr:=some ⟨d.b,0,none⟩
structure Sb (w:World) (d:SbD) (B:Bnd) (F:List Nat):Prop where
 blk:Blk w d.b #[.slice d.p B.length d.c,.map (some d.r)]
 row:∃L:List (Int×TmP),L.map (fun x=>(x.1,x.2.1))=B∧SlAt w 5 d.p B.length d.c (L.flatMap bdC) d.G∧∀x∈L,x.2.1.s.size<2^63∧RdA w F x.2.1.l x.2.2.1 0
 map:MapAt w d.r (fun a:Int=>Value.int .i64 a) (atM B)
 once:(B.map (·.1)).Nodup
 inn:In F w
 br:d.b≠d.r
 bG:d.b∉d.G
 rG:d.r∉d.G
 dis:Dis (d.b::d.r::d.G) F
theorem Sb.keep {w w':World} {d:SbD} {B:Bnd} {F:List Nat} (h:Sb w d B F) (u:Upd [] w w'):Sb w' d B F:=by
 obtain⟨L,e1,e2,e3⟩:=h.row
 exact⟨h.blk.upd u (by simp),⟨L,e1,e2.upd u (by intro k _ h;cases h),fun x hx=>⟨(e3 x hx).1,RdA.keep u (e3 x hx).2⟩⟩,h.map.upd u (by simp),h.once,h.inn.upd u,h.br,h.bG,h.rG,h.dis⟩
theorem Zxj:∀{L:List (Int×TmP)} {i:Nat} (hi:i<L.length) {j:Nat},j<5→(L.flatMap bdC)[i*5+j]?=(bdC L[i])[j]?
 | x::L,0,hi,j,hj=>by
  rw[List.flatMap_cons,List.getElem?_append_left (by simp [bdC,tmC];omega)];simp
 | x::L,i+1,hi,j,hj=>by
  rw[List.flatMap_cons,List.getElem?_append_right (by simp [bdC,tmC];omega)]
  have:=Zxj (L:=L) (i:=i) (by simpa using hi) hj
  rw[show (i+1)*5+j-(bdC x).length=i*5+j by simp [bdC,tmC];omega]
  simpa using this
theorem Sb.at {w:World} {d:SbD} {B:Bnd} {F:List Nat} (h:Sb w d B F) {i:Nat} (hi:i<B.length):∃bb off q c,d.p=some ⟨bb,off,none⟩∧(∀j,j<5→w.cell? ⟨bb,off+(i*5+j),none⟩=(bdC (B[i].1,B[i].2,q,c))[j]?)∧B[i].2.s.size<2^63∧RdA w F B[i].2.l q 0:=by
 obtain⟨L,e1,e2,e3⟩:=h.row
 have hl:L.length=B.length:=by rw[←e1,List.length_map]
 have hiL:i<L.length:=by omega
 have eB:B[i]=(L[i].1,L[i].2.1):=by simp [←e1]
 rcases e2.2.2 with ⟨_,hc,_⟩ | ⟨bb,off,arr,hp,hG,hb,hs,hc⟩
 ·have:=e2.2.1;omega
 ·refine⟨bb,off,L[i].2.2.1,L[i].2.2.2,hp,fun j hj=>?_,?_,?_⟩
  ·rw[hb.cell,hc (i*5+j) (by omega),Zxj hiL hj,eB]
  ·rw[eB];exact(e3 _ (List.getElem_mem hiL)).1
  ·rw[eB];exact(e3 _ (List.getElem_mem hiL)).2
section
variable {w:World} {d:SbD} {B:Bnd} {F:List Nat}
theorem Zs0 {n:Int} {K:Int→Int→ByteArray→Option Addr→Nat→Nat→Bool→World→Prop} (h:Sb w d B F)
  (hno:n∉B.map (·.1)→∀w',Sb w' d B F→Upd [] w w'→K 0 0 ⟨#[]⟩ none 0 0 false w')
  (hyes:∀i (hi:i<B.length),B[i].1=n→∀q c w',Sb w' d B F→Upd [] w w'→RdA w' F B[i].2.l q 0→B[i].2.s.size<2^63→K B[i].2.kind B[i].2.n B[i].2.s q B[i].2.l.length c true w'):Zax d.a n w K:=by
 apply Zax.of
 unfold ZiT
 refine Zai fun r w1 hr u1 b1=>?_
 have h1:=h.keep u1
 simp only[SbD.a,X_,h1.blk.cell]
 refine ZkT (κ:=Int) (kt:=3) (et:=3) (inj:=fun a:Int=>Value.int .i64 a) (z:=.int .i64 0) (k:=n) mapKey (by rfl) ⟨_,rfl,rfl⟩ h1.map ?_
 obtain⟨l1,l2⟩:=ZvB (n:=n) h.once
 have fresh:∀{z:World},Upd [r] w1 z→Upd [] w z:=fun u=>u1.fresh u (by intro x hx;simp at hx;omega)
 by_cases hn:n∈B.map (·.1)
 ·obtain⟨x,hx,e⟩:=List.mem_map.1 hn
  obtain⟨i,hi,rfl⟩:=List.getElem_of_mem hx
  rw[l2 i hi e]
  refine⟨(i:Int),true,rfl,ifF rfl ?_⟩
  obtain⟨bb,off,q,c,hp,hc,hs,ra⟩:=h1.at hi
  have c1:=hc 1 (by omega);have c2:=hc 2 (by omega);have c3:=hc 3 (by omega);have c4:=hc 4 (by omega)
  simp only[bdC,tmC,List.getElem?_cons_zero,List.getElem?_cons_succ] at c1 c2 c3 c4
  simp only[X_,h1.blk.cell,hp,addA,addN,Int.toNat_natCast,Nat.add_assoc,Nat.reduceAdd,c1,c2,c3,c4]
  refine⟨by omega,by omega,?_⟩
  refine St4q b1 rfl rfl rfl rfl fun w2 u2 b2=>?_
  simp only[X_,b2.cell]
  have U2:=fresh u2
  exact hyes i hi e q c w2 (h.keep U2) U2 (RdA.upd' u2 (fun k hk hx=>by simp at hx;have:=h.inn k hk;omega) ra) hs
 ·rw[l1 hn]
  refine⟨0,false,rfl,ifT rfl ?_⟩
  refine St4q b1 rfl rfl rfl rfl fun w2 u2 b2=>?_
  simp only[X_,b2.cell]
  have U2:=fresh u2
  exact hno hn w2 (h.keep U2) U2
theorem ZsN {t:Tm} {q:Option Addr} {c:Nat} {K:Int→Int→ByteArray→Option Addr→Nat→Nat→World→Prop} (h:Sb w d B F) (ord:OrdB B) (ht:RdA w F t.l q 0) (hs:t.s.size<2^63)
  (hK:∀u q c w',WB B t u→Sb w' d B F→Upd [] w w'→RdA w' F u.l q 0→u.s.size<2^63→K u.kind u.n u.s q u.l.length c w'):ZaL d.a t.kind t.n t.s q t.l.length c w K:=by
 apply ZaL.of
 unfold ZjH ZgP
 refine Zai fun r w1 hr u1 b1=>Zai fun r1 w2 hr1 u2 b2=>?_
 have b1':=b1.upd u2 (by simp)
 have U2:=u1.after u2
 have s1:=u1.size
 have s2:=u2.size
 have rl:=b1.lt
 have FL:∀k∈F,k<w.heap.size:=h.inn
 refine⟨fun _ z=>∃(u:Tm) (q:Option Addr) (c:Nat),(∀v,WB B u v→WB B t v)∧Blk z r #[.int .i64 u.kind,.int .i64 u.n,.string u.s,.slice q u.l.length c]∧Blk z r1 #[.int .i64 0,.int .i64 0,.string ⟨#[]⟩,.slice none 0 0]∧RdA z F u.l q 0∧u.s.size<2^63∧Sb z d B F∧Upd [r] w2 z,fun _ z=>match z.cell? ⟨r,0,none⟩,z.cell? ⟨r,1,none⟩ with
  | some (.int _ k),some (.int _ n)=>if k=1 then (if n∈B.map (·.1) then B.length-(B.map (·.1)).idxOf n+1 else 1) else 0
  | _,_=>0,⟨t,q,c,fun _ h=>h,b1',b2,RdA.keep U2 ht,hs,h.keep U2,Upd.refl _ _⟩,?_⟩
 rintro⟨⟩ z ⟨u,q',c',hwb,bz,bz1,ra,hsu,hz,uz⟩
 unfold Zg1
 have zsz:=uz.size
 have fin:∀{z':World},Upd [] z z'→(u.kind≠1∨u.n∉B.map (·.1))→∃t200:Int,z'.cell? ((⟨r,0,none⟩:Addr).add 0)=some (.int .i64 t200)∧∃t201:Int,z'.cell? ((⟨r,0,none⟩:Addr).add 1)=some (.int .i64 t201)∧∃t202:ByteArray,z'.cell? ((⟨r,0,none⟩:Addr).add 2)=some (.string t202)∧
   ∃t203P:Option Addr,∃t203N:Nat,∃t203C:Nat,z'.cell? ((⟨r,0,none⟩:Addr).add 3)=some (.slice t203P t203N t203C)∧
   St z' ((⟨r1,0,none⟩:Addr).add 0) (.int .i64 t200) fun w1_13=>St w1_13 ((⟨r1,0,none⟩:Addr).add 1) (.int .i64 t201) fun w1_14=>St w1_14 ((⟨r1,0,none⟩:Addr).add 2) (.string t202) fun w1_15=>St w1_15 ((⟨r1,0,none⟩:Addr).add 3) (.slice t203P t203N t203C) fun w1_16=>
   ∃r_3:Int,w1_16.cell? ((⟨r1,0,none⟩:Addr).add 0)=some (.int .i64 r_3)∧∃r_4:Int,w1_16.cell? ((⟨r1,0,none⟩:Addr).add 1)=some (.int .i64 r_4)∧∃r_5:ByteArray,w1_16.cell? ((⟨r1,0,none⟩:Addr).add 2)=some (.string r_5)∧
   ∃rP:Option Addr,∃rN:Nat,∃rC:Nat,w1_16.cell? ((⟨r1,0,none⟩:Addr).add 3)=some (.slice rP rN rC)∧K r_3 r_4 r_5 rP rN rC w1_16:=by
  intro z' u' hst
  have bz':=bz.upd u' (by simp)
  simp only[X_,bz'.cell]
  refine St4q (bz1.upd u' (by simp)) rfl rfl rfl rfl fun w3 u3 b3=>?_
  simp only[X_,b3.cell]
  have Uz:Upd [] w z':=(U2.fresh uz (by intro x hx;simp at hx;omega)).after u'
  have U3:Upd [] w w3:=Uz.fresh u3 (by intro x hx;simp at hx;omega)
  have dF:Dis F [r1]:=fun k hk hx=>by simp at hx;have:=FL k hk;omega
  exact hK u q' c' w3 (hwb u (.stop hst)) (h.keep U3) U3 (RdA.upd' u3 dF (RdA.keep u' ra)) hsu
 refine⟨u.kind,bz.cell 0,ifC (fun g=>⟨u.n,bz.cell 1,?_⟩) (fun g=>fin (Upd.refl [] z) (.inl (by simpa using g)))⟩
 have k1:u.kind=1:=by simpa using g
 refine Zs0 hz (fun hn z1 hz1 v1=>?_) (fun i hi e q2 c2 z1 hz1 v1 ra1 hs1=>?_)
 ·refine Zai fun r2 z2 hr2 v2 b2=>St4q b2 rfl rfl rfl rfl fun z3 v3 b3=>ifT rfl ?_
  have vz:Upd [] z z3:=(v1.after v2).fresh v3 (by intro x hx;simp at hx;have:=v1.size;omega)
  exact fin vz (.inr hn)
 ·refine Zai fun r2 z2 hr2 v2 b2=>St4q b2 rfl rfl rfl rfl fun z3 v3 b3=>ifF rfl ?_
  have vz:Upd [] z z3:=(v1.after v2).fresh v3 (by intro x hx;simp at hx;have:=v1.size;omega)
  refine⟨_,b3.cell 0,_,b3.cell 1,_,b3.cell 2,_,_,_,b3.cell 3,?_⟩
  have bz3:=bz.upd vz (by simp)
  refine St4q bz3 rfl rfl rfl rfl fun z4 v4 b4=>?_
  have r1r:r1≠r:=by omega
  have bz14:=(bz1.upd vz (by simp)).upd v4 (by simpa using r1r)
  have Uz4:Upd [r] w2 z4:=(uz.before vz).both v4
  have U4:Upd [] w z4:=U2.fresh Uz4 (by intro x hx;simp at hx;omega)
  have dF:Dis F [r]:=fun k hk hx=>by simp at hx;have:=FL k hk;omega
  have dF2:Dis F [r2]:=fun k hk hx=>by simp at hx;have:=FL k hk;have:=U2.size;have:=v1.size;omega
  have ra4:RdA z4 F B[i].2.l q2 0:=RdA.upd' v4 dF (RdA.upd' v3 dF2 (RdA.keep v2 ra1))
  have hmem:(u.n,B[i].2)∈B:=by rw[←e];exact List.getElem_mem hi
  refine⟨⟨B[i].2,q2,c2,fun v hv=>hwb v (.step k1 hmem hv),b4,bz14,ra4,hs1,h.keep U4,Uz4⟩,?_⟩
  have m0:z.cell? ⟨r,0,none⟩=some (.int .i64 u.kind):=bz.cell 0
  have m1:z.cell? ⟨r,1,none⟩=some (.int .i64 u.n):=bz.cell 1
  have m2:z4.cell? ⟨r,0,none⟩=some (.int .i64 B[i].2.kind):=b4.cell 0
  have m3:z4.cell? ⟨r,1,none⟩=some (.int .i64 B[i].2.n):=b4.cell 1
  simp only[m0,m1,m2,m3]
  have hin:u.n∈B.map (·.1):=List.mem_map.2 ⟨_,hmem,rfl⟩
  rw[if_pos k1,if_pos hin]
  have hil:i<(B.map (·.1)).length:=by rw[List.length_map];exact hi
  have ix:∀{j:Nat} (hj:j<B.length) {m:Int},B[j].1=m→(B.map (·.1)).idxOf m=j:=fun {j} hj {m} em=>by
   have hj':j<(B.map (·.1)).length:=by rw[List.length_map];exact hj
   have:=h.once.idxOf_getElem j hj'
   rwa [List.getElem_map,em] at this
  rw[ix hi e]
  split
  ·rename_i k2
   split
   ·rename_i hin2
    obtain⟨y,hy,ey⟩:=List.mem_map.1 hin2
    obtain⟨j,hj,rfl⟩:=List.getElem_of_mem hy
    rw[ix hj ey]
    have:=ord i j hi hj k2 ey
    omega
   ·omega
  ·omega
end
theorem Zxe {B:Bnd} {n:Int} {t:Tm} (h:n∉B.map (·.1)):drop1 n (atM (B++[(n,t)]))=atM B:=by
 have hk:∀x∈atM B,x.1≠n:=fun x hx e=>by
  unfold atM at hx
  obtain⟨y,hy,rfl⟩:=List.mem_map.1 hx
  have:=List.fst_mem_of_mem_zipIdx hy
  exact h (by rw[←e];exact List.mem_map_of_mem this)
 rw[Zum]
 generalize atM B=M at hk
 induction M with
 | nil=>simp [drop1]
 | cons x M ih=>
  rw[List.cons_append,drop1,if_neg (by simpa using (hk x (by simp)).symm),ih fun y hy=>hk y (by simp [hy])]
theorem ZuE:∀{L:List (Int×TmP)} {m:Nat},(L.flatMap bdC).take (m*5)=(L.take m).flatMap bdC
 | [],m=>by simp
 | x::L,0=>by simp
 | x::L,m+1=>by
  have hx:(bdC x).length=5:=by simp [bdC,tmC]
  rw[List.flatMap_cons,List.take_succ_cons,List.flatMap_cons,List.take_append,hx,List.take_of_length_le (by omega),show (m+1)*5-5=m*5 by omega,ZuE]
section
variable {w:World} {d:SbD} {B:Bnd} {F:List Nat}
theorem Zuh {n:Nat} {K:World→Prop} (h:Sb w d B F) (hn:n≤B.length) (hl:B.length<2^40) (hK:∀w',Sb w' d (B.take n) F→Upd (d.b::d.r::d.G) w w'→K w'):Za6 d.a (n:Int) w K:=by
 apply Za6.of
 unfold ZjD ZgU
 refine⟨fun _ z=>∃k,n≤k∧k≤B.length∧Sb z d (B.take k) F∧Upd (d.b::d.r::d.G) w z,fun _ z=>match z.cell? ⟨d.b,0,none⟩ with
  | some (.slice _ k _)=>k
  | _=>0,⟨B.length,hn,Nat.le_refl _,by rw[List.take_length];exact h,Upd.refl _ _⟩,?_⟩
 rintro⟨⟩ z ⟨k,hk1,hk2,hz,uz⟩
 unfold ZgZ
 have lk:(B.take k).length=k:=by rw[List.length_take];omega
 have hc0:=hz.blk.cell 0
 rw[lk] at hc0
 have hblk:=hz.blk.cell
 simp only[SbD.a,X_,hblk,lk]
 refine ifC (fun g=>?_) (fun g=>?_)
 ·have g:=of_decide_eq_true g
  have gk:0<k:=by omega
  rw[i64id (x:=(k:Int)-1) (by omega) (by omega)]
  obtain⟨bb,off,q,c,hp,hc,_⟩:=hz.at (i:=k-1) (by omega)
  have c0:=hc 0 (by omega)
  simp only[bdC,List.getElem?_cons_zero,Nat.add_zero] at c0
  have e1:((k:Int)-1).toNat=k-1:=by omega
  simp only[hp,e1,X_,Nat.add_zero,c0]
  obtain⟨L,el,hrow,hL⟩:=hz.row
  have hkc:k≤d.c:=by have:=hrow.2.1;omega
  have eB:B.take k=B.take (k-1)++[B[k-1]'(by omega)]:=by
   have:=Zca (l:=B) (i:=k-1) (by omega)
   rwa [show k-1+1=k by omega] at this
  have eg:(B.take k)[k-1]'(by omega)=B[k-1]'(by omega):=List.getElem_take
  have hnd:=hz.once
  have ed:drop1 ((B.take k)[k-1]'(by omega)).1 (atM (B.take k))=atM (B.take (k-1)):=by
   rw[eg]
   conv=>lhs;rw[eB]
   refine Zxe (n:=(B[k-1]'(by omega)).1) (t:=(B[k-1]'(by omega)).2) fun hx=>?_
   rw[eB,List.map_append,List.nodup_append] at hnd
   exact hnd.2.2 _ hx _ (by simp) rfl
  have ud:=Zah z
  have hzd:=hz.keep ud
  refine⟨by omega,by omega,Zw6 (κ:=Int) (kt:=3) (et:=3) (inj:=fun a:Int=>Value.int .i64 a) mapKey (by rfl) (k:=((B.take k)[k-1]'(by omega)).1) hzd.map fun _ z1 hm1 v1=>?_⟩
  rw[ed] at hm1
  have b1:=hzd.blk.upd v1 (by simpa using hz.br)
  rw[lk] at b1
  simp only[X_,b1.cell]
  rw[i64id (by omega) (by omega),e1]
  refine⟨by omega,by omega,Zbi (b1.upd (Zah z1) (by simp)) (by simp) rfl fun z2 v2 b2=>?_⟩
  simp at b2
  have V1:Upd (d.b::d.r::d.G) z z1:=(ud.after v1).mono fun x hx=>.inl (by simp at hx;simp [hx])
  have V2:Upd (d.b::d.r::d.G) z z2:=(V1.before (Zah z1)).both (v2.mono fun x hx=>.inl (by simp at hx;simp [hx]))
  have lk1:(B.take (k-1)).length=k-1:=by rw[List.length_take];omega
  have dF:Dis F (d.b::d.r::d.G):=hz.dis.symm
  refine⟨⟨k-1,by omega,by omega,⟨by rw[lk1];exact b2,⟨L.take (k-1),?_,?_,fun x hx=>?_⟩,(hm1.upd (Zah z1) (by simp)).upd v2 (by simpa using Ne.symm hz.br),?_,hz.inn.upd V2,hz.br,hz.bG,hz.rG,hz.dis⟩,uz.both V2⟩,?_⟩
  ·rw[List.map_take,el,List.take_take]
   congr 1;omega
  ·rw[lk1,←ZuE]
   rw[lk] at hrow
   have r1:=((hrow.upd (ud.after v1) (fun x hx hy=>by simp at hy;subst hy;exact hz.rG hx)).upd (Zah z1) (by intro x _ h;cases h)).upd v2 (fun x hx hy=>by simp at hy;subst hy;exact hz.bG hx)
   exact r1.take (k:=k-1) (by omega)
  ·have:=hL x (List.mem_of_mem_take hx)
   exact⟨this.1,RdA.upd' V2 dF this.2⟩
  ·rw[eB,List.map_append,List.nodup_append] at hnd
   exact hnd.1
  ·have:=b2.cell 0
   simp only[this]
   show k-1<k
   omega
 ·have g:=of_decide_eq_false g
  obtain rfl:k=n:=by omega
  exact hK z hz uz
end
section
variable {w v:World} {d5 d:HpD} {E:List Nat} {C:List Wd} {k B:Nat} {r:List Snp}
theorem ZuJ {α:Type} {l:List α} {x:α}:((x::l).reverse).dropLast=l.reverse:=by
 rw[List.reverse_cons,List.dropLast_concat]
theorem ChI.close {q q2:Snp} {K:Int→World→Prop} (hc:ChI d5 k B d C (q::q2::r)) (h:Hp w v d E)
  (hK:∀v' d',Hp w v' d' E→ChI d5 k B d' C (q2::r)→d'.TL=d.TL→Far E v v'→K 0 v'):Za4 d5.a v K:=by
 rw[←hc.a]
 refine ZsC h hc.hi (by rw[hc.st];simp) fun v1 d1 h1 hi1 kin eT est emk f1=>hK v1 d1 h1 ⟨hi1,kin.a.trans hc.a,kin.tlim.trans hc.tlim,kin.L.trans hc.L,kin.FL.trans hc.FL,?_,?_,?_,fun x hx=>hc.wf x (by simp [hx]),by rw[eT];exact hc.room⟩ eT f1
 ·rw[eT]
  obtain⟨C1,T1⟩:=q
  obtain⟨C0,T0⟩:=q2
  exact hc.ch.close
 ·rw[est,hc.st,List.map_cons];exact ZuJ
 ·rw[emk,hc.mrk,List.map_cons];exact ZuJ
end
def HitB (B:Bnd) (n:Int) (SN:List Int) (t:Tm):Prop:=∀m∈t.vars [],m≠n∧(m∈B.map (·.1)→m∈SN)
def CloB (B:Bnd) (n:Int) (SN:List Int) (m:Int):Prop:=∀u,(m,u)∈B→HitB B n SN u
theorem HitB.mono {B:Bnd} {n:Int} {SN SN':List Int} {t:Tm} (h:HitB B n SN t) (hs:∀x∈SN,x∈SN'):HitB B n SN' t:=fun m hm=>⟨(h m hm).1,fun e=>hs m ((h m hm).2 e)⟩
theorem CloB.mono {B:Bnd} {n m:Int} {SN SN':List Int} (h:CloB B n SN m) (hs:∀x∈SN,x∈SN'):CloB B n SN' m:=fun u hu=>(h u hu).mono hs
theorem ZxO {B:Bnd} {σ:Int→Tm} (id:Idm B σ) (ord:OrdB B) {n:Int} (hn:n∉B.map (·.1)) {SN:List Int} (hc:∀m∈SN,CloB B n SN m):∀(N M:Nat) (m:Int),m≠n→(m∈B.map (·.1)→m∈SN)→(σ m).size≤N→B.length-(B.map (·.1)).idxOf m≤M→n∉(σ m).vars []:=by
 intro N
 induction N with
 | zero=>
  intro M m _ _ hz
  have:=Tm.size_eq (σ m)
  omega
 | succ N ihN=>
  intro M
  induction M with
  | zero=>
   intro m hmn hb _ hM
   have hnb:m∉B.map (·.1):=fun h=>by
    have:=List.idxOf_lt_length_iff.2 h
    rw[List.length_map] at this
    omega
   rw[id.free m hnb,Zrr]
   simpa using Ne.symm hmn
  | succ M ihM=>
   intro m hmn hb hz hM
   by_cases hk:m∈B.map (·.1)
   ·obtain⟨x,hx,rfl⟩:=List.mem_map.1 hk
    obtain⟨i,hi,rfl⟩:=List.getElem_of_mem hx
    have hh:=hc _ (hb hk) B[i].2 (List.getElem_mem hi)
    have hs:=id.sol _ (List.getElem_mem hi)
    rw[hs] at hz ⊢
    have ix:∀{j:Nat} (hj:j<B.length),(B.map (·.1)).idxOf B[j].1=j:=fun {j} hj=>by
     have hj':j<(B.map (·.1)).length:=by rw[List.length_map];exact hj
     have:=id.once.idxOf_getElem j hj'
     rwa [List.getElem_map] at this
    rw[ix hi] at hM
    intro hin
    obtain⟨k,hkv,hkn⟩:=Zrk σ _ n hin
    obtain⟨k1,k2⟩:=hh k hkv
    by_cases h1:B[i].2.kind=1
    ·have e:B[i].2.n=k:=by
      rw[Tm.vars_eq,if_pos h1] at hkv
      simp at hkv
      exact hkv.symm
     rw[ZbG h1,e] at hz
     refine ihM k k1 k2 hz ?_ hkn
     by_cases hkb:k∈B.map (·.1)
     ·obtain⟨y,hy,rfl⟩:=List.mem_map.1 hkb
      obtain⟨j,hj,rfl⟩:=List.getElem_of_mem hy
      have:=ord i j hi hj h1 e.symm
      rw[ix hj]
      omega
     ·have:=List.idxOf_eq_length hkb
      rw[List.length_map] at this
      omega
    ·have:=ZrI (f:=σ) h1 k hkv
     exact ihN _ k k1 k2 (by omega) (Nat.le_refl _) hkn
   ·rw[id.free m hk,Zrr]
    simpa using Ne.symm hmn
theorem ZxW {B:Bnd} {σ:Int→Tm} (id:Idm B σ) (ord:OrdB B) {n:Int} (hn:n∉B.map (·.1)) {SN:List Int} (hc:∀m∈SN,CloB B n SN m) {t:Tm} (h:HitB B n SN t):n∉(t.app σ).vars []:=fun hin=>by
 obtain⟨k,hkv,hkn⟩:=Zrk σ _ n hin
 exact ZxO id ord hn hc _ _ k (h k hkv).1 (h k hkv).2 (Nat.le_refl _) (Nat.le_refl _) hkn
def seenI {κ:Type} (SN:List κ):List (κ×Value):=SN.map fun x=>(x,.bool true)
theorem ZqI {κ:Type} [DecidableEq κ] {x:κ}:∀{SN:List κ},Go.D.look x (seenI SN)=if x∈SN then some (.bool true) else none
 | []=>by simp [seenI]
 | y::SN=>by
  have:=ZqI (x:=x) (SN:=SN)
  unfold seenI at this ⊢
  rw[List.map_cons,ZdS,this]
  by_cases h:x=y
  ·simp [h]
  ·simp [h]
theorem Zr7 {κ:Type} [DecidableEq κ] {x:κ}:∀{SN:List κ},x∉SN→Go.D.put x (.bool true) (seenI SN)=seenI (SN++[x])
 | [],_=>rfl
 | y::SN,h=>by
  rw[List.mem_cons,not_or] at h
  have:=Zr7 (x:=x) (SN:=SN) h.2
  unfold seenI at this ⊢
  rw[List.map_cons,Go.D.put,if_neg (by simpa using h.1),this];rfl
def unS (B:Bnd) (SN:List Int):Nat:=(B.map (·.1)).countP fun m=>decide (m∉SN)
theorem Zx5 {B:Bnd} {SN:List Int} {m:Int} (h:m∈B.map (·.1)) (hn:m∉SN):unS B (SN++[m])<unS B SN:=
 Zox (a:=m) (fun x _ hx=>by simp at hx ⊢;exact hx.1) h (by simpa using hn) (by simp)
theorem Zx9 {B:Bnd} {SN SN':List Int} (h:∀x∈SN,x∈SN'):unS B SN'≤unS B SN:=
 List.countP_mono_left fun x _ hx=>by simp at hx ⊢;exact fun e=>hx (h x e)
section
variable {d:SbD} {B:Bnd} {F:List Nat} {n:Int} {m:Nat}
theorem Sb.upd {w w':World} {X:List Nat} (h:Sb w d B F) (u:Upd X w w') (hd:Dis (d.b::d.r::d.G) X) (hF:Dis F X):Sb w' d B F:=by
 obtain⟨L,e1,e2,e3⟩:=h.row
 exact⟨h.blk.upd u (hd _ (by simp)),⟨L,e1,e2.upd u fun x hx=>hd x (by simp [hx]),fun x hx=>⟨(e3 x hx).1,RdA.upd' u hF (e3 x hx).2⟩⟩,h.map.upd u (hd _ (by simp)),h.once,h.inn.upd u,h.br,h.bG,h.rG,h.dis⟩
theorem Zvj (hmF:m∉F) (hnB:n∉B.map (·.1)) (hBz:∀x∈B,x.2.size<2^40):∀(N:Nat) (t:Tm) {w:World} {q:Option Addr} {c:Nat} {SN:List Int} {K:Bool→World→Prop},unS B SN<N→Sb w d B F→m∉d.b::d.r::d.G→MapAt w m (fun a:Int=>Value.int .i64 a) (seenI SN)→RdA w F t.l q 0→t.s.size<2^63→t.size<2^40→
  (∀b w' SN',Sb w' d B F→MapAt w' m (fun a:Int=>Value.int .i64 a) (seenI SN')→Upd [m] w w'→(∀x∈SN,x∈SN')→(b=false→HitB B n SN' t∧∀x∈SN',x∉SN→CloB B n SN' x)→(b=true→∀σ,Idm B σ→n∈(t.app σ).vars [])→K b w')→
  Zay d.a n t.kind t.n t.s q t.l.length c (some m) w K:=by
 intro N
 induction N with
 | zero=>intro t w q c SN K h;omega
 | succ N ihN=>
  intro t
  refine Tm.ind (P:=fun t=>∀{w:World} {q:Option Addr} {c:Nat} {SN:List Int} {K:Bool→World→Prop},unS B SN<N+1→Sb w d B F→m∉d.b::d.r::d.G→MapAt w m (fun a:Int=>Value.int .i64 a) (seenI SN)→RdA w F t.l q 0→t.s.size<2^63→t.size<2^40→
   (∀b w' SN',Sb w' d B F→MapAt w' m (fun a:Int=>Value.int .i64 a) (seenI SN')→Upd [m] w w'→(∀x∈SN,x∈SN')→(b=false→HitB B n SN' t∧∀x∈SN',x∉SN→CloB B n SN' x)→(b=true→∀σ,Idm B σ→n∈(t.app σ).vars [])→K b w')→
   Zay d.a n t.kind t.n t.s q t.l.length c (some m) w K) (fun t ih=>?_) t
  intro w q c SN K hN h hmd hm ht hs hz40 hK
  apply Zay.of
  unfold ZhY
  refine Zai fun r w1 hr u1 b1=>?_
  have h1:=h.keep u1
  have hm1:=hm.upd u1 (by simp)
  refine⟨t.kind,b1.cell 0,ifC (fun g=>⟨t.n,b1.cell 1,?_⟩) (fun g=>?_)⟩
  ·have k1:t.kind=1:=by simpa using g
   have tv:t.vars []=[t.n]:=by rw[Tm.vars_eq,if_pos k1];rfl
   refine ifC (fun g2=>?_) (fun g2=>⟨t.n,b1.cell 1,?_⟩)
   ·have e:t.n=n:=by simpa using g2
    exact hK true w1 SN h1 hm1 (u1.mono (by simp)) (fun _ h=>h) (fun h=>by cases h) fun _ σ id=>by
     rw[ZbG k1,e,id.free n hnB,Zrr];simp
   have hne:t.n≠n:=by simpa using g2
   refine Zs0 h1 (fun hn w2 h2 u2=>?_) (fun i hi e q2 c2 w2 h2 u2 ra2 hs2=>?_)
   ·refine Zai fun r2 w3 hr2 u3 b3=>St4q b3 rfl rfl rfl rfl fun w4 u4 b4=>ifT rfl ?_
    have U:Upd [] w w4:=((u1.after u2).after u3).fresh u4 (by intro x hx;simp at hx;have:=u1.size;have:=u2.size;omega)
    exact hK false w4 SN (h.keep U) (hm.upd U (by simp)) (U.mono (by simp)) (fun _ h=>h) (fun _=>⟨fun x hx=>by rw[tv] at hx;simp at hx;subst hx;exact⟨hne,fun hb=>absurd hb hn⟩,fun x hx hx2=>absurd hx hx2⟩) fun h=>by cases h
   ·refine Zai fun r2 w3 hr2 u3 b3=>St4q b3 rfl rfl rfl rfl fun w4 u4 b4=>ifF rfl ?_
    have U3:Upd [] w1 w4:=(u2.after u3).fresh u4 (by intro x hx;simp at hx;have:=u2.size;omega)
    have U:Upd [] w w4:=u1.after U3
    have b14:=b1.upd U3 (by simp)
    have h4:=h.keep U
    have hm4:=hm.upd U (by simp)
    refine⟨t.n,b14.cell 1,Zmg (κ:=Int) (kt:=3) (et:=4) (inj:=fun a:Int=>Value.int .i64 a) (z:=.bool false) (k:=t.n) mapKey (by rfl) ⟨_,rfl,rfl⟩ hm4 ?_⟩
    rw[ZqI]
    have hmem:(t.n,B[i].2)∈B:=by rw[←e];exact List.getElem_mem hi
    have hkey:t.n∈B.map (·.1):=List.mem_map.2 ⟨_,hmem,rfl⟩
    by_cases hsn:t.n∈SN
    ·rw[if_pos hsn]
     refine⟨true,rfl,ifT rfl ?_⟩
     exact hK false w4 SN h4 hm4 (U.mono (by simp)) (fun _ h=>h) (fun _=>⟨fun x hx=>by rw[tv] at hx;simp at hx;subst hx;exact⟨hne,fun _=>hsn⟩,fun x hx hx2=>absurd hx hx2⟩) fun h=>by cases h
    ·rw[if_neg hsn]
     refine⟨false,rfl,ifF rfl ⟨t.n,b14.cell 1,Zie (κ:=Int) (kt:=3) (et:=4) (inj:=fun a:Int=>Value.int .i64 a) mapKey (by rfl) hm4 fun w5 hm5 u5=>?_⟩⟩
     rw[Zr7 hsn] at hm5
     have hml:=hm.lt
     have dm:Dis (d.b::d.r::d.G) [m]:=fun x hx hy=>by simp at hy;subst hy;exact hmd hx
     have dF:Dis F [m]:=fun x hx hy=>by simp at hy;subst hy;exact hmF hx
     have h5:=h4.upd u5 dm dF
     have s1:=u1.size;have s2:=u2.size;have s3:=u3.size
     have b5:=b4.upd u5 (by simp;omega)
     have dF2:Dis F [r2]:=fun k hk hx=>by simp at hx;have:=h.inn k hk;omega
     have ra5:RdA w5 F B[i].2.l q2 0:=RdA.upd' u5 dF (RdA.upd' u4 dF2 (RdA.keep u3 ra2))
     have lt:=Zx5 hkey hsn
     refine⟨_,b5.cell 0,_,b5.cell 1,_,b5.cell 2,_,_,_,b5.cell 3,ihN B[i].2 (by omega) h5 hmd hm5 ra5 hs2 (hBz _ (List.getElem_mem hi)) fun b w6 SN' h6 hm6 u6 sub6 hf6 ht6=>?_⟩
     have sub':∀x∈SN,x∈SN':=fun x hx=>sub6 x (by simp [hx])
     have tin:t.n∈SN':=sub6 t.n (by simp)
     refine hK b w6 SN' h6 hm6 ((U.mono (G:=[m]) (by simp)).both (u5.both u6)) sub' (fun eb=>⟨fun x hx=>by rw[tv] at hx;simp at hx;subst hx;exact⟨hne,fun _=>tin⟩,fun x hx hx2=>?_⟩) fun eb σ id=>?_
     ·obtain⟨f1,f2⟩:=hf6 eb
      by_cases ex:x=t.n
      ·subst ex
       intro u hu
       have:u=B[i].2:=by
        obtain⟨j,hj,ej⟩:=List.getElem_of_mem hu
        have h1:(B.map (·.1))[j]'(by simpa using hj)=(B.map (·.1))[i]'(by simpa using hi):=by simp [ej,e]
        have hij:j=i:=by
         have a1:=h.once.idxOf_getElem j (by simpa using hj)
         have a2:=h.once.idxOf_getElem i (by simpa using hi)
         rw[h1,a2] at a1
         exact a1.symm
        subst hij
        rw[ej]
       rw[this];exact f1
      ·exact f2 x hx (by simp [hx2,ex])
     ·have:=ht6 eb σ id
      rw[ZbG k1]
      have hsol:=id.sol _ hmem
      rw[show σ t.n=B[i].2.app σ from hsol]
      exact this
  ·have k1:t.kind≠1:=by simpa using g
   unfold Zf1
   have dm:Dis (d.b::d.r::d.G) [m]:=fun x hx hy=>by simp at hy;subst hy;exact hmd hx
   have dF:Dis F [m]:=fun x hx hy=>by simp at hy;subst hy;exact hmF hx
   have hml:=hm.lt
   have rm:r∉[m]:=by simp;omega
   have ra1:=RdA.keep u1 ht
   have zl:=t.size_eq
   have zp:=ZcC (l:=t.l)
   refine⟨fun s z=>∃(i:Nat) (SN':List Int),s.i=i∧i≤t.l.length∧Upd [m] w1 z∧Sb z d B F∧MapAt z m (fun a:Int=>Value.int .i64 a) (seenI SN')∧(∀x∈SN,x∈SN')∧(∀u∈t.l.take i,HitB B n SN' u)∧∀x∈SN',x∉SN→CloB B n SN' x,fun s _=>(t.l.length-s.i).toNat,⟨0,SN,rfl,by omega,Upd.refl _ _,h1,hm1,fun _ h=>h,by simp,fun x hx hx2=>absurd hx hx2⟩,?_⟩
   rintro⟨si⟩ z ⟨i,SN',rfl,hi,uz,hz,hmz,hsub,hits,hclo⟩
   unfold ZfN
   have bz:=b1.upd uz rm
   refine⟨_,_,_,bz.cell 3,ifC (fun g2=>?_) (fun g2=>?_)⟩
   ·have gi:i<t.l.length:=by simpa using g2
    obtain⟨x,q2,cq,f1,f2,f3,f4,f5,f6,f7,f8⟩:=(RdA.upd' uz dF ra1).at i gi
    simp only[Nat.zero_add] at f3 f4 f5 f6
    refine⟨_,_,_,bz.cell 3,by show (0:Int)≤(i:Int);omega,by show (i:Int)<_;omega,?_⟩
    simp only[f1,X_,addA,Int.toNat_natCast,f3,f4,f5,f6]
    refine ih _ (List.getElem_mem gi) (Nat.lt_of_le_of_lt (Zx9 hsub) hN) hz hmd hmz f8 f7 (by have:=Zev (List.getElem_mem gi);omega) fun b w6 SN2 h6 hm6 u6 sub6 hf6 ht6=>ifC (fun gb=>?_) (fun gb=>?_)
    ·refine hK true w6 SN2 h6 hm6 (u1.after (uz.both u6)) (fun x hx=>sub6 x (hsub x hx)) (fun e=>by cases e) fun _ σ id=>?_
     rw[ZeV k1]
     exact Zcy (by rw[ZrD];exact k1) (by rw[mk_l];exact List.mem_map_of_mem (List.getElem_mem gi)) (ht6 gb σ id)
    ·obtain⟨e1,e2⟩:=hf6 gb
     rw[i64id (by omega) (by omega)]
     refine⟨⟨i+1,SN2,by simp,by omega,uz.both u6,h6,hm6,fun x hx=>sub6 x (hsub x hx),fun u hu=>?_,fun x hx hx2=>?_⟩,by show ((t.l.length:Int)-((i:Int)+1)).toNat<((t.l.length:Int)-(i:Int)).toNat;omega⟩
     ·rw[Zca gi] at hu
      rcases List.mem_append.1 hu with hh | hh
      ·exact(hits u hh).mono sub6
      ·simp at hh;subst hh;exact e1
     ·by_cases hx3:x∈SN'
      ·exact(hclo x hx3 hx2).mono sub6
      ·exact e2 x hx hx3
   ·have gl:i=t.l.length:=by
     have:¬(i:Int)<t.l.length:=by simpa using g2
     omega
    subst gl
    rw[List.take_length] at hits
    exact hK false z SN' hz hmz (u1.after uz) hsub (fun _=>⟨fun x hx=>by
     rw[Tm.vars_eq,if_neg k1,ZdN] at hx
     rcases hx with hx | ⟨u,hu,hx⟩
     ·cases hx
     ·exact hits u hu x hx,hclo⟩) fun e=>by cases e
end
end Go.Proofs.YtdaenijbokialaaGreat
