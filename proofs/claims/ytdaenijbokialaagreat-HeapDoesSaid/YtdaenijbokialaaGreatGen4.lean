import Derived.Test.YtdaenijbokialaaGreatGenC
set_option maxRecDepth 100000
set_option linter.unusedVariables false
namespace Go.Proofs.YtdaenijbokialaaGreat
open Go Go.D Go.Proofs
structure Zdi where
 i:Int
def Zl8 (aP_1:Option Addr) (aN_1:Nat) (aC_1:Nat) (bP_1:Option Addr) (bN_1:Nat) (bC_1:Nat) (s:Zdi) (w:World) (Kn:Zdi→World→Prop) (Kx0:World→Prop) (Kr:Bool→World→Prop):Prop:=
 If (decide (s.i<(aN_1:Int)))
 (0≤s.i∧s.i<(aN_1:Int)∧NN aP_1 fun a=>
 ∃t200,(drw w).cell? ((a.add (s.i.toNat*4)).add 0)=some (.int .i64 t200)∧
 ∃t201,(drw w).cell? ((a.add (s.i.toNat*4)).add 1)=some (.int .i64 t201)∧
 ∃t202,(drw w).cell? ((a.add (s.i.toNat*4)).add 2)=some (.string t202)∧
 ∃t203P t203N t203C,(drw w).cell? ((a.add (s.i.toNat*4)).add 3)=some (.slice t203P t203N t203C)∧
 0≤s.i∧s.i<(bN_1:Int)∧NN bP_1 fun a_1=>
 ∃t240,(drw w).cell? ((a_1.add (s.i.toNat*4)).add 0)=some (.int .i64 t240)∧
 ∃t241,(drw w).cell? ((a_1.add (s.i.toNat*4)).add 1)=some (.int .i64 t241)∧
 ∃t242,(drw w).cell? ((a_1.add (s.i.toNat*4)).add 2)=some (.string t242)∧
 ∃t243P t243N t243C,(drw w).cell? ((a_1.add (s.i.toNat*4)).add 3)=some (.slice t243P t243N t243C)∧
 Zct t200 t201 t202 t203P t203N t203C t240 t241 t242 t243P t243N t243C (drw w) fun t25 w1=>
 If (!t25)
 (Kr false w1)
 (Kn ⟨(IntKind.i64.wrap (s.i+(1:Int)))⟩ w1))
 (Kx0 w)
def Zml (aP_1:Option Addr) (aN_1:Nat) (aC_1:Nat) (bP_1:Option Addr) (bN_1:Nat) (bC_1:Nat) (s:Zdi) (w:World) (Kx0:World→Prop) (Kr:Bool→World→Prop):Prop:=
 LoopS (fun s w Kn=>Zl8 aP_1 aN_1 aC_1 bP_1 bN_1 bC_1 s w Kn Kx0 Kr) s w
def Zoe (aP:Option Addr) (aN:Nat) (aC:Nat) (bP:Option Addr) (bN:Nat) (bC:Nat) (w:World) (R:Bool→World→Prop):Prop:=
 If ((aN:Int) != (bN:Int))
 (R false w)
 (Zml aP aN aC bP bN bC ⟨(0:Int)⟩ w
 (fun w1_1=>
 R true w1_1)
 (fun t4_1 w1_2=>
 R t4_1 w1_2))
def Zhs (f:(Option Addr)×Nat×Nat×(Option Addr)×Nat×Nat) (s:Zdi):Env:=[⟨0,.slice f.1 f.2.1 f.2.2.1,none⟩,⟨1,.slice f.2.2.2.1 f.2.2.2.2.1 f.2.2.2.2.2,none⟩,⟨5,.int .i64 s.i,none⟩]
def Zfq (e:Env) (K:((Option Addr)×Nat×Nat×(Option Addr)×Nat×Nat)→Zdi→Prop):Prop:=
 oS e 0 fun aP_1 aN_1 aC_1=>
 oS e 1 fun bP_1 bN_1 bC_1=>
 oI e 5 .i64 fun i=>
  K (aP_1,aN_1,aC_1,bP_1,bN_1,bC_1) ⟨i⟩
theorem ZlC {N:Nat} (e:Env) (a:Act) (K:((Option Addr)×Nat×Nat×(Option Addr)×Nat×Nat)→Zdi→Prop) (hr:Rep N a e) (h0:Zfq e K):∃f s,K f s∧Rep N a (Zhs f s):=by
 unfold Zfq at h0
 obtain⟨aP_1,aN_1,aC_1,g0,h1⟩:=Zae h0
 obtain⟨bP_1,bN_1,bC_1,g1,h2⟩:=Zae h1
 obtain⟨i,g5,h3⟩:=Zab h2
 exact⟨_,_,h3,Zac hr (by simp [Zhs,g0,g1,g5])⟩
def Zmx (Q:Post) (e:Env) (w:World):Prop:=
 Zfq e fun f s=>Zml f.1 f.2.1 f.2.2.1 f.2.2.2.1 f.2.2.2.2.1 f.2.2.2.2.2 s w (fun w1=>Q (.exit 0) [] w1) (fun t4 w1=>Q .ret [⟨4,.bool t4,none⟩] w1)
def Zot:Gen where
 loop:=lookL [([false,true,false,true,true],Zmx)]
 plan:=fun id=>
  bif Nat.beq id 6 then some ([0,0,3,7,0,0,48,112,255,511],.take 0 (.take 1 (.take 2 (.take 3 (.take 4 (.take 5 (.take 6 (.take 7 (.take 8 (.take 9 .done)))))))))) else none
def ZjL (e:Env) (K:((Option Addr)×Nat×Nat×(Option Addr)×Nat×Nat)→Prop):Prop:=
 oS e 0 fun aP_1 aN_1 aC_1=>
 oS e 1 fun bP_1 bN_1 bC_1=>
  K (aP_1,aN_1,aC_1,bP_1,bN_1,bC_1)
def ZhU (e:Env) (K:((Option Addr)×Nat×Nat×(Option Addr)×Nat×Nat)→Bool→Prop):Prop:=
 oS e 0 fun aP_1 aN_1 aC_1=>
 oS e 1 fun bP_1 bN_1 bC_1=>
 oB e 4 fun t4=>
  K (aP_1,aN_1,aC_1,bP_1,bN_1,bC_1) t4
theorem ZpN (f:(Option Addr)×Nat×Nat×(Option Addr)×Nat×Nat) (s:Zdi) (w:World) (Kn:((Option Addr)×Nat×Nat×(Option Addr)×Nat×Nat)→Zdi→World→Prop) (Kx0:((Option Addr)×Nat×Nat×(Option Addr)×Nat×Nat)→World→Prop) (Kr:((Option Addr)×Nat×Nat×(Option Addr)×Nat×Nat)→Bool→World→Prop) :
  Zl8 f.1 f.2.1 f.2.2.1 f.2.2.2.1 f.2.2.2.2.1 f.2.2.2.2.2 s w (fun s1 w1=>Kn f s1 w1) (fun w1=>Kx0 f w1) (fun t4 w1=>Kr f t4 w1) =
  den Tryz.prog Tryz.f20.ntmps Zot (sub (codeOf Tryz.f20) [false,false,true,false,true,true]) [false,false,true,false,true,true] (roundQ (fun e w=>Zfq e fun f s=>Kn f s w) (fun e w=>ZhU e fun f t4=>Kr f t4 w) (fun id e w=>match Nat.beq id 0 with | true=>ZjL e fun f=>Kx0 f w | false=>False)) (Zhs f s) w:=by kernel_rfl
theorem Zq8:OneOk Tryz.prog Tryz.f20.ntmps Zot (codeOf Tryz.f20) [false,true,false,true,true] Zmx:=by
 intro c hc ih Q e w a hr h
 have hcc:sub (codeOf Tryz.f20) [false,false,true,false,true,true]=c:=Zaf hc
 obtain⟨f,s,h,hrep⟩:=ZlC e a _ hr h
 obtain⟨J,μ,hj,hround⟩:=h
 refine Zad Zan Zag ih Zhs Zfq ZlC hc f J μ (Kr:=fun e w=>ZhU e fun f1 t4=>f1=f∧Q .ret [⟨4,.bool t4,none⟩] w) (Kx:=fun id e w=>match Nat.beq id 0 with | true=>(ZjL e fun f1=>f1=f∧Q (.exit 0) [] w) | false=>False) ?_ ?_ ?_ s w a hj hrep
 ·intro e a w hr h0
  unfold ZhU at h0
  obtain⟨aP_1,aN_1,aC_1,g0,h1⟩:=Zae h0
  obtain⟨bP_1,bN_1,bC_1,g1,h2⟩:=Zae h1
  obtain⟨t4,g4,h3⟩:=Zjx h2
  obtain⟨hf,hq⟩:=h3
  subst hf
  exact⟨_,Zac hr (by simp [g4]),hq⟩
 ·intro id e a w hr h0
  (try dsimp only at h0)
  split at h0
  ·rename_i hid
   obtain rfl:=Nat.eq_of_beq_eq_true hid
   unfold ZjL at h0
   obtain⟨aP_1,aN_1,aC_1,g0,h1⟩:=Zae h0
   obtain⟨bP_1,bN_1,bC_1,g1,h2⟩:=Zae h1
   obtain⟨hf,hq⟩:=h2
   subst hf
   exact⟨_,Zac hr (by simp),hq⟩
  ·exact h0.elim
 ·intro s w hj
  have hb:=hround s w hj
  rw[←hcc]
  have e1:=ZpN f s w (fun f1 s1 w1=>f1=f∧J s1 w1∧μ s1 w1<μ s w) (fun f1 w1=>f1=f∧Q (.exit 0) [] w1) (fun f1 t4 w1=>f1=f∧Q .ret [⟨4,.bool t4,none⟩] w1)
  simp only[true_and] at e1
  exact cast e1 hb
theorem Zrh:LoopOk Tryz.prog Tryz.f20.ntmps Zot (codeOf Tryz.f20):=Zal rfl ⟨Zq8,trivial⟩
theorem ZfI.of {aP:Option Addr} {aN:Nat} {aC:Nat} {bP:Option Addr} {bN:Nat} {bC:Nat} {w:World} {R:Bool→World→Prop} (h:Zoe aP aN aC bP bN bC w R):ZfI aP aN aC bP bN bC w R:=ofS2 (Fm:=Zoe aP aN aC bP bN bC w) Tryz.func20 (by kernel_rfl) Zrh rfl (fun _=>by kernel_rfl) h
def ZmL (hx:Option Addr) (wx:Int) (namex:ByteArray) (arity:Int) (w:World) (R:Bool→World→Prop):Prop:=
 Zbr hx wx w fun t15 w1=>
 Zem t15 w1 fun t17 w1_1=>
 If (t17==(3:Int))
 (NN hx fun a=>
 ∃atoms,(drw w1_1).cell? (a.add 2)=some (.pointer atoms)∧
 Zaz t15 (drw w1_1) fun t26 w1_2=>
 w1_2.cell? (a.add 2)=(drw w1_1).cell? (a.add 2)∧
 ZaC atoms t26 w1_2 fun t270 t271 w1_3=>
 If (t270.toList==namex.toList)
 (R (arity==(0:Int)) w1_3)
 (R false w1_3))
 (If (t17==(2:Int))
 (Zbp hx t15 w1_1 fun t420 t421 w1_4=>
 If (t420.toList==namex.toList)
 (R (t421==arity) w1_4)
 (R false w1_4))
 (R false w1_1))
def Zr9:Gen where
 loop:=lookL []
 plan:=fun id=>
  bif Nat.beq id 4 then some ([0,1,3,7,0,16,63,127,255,255,511,2047],.take 0 (.take 1 (.take 2 (.take 3 (.take 4 (.take 5 (.take 6 (.take 7 (.take 8 (.take 9 (.take 10 (.take 11 .done)))))))))))) else none
theorem Zej.of {hx:Option Addr} {wx:Int} {namex:ByteArray} {arity:Int} {w:World} {R:Bool→World→Prop} (h:ZmL hx wx namex arity w R):Zej hx wx namex arity w R:=ofS2 (Fm:=ZmL hx wx namex arity w) Tryz.func23 (by kernel_rfl) (L1 Zr9 Tryz.f23 fun _=>rfl) rfl (fun _=>by kernel_rfl) h
def Zkp (hx:Option Addr) (wx:Int) (w:World) (R:Int→World→Prop):Prop:=
 Zaw hx wx w fun t7 w1=>
 If (!t7)
 (R (0:Int) w1)
 (ZaD hx wx w1 fun t11 w1_1=>
 R t11 w1_1)
theorem Zbr.of {hx:Option Addr} {wx:Int} {w:World} {R:Int→World→Prop} (h:Zkp hx wx w R):Zbr hx wx w R:=ofS9 (Fm:=Zkp hx wx w) Tryz.func24 (by kernel_rfl) (L0 Tryz.f24) rfl (fun _=>by kernel_rfl) h
structure Zek where
 i:Int
def ZmI (lP_1:Option Addr) (lN_1:Nat) (lC_1:Nat) (s:Zek) (w:World) (Kn:Zek→World→Prop) (Kx0:World→Prop) (Kr:Bool→World→Prop):Prop:=
 If (decide (s.i<(lN_1:Int)))
 (0≤s.i∧s.i<(lN_1:Int)∧NN lP_1 fun a=>
 ∃t130,w.cell? ((a.add (s.i.toNat*4)).add 0)=some (.int .i64 t130)∧
 ∃t131,w.cell? ((a.add (s.i.toNat*4)).add 1)=some (.int .i64 t131)∧
 ∃t132,w.cell? ((a.add (s.i.toNat*4)).add 2)=some (.string t132)∧
 ∃t133P t133N t133C,w.cell? ((a.add (s.i.toNat*4)).add 3)=some (.slice t133P t133N t133C)∧
 ZeN t130 t131 t132 t133P t133N t133C w fun t14 w1=>
 If (t14 != (0:Int))
 (Kr false w1)
 (Kn ⟨(IntKind.i64.wrap (s.i+(1:Int)))⟩ w1))
 (Kx0 w)
def ZmM (lP_1:Option Addr) (lN_1:Nat) (lC_1:Nat) (s:Zek) (w:World) (Kx0:World→Prop) (Kr:Bool→World→Prop):Prop:=
 LoopS (fun s w Kn=>ZmI lP_1 lN_1 lC_1 s w Kn Kx0 Kr) s w
def Zpy (lP:Option Addr) (lN:Nat) (lC:Nat) (w:World) (R:Bool→World→Prop):Prop:=
 ZmM lP lN lC ⟨(0:Int)⟩ w
 (fun w1_1=>
 R true w1_1)
 (fun t2_1 w1_2=>
 R t2_1 w1_2)
def Zid (f:(Option Addr)×Nat×Nat) (s:Zek):Env:=[⟨0,.slice f.1 f.2.1 f.2.2,none⟩,⟨3,.int .i64 s.i,none⟩]
def Zf4 (e:Env) (K:((Option Addr)×Nat×Nat)→Zek→Prop):Prop:=
 oS e 0 fun lP_1 lN_1 lC_1=>
 oI e 3 .i64 fun i=>
  K (lP_1,lN_1,lC_1) ⟨i⟩
theorem Zms {N:Nat} (e:Env) (a:Act) (K:((Option Addr)×Nat×Nat)→Zek→Prop) (hr:Rep N a e) (h0:Zf4 e K):∃f s,K f s∧Rep N a (Zid f s):=by
 unfold Zf4 at h0
 obtain⟨lP_1,lN_1,lC_1,g0,h1⟩:=Zae h0
 obtain⟨i,g3,h2⟩:=Zab h1
 exact⟨_,_,h2,Zac hr (by simp [Zid,g0,g3])⟩
def Zm2 (Q:Post) (e:Env) (w:World):Prop:=
 Zf4 e fun f s=>ZmM f.1 f.2.1 f.2.2 s w (fun w1=>Q (.exit 0) [] w1) (fun t2 w1=>Q .ret [⟨2,.bool t2,none⟩] w1)
def ZpA:Gen where
 loop:=lookL [([false,true,false,true],Zm2)]
 plan:=fun _=>none
def Zkn (e:Env) (K:((Option Addr)×Nat×Nat)→Prop):Prop:=
 oS e 0 fun lP_1 lN_1 lC_1=>
  K (lP_1,lN_1,lC_1)
def ZiI (e:Env) (K:((Option Addr)×Nat×Nat)→Bool→Prop):Prop:=
 oS e 0 fun lP_1 lN_1 lC_1=>
 oB e 2 fun t2=>
  K (lP_1,lN_1,lC_1) t2
theorem Zql (f:(Option Addr)×Nat×Nat) (s:Zek) (w:World) (Kn:((Option Addr)×Nat×Nat)→Zek→World→Prop) (Kx0:((Option Addr)×Nat×Nat)→World→Prop) (Kr:((Option Addr)×Nat×Nat)→Bool→World→Prop) :
  ZmI f.1 f.2.1 f.2.2 s w (fun s1 w1=>Kn f s1 w1) (fun w1=>Kx0 f w1) (fun t2 w1=>Kr f t2 w1) =
  den Tryz.prog Tryz.f25.ntmps ZpA (sub (codeOf Tryz.f25) [false,false,true,false,true]) [false,false,true,false,true] (roundQ (fun e w=>Zf4 e fun f s=>Kn f s w) (fun e w=>ZiI e fun f t2=>Kr f t2 w) (fun id e w=>match Nat.beq id 0 with | true=>Zkn e fun f=>Kx0 f w | false=>False)) (Zid f s) w:=by kernel_rfl
theorem ZrG:OneOk Tryz.prog Tryz.f25.ntmps ZpA (codeOf Tryz.f25) [false,true,false,true] Zm2:=by
 intro c hc ih Q e w a hr h
 have hcc:sub (codeOf Tryz.f25) [false,false,true,false,true]=c:=Zaf hc
 obtain⟨f,s,h,hrep⟩:=Zms e a _ hr h
 obtain⟨J,μ,hj,hround⟩:=h
 refine Zad Zan Zag ih Zid Zf4 Zms hc f J μ (Kr:=fun e w=>ZiI e fun f1 t2=>f1=f∧Q .ret [⟨2,.bool t2,none⟩] w) (Kx:=fun id e w=>match Nat.beq id 0 with | true=>(Zkn e fun f1=>f1=f∧Q (.exit 0) [] w) | false=>False) ?_ ?_ ?_ s w a hj hrep
 ·intro e a w hr h0
  unfold ZiI at h0
  obtain⟨lP_1,lN_1,lC_1,g0,h1⟩:=Zae h0
  obtain⟨t2,g2,h2⟩:=Zjx h1
  obtain⟨hf,hq⟩:=h2
  subst hf
  exact⟨_,Zac hr (by simp [g2]),hq⟩
 ·intro id e a w hr h0
  (try dsimp only at h0)
  split at h0
  ·rename_i hid
   obtain rfl:=Nat.eq_of_beq_eq_true hid
   unfold Zkn at h0
   obtain⟨lP_1,lN_1,lC_1,g0,h1⟩:=Zae h0
   obtain⟨hf,hq⟩:=h1
   subst hf
   exact⟨_,Zac hr (by simp),hq⟩
  ·exact h0.elim
 ·intro s w hj
  have hb:=hround s w hj
  rw[←hcc]
  have e1:=Zql f s w (fun f1 s1 w1=>f1=f∧J s1 w1∧μ s1 w1<μ s w) (fun f1 w1=>f1=f∧Q (.exit 0) [] w1) (fun f1 t2 w1=>f1=f∧Q .ret [⟨2,.bool t2,none⟩] w1)
  simp only[true_and] at e1
  exact cast e1 hb
theorem Zrw:LoopOk Tryz.prog Tryz.f25.ntmps ZpA (codeOf Tryz.f25):=Zal rfl ⟨ZrG,trivial⟩
theorem Zhf.of {lP:Option Addr} {lN:Nat} {lC:Nat} {w:World} {R:Bool→World→Prop} (h:Zpy lP lN lC w R):Zhf lP lN lC w R:=ofS2 (Fm:=Zpy lP lN lC w) Tryz.func25 (by kernel_rfl) Zrw rfl (fun _=>by kernel_rfl) h
def Zow (sx:ByteArray) (lP:Option Addr) (lN:Nat) (lC:Nat) (w:World) (R:Int→Int→ByteArray→Option Addr→Nat→Nat→World→Prop):Prop:=
 New w (.cells #[.int .i64 0,.int .i64 0,.string ⟨#[]⟩,.slice none 0 0] 31) fun r w1=>
 If ((lN:Int)==(0:Int))
 (Zi1 sx w1 fun t90 t91 t92 t93P t93N t93C w1_1=>
 St w1_1 (Addr.add ⟨r,0,none⟩ 0) (.int .i64 t90) fun w1_2=>
 St w1_2 (Addr.add ⟨r,0,none⟩ 1) (.int .i64 t91) fun w1_3=>
 St w1_3 (Addr.add ⟨r,0,none⟩ 2) (.string t92) fun w1_4=>
 St w1_4 (Addr.add ⟨r,0,none⟩ 3) (.slice t93P t93N t93C) fun w1_5=>
 ∃r_1,w1_5.cell? (Addr.add ⟨r,0,none⟩ 0)=some (.int .i64 r_1)∧
 ∃r_2,w1_5.cell? (Addr.add ⟨r,0,none⟩ 1)=some (.int .i64 r_2)∧
 ∃r_3,w1_5.cell? (Addr.add ⟨r,0,none⟩ 2)=some (.string r_3)∧
 ∃rP rN rC,w1_5.cell? (Addr.add ⟨r,0,none⟩ 3)=some (.slice rP rN rC)∧
 R r_1 r_2 r_3 rP rN rC w1_5)
 (BSl Tryz.prog 22 0 [] w1 fun t11P t11N t11C w1_6=>
 App Tryz.prog #[22,22] 22 #[.slice t11P t11N t11C,.slice lP lN lC] w1_6 fun t13P t13N t13C w1_7=>
 St w1_7 (Addr.add ⟨r,0,none⟩ 0) (.int .i64 4) fun w1_8=>
 St w1_8 (Addr.add ⟨r,0,none⟩ 1) (.int .i64 0) fun w1_9=>
 St w1_9 (Addr.add ⟨r,0,none⟩ 2) (.string sx) fun w1_10=>
 St w1_10 (Addr.add ⟨r,0,none⟩ 3) (.slice t13P t13N t13C) fun w1_11=>
 ∃r_4,w1_11.cell? (Addr.add ⟨r,0,none⟩ 0)=some (.int .i64 r_4)∧
 ∃r_5,w1_11.cell? (Addr.add ⟨r,0,none⟩ 1)=some (.int .i64 r_5)∧
 ∃r_6,w1_11.cell? (Addr.add ⟨r,0,none⟩ 2)=some (.string r_6)∧
 ∃rP_1 rN_1 rC_1,w1_11.cell? (Addr.add ⟨r,0,none⟩ 3)=some (.slice rP_1 rN_1 rC_1)∧
 R r_4 r_5 r_6 rP_1 rN_1 rC_1 w1_11)
theorem Zee.of {sx:ByteArray} {lP:Option Addr} {lN:Nat} {lC:Nat} {w:World} {R:Int→Int→ByteArray→Option Addr→Nat→Nat→World→Prop} (h:Zow sx lP lN lC w R):Zee sx lP lN lC w R:=ofS10 (Fm:=Zow sx lP lN lC w) Tryz.func26 (by kernel_rfl) (L0 Tryz.f26) rfl (fun _=>by kernel_rfl) h
def Zjk (hx:Option Addr) (namex:ByteArray) (arity:Int) (w:World) (R:Int→Int→World→Prop):Prop:=
 Zaj hx w fun t12 w1=>
 If (!t12)
 (R (0:Int) (6:Int) w1)
 (NN hx fun a=>
 ∃funs,w1.cell? (a.add 3)=some (.pointer funs)∧
 ZbJ funs namex arity w1 fun t210 t211 w1_1=>
 If (t211 != (0:Int))
 (R (0:Int) t211 w1_1)
 (Zce hx (IntKind.i64.wrap (arity+(1:Int))) w1_1 fun t310 t311 w1_2=>
 If (t311 != (0:Int))
 (R (0:Int) t311 w1_2)
 (NN hx fun a_1=>
 ∃cellsP cellsN cellsC,(drw w1_2).cell? (a_1.add 4)=some (.slice cellsP cellsN cellsC)∧
 ZdJ (5:Int) t210 (drw w1_2) fun t43 w1_3=>
 w1_3.cell? (a_1.add 4)=(drw w1_2).cell? (a_1.add 4)∧
 0≤t310∧t310<(cellsN:Int)∧NN cellsP fun a_2=>
 St w1_3 ((a_2.add (t310.toNat*1)).add 0) (.int .u64 t43) fun w1_4=>
 ZdJ (2:Int) t310 w1_4 fun t46 w1_5=>
 R t46 (0:Int) w1_5)))
def Zp7:Gen where
 loop:=lookL []
 plan:=fun id=>
  bif Nat.beq id 9 then some ([0,1,3,7,0,0,32,127,255],.take 0 (.take 1 (.take 2 (.take 3 (.take 4 (.take 5 (.take 6 (.take 7 (.take 8 .done))))))))) else none
theorem ZbE.of {hx:Option Addr} {namex:ByteArray} {arity:Int} {w:World} {R:Int→Int→World→Prop} (h:Zjk hx namex arity w R):ZbE hx namex arity w R:=ofS5 (Fm:=Zjk hx namex arity w) Tryz.func27 (by kernel_rfl) (L1 Zp7 Tryz.f27 fun _=>rfl) rfl (fun _=>by kernel_rfl) h
def Zmm (hx:Option Addr) (wx:Int) (i:Int) (w:World) (R:Int→Int→World→Prop):Prop:=
 Zaj hx w fun t10 w1=>
 If (!t10)
 (R (0:Int) (6:Int) w1)
 (Zbz hx wx i w1 fun t160 t161 w1_1=>
 If (!t161)
 (R (0:Int) (1:Int) w1_1)
 (Zel t160 i w1_1 fun t23 w1_2=>
 Zc7 t23 w1_2 fun t24 w1_3=>
 R t24 (0:Int) w1_3))
theorem Zdt.of {hx:Option Addr} {wx:Int} {i:Int} {w:World} {R:Int→Int→World→Prop} (h:Zmm hx wx i w R):Zdt hx wx i w R:=ofS5 (Fm:=Zmm hx wx i w) Tryz.func28 (by kernel_rfl) (L0 Tryz.f28) rfl (fun _=>by kernel_rfl) h
def ZnI (t0:Int) (t1:Int) (t2:ByteArray) (t3P:Option Addr) (t3N:Nat) (t3C:Nat) (w:World) (R:Bool→World→Prop):Prop:=
 New w (.cells #[.int .i64 t0,.int .i64 t1,.string t2,.slice t3P t3N t3C] 31) fun r w1=>
 New w1 (.cells #[.int .i64 0] 3) fun r_1 w1_1=>
 St w1_1 (Addr.add ⟨r_1,0,none⟩ 0) (.int .i64 0) fun w1_2=>
 ∃t40,w1_2.cell? (Addr.add ⟨r,0,none⟩ 0)=some (.int .i64 t40)∧
 ∃t41,w1_2.cell? (Addr.add ⟨r,0,none⟩ 1)=some (.int .i64 t41)∧
 ∃t42,w1_2.cell? (Addr.add ⟨r,0,none⟩ 2)=some (.string t42)∧
 ∃t43P t43N t43C,w1_2.cell? (Addr.add ⟨r,0,none⟩ 3)=some (.slice t43P t43N t43C)∧
 Zd1 t40 t41 t42 t43P t43N t43C (0:Int) (some ⟨r_1,0,none⟩) w1_2 fun t5 w1_3=>
 R t5 w1_3
theorem ZeK.of {t0:Int} {t1:Int} {t2:ByteArray} {t3P:Option Addr} {t3N:Nat} {t3C:Nat} {w:World} {R:Bool→World→Prop} (h:ZnI t0 t1 t2 t3P t3N t3C w R):ZeK t0 t1 t2 t3P t3N t3C w R:=ofS2 (Fm:=ZnI t0 t1 t2 t3P t3N t3C w) Tryz.func30 (by kernel_rfl) (L0 Tryz.f30) rfl (fun _=>by kernel_rfl) h
def Zpl (n:Int) (w:World) (R:Int→Int→ByteArray→Option Addr→Nat→Nat→World→Prop):Prop:=
 New w (.cells #[.int .i64 0,.int .i64 0,.string ⟨#[]⟩,.slice none 0 0] 31) fun r w1=>
 St w1 (Addr.add ⟨r,0,none⟩ 0) (.int .i64 1) fun w1_1=>
 St w1_1 (Addr.add ⟨r,0,none⟩ 1) (.int .i64 n) fun w1_2=>
 St w1_2 (Addr.add ⟨r,0,none⟩ 2) (.string ⟨#[]⟩) fun w1_3=>
 St w1_3 (Addr.add ⟨r,0,none⟩ 3) (.slice none 0 0) fun w1_4=>
 ∃r_1,w1_4.cell? (Addr.add ⟨r,0,none⟩ 0)=some (.int .i64 r_1)∧
 ∃r_2,w1_4.cell? (Addr.add ⟨r,0,none⟩ 1)=some (.int .i64 r_2)∧
 ∃r_3,w1_4.cell? (Addr.add ⟨r,0,none⟩ 2)=some (.string r_3)∧
 ∃rP rN rC,w1_4.cell? (Addr.add ⟨r,0,none⟩ 3)=some (.slice rP rN rC)∧
 R r_1 r_2 r_3 rP rN rC w1_4
theorem ZdM.of {n:Int} {w:World} {R:Int→Int→ByteArray→Option Addr→Nat→Nat→World→Prop} (h:Zpl n w R):ZdM n w R:=ofS10 (Fm:=Zpl n w) Tryz.func31 (by kernel_rfl) (L0 Tryz.f31) rfl (fun _=>by kernel_rfl) h
def Zof (t0:Int) (t1:Int) (t2:ByteArray) (t3P:Option Addr) (t3N:Nat) (t3C:Nat) (w:World) (R:Option Addr→Nat→Nat→World→Prop):Prop:=
 New w (.cells #[.int .i64 t0,.int .i64 t1,.string t2,.slice t3P t3N t3C] 31) fun r w1=>
 ∃t30,w1.cell? (Addr.add ⟨r,0,none⟩ 0)=some (.int .i64 t30)∧
 ∃t31,w1.cell? (Addr.add ⟨r,0,none⟩ 1)=some (.int .i64 t31)∧
 ∃t32,w1.cell? (Addr.add ⟨r,0,none⟩ 2)=some (.string t32)∧
 ∃t33P t33N t33C,w1.cell? (Addr.add ⟨r,0,none⟩ 3)=some (.slice t33P t33N t33C)∧
 Zed t30 t31 t32 t33P t33N t33C none 0 0 w1 fun t4P t4N t4C w1_1=>
 R t4P t4N t4C w1_1
theorem ZfH.of {t0:Int} {t1:Int} {t2:ByteArray} {t3P:Option Addr} {t3N:Nat} {t3C:Nat} {w:World} {R:Option Addr→Nat→Nat→World→Prop} (h:Zof t0 t1 t2 t3P t3N t3C w R):ZfH t0 t1 t2 t3P t3N t3C w R:=ofS6 (Fm:=Zof t0 t1 t2 t3P t3N t3C w) Tryz.func32 (by kernel_rfl) (L0 Tryz.f32) rfl (fun _=>by kernel_rfl) h
def Zhp (hx:Option Addr) (a:Int) (b:Int) (w:World) (R:Bool→Int→World→Prop):Prop:=
 Zaj hx w fun t12 w1=>
 If (!t12)
 (R false (6:Int) w1)
 (Zaw hx a w1 fun t17 w1_1=>
 If (!t17)
 (R false (1:Int) w1_1)
 (Zaw hx b w1_1 fun t22 w1_2=>
 If (!t22)
 (R false (1:Int) w1_2)
 (New w1_2 (.map #[] 0) fun r w1_3=>
 New w1_3 (.cells #[.pointer hx,.map (some r),.int .i64 0] 143) fun r_1 w1_4=>
 ZaZ (some ⟨r_1,0,none⟩) a b w1_4 fun t32 w1_5=>
 NN (some ⟨r_1,0,none⟩) fun a_1=>
 ∃ex,(drw w1_5).cell? (a_1.add 2)=some (.int .i64 ex)∧
 (drw w1_5).cell? (a_1.add 2)=(drw w1_5).cell? (a_1.add 2)∧
 R t32 ex (drw w1_5))))
def Zqw:Gen where
 loop:=lookL []
 plan:=fun id=>
  bif Nat.beq id 7 then some ([0,0,2,6,14,1,63],.take 0 (.take 1 (.take 2 (.take 3 (.take 4 (.take 5 (.take 6 .done))))))) else none
theorem ZaB.of {hx:Option Addr} {a:Int} {b:Int} {w:World} {R:Bool→Int→World→Prop} (h:Zhp hx a b w R):ZaB hx a b w R:=ofS11 (Fm:=Zhp hx a b w) Tryz.func35 (by kernel_rfl) (L1 Zqw Tryz.f35 fun _=>rfl) rfl (fun _=>by kernel_rfl) h
def Zk4 (hx:Option Addr) (atx:Int) (w:World) (R:Int→World→Prop):Prop:=
 Zaj hx w fun t6 w1=>
 If (!t6)
 (R (0:Int) w1)
 (Zbs hx atx w1 fun t11 w1_1=>
 If (!t11)
 (R (0:Int) w1_1)
 (NN hx fun a=>
 ∃cellsP cellsN cellsC,w1_1.cell? (a.add 4)=some (.slice cellsP cellsN cellsC)∧
 0≤atx∧atx<(cellsN:Int)∧NN cellsP fun a_1=>
 ∃t20,w1_1.cell? (a_1.add (atx.toNat*1))=some (.int .u64 t20)∧
 R t20 w1_1))
theorem ZcP.of {hx:Option Addr} {atx:Int} {w:World} {R:Int→World→Prop} (h:Zk4 hx atx w R):ZcP hx atx w R:=ofS9 (Fm:=Zk4 hx atx w) Tryz.func36 (by kernel_rfl) (L0 Tryz.f36) rfl (fun _=>by kernel_rfl) h
def Zlu (hx:Option Addr) (w:World) (R:Int→Int→World→Prop):Prop:=
 Zaj hx w fun t6 w1=>
 If (!t6)
 (R (0:Int) (6:Int) w1)
 (NN hx fun a=>
 ∃pool,w1.cell? (a.add 0)=some (.pointer pool)∧
 Zcd pool w1 fun t12 w1_1=>
 If (t12 != (0:Int))
 (R (0:Int) t12 w1_1)
 (NN hx fun a_1=>
 ∃startsP startsN startsC,(drw w1_1).cell? (a_1.add 5)=some (.slice startsP startsN startsC)∧
 NN hx fun a_2=>
 ∃pool_1,(drw w1_1).cell? (a_2.add 0)=some (.pointer pool_1)∧
 ZbI pool_1 (drw w1_1) fun t25 w1_2=>
 w1_2.cell? (a_1.add 5)=(drw w1_1).cell? (a_1.add 5)∧
 BSl Tryz.prog 55 1 [(0,.int .i64 t25)] w1_2 fun t26P t26N t26C w1_3=>
 w1_3.cell? (a_1.add 5)=(drw w1_1).cell? (a_1.add 5)∧
 App Tryz.prog #[55,55] 55 #[.slice startsP startsN startsC,.slice t26P t26N t26C] w1_3 fun t27P t27N t27C w1_4=>
 NN hx fun a_3=>
 St w1_4 ((a_3.add 5).add 0) (.slice t27P t27N t27C) fun w1_5=>
 NN hx fun a_4=>
 ∃marksP marksN marksC,(drw w1_5).cell? (a_4.add 6)=some (.slice marksP marksN marksC)∧
 NN hx fun a_5=>
 ∃trail,(drw w1_5).cell? (a_5.add 1)=some (.pointer trail)∧
 Za1 trail (drw w1_5) fun t39 w1_6=>
 w1_6.cell? (a_4.add 6)=(drw w1_5).cell? (a_4.add 6)∧
 BSl Tryz.prog 55 1 [(0,.int .i64 t39)] w1_6 fun t40P t40N t40C w1_7=>
 w1_7.cell? (a_4.add 6)=(drw w1_5).cell? (a_4.add 6)∧
 App Tryz.prog #[55,55] 55 #[.slice marksP marksN marksC,.slice t40P t40N t40C] w1_7 fun t41P t41N t41C w1_8=>
 NN hx fun a_6=>
 St w1_8 ((a_6.add 6).add 0) (.slice t41P t41N t41C) fun w1_9=>
 NN hx fun a_7=>
 ∃trail_1,w1_9.cell? (a_7.add 1)=some (.pointer trail_1)∧
 Za1 trail_1 w1_9 fun t48 w1_10=>
 R t48 (0:Int) w1_10))
def Zre:Gen where
 loop:=lookL []
 plan:=fun id=>
  bif Nat.beq id 6||Nat.beq id 7 then some ([0,0,2,6,14,0,32,96,224,480,992,2046,4095,8191,16383],.take 0 (.take 1 (.take 2 (.take 3 (.take 4 (.take 5 (.take 6 (.take 7 (.take 8 (.take 9 (.take 10 (.take 11 (.take 12 (.take 13 (.take 14 .done))))))))))))))) else none
theorem Zbq.of {hx:Option Addr} {w:World} {R:Int→Int→World→Prop} (h:Zlu hx w R):Zbq hx w R:=ofS12 (Fm:=Zlu hx w) Tryz.func37 (by kernel_rfl) (L1 Zre Tryz.f37 fun _=>rfl) rfl (fun _=>by kernel_rfl) h
def Zlo (hx:Option Addr) (w:World) (R:Int→World→Prop):Prop:=
 Zaj hx w fun t4 w1=>
 If (!t4)
 (R (6:Int) w1)
 (NN hx fun a=>
 ∃marksP marksN marksC,(drw w1).cell? (a.add 6)=some (.slice marksP marksN marksC)∧
 NN hx fun a_1=>
 ∃marksP_1 marksN_1 marksC_1,(drw w1).cell? (a_1.add 6)=some (.slice marksP_1 marksN_1 marksC_1)∧
 0≤(IntKind.i64.wrap ((marksN_1:Int)-(1:Int)))∧(IntKind.i64.wrap ((marksN_1:Int)-(1:Int)))<(marksN:Int)∧NN marksP fun a_2=>
 ∃t18,(drw w1).cell? (a_2.add ((IntKind.i64.wrap ((marksN_1:Int)-(1:Int))).toNat*1))=some (.int .i64 t18)∧
 NN hx fun a_3=>
 ∃trail,(drw w1).cell? (a_3.add 1)=some (.pointer trail)∧
 Za1 trail (drw w1) fun t23 w1_1=>
 w1_1.cell? (a_2.add ((IntKind.i64.wrap ((marksN_1:Int)-(1:Int))).toNat*1))=(drw w1).cell? (a_2.add ((IntKind.i64.wrap ((marksN_1:Int)-(1:Int))).toNat*1))∧
 w1_1.cell? (a_1.add 6)=(drw w1).cell? (a_1.add 6)∧
 w1_1.cell? (a.add 6)=(drw w1).cell? (a.add 6)∧
 ZcU hx (minI t18 t23) w1_1 fun t25 w1_2=>
 NN hx fun a_4=>
 ∃pool,w1_2.cell? (a_4.add 0)=some (.pointer pool)∧
 Zcg pool w1_2 fun t30 w1_3=>
 NN hx fun a_5=>
 ∃cellsP cellsN cellsC,(drw w1_3).cell? (a_5.add 4)=some (.slice cellsP cellsN cellsC)∧
 NN hx fun a_6=>
 ∃pool_1,(drw w1_3).cell? (a_6.add 0)=some (.pointer pool_1)∧
 ZbI pool_1 (drw w1_3) fun t40 w1_4=>
 w1_4.cell? (a_5.add 4)=(drw w1_3).cell? (a_5.add 4)∧
 0≤t40∧t40≤(cellsC:Int)∧
 NN hx fun a_7=>
 St w1_4 ((a_7.add 4).add 0) (.slice cellsP t40.toNat cellsC) fun w1_5=>
 R (0:Int) w1_5)
def Zra:Gen where
 loop:=lookL []
 plan:=fun id=>
  bif Nat.beq id 3 then some ([0,0,2,6,14,0,32,96,224,480,992,2046,4094,0,8192,24576,57344,122880,262142,524287],.take 0 (.take 1 (.take 2 (.take 3 (.take 4 (.take 5 (.take 6 (.take 7 (.take 8 (.take 9 (.take 10 (.take 11 (.take 12 (.take 13 (.take 14 (.take 15 (.take 16 (.take 17 (.take 18 (.take 19 .done)))))))))))))))))))) else
  bif Nat.beq id 5 then some ([0,0,2,6,14,0,32,96,224,480,1022,2047,4095,8191],.take 0 (.take 1 (.take 2 (.take 3 (.take 4 (.take 5 (.take 6 (.take 7 (.take 8 (.take 9 (.take 10 (.take 11 (.take 12 (.take 13 .done)))))))))))))) else none
theorem ZbU.of {hx:Option Addr} {w:World} {R:Int→World→Prop} (h:Zlo hx w R):ZbU hx w R:=ofS4 (Fm:=Zlo hx w) Tryz.func39 (by kernel_rfl) (L1 Zra Tryz.f39 fun _=>rfl) rfl (fun _=>by kernel_rfl) h
def Zk1 (hx:Option Addr) (w:World) (R:Option Addr→World→Prop):Prop:=
 Zaj hx w fun t4 w1=>
 If (!t4)
 (R none w1)
 (NN hx fun a=>
 ∃pool,w1.cell? (a.add 0)=some (.pointer pool)∧
 R pool w1)
theorem ZcQ.of {hx:Option Addr} {w:World} {R:Option Addr→World→Prop} (h:Zk1 hx w R):ZcQ hx w R:=ofS13 (Fm:=Zk1 hx w) Tryz.func40 (by kernel_rfl) (L0 Tryz.f40) rfl (fun _=>by kernel_rfl) h
def Zl0 (p:Option Addr) (w:World) (R:Int→World→Prop):Prop:=
 ZaI p w fun t4 w1=>
 If (!t4)
 (R (0:Int) w1)
 (NN p fun a=>
 ∃topx,w1.cell? (a.add 1)=some (.int .i64 topx)∧
 R topx w1)
theorem ZbI.of {p:Option Addr} {w:World} {R:Int→World→Prop} (h:Zl0 p w R):ZbI p w R:=ofS4 (Fm:=Zl0 p w) Tryz.func41 (by kernel_rfl) (L0 Tryz.f41) rfl (fun _=>by kernel_rfl) h
def Zmn (hx:Option Addr) (w:World) (R:Int→Int→World→Prop):Prop:=
 Zaj hx w fun t7 w1=>
 If (!t7)
 (R (0:Int) (6:Int) w1)
 (Zce hx (1:Int) w1 fun t110 t111 w1_1=>
 If (t111 != (0:Int))
 (R (0:Int) t111 w1_1)
 (Zc7 t110 w1_1 fun t18 w1_2=>
 R t18 (0:Int) w1_2))
theorem Zdh.of {hx:Option Addr} {w:World} {R:Int→Int→World→Prop} (h:Zmn hx w R):Zdh hx w R:=ofS5 (Fm:=Zmn hx w) Tryz.func42 (by kernel_rfl) (L0 Tryz.f42) rfl (fun _=>by kernel_rfl) h
structure ZcY where
 outP:Option Addr
 outN:Nat
 outC:Nat
 i:Int
def Zll (lP_1:Option Addr) (lN_1:Nat) (lC_1:Nat) (s:ZcY) (w:World) (Kn:ZcY→World→Prop) (Kx0:Option Addr→Nat→Nat→World→Prop):Prop:=
 If (decide (s.i<(lN_1:Int)))
 (0≤s.i∧s.i<(lN_1:Int)∧NN lP_1 fun a=>
 ∃A0,(drw w).cell? (((a.add (s.i.toNat*9)).add 1).add 0)=some (.int .i64 A0)∧
 ∃A1,(drw w).cell? (((a.add (s.i.toNat*9)).add 1).add 1)=some (.int .i64 A1)∧
 ∃A2,(drw w).cell? (((a.add (s.i.toNat*9)).add 1).add 2)=some (.string A2)∧
 ∃A3P A3N A3C,(drw w).cell? (((a.add (s.i.toNat*9)).add 1).add 3)=some (.slice A3P A3N A3C)∧
 0≤s.i∧s.i<(lN_1:Int)∧NN lP_1 fun a_1=>
 ∃B0,(drw w).cell? (((a_1.add (s.i.toNat*9)).add 5).add 0)=some (.int .i64 B0)∧
 ∃B1,(drw w).cell? (((a_1.add (s.i.toNat*9)).add 5).add 1)=some (.int .i64 B1)∧
 ∃B2,(drw w).cell? (((a_1.add (s.i.toNat*9)).add 5).add 2)=some (.string B2)∧
 ∃B3P B3N B3C,(drw w).cell? (((a_1.add (s.i.toNat*9)).add 5).add 3)=some (.slice B3P B3N B3C)∧
 BSl Tryz.prog 22 2 [(0,.agg #[.int .i64 A0,.int .i64 A1,.string A2,.slice A3P A3N A3C]),(1,.agg #[.int .i64 B0,.int .i64 B1,.string B2,.slice B3P B3N B3C])] (drw w) fun t22P t22N t22C w1=>
 App Tryz.prog #[22,22] 22 #[.slice s.outP s.outN s.outC,.slice t22P t22N t22C] w1 fun t23P t23N t23C w1_1=>
 Kn ⟨t23P,t23N,t23C,(IntKind.i64.wrap (s.i+(1:Int)))⟩ w1_1)
 (Kx0 s.outP s.outN s.outC w)
def Zlz (lP_1:Option Addr) (lN_1:Nat) (lC_1:Nat) (s:ZcY) (w:World) (Kx0:Option Addr→Nat→Nat→World→Prop):Prop:=
 LoopS (fun s w Kn=>Zll lP_1 lN_1 lC_1 s w Kn Kx0) s w
def Znp (lP:Option Addr) (lN:Nat) (lC:Nat) (w:World) (R:Option Addr→Nat→Nat→World→Prop):Prop:=
 Zlz lP lN lC ⟨none,0,0,(0:Int)⟩ w
 (fun outP_2 outN_2 outC_2 w1_2=>
 R outP_2 outN_2 outC_2 w1_2)
def Zgx (f:(Option Addr)×Nat×Nat) (s:ZcY):Env:=[⟨0,.slice f.1 f.2.1 f.2.2,none⟩,⟨3,.slice s.outP s.outN s.outC,none⟩,⟨4,.int .i64 s.i,none⟩]
def Ze3 (e:Env) (K:((Option Addr)×Nat×Nat)→ZcY→Prop):Prop:=
 oS e 0 fun lP_1 lN_1 lC_1=>
 oS e 3 fun outP outN outC=>
 oI e 4 .i64 fun i=>
  K (lP_1,lN_1,lC_1) ⟨outP,outN,outC,i⟩
theorem ZkH {N:Nat} (e:Env) (a:Act) (K:((Option Addr)×Nat×Nat)→ZcY→Prop) (hr:Rep N a e) (h0:Ze3 e K):∃f s,K f s∧Rep N a (Zgx f s):=by
 unfold Ze3 at h0
 obtain⟨lP_1,lN_1,lC_1,g0,h1⟩:=Zae h0
 obtain⟨outP,outN,outC,g3,h2⟩:=Zae h1
 obtain⟨i,g4,h3⟩:=Zab h2
 exact⟨_,_,h3,Zac hr (by simp [Zgx,g0,g3,g4])⟩
def Zmf (Q:Post) (e:Env) (w:World):Prop:=
 Ze3 e fun f s=>Zlz f.1 f.2.1 f.2.2 s w (fun outP_1 outN_1 outC_1 w1=>Q (.exit 0) [⟨3,.slice outP_1 outN_1 outC_1,none⟩] w1)
def ZnB:Gen where
 loop:=lookL [([false,true,false,true,true],Zmf)]
 plan:=fun id=>
  bif Nat.beq id 5 then some ([0,0,0,6,14,30,0,0,192,448,960,2046,4095,8191],.take 0 (.take 1 (.take 2 (.take 3 (.take 4 (.take 5 (.take 6 (.take 7 (.take 8 (.take 9 (.take 10 (.take 11 (.take 12 (.take 13 .done)))))))))))))) else none
def Zim (e:Env) (K:((Option Addr)×Nat×Nat)→Option Addr→Nat→Nat→Prop):Prop:=
 oS e 0 fun lP_1 lN_1 lC_1=>
 oS e 3 fun outP_1 outN_1 outC_1=>
  K (lP_1,lN_1,lC_1) outP_1 outN_1 outC_1
theorem Zpv (f:(Option Addr)×Nat×Nat) (s:ZcY) (w:World) (Kn:((Option Addr)×Nat×Nat)→ZcY→World→Prop) (Kx0:((Option Addr)×Nat×Nat)→Option Addr→Nat→Nat→World→Prop) :
  Zll f.1 f.2.1 f.2.2 s w (fun s1 w1=>Kn f s1 w1) (fun outP_1 outN_1 outC_1 w1=>Kx0 f outP_1 outN_1 outC_1 w1) =
  den Tryz.prog Tryz.f43.ntmps ZnB (sub (codeOf Tryz.f43) [false,false,true,false,true,true]) [false,false,true,false,true,true] (roundQ (fun e w=>Ze3 e fun f s=>Kn f s w) (fun e w=>False) (fun id e w=>match Nat.beq id 0 with | true=>Zim e fun f outP_1 outN_1 outC_1=>Kx0 f outP_1 outN_1 outC_1 w | false=>False)) (Zgx f s) w:=by kernel_rfl
theorem ZqM:OneOk Tryz.prog Tryz.f43.ntmps ZnB (codeOf Tryz.f43) [false,true,false,true,true] Zmf:=by
 intro c hc ih Q e w a hr h
 have hcc:sub (codeOf Tryz.f43) [false,false,true,false,true,true]=c:=Zaf hc
 obtain⟨f,s,h,hrep⟩:=ZkH e a _ hr h
 obtain⟨J,μ,hj,hround⟩:=h
 refine Zad Zan Zag ih Zgx Ze3 ZkH hc f J μ (Kr:=fun e w=>False) (Kx:=fun id e w=>match Nat.beq id 0 with | true=>(Zim e fun f1 outP_1 outN_1 outC_1=>f1=f∧Q (.exit 0) [⟨3,.slice outP_1 outN_1 outC_1,none⟩] w) | false=>False) ?_ ?_ ?_ s w a hj hrep
 ·intro e a w hr h
  exact h.elim
 ·intro id e a w hr h0
  (try dsimp only at h0)
  split at h0
  ·rename_i hid
   obtain rfl:=Nat.eq_of_beq_eq_true hid
   unfold Zim at h0
   obtain⟨lP_1,lN_1,lC_1,g0,h1⟩:=Zae h0
   obtain⟨outP_1,outN_1,outC_1,g3,h2⟩:=Zae h1
   obtain⟨hf,hq⟩:=h2
   subst hf
   exact⟨_,Zac hr (by simp [g3]),hq⟩
  ·exact h0.elim
 ·intro s w hj
  have hb:=hround s w hj
  rw[←hcc]
  have e1:=Zpv f s w (fun f1 s1 w1=>f1=f∧J s1 w1∧μ s1 w1<μ s w) (fun f1 outP_1 outN_1 outC_1 w1=>f1=f∧Q (.exit 0) [⟨3,.slice outP_1 outN_1 outC_1,none⟩] w1)
  simp only[true_and] at e1
  exact cast e1 hb
theorem Zqu:LoopOk Tryz.prog Tryz.f43.ntmps ZnB (codeOf Tryz.f43):=Zal rfl ⟨ZqM,trivial⟩
theorem Zdf.of {lP:Option Addr} {lN:Nat} {lC:Nat} {w:World} {R:Option Addr→Nat→Nat→World→Prop} (h:Znp lP lN lC w R):Zdf lP lN lC w R:=ofS6 (Fm:=Znp lP lN lC w) Tryz.func43 (by kernel_rfl) Zqu rfl (fun _=>by kernel_rfl) h
end Go.Proofs.YtdaenijbokialaaGreat
