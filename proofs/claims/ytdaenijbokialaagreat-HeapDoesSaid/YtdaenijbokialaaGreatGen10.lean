import Derived.Test.YtdaenijbokialaaGreatGenC
set_option maxRecDepth 100000
set_option linter.unusedVariables false
namespace Go.Proofs.YtdaenijbokialaaGreat
open Go Go.D Go.Proofs
def Zjo (t:Option Addr) (w:World) (R:Bool→World→Prop):Prop:=
 If t.isNone
 (R false w)
 (NN t fun a=>
 ∃limitx,w.cell? (a.add 4)=some (.int .i64 limitx)∧
 If (limitx==(0:Int))
 (R false w)
 (NN t fun a_1=>
 Zeg (some (a_1.add 0)) (.func (.func 157) #[.pointer t] #[]) w fun w1=>
 R true w1))
theorem ZaJ.of {t:Option Addr} {w:World} {R:Bool→World→Prop} (h:Zjo t w R):ZaJ t w R:=ofS2 (Fm:=Zjo t w) Tryz.func138 (by kernel_rfl) (L0 Tryz.f138) rfl (fun _=>by kernel_rfl) h
def ZfQ (x:Option Addr) (delta:Int) (w:World) (R:Int→World→Prop):Prop:=
 NN x fun a=>
 CallX Tryz.prog 158 [.pointer (some (a.add 0)),.int .i64 delta] w fun v w1=>∃t9:Int,v=(.int .i64 t9)∧
 R t9 w1
theorem ZaP.of {x:Option Addr} {delta:Int} {w:World} {R:Int→World→Prop} (h:ZfQ x delta w R):ZaP x delta w R:=ofS4 (Fm:=ZfQ x delta w) Tryz.func139 (by kernel_rfl) (L0 Tryz.f139) rfl (fun _=>by kernel_rfl) h
def ZlS (m:Option Addr) (i:Int) (w:World) (R:Int→Int→World→Prop):Prop:=
 Zdz m i w fun t9 w1=>
 If (t9 != (0:Int))
 (R (0:Int) t9 w1)
 (NN m fun a=>
 ∃lP lN lC,w1.cell? (a.add 0)=some (.slice lP lN lC)∧
 0≤i∧i<(lN:Int)∧NN lP fun a_1=>
 ∃t19,w1.cell? (a_1.add (i.toNat*1))=some (.int .u64 t19)∧
 R t19 (0:Int) w1)
theorem Zdu.of {m:Option Addr} {i:Int} {w:World} {R:Int→Int→World→Prop} (h:ZlS m i w R):Zdu m i w R:=ofS5 (Fm:=ZlS m i w) Tryz.func140 (by kernel_rfl) (L0 Tryz.f140) rfl (fun _=>by kernel_rfl) h
def Znt (x:Int) (y:Int) (R:Bool→World→Prop) (w1_2:World):Prop:=
 R (decide (x<y)) w1_2
def Zqo (x:Int) (y:Int) (w:World) (R:Bool→World→Prop):Prop:=
 ZdI x w fun t6 w1=>
 If t6
 (ZdI y w1 fun t9 w1_1=>
 If (!t9)
 (R true w1_1)
 (Znt x y R w1_1))
 (Znt x y R w1)
theorem Zi9.of {x:Int} {y:Int} {w:World} {R:Bool→World→Prop} (h:Zqo x y w R):Zi9 x y w R:=ofS2 (Fm:=Zqo x y w) Tryz.func143 (by kernel_rfl) (L0 Tryz.f143) rfl (fun _=>by kernel_rfl) h
def ZmD (x:Int) (w:World) (R:Bool→World→Prop):Prop:=
 R (x != x) w
theorem Zee.of {x:Int} {w:World} {R:Bool→World→Prop} (h:ZmD x w R):Zee x w R:=ofS2 (Fm:=ZmD x w) Tryz.func144 (by kernel_rfl) (L0 Tryz.f144) rfl (fun _=>by kernel_rfl) h
structure Zb5 where
 t39:Int
def ZjY (cx_1:Option Addr) (depth_2:Int) (t37P:Option Addr) (t37N:Nat) (t37C:Nat) (t38:Int) (s:Zb5) (w:World) (Kn:Zb5→World→Prop) (Kx0:World→Prop):Prop:=
 If (decide (s.t39<t38))
 (0≤s.t39∧s.t39<(t37N:Int)∧NN t37P fun a_7=>
 ∃t420,w.cell? ((a_7.add (s.t39.toNat*4)).add 0)=some (.int .i64 t420)∧
 ∃t421,w.cell? ((a_7.add (s.t39.toNat*4)).add 1)=some (.int .i64 t421)∧
 ∃t422,w.cell? ((a_7.add (s.t39.toNat*4)).add 2)=some (.string t422)∧
 ∃t423P t423N t423C,w.cell? ((a_7.add (s.t39.toNat*4)).add 3)=some (.slice t423P t423N t423C)∧
 New w (.cells #[.int .i64 0,.int .i64 0,.string ⟨#[]⟩,.slice none 0 0] 31) fun r_1 w1_7=>
 St w1_7 (Addr.add ⟨r_1,0,none⟩ 0) (.int .i64 t420) fun w1_8=>
 St w1_8 (Addr.add ⟨r_1,0,none⟩ 1) (.int .i64 t421) fun w1_9=>
 St w1_9 (Addr.add ⟨r_1,0,none⟩ 2) (.string t422) fun w1_10=>
 St w1_10 (Addr.add ⟨r_1,0,none⟩ 3) (.slice t423P t423N t423C) fun w1_11=>
 ∃t440,w1_11.cell? (Addr.add ⟨r_1,0,none⟩ 0)=some (.int .i64 t440)∧
 ∃t441,w1_11.cell? (Addr.add ⟨r_1,0,none⟩ 1)=some (.int .i64 t441)∧
 ∃t442,w1_11.cell? (Addr.add ⟨r_1,0,none⟩ 2)=some (.string t442)∧
 ∃t443P t443N t443C,w1_11.cell? (Addr.add ⟨r_1,0,none⟩ 3)=some (.slice t443P t443N t443C)∧
 ZcD cx_1 t440 t441 t442 t443P t443N t443C (IntKind.i64.wrap (depth_2+(1:Int))) w1_11 fun w1_12=>
 Kn ⟨(IntKind.i64.wrap (s.t39+(1:Int)))⟩ w1_12)
 (Kx0 w)
def ZgE (cx_1:Option Addr) (depth_2:Int) (t37P:Option Addr) (t37N:Nat) (t37C:Nat) (t38:Int) (s:Zb5) (w:World) (Kx0:World→Prop):Prop:=
 LoopS (fun s w Kn=>ZjY cx_1 depth_2 t37P t37N t37C t38 s w Kn Kx0) s w
def ZjE (cx:Option Addr) (depth:Int) (R:World→Prop) (r:Nat) (w1_6:World):Prop:=
 ∃LP LN LC,w1_6.cell? (Addr.add ⟨r,0,none⟩ 3)=some (.slice LP LN LC)∧
 ZgE cx depth LP LN LC (LN:Int) ⟨(0:Int)⟩ w1_6
 (fun w1_13=>
 R w1_13)
def Zl9 (cx:Option Addr) (t0:Int) (t1:Int) (t2:ByteArray) (t3P:Option Addr) (t3N:Nat) (t3C:Nat) (depth:Int) (w:World) (R:World→Prop):Prop:=
 New w (.cells #[.int .i64 t0,.int .i64 t1,.string t2,.slice t3P t3N t3C] 31) fun r w1=>
 NN cx fun a=>
 ∃parts,w1.cell? (a.add 0)=some (.int .i64 parts)∧
 NN cx fun a_1=>
 St w1 ((a_1.add 0).add 0) (.int .i64 (IntKind.i64.wrap (parts+(1:Int)))) fun w1_1=>
 NN cx fun a_2=>
 ∃depth_1,w1_1.cell? (a_2.add 1)=some (.int .i64 depth_1)∧
 NN cx fun a_3=>
 St w1_1 ((a_3.add 1).add 0) (.int .i64 (maxI depth_1 depth)) fun w1_2=>
 NN cx fun a_4=>
 ∃bad,w1_2.cell? (a_4.add 2)=some (.bool bad)∧
 If bad
 (NN cx fun a_5=>
 St w1_2 ((a_5.add 2).add 0) (.bool true) fun w1_3=>
 ZjE cx depth R r w1_3)
 (∃t300,w1_2.cell? (Addr.add ⟨r,0,none⟩ 0)=some (.int .i64 t300)∧
 ∃t301,w1_2.cell? (Addr.add ⟨r,0,none⟩ 1)=some (.int .i64 t301)∧
 ∃t302,w1_2.cell? (Addr.add ⟨r,0,none⟩ 2)=some (.string t302)∧
 ∃t303P t303N t303C,w1_2.cell? (Addr.add ⟨r,0,none⟩ 3)=some (.slice t303P t303N t303C)∧
 Zg0 t300 t301 t302 t303P t303N t303C w1_2 fun t31 w1_4=>
 NN cx fun a_6=>
 St w1_4 ((a_6.add 2).add 0) (.bool (!t31)) fun w1_5=>
 ZjE cx depth R r w1_5)
def Zff (f:(Option Addr)×Int×(Option Addr)×Nat×Nat×Int) (s:Zb5):Env:=[⟨0,.pointer f.1,none⟩,⟨2,.int .i64 f.2.1,none⟩,⟨37,.slice f.2.2.1 f.2.2.2.1 f.2.2.2.2.1,none⟩,⟨38,.int .i64 f.2.2.2.2.2,none⟩,⟨39,.int .i64 s.t39,none⟩]
def ZdS (e:Env) (K:((Option Addr)×Int×(Option Addr)×Nat×Nat×Int)→Zb5→Prop):Prop:=
 oP e 0 fun cx_1=>
 oI e 2 .i64 fun depth_2=>
 oS e 37 fun t37P t37N t37C=>
 oI e 38 .i64 fun t38=>
 oI e 39 .i64 fun t39=>
  K (cx_1,depth_2,t37P,t37N,t37C,t38) ⟨t39⟩
theorem Zjv {N:Nat} (e:Env) (a:Act) (K:((Option Addr)×Int×(Option Addr)×Nat×Nat×Int)→Zb5→Prop) (hr:Rep N a e) (h0:ZdS e K):∃f s,K f s∧Rep N a (Zff f s):=by
 unfold ZdS at h0
 obtain⟨cx_1,g0,h1⟩:=Zar h0
 obtain⟨depth_2,g2,h2⟩:=Zab h1
 obtain⟨t37P,t37N,t37C,g37,h3⟩:=Zae h2
 obtain⟨t38,g38,h4⟩:=Zab h3
 obtain⟨t39,g39,h5⟩:=Zab h4
 exact⟨_,_,h5,Zac hr (by simp [Zff,g0,g2,g37,g38,g39])⟩
def ZkK (Q:Post) (e:Env) (w:World):Prop:=
 ZdS e fun f s=>ZgE f.1 f.2.1 f.2.2.1 f.2.2.2.1 f.2.2.2.2.1 f.2.2.2.2.2 s w (fun w1=>Q (.exit 0) [] w1)
def Zmm:Gen where
 loop:=lookL [([false,true,true,true,true,true],ZkK)]
 plan:=fun _=>none
def Zhk (e:Env) (K:((Option Addr)×Int×(Option Addr)×Nat×Nat×Int)→Prop):Prop:=
 oP e 0 fun cx_1=>
 oI e 2 .i64 fun depth_2=>
 oS e 37 fun t37P t37N t37C=>
 oI e 38 .i64 fun t38=>
  K (cx_1,depth_2,t37P,t37N,t37C,t38)
theorem Zoj (f:(Option Addr)×Int×(Option Addr)×Nat×Nat×Int) (s:Zb5) (w:World) (Kn:((Option Addr)×Int×(Option Addr)×Nat×Nat×Int)→Zb5→World→Prop) (Kx0:((Option Addr)×Int×(Option Addr)×Nat×Nat×Int)→World→Prop) :
  ZjY f.1 f.2.1 f.2.2.1 f.2.2.2.1 f.2.2.2.2.1 f.2.2.2.2.2 s w (fun s1 w1=>Kn f s1 w1) (fun w1=>Kx0 f w1) =
  den Tryz.prog Tryz.f145.ntmps Zmm (sub (codeOf Tryz.f145) [false,false,true,true,true,true,true]) [false,false,true,true,true,true,true] (roundQ (fun e w=>ZdS e fun f s=>Kn f s w) (fun e w=>False) (fun id e w=>match Nat.beq id 0 with | true=>Zhk e fun f=>Kx0 f w | false=>False)) (Zff f s) w:=by kernel_rfl
theorem ZpB:OneOk Tryz.prog Tryz.f145.ntmps Zmm (codeOf Tryz.f145) [false,true,true,true,true,true] ZkK:=by
 intro c hc ih Q e w a hr h
 have hcc:sub (codeOf Tryz.f145) [false,false,true,true,true,true,true]=c:=Zaf hc
 obtain⟨f,s,h,hrep⟩:=Zjv e a _ hr h
 obtain⟨J,μ,hj,hround⟩:=h
 refine Zad Zan Zag ih Zff ZdS Zjv hc f J μ (Kr:=fun e w=>False) (Kx:=fun id e w=>match Nat.beq id 0 with | true=>(Zhk e fun f1=>f1=f∧Q (.exit 0) [] w) | false=>False) ?_ ?_ ?_ s w a hj hrep
 ·intro e a w hr h
  exact h.elim
 ·intro id e a w hr h0
  (try dsimp only at h0)
  split at h0
  ·rename_i hid
   obtain rfl:=Nat.eq_of_beq_eq_true hid
   unfold Zhk at h0
   obtain⟨cx_1,g0,h1⟩:=Zar h0
   obtain⟨depth_2,g2,h2⟩:=Zab h1
   obtain⟨t37P,t37N,t37C,g37,h3⟩:=Zae h2
   obtain⟨t38,g38,h4⟩:=Zab h3
   obtain⟨hf,hq⟩:=h4
   subst hf
   exact⟨_,Zac hr (by simp),hq⟩
  ·exact h0.elim
 ·intro s w hj
  have hb:=hround s w hj
  rw[←hcc]
  have e1:=Zoj f s w (fun f1 s1 w1=>f1=f∧J s1 w1∧μ s1 w1<μ s w) (fun f1 w1=>f1=f∧Q (.exit 0) [] w1)
  simp only[true_and] at e1
  exact cast e1 hb
theorem ZpA:LoopOk Tryz.prog Tryz.f145.ntmps Zmm (codeOf Tryz.f145):=Zak rfl ⟨ZpB,trivial⟩
theorem ZcD.of {cx:Option Addr} {t0:Int} {t1:Int} {t2:ByteArray} {t3P:Option Addr} {t3N:Nat} {t3C:Nat} {depth:Int} {w:World} {R:World→Prop} (h:Zl9 cx t0 t1 t2 t3P t3N t3C depth w R):ZcD cx t0 t1 t2 t3P t3N t3C depth w R:=ofS1 (Fm:=Zl9 cx t0 t1 t2 t3P t3N t3C depth w) Tryz.func145 (by kernel_rfl) ZpA rfl (fun _=>by kernel_rfl) h
def Zqq (n:Int) (w:World) (R:Int→Int→ByteArray→Option Addr→Nat→Nat→World→Prop):Prop:=
 New w (.cells #[.int .i64 0,.int .i64 0,.string ⟨#[]⟩,.slice none 0 0] 31) fun r w1=>
 St w1 (Addr.add ⟨r,0,none⟩ 0) (.int .i64 1) fun w1_1=>
 St w1_1 (Addr.add ⟨r,0,none⟩ 1) (.int .i64 n) fun w1_2=>
 St w1_2 (Addr.add ⟨r,0,none⟩ 2) (.string ⟨#[]⟩) fun w1_3=>
 St w1_3 (Addr.add ⟨r,0,none⟩ 3) (.slice none 0 0) fun w1_4=>
 ∃r_1,w1_4.cell? (Addr.add ⟨r,0,none⟩ 0)=some (.int .i64 r_1)∧
 ∃r_2,w1_4.cell? (Addr.add ⟨r,0,none⟩ 1)=some (.int .i64 r_2)∧
 ∃r_3,w1_4.cell? (Addr.add ⟨r,0,none⟩ 2)=some (.string r_3)∧
 ∃rP rN rC,w1_4.cell? (Addr.add ⟨r,0,none⟩ 3)=some (.slice rP rN rC)∧
 R r_1 r_2 r_3 rP rN rC w1_4
theorem Zi0.of {n:Int} {w:World} {R:Int→Int→ByteArray→Option Addr→Nat→Nat→World→Prop} (h:Zqq n w R):Zi0 n w R:=ofS10 (Fm:=Zqq n w) Tryz.func146 (by kernel_rfl) (L0 Tryz.f146) rfl (fun _=>by kernel_rfl) h
def ZfW (R:Bool→World→Prop) (w1_1:World):Prop:=
 R false w1_1
def Zk0 (t:Option Addr) (idx:Int) (w:World) (R:Bool→World→Prop):Prop:=
 ZaJ t w fun t6 w1=>
 If t6
 (If (decide (idx≥(0:Int)))
 (NN t fun a=>
 ∃lP lN lC,w1.cell? (a.add 5)=some (.slice lP lN lC)∧
 If (decide (idx<(lN:Int)))
 (NN t fun a_1=>
 ∃lP_1 lN_1 lC_1,w1.cell? (a_1.add 5)=some (.slice lP_1 lN_1 lC_1)∧
 0≤idx∧idx<(lN_1:Int)∧NN lP_1 fun a_2=>
 ∃isx,w1.cell? ((a_2.add (idx.toNat*3)).add 1)=some (.bool isx)∧
 R isx w1)
 (ZfW R w1))
 (ZfW R w1))
 (ZfW R w1)
theorem ZcO.of {t:Option Addr} {idx:Int} {w:World} {R:Bool→World→Prop} (h:Zk0 t idx w R):ZcO t idx w R:=ofS2 (Fm:=Zk0 t idx w) Tryz.func147 (by kernel_rfl) (L0 Tryz.f147) rfl (fun _=>by kernel_rfl) h
def Zf9 (R:Int→World→Prop) (w1_1:World):Prop:=
 R (4:Int) w1_1
def ZiS (t:Option Addr) (idx:Int) (w:World) (R:Int→World→Prop):Prop:=
 ZaY t w fun t7 w1=>
 If (!t7)
 (R (6:Int) w1)
 (If (decide (idx<(0:Int)))
 (Zf9 R w1)
 (NN t fun a=>
 ∃lP lN lC,w1.cell? (a.add 2)=some (.slice lP lN lC)∧
 If (decide (idx≥(lN:Int)))
 (Zf9 R w1)
 (NN t fun a_1=>
 ∃lP_1 lN_1 lC_1,w1.cell? (a_1.add 2)=some (.slice lP_1 lN_1 lC_1)∧
 0≤idx∧idx<(lN_1:Int)∧NN lP_1 fun a_2=>
 ∃isx,w1.cell? ((a_2.add (idx.toNat*4)).add 2)=some (.bool isx)∧
 If (!isx)
 (R (4:Int) w1)
 (R (0:Int) w1))))
theorem ZbH.of {t:Option Addr} {idx:Int} {w:World} {R:Int→World→Prop} (h:ZiS t idx w R):ZbH t idx w R:=ofS4 (Fm:=ZiS t idx w) Tryz.func148 (by kernel_rfl) (L0 Tryz.f148) rfl (fun _=>by kernel_rfl) h
structure Zba where
 t8:Int
def ZgS (sP_1:Option Addr) (sN_1:Nat) (sC_1:Nat) (fx_1:Value) (t7:Int) (s:Zba) (w:World) (Kn:Zba→World→Prop) (Kx0:World→Prop) (Kr:Int→World→Prop):Prop:=
 If (decide (s.t8<t7))
 (0≤s.t8∧s.t8<(sN_1:Int)∧NN sP_1 fun a=>
 ∃t150,w.cell? ((a.add (s.t8.toNat*2)).add 0)=some (.int .i64 t150)∧
 ∃t151,w.cell? ((a.add (s.t8.toNat*2)).add 1)=some (.int .i64 t151)∧
 CallV Tryz.prog fx_1 [.agg #[.int .i64 t150,.int .i64 t151]] w fun v w1=>∃t16:Bool,v=(.bool t16)∧
 If t16
 (Kr s.t8 w1)
 (Kn ⟨(IntKind.i64.wrap (s.t8+(1:Int)))⟩ w1))
 (Kx0 w)
def Zhc (sP_1:Option Addr) (sN_1:Nat) (sC_1:Nat) (fx_1:Value) (t7:Int) (s:Zba) (w:World) (Kx0:World→Prop) (Kr:Int→World→Prop):Prop:=
 LoopS (fun s w Kn=>ZgS sP_1 sN_1 sC_1 fx_1 t7 s w Kn Kx0 Kr) s w
def Zjl (sP:Option Addr) (sN:Nat) (sC:Nat) (fx:Value) (w:World) (R:Int→World→Prop):Prop:=
 Zhc sP sN sC fx (sN:Int) ⟨(0:Int)⟩ w
 (fun w1_1=>
 R (-1) w1_1)
 (fun t4_1 w1_2=>
 R t4_1 w1_2)
def Zd8 (f:(Option Addr)×Nat×Nat×Value×Int) (s:Zba):Env:=[⟨0,.slice f.1 f.2.1 f.2.2.1,none⟩,⟨1,f.2.2.2.1,none⟩,⟨7,.int .i64 f.2.2.2.2,none⟩,⟨8,.int .i64 s.t8,none⟩]
def ZcF (e:Env) (K:((Option Addr)×Nat×Nat×Value×Int)→Zba→Prop):Prop:=
 oS e 0 fun sP_1 sN_1 sC_1=>
 oV e 1 fun fx_1=>
 oI e 7 .i64 fun t7=>
 oI e 8 .i64 fun t8=>
  K (sP_1,sN_1,sC_1,fx_1,t7) ⟨t8⟩
theorem Zhz {N:Nat} (e:Env) (a:Act) (K:((Option Addr)×Nat×Nat×Value×Int)→Zba→Prop) (hr:Rep N a e) (h0:ZcF e K):∃f s,K f s∧Rep N a (Zd8 f s):=by
 unfold ZcF at h0
 obtain⟨sP_1,sN_1,sC_1,g0,h1⟩:=Zae h0
 obtain⟨fx_1,g1,h2⟩:=ZmO h1
 obtain⟨t7,g7,h3⟩:=Zab h2
 obtain⟨t8,g8,h4⟩:=Zab h3
 exact⟨_,_,h4,Zac hr (by simp [Zd8,g0,g1,g7,g8])⟩
def ZiX (Q:Post) (e:Env) (w:World):Prop:=
 ZcF e fun f s=>Zhc f.1 f.2.1 f.2.2.1 f.2.2.2.1 f.2.2.2.2 s w (fun w1=>Q (.exit 0) [] w1) (fun t4 w1=>Q .ret [⟨4,.int .i64 t4,none⟩] w1)
def ZjN:Gen where
 loop:=lookL [([false,true,false,true],ZiX)]
 plan:=fun _=>none
def ZfD (e:Env) (K:((Option Addr)×Nat×Nat×Value×Int)→Prop):Prop:=
 oS e 0 fun sP_1 sN_1 sC_1=>
 oV e 1 fun fx_1=>
 oI e 7 .i64 fun t7=>
  K (sP_1,sN_1,sC_1,fx_1,t7)
def ZeD (e:Env) (K:((Option Addr)×Nat×Nat×Value×Int)→Int→Prop):Prop:=
 oS e 0 fun sP_1 sN_1 sC_1=>
 oV e 1 fun fx_1=>
 oI e 7 .i64 fun t7=>
 oI e 4 .i64 fun t4=>
  K (sP_1,sN_1,sC_1,fx_1,t7) t4
theorem Znc (f:(Option Addr)×Nat×Nat×Value×Int) (s:Zba) (w:World) (Kn:((Option Addr)×Nat×Nat×Value×Int)→Zba→World→Prop) (Kx0:((Option Addr)×Nat×Nat×Value×Int)→World→Prop) (Kr:((Option Addr)×Nat×Nat×Value×Int)→Int→World→Prop) :
  ZgS f.1 f.2.1 f.2.2.1 f.2.2.2.1 f.2.2.2.2 s w (fun s1 w1=>Kn f s1 w1) (fun w1=>Kx0 f w1) (fun t4 w1=>Kr f t4 w1) =
  den Tryz.prog Tryz.f149.ntmps ZjN (sub (codeOf Tryz.f149) [false,false,true,false,true]) [false,false,true,false,true] (roundQ (fun e w=>ZcF e fun f s=>Kn f s w) (fun e w=>ZeD e fun f t4=>Kr f t4 w) (fun id e w=>match Nat.beq id 0 with | true=>ZfD e fun f=>Kx0 f w | false=>False)) (Zd8 f s) w:=by kernel_rfl
theorem Zn9:OneOk Tryz.prog Tryz.f149.ntmps ZjN (codeOf Tryz.f149) [false,true,false,true] ZiX:=by
 intro c hc ih Q e w a hr h
 have hcc:sub (codeOf Tryz.f149) [false,false,true,false,true]=c:=Zaf hc
 obtain⟨f,s,h,hrep⟩:=Zhz e a _ hr h
 obtain⟨J,μ,hj,hround⟩:=h
 refine Zad Zan Zag ih Zd8 ZcF Zhz hc f J μ (Kr:=fun e w=>ZeD e fun f1 t4=>f1=f∧Q .ret [⟨4,.int .i64 t4,none⟩] w) (Kx:=fun id e w=>match Nat.beq id 0 with | true=>(ZfD e fun f1=>f1=f∧Q (.exit 0) [] w) | false=>False) ?_ ?_ ?_ s w a hj hrep
 ·intro e a w hr h0
  unfold ZeD at h0
  obtain⟨sP_1,sN_1,sC_1,g0,h1⟩:=Zae h0
  obtain⟨fx_1,g1,h2⟩:=ZmO h1
  obtain⟨t7,g7,h3⟩:=Zab h2
  obtain⟨t4,g4,h4⟩:=Zab h3
  obtain⟨hf,hq⟩:=h4
  subst hf
  exact⟨_,Zac hr (by simp [g4]),hq⟩
 ·intro id e a w hr h0
  (try dsimp only at h0)
  split at h0
  ·rename_i hid
   obtain rfl:=Nat.eq_of_beq_eq_true hid
   unfold ZfD at h0
   obtain⟨sP_1,sN_1,sC_1,g0,h1⟩:=Zae h0
   obtain⟨fx_1,g1,h2⟩:=ZmO h1
   obtain⟨t7,g7,h3⟩:=Zab h2
   obtain⟨hf,hq⟩:=h3
   subst hf
   exact⟨_,Zac hr (by simp),hq⟩
  ·exact h0.elim
 ·intro s w hj
  have hb:=hround s w hj
  rw[←hcc]
  have e1:=Znc f s w (fun f1 s1 w1=>f1=f∧J s1 w1∧μ s1 w1<μ s w) (fun f1 w1=>f1=f∧Q (.exit 0) [] w1) (fun f1 t4 w1=>f1=f∧Q .ret [⟨4,.int .i64 t4,none⟩] w1)
  simp only[true_and] at e1
  exact cast e1 hb
theorem Zod:LoopOk Tryz.prog Tryz.f149.ntmps ZjN (codeOf Tryz.f149):=Zak rfl ⟨Zn9,trivial⟩
theorem Zb7.of {sP:Option Addr} {sN:Nat} {sC:Nat} {fx:Value} {w:World} {R:Int→World→Prop} (h:Zjl sP sN sC fx w R):Zb7 sP sN sC fx w R:=ofS4 (Fm:=Zjl sP sN sC fx w) Tryz.func149 (by kernel_rfl) Zod rfl (fun _=>by kernel_rfl) h
def ZjD (r0:Int) (r1:Int) (c0:Addr) (w:World) (R:Bool→World→Prop):Prop:=
 New w (.cells #[.int .i64 r0,.int .i64 r1] 225) fun r w1=>
 ∃Len,w1.cell? (Addr.add ⟨r,0,none⟩ 1)=some (.int .i64 Len)∧
 ∃t6,w1.cell? c0=some (.int .i64 t6)∧
 R (decide (Len≥t6)) w1
theorem ZdG.of {r0:Int} {r1:Int} {c0:Addr} {w:World} {R:Bool→World→Prop} (h:ZjD r0 r1 c0 w R):ZdG r0 r1 c0 w R:=ofS2 (Fm:=ZjD r0 r1 c0 w) Tryz.func150 (by kernel_rfl) (L0 Tryz.f150) rfl (fun _=>by kernel_rfl) h
def Zml (sP:Option Addr) (sN:Nat) (sC:Nat) (i:Int) (j:Int) (w:World) (R:Option Addr→Nat→Nat→World→Prop):Prop:=
 0≤i∧i≤j∧j≤(sN:Int)∧(sN:Int)≤(sC:Int)∧
 If (i==j)
 (R sP sN sC w)
 (0≤i∧i≤(sC:Int)∧
 0≤j∧j≤(sN:Int)∧
 App Tryz.prog #[167,167] 167 #[.slice sP i.toNat sC,.slice (adv sP sC j.toNat 2) (sN-j.toNat) (sC-j.toNat)] (drw w) fun t26P t26N t26C w1=>
 0≤(t26N:Int)∧(t26N:Int)≤(sN:Int)∧(sN:Int)≤(t26C:Int)∧
 Clr Tryz.prog #[167] 0 #[.slice (adv t26P t26C (t26N:Int).toNat 2) ((sN:Int).toNat-(t26N:Int).toNat) (t26C-(t26N:Int).toNat)] w1 fun v w1_1=>
 R t26P t26N t26C w1_1)
def ZrZ:Gen where
 loop:=lookL []
 plan:=fun id=>
  bif Nat.beq id 5 then some ([0,0,3,0,0,24,63,127],.take 0 (.take 1 (.take 2 (.take 3 (.take 4 (.take 5 (.take 6 (.take 7 .done)))))))) else none
theorem ZcC.of {sP:Option Addr} {sN:Nat} {sC:Nat} {i:Int} {j:Int} {w:World} {R:Option Addr→Nat→Nat→World→Prop} (h:Zml sP sN sC i j w R):ZcC sP sN sC i j w R:=ofS6 (Fm:=Zml sP sN sC i j w) Tryz.func151 (by kernel_rfl) (L1 ZrZ Tryz.f151 fun _=>rfl) rfl (fun _=>by kernel_rfl) h
def ZlA (m:Option Addr) (w:World) (R:World→Prop):Prop:=
 NN m fun a=>
 ∃mostx,(drw w).cell? (a.add 2)=some (.int .i64 mostx)∧
 NN m fun a_1=>
 ∃lP lN lC,(drw w).cell? (a_1.add 0)=some (.slice lP lN lC)∧
 NN m fun a_2=>
 St (drw w) ((a_2.add 2).add 0) (.int .i64 (maxI mostx (lN:Int))) fun w1=>
 R w1
def Zrc:Gen where
 loop:=lookL []
 plan:=fun id=>
  bif Nat.beq id 0 then some ([0,0,2,6,14,0,32,96,224,480,1022,2047,4095,8191],.take 0 (.take 1 (.take 2 (.take 3 (.take 4 (.take 5 (.take 6 (.take 7 (.take 8 (.take 9 (.take 10 (.take 11 (.take 12 (.take 13 .done)))))))))))))) else none
theorem Zc0.of {m:Option Addr} {w:World} {R:World→Prop} (h:ZlA m w R):Zc0 m w R:=ofS1 (Fm:=ZlA m w) Tryz.func152 (by kernel_rfl) (L1 Zrc Tryz.f152 fun _=>rfl) rfl (fun _=>by kernel_rfl) h
structure ZaU where
 i:Int
def Zgf (R:Int→World→Prop) (w1_1:World):Prop:=
 R (-1) w1_1
def Zgk (p_1:Option Addr) (atx_1:Int) (s:ZaU) (w:World) (Kn:ZaU→World→Prop) (Kx0:Int→World→Prop):Prop:=
 NN p_1 fun a_2=>
 ∃lP_1 lN_1 lC_1,w.cell? (a_2.add 0)=some (.slice lP_1 lN_1 lC_1)∧
 If (decide ((IntKind.i64.wrap (s.i+(1:Int)))<(lN_1:Int)))
 (NN p_1 fun a_3=>
 ∃lP_2 lN_2 lC_2,w.cell? (a_3.add 0)=some (.slice lP_2 lN_2 lC_2)∧
 0≤(IntKind.i64.wrap (s.i+(1:Int)))∧(IntKind.i64.wrap (s.i+(1:Int)))<(lN_2:Int)∧NN lP_2 fun a_4=>
 ∃startx,w.cell? ((a_4.add ((IntKind.i64.wrap (s.i+(1:Int))).toNat*2)).add 0)=some (.int .i64 startx)∧
 If (startx==atx_1)
 (Kn ⟨(IntKind.i64.wrap (s.i+(1:Int)))⟩ w)
 (Kx0 s.i w))
 (Kx0 s.i w)
def Zgu (p_1:Option Addr) (atx_1:Int) (s:ZaU) (w:World) (Kx0:Int→World→Prop):Prop:=
 LoopS (fun s w Kn=>Zgk p_1 atx_1 s w Kn Kx0) s w
def ZfX (p:Option Addr) (atx:Int) (w:World) (R:Int→World→Prop):Prop:=
 ZaI p w fun t8 w1=>
 If (!t8)
 (Zgf R w1)
 (If (decide (atx<(0:Int)))
 (Zgf R w1)
 (NN p fun a=>
 ∃topx,w1.cell? (a.add 1)=some (.int .i64 topx)∧
 If (decide (atx≥topx))
 (R (-1) w1)
 (NN p fun a_1=>
 ∃lP lN lC,w1.cell? (a_1.add 0)=some (.slice lP lN lC)∧
 ZaA lP lN lC atx (.func (.func 164) #[] #[]) w1 fun t280 t281 w1_2=>
 If (!t281)
 (R (IntKind.i64.wrap (t280-(1:Int))) w1_2)
 (Zgu p atx ⟨t280⟩ w1_2
 (fun i_2 w1_3=>
 R i_2 w1_3)))))
def ZdC (f:(Option Addr)×Int) (s:ZaU):Env:=[⟨0,.pointer f.1,none⟩,⟨1,.int .i64 f.2,none⟩,⟨5,.int .i64 s.i,none⟩]
def Zck (e:Env) (K:((Option Addr)×Int)→ZaU→Prop):Prop:=
 oP e 0 fun p_1=>
 oI e 1 .i64 fun atx_1=>
 oI e 5 .i64 fun i=>
  K (p_1,atx_1) ⟨i⟩
theorem ZgN {N:Nat} (e:Env) (a:Act) (K:((Option Addr)×Int)→ZaU→Prop) (hr:Rep N a e) (h0:Zck e K):∃f s,K f s∧Rep N a (ZdC f s):=by
 unfold Zck at h0
 obtain⟨p_1,g0,h1⟩:=Zar h0
 obtain⟨atx_1,g1,h2⟩:=Zab h1
 obtain⟨i,g5,h3⟩:=Zab h2
 exact⟨_,_,h3,Zac hr (by simp [ZdC,g0,g1,g5])⟩
def Zh6 (Q:Post) (e:Env) (w:World):Prop:=
 Zck e fun f s=>Zgu f.1 f.2 s w (fun i_1 w1=>Q (.exit 0) [⟨5,.int .i64 i_1,none⟩] w1)
def Zin:Gen where
 loop:=lookL [([false,false,true,true,true,true],Zh6)]
 plan:=fun _=>none
def Ze7 (e:Env) (K:((Option Addr)×Int)→Int→Prop):Prop:=
 oP e 0 fun p_1=>
 oI e 1 .i64 fun atx_1=>
 oI e 5 .i64 fun i_1=>
  K (p_1,atx_1) i_1
theorem ZmT (f:(Option Addr)×Int) (s:ZaU) (w:World) (Kn:((Option Addr)×Int)→ZaU→World→Prop) (Kx0:((Option Addr)×Int)→Int→World→Prop) :
  Zgk f.1 f.2 s w (fun s1 w1=>Kn f s1 w1) (fun i_1 w1=>Kx0 f i_1 w1) =
  den Tryz.prog Tryz.f153.ntmps Zin (sub (codeOf Tryz.f153) [false,false,false,true,true,true,true]) [false,false,false,true,true,true,true] (roundQ (fun e w=>Zck e fun f s=>Kn f s w) (fun e w=>False) (fun id e w=>match Nat.beq id 0 with | true=>Ze7 e fun f i_1=>Kx0 f i_1 w | false=>False)) (ZdC f s) w:=by kernel_rfl
theorem ZnE:OneOk Tryz.prog Tryz.f153.ntmps Zin (codeOf Tryz.f153) [false,false,true,true,true,true] Zh6:=by
 intro c hc ih Q e w a hr h
 have hcc:sub (codeOf Tryz.f153) [false,false,false,true,true,true,true]=c:=Zaf hc
 obtain⟨f,s,h,hrep⟩:=ZgN e a _ hr h
 obtain⟨J,μ,hj,hround⟩:=h
 refine Zad Zan Zag ih ZdC Zck ZgN hc f J μ (Kr:=fun e w=>False) (Kx:=fun id e w=>match Nat.beq id 0 with | true=>(Ze7 e fun f1 i_1=>f1=f∧Q (.exit 0) [⟨5,.int .i64 i_1,none⟩] w) | false=>False) ?_ ?_ ?_ s w a hj hrep
 ·intro e a w hr h
  exact h.elim
 ·intro id e a w hr h0
  (try dsimp only at h0)
  split at h0
  ·rename_i hid
   obtain rfl:=Nat.eq_of_beq_eq_true hid
   unfold Ze7 at h0
   obtain⟨p_1,g0,h1⟩:=Zar h0
   obtain⟨atx_1,g1,h2⟩:=Zab h1
   obtain⟨i_1,g5,h3⟩:=Zab h2
   obtain⟨hf,hq⟩:=h3
   subst hf
   exact⟨_,Zac hr (by simp [g5]),hq⟩
  ·exact h0.elim
 ·intro s w hj
  have hb:=hround s w hj
  rw[←hcc]
  have e1:=ZmT f s w (fun f1 s1 w1=>f1=f∧J s1 w1∧μ s1 w1<μ s w) (fun f1 i_1 w1=>f1=f∧Q (.exit 0) [⟨5,.int .i64 i_1,none⟩] w1)
  simp only[true_and] at e1
  exact cast e1 hb
theorem Znu:LoopOk Tryz.prog Tryz.f153.ntmps Zin (codeOf Tryz.f153):=Zak rfl ⟨ZnE,trivial⟩
theorem ZaQ.of {p:Option Addr} {atx:Int} {w:World} {R:Int→World→Prop} (h:ZfX p atx w R):ZaQ p atx w R:=ofS4 (Fm:=ZfX p atx w) Tryz.func153 (by kernel_rfl) Znu rfl (fun _=>by kernel_rfl) h
def ZhU (sx:Option Addr) (atx:Int) (n:Int) (w:World) (R:Bool→World→Prop):Prop:=
 Zby sx atx w fun t10 w1=>
 NN sx fun a=>
 ∃runsP runsN runsC,w1.cell? (a.add 1)=some (.slice runsP runsN runsC)∧
 If (decide (t10<(runsN:Int)))
 (NN sx fun a_1=>
 ∃runsP_1 runsN_1 runsC_1,w1.cell? (a_1.add 1)=some (.slice runsP_1 runsN_1 runsC_1)∧
 0≤t10∧t10<(runsN_1:Int)∧NN runsP_1 fun a_2=>
 ∃At,w1.cell? ((a_2.add (t10.toNat*2)).add 0)=some (.int .i64 At)∧
 R (decide (At<(IntKind.i64.wrap (atx+n)))) w1)
 (R false w1)
theorem Zbw.of {sx:Option Addr} {atx:Int} {n:Int} {w:World} {R:Bool→World→Prop} (h:ZhU sx atx n w R):Zbw sx atx n w R:=ofS2 (Fm:=ZhU sx atx n w) Tryz.func154 (by kernel_rfl) (L0 Tryz.f154) rfl (fun _=>by kernel_rfl) h
structure ZaL where
 i:Int
def ZfK (sx_1:Option Addr) (n_1:Int) (seen_1:Option Nat) (t:Addr) (s:ZaL) (w:World) (Kn:ZaL→World→Prop) (Kx0:World→Prop) (Kr:Bool→World→Prop):Prop:=
 ∃LP LN LC,w.cell? (t.add 3)=some (.slice LP LN LC)∧
 If (decide (s.i<(LN:Int)))
 (∃LP_1 LN_1 LC_1,w.cell? (t.add 3)=some (.slice LP_1 LN_1 LC_1)∧
 0≤s.i∧s.i<(LN_1:Int)∧NN LP_1 fun a=>
 ∃t550,w.cell? ((a.add (s.i.toNat*4)).add 0)=some (.int .i64 t550)∧
 ∃t551,w.cell? ((a.add (s.i.toNat*4)).add 1)=some (.int .i64 t551)∧
 ∃t552,w.cell? ((a.add (s.i.toNat*4)).add 2)=some (.string t552)∧
 ∃t553P t553N t553C,w.cell? ((a.add (s.i.toNat*4)).add 3)=some (.slice t553P t553N t553C)∧
 Zay sx_1 n_1 t550 t551 t552 t553P t553N t553C seen_1 w fun t57 w1_10=>
 If t57
 (Kr true w1_10)
 (Kn ⟨(IntKind.i64.wrap (s.i+(1:Int)))⟩ w1_10))
 (Kx0 w)
def ZfZ (sx_1:Option Addr) (n_1:Int) (seen_1:Option Nat) (t:Addr) (s:ZaL) (w:World) (Kx0:World→Prop) (Kr:Bool→World→Prop):Prop:=
 LoopS (fun s w Kn=>ZfK sx_1 n_1 seen_1 t s w Kn Kx0 Kr) s w
def ZhT (sx:Option Addr) (n:Int) (t0:Int) (t1:Int) (t2:ByteArray) (t3P:Option Addr) (t3N:Nat) (t3C:Nat) (seen:Option Nat) (w:World) (R:Bool→World→Prop):Prop:=
 New w (.cells #[.int .i64 t0,.int .i64 t1,.string t2,.slice t3P t3N t3C] 31) fun r w1=>
 ∃Kind,w1.cell? (Addr.add ⟨r,0,none⟩ 0)=some (.int .i64 Kind)∧
 If (Kind==(1:Int))
 (∃N,w1.cell? (Addr.add ⟨r,0,none⟩ 1)=some (.int .i64 N)∧
 If (N==n)
 (R true w1)
 (∃N_1,w1.cell? (Addr.add ⟨r,0,none⟩ 1)=some (.int .i64 N_1)∧
 Zax sx N_1 w1 fun t2300 t2301 t2302 t2303P t2303N t2303C t231 w1_1=>
 New w1_1 (.cells #[.int .i64 0,.int .i64 0,.string ⟨#[]⟩,.slice none 0 0] 31) fun r_1 w1_2=>
 St w1_2 (Addr.add ⟨r_1,0,none⟩ 0) (.int .i64 t2300) fun w1_3=>
 St w1_3 (Addr.add ⟨r_1,0,none⟩ 1) (.int .i64 t2301) fun w1_4=>
 St w1_4 (Addr.add ⟨r_1,0,none⟩ 2) (.string t2302) fun w1_5=>
 St w1_5 (Addr.add ⟨r_1,0,none⟩ 3) (.slice t2303P t2303N t2303C) fun w1_6=>
 If (!t231)
 (R false w1_6)
 (∃N_2,w1_6.cell? (Addr.add ⟨r,0,none⟩ 1)=some (.int .i64 N_2)∧
 Run Tryz.prog (Instr.lookup 230 (.map seen) (.int .i64 N_2) false) w1_6 fun v w1_7=>∃t32:Bool,v=(.bool t32)∧
 If t32
 (R false w1_7)
 (∃N_3,w1_7.cell? (Addr.add ⟨r,0,none⟩ 1)=some (.int .i64 N_3)∧
 MUp Tryz.prog 230 (.map seen) (.int .i64 N_3) (.bool true) w1_7 fun w1_8=>
 ∃t390,w1_8.cell? (Addr.add ⟨r_1,0,none⟩ 0)=some (.int .i64 t390)∧
 ∃t391,w1_8.cell? (Addr.add ⟨r_1,0,none⟩ 1)=some (.int .i64 t391)∧
 ∃t392,w1_8.cell? (Addr.add ⟨r_1,0,none⟩ 2)=some (.string t392)∧
 ∃t393P t393N t393C,w1_8.cell? (Addr.add ⟨r_1,0,none⟩ 3)=some (.slice t393P t393N t393C)∧
 Zay sx n t390 t391 t392 t393P t393N t393C seen w1_8 fun t41 w1_9=>
 R t41 w1_9))))
 (ZfZ sx n seen ⟨r,0,none⟩ ⟨(0:Int)⟩ w1
 (fun w1_11=>
 R false w1_11)
 (fun t8_1 w1_12=>
 R t8_1 w1_12))
def Zdg (f:(Option Addr)×Int×(Option Nat)×Addr) (s:ZaL):Env:=[⟨0,.pointer f.1,none⟩,⟨1,.int .i64 f.2.1,none⟩,⟨3,.map f.2.2.1,none⟩,⟨6,.pointer (some f.2.2.2),none⟩,⟨11,.int .i64 s.i,none⟩]
def Zcb (e:Env) (K:((Option Addr)×Int×(Option Nat)×Addr)→ZaL→Prop):Prop:=
 oP e 0 fun sx_1=>
 oI e 1 .i64 fun n_1=>
 oM e 3 fun seen_1=>
 oA e 6 fun t=>
 oI e 11 .i64 fun i=>
  K (sx_1,n_1,seen_1,t) ⟨i⟩
theorem ZgB {N:Nat} (e:Env) (a:Act) (K:((Option Addr)×Int×(Option Nat)×Addr)→ZaL→Prop) (hr:Rep N a e) (h0:Zcb e K):∃f s,K f s∧Rep N a (Zdg f s):=by
 unfold Zcb at h0
 obtain⟨sx_1,g0,h1⟩:=Zar h0
 obtain⟨n_1,g1,h2⟩:=Zab h1
 obtain⟨seen_1,g3,h3⟩:=ZiB h2
 obtain⟨t,g6,h4⟩:=Zap h3
 obtain⟨i,g11,h5⟩:=Zab h4
 exact⟨_,_,h5,Zac hr (by simp [Zdg,g0,g1,g3,g6,g11])⟩
def ZhG (Q:Post) (e:Env) (w:World):Prop:=
 Zcb e fun f s=>ZfZ f.1 f.2.1 f.2.2.1 f.2.2.2 s w (fun w1=>Q (.exit 0) [] w1) (fun t8 w1=>Q .ret [⟨8,.bool t8,none⟩] w1)
def ZhN:Gen where
 loop:=lookL [([false,true,false,true,true],ZhG)]
 plan:=fun _=>none
def ZeC (e:Env) (K:((Option Addr)×Int×(Option Nat)×Addr)→Prop):Prop:=
 oP e 0 fun sx_1=>
 oI e 1 .i64 fun n_1=>
 oM e 3 fun seen_1=>
 oA e 6 fun t=>
  K (sx_1,n_1,seen_1,t)
def ZdW (e:Env) (K:((Option Addr)×Int×(Option Nat)×Addr)→Bool→Prop):Prop:=
 oP e 0 fun sx_1=>
 oI e 1 .i64 fun n_1=>
 oM e 3 fun seen_1=>
 oA e 6 fun t=>
 oB e 8 fun t8=>
  K (sx_1,n_1,seen_1,t) t8
theorem Zmu (f:(Option Addr)×Int×(Option Nat)×Addr) (s:ZaL) (w:World) (Kn:((Option Addr)×Int×(Option Nat)×Addr)→ZaL→World→Prop) (Kx0:((Option Addr)×Int×(Option Nat)×Addr)→World→Prop) (Kr:((Option Addr)×Int×(Option Nat)×Addr)→Bool→World→Prop) :
  ZfK f.1 f.2.1 f.2.2.1 f.2.2.2 s w (fun s1 w1=>Kn f s1 w1) (fun w1=>Kx0 f w1) (fun t8 w1=>Kr f t8 w1) =
  den Tryz.prog Tryz.f155.ntmps ZhN (sub (codeOf Tryz.f155) [false,false,true,false,true,true]) [false,false,true,false,true,true] (roundQ (fun e w=>Zcb e fun f s=>Kn f s w) (fun e w=>ZdW e fun f t8=>Kr f t8 w) (fun id e w=>match Nat.beq id 0 with | true=>ZeC e fun f=>Kx0 f w | false=>False)) (Zdg f s) w:=by kernel_rfl
theorem Znd:OneOk Tryz.prog Tryz.f155.ntmps ZhN (codeOf Tryz.f155) [false,true,false,true,true] ZhG:=by
 intro c hc ih Q e w a hr h
 have hcc:sub (codeOf Tryz.f155) [false,false,true,false,true,true]=c:=Zaf hc
 obtain⟨f,s,h,hrep⟩:=ZgB e a _ hr h
 obtain⟨J,μ,hj,hround⟩:=h
 refine Zad Zan Zag ih Zdg Zcb ZgB hc f J μ (Kr:=fun e w=>ZdW e fun f1 t8=>f1=f∧Q .ret [⟨8,.bool t8,none⟩] w) (Kx:=fun id e w=>match Nat.beq id 0 with | true=>(ZeC e fun f1=>f1=f∧Q (.exit 0) [] w) | false=>False) ?_ ?_ ?_ s w a hj hrep
 ·intro e a w hr h0
  unfold ZdW at h0
  obtain⟨sx_1,g0,h1⟩:=Zar h0
  obtain⟨n_1,g1,h2⟩:=Zab h1
  obtain⟨seen_1,g3,h3⟩:=ZiB h2
  obtain⟨t,g6,h4⟩:=Zap h3
  obtain⟨t8,g8,h5⟩:=ZjK h4
  obtain⟨hf,hq⟩:=h5
  subst hf
  exact⟨_,Zac hr (by simp [g8]),hq⟩
 ·intro id e a w hr h0
  (try dsimp only at h0)
  split at h0
  ·rename_i hid
   obtain rfl:=Nat.eq_of_beq_eq_true hid
   unfold ZeC at h0
   obtain⟨sx_1,g0,h1⟩:=Zar h0
   obtain⟨n_1,g1,h2⟩:=Zab h1
   obtain⟨seen_1,g3,h3⟩:=ZiB h2
   obtain⟨t,g6,h4⟩:=Zap h3
   obtain⟨hf,hq⟩:=h4
   subst hf
   exact⟨_,Zac hr (by simp),hq⟩
  ·exact h0.elim
 ·intro s w hj
  have hb:=hround s w hj
  rw[←hcc]
  have e1:=Zmu f s w (fun f1 s1 w1=>f1=f∧J s1 w1∧μ s1 w1<μ s w) (fun f1 w1=>f1=f∧Q (.exit 0) [] w1) (fun f1 t8 w1=>f1=f∧Q .ret [⟨8,.bool t8,none⟩] w1)
  simp only[true_and] at e1
  exact cast e1 hb
theorem Znf:LoopOk Tryz.prog Tryz.f155.ntmps ZhN (codeOf Tryz.f155):=Zak rfl ⟨Znd,trivial⟩
theorem Zay.of {sx:Option Addr} {n:Int} {t0:Int} {t1:Int} {t2:ByteArray} {t3P:Option Addr} {t3N:Nat} {t3C:Nat} {seen:Option Nat} {w:World} {R:Bool→World→Prop} (h:ZhT sx n t0 t1 t2 t3P t3N t3C seen w R):Zay sx n t0 t1 t2 t3P t3N t3C seen w R:=ofS2 (Fm:=ZhT sx n t0 t1 t2 t3P t3N t3C seen w) Tryz.func155 (by kernel_rfl) Znf rfl (fun _=>by kernel_rfl) h
def ZkC (o:Option Addr) (fx:Value) (w:World) (R:World→Prop):Prop:=
 NN o fun a=>
 ZaM (some (a.add 0)) w fun t7 w1=>
 If (!t7)
 (ZgA o fx w1 fun w1_1=>
 R w1_1)
 (R w1)
theorem Zeg.of {o:Option Addr} {fx:Value} {w:World} {R:World→Prop} (h:ZkC o fx w R):Zeg o fx w R:=ofS1 (Fm:=ZkC o fx w) Tryz.func156 (by kernel_rfl) (L0 Tryz.f156) rfl (fun _=>by kernel_rfl) h
structure Zbd where
 t10:Int
def ZgQ (t_1:Option Addr) (t8P_1:Option Addr) (t8N_1:Nat) (t8C_1:Nat) (t9:Int) (s:Zbd) (w:World) (Kn:Zbd→World→Prop) (Kx0:World→Prop):Prop:=
 If (decide (s.t10<t9))
 (0≤s.t10∧s.t10<(t8N_1:Int)∧NN t8P_1 fun a_1=>
 ∃t14,w.cell? (a_1.add (s.t10.toNat*1))=some (.string t14)∧
 NN t_1 fun a_2=>
 ∃lP lN lC,w.cell? (a_2.add 5)=some (.slice lP lN lC)∧
 BSl Tryz.prog 187 1 [(0,.agg #[.string t14,.bool true,.bool false])] w fun t22P t22N t22C w1_3=>
 App Tryz.prog #[187,187] 187 #[.slice lP lN lC,.slice t22P t22N t22C] w1_3 fun t23P t23N t23C w1_4=>
 NN t_1 fun a_3=>
 St w1_4 ((a_3.add 5).add 0) (.slice t23P t23N t23C) fun w1_5=>
 NN t_1 fun a_4=>
 ∃ids,w1_5.cell? (a_4.add 6)=some (.map ids)∧
 MUp Tryz.prog 188 (.map ids) (.string t14) (.int .i64 s.t10) w1_5 fun w1_6=>
 Kn ⟨(IntKind.i64.wrap (s.t10+(1:Int)))⟩ w1_6)
 (Kx0 w)
def Zhn (t_1:Option Addr) (t8P_1:Option Addr) (t8N_1:Nat) (t8C_1:Nat) (t9:Int) (s:Zbd) (w:World) (Kx0:World→Prop):Prop:=
 LoopS (fun s w Kn=>ZgQ t_1 t8P_1 t8N_1 t8C_1 t9 s w Kn Kx0) s w
def Zj3 (t:Option Addr) (w:World) (R:World→Prop):Prop:=
 New w (.map #[] 0) fun r w1=>
 NN t fun a=>
 St w1 ((a.add 6).add 0) (.map (some r)) fun w1_1=>
 Zcv  w1_1 fun t8P t8N t8C w1_2=>
 Zhn t t8P t8N t8C (t8N:Int) ⟨(0:Int)⟩ w1_2
 (fun w1_7=>
 R w1_7)
def Zd4 (f:(Option Addr)×(Option Addr)×Nat×Nat×Int) (s:Zbd):Env:=[⟨0,.pointer f.1,none⟩,⟨8,.slice f.2.1 f.2.2.1 f.2.2.2.1,none⟩,⟨9,.int .i64 f.2.2.2.2,none⟩,⟨10,.int .i64 s.t10,none⟩]
def Zcx (e:Env) (K:((Option Addr)×(Option Addr)×Nat×Nat×Int)→Zbd→Prop):Prop:=
 oP e 0 fun t_1=>
 oS e 8 fun t8P_1 t8N_1 t8C_1=>
 oI e 9 .i64 fun t9=>
 oI e 10 .i64 fun t10=>
  K (t_1,t8P_1,t8N_1,t8C_1,t9) ⟨t10⟩
theorem ZhE {N:Nat} (e:Env) (a:Act) (K:((Option Addr)×(Option Addr)×Nat×Nat×Int)→Zbd→Prop) (hr:Rep N a e) (h0:Zcx e K):∃f s,K f s∧Rep N a (Zd4 f s):=by
 unfold Zcx at h0
 obtain⟨t_1,g0,h1⟩:=Zar h0
 obtain⟨t8P_1,t8N_1,t8C_1,g8,h2⟩:=Zae h1
 obtain⟨t9,g9,h3⟩:=Zab h2
 obtain⟨t10,g10,h4⟩:=Zab h3
 exact⟨_,_,h4,Zac hr (by simp [Zd4,g0,g8,g9,g10])⟩
def ZiZ (Q:Post) (e:Env) (w:World):Prop:=
 Zcx e fun f s=>Zhn f.1 f.2.1 f.2.2.1 f.2.2.2.1 f.2.2.2.2 s w (fun w1=>Q (.exit 0) [] w1)
def ZjM:Gen where
 loop:=lookL [([false,true,true],ZiZ)]
 plan:=fun _=>none
def ZfF (e:Env) (K:((Option Addr)×(Option Addr)×Nat×Nat×Int)→Prop):Prop:=
 oP e 0 fun t_1=>
 oS e 8 fun t8P_1 t8N_1 t8C_1=>
 oI e 9 .i64 fun t9=>
  K (t_1,t8P_1,t8N_1,t8C_1,t9)
theorem Zm2 (f:(Option Addr)×(Option Addr)×Nat×Nat×Int) (s:Zbd) (w:World) (Kn:((Option Addr)×(Option Addr)×Nat×Nat×Int)→Zbd→World→Prop) (Kx0:((Option Addr)×(Option Addr)×Nat×Nat×Int)→World→Prop) :
  ZgQ f.1 f.2.1 f.2.2.1 f.2.2.2.1 f.2.2.2.2 s w (fun s1 w1=>Kn f s1 w1) (fun w1=>Kx0 f w1) =
  den Tryz.prog Tryz.f157.ntmps ZjM (sub (codeOf Tryz.f157) [false,false,true,true]) [false,false,true,true] (roundQ (fun e w=>Zcx e fun f s=>Kn f s w) (fun e w=>False) (fun id e w=>match Nat.beq id 0 with | true=>ZfF e fun f=>Kx0 f w | false=>False)) (Zd4 f s) w:=by kernel_rfl
theorem Zob:OneOk Tryz.prog Tryz.f157.ntmps ZjM (codeOf Tryz.f157) [false,true,true] ZiZ:=by
 intro c hc ih Q e w a hr h
 have hcc:sub (codeOf Tryz.f157) [false,false,true,true]=c:=Zaf hc
 obtain⟨f,s,h,hrep⟩:=ZhE e a _ hr h
 obtain⟨J,μ,hj,hround⟩:=h
 refine Zad Zan Zag ih Zd4 Zcx ZhE hc f J μ (Kr:=fun e w=>False) (Kx:=fun id e w=>match Nat.beq id 0 with | true=>(ZfF e fun f1=>f1=f∧Q (.exit 0) [] w) | false=>False) ?_ ?_ ?_ s w a hj hrep
 ·intro e a w hr h
  exact h.elim
 ·intro id e a w hr h0
  (try dsimp only at h0)
  split at h0
  ·rename_i hid
   obtain rfl:=Nat.eq_of_beq_eq_true hid
   unfold ZfF at h0
   obtain⟨t_1,g0,h1⟩:=Zar h0
   obtain⟨t8P_1,t8N_1,t8C_1,g8,h2⟩:=Zae h1
   obtain⟨t9,g9,h3⟩:=Zab h2
   obtain⟨hf,hq⟩:=h3
   subst hf
   exact⟨_,Zac hr (by simp),hq⟩
  ·exact h0.elim
 ·intro s w hj
  have hb:=hround s w hj
  rw[←hcc]
  have e1:=Zm2 f s w (fun f1 s1 w1=>f1=f∧J s1 w1∧μ s1 w1<μ s w) (fun f1 w1=>f1=f∧Q (.exit 0) [] w1)
  simp only[true_and] at e1
  exact cast e1 hb
theorem Zn5:LoopOk Tryz.prog Tryz.f157.ntmps ZjM (codeOf Tryz.f157):=Zak rfl ⟨Zob,trivial⟩
theorem ZcA.of {t:Option Addr} {w:World} {R:World→Prop} (h:Zj3 t w R):ZcA t w R:=ofS1 (Fm:=Zj3 t w) Tryz.func157 (by kernel_rfl) Zn5 rfl (fun _=>by kernel_rfl) h
def ZlV (m:Option Addr) (i:Int) (w:World) (R:Int→World→Prop):Prop:=
 If m.isNone
 (R (6:Int) w)
 (If (decide (i<(0:Int)))
 (R (4:Int) w)
 (NN m fun a=>
 ∃lP lN lC,w.cell? (a.add 0)=some (.slice lP lN lC)∧
 If (decide (i≥(lN:Int)))
 (R (4:Int) w)
 (R (0:Int) w)))
theorem Zdz.of {m:Option Addr} {i:Int} {w:World} {R:Int→World→Prop} (h:ZlV m i w R):Zdz m i w R:=ofS4 (Fm:=ZlV m i w) Tryz.func159 (by kernel_rfl) (L0 Tryz.f159) rfl (fun _=>by kernel_rfl) h
structure ZaG where
 t8:Int
def ZfB (sP_1:Option Addr) (sN_1:Nat) (sC_1:Nat) (fx_1:Value) (t7:Int) (s:ZaG) (w:World) (Kn:ZaG→World→Prop) (Kx0:World→Prop) (Kr:Int→World→Prop):Prop:=
 If (decide (s.t8<t7))
 (0≤s.t8∧s.t8<(sN_1:Int)∧NN sP_1 fun a=>
 ∃t15,w.cell? (a.add (s.t8.toNat*1))=some (.int .u64 t15)∧
 CallV Tryz.prog fx_1 [.int .u64 t15] w fun v w1=>∃t16:Bool,v=(.bool t16)∧
 If t16
 (Kr s.t8 w1)
 (Kn ⟨(IntKind.i64.wrap (s.t8+(1:Int)))⟩ w1))
 (Kx0 w)
def Zfz (sP_1:Option Addr) (sN_1:Nat) (sC_1:Nat) (fx_1:Value) (t7:Int) (s:ZaG) (w:World) (Kx0:World→Prop) (Kr:Int→World→Prop):Prop:=
 LoopS (fun s w Kn=>ZfB sP_1 sN_1 sC_1 fx_1 t7 s w Kn Kx0 Kr) s w
def Zhh (sP:Option Addr) (sN:Nat) (sC:Nat) (fx:Value) (w:World) (R:Int→World→Prop):Prop:=
 Zfz sP sN sC fx (sN:Int) ⟨(0:Int)⟩ w
 (fun w1_1=>
 R (-1) w1_1)
 (fun t4_1 w1_2=>
 R t4_1 w1_2)
def Zc3 (f:(Option Addr)×Nat×Nat×Value×Int) (s:ZaG):Env:=[⟨0,.slice f.1 f.2.1 f.2.2.1,none⟩,⟨1,f.2.2.2.1,none⟩,⟨7,.int .i64 f.2.2.2.2,none⟩,⟨8,.int .i64 s.t8,none⟩]
def Zb0 (e:Env) (K:((Option Addr)×Nat×Nat×Value×Int)→ZaG→Prop):Prop:=
 oS e 0 fun sP_1 sN_1 sC_1=>
 oV e 1 fun fx_1=>
 oI e 7 .i64 fun t7=>
 oI e 8 .i64 fun t8=>
  K (sP_1,sN_1,sC_1,fx_1,t7) ⟨t8⟩
theorem Zf4 {N:Nat} (e:Env) (a:Act) (K:((Option Addr)×Nat×Nat×Value×Int)→ZaG→Prop) (hr:Rep N a e) (h0:Zb0 e K):∃f s,K f s∧Rep N a (Zc3 f s):=by
 unfold Zb0 at h0
 obtain⟨sP_1,sN_1,sC_1,g0,h1⟩:=Zae h0
 obtain⟨fx_1,g1,h2⟩:=ZmO h1
 obtain⟨t7,g7,h3⟩:=Zab h2
 obtain⟨t8,g8,h4⟩:=Zab h3
 exact⟨_,_,h4,Zac hr (by simp [Zc3,g0,g1,g7,g8])⟩
def ZgT (Q:Post) (e:Env) (w:World):Prop:=
 Zb0 e fun f s=>Zfz f.1 f.2.1 f.2.2.1 f.2.2.2.1 f.2.2.2.2 s w (fun w1=>Q (.exit 0) [] w1) (fun t4 w1=>Q .ret [⟨4,.int .i64 t4,none⟩] w1)
def ZgH:Gen where
 loop:=lookL [([false,true,false,true],ZgT)]
 plan:=fun _=>none
def Zes (e:Env) (K:((Option Addr)×Nat×Nat×Value×Int)→Prop):Prop:=
 oS e 0 fun sP_1 sN_1 sC_1=>
 oV e 1 fun fx_1=>
 oI e 7 .i64 fun t7=>
  K (sP_1,sN_1,sC_1,fx_1,t7)
def ZdM (e:Env) (K:((Option Addr)×Nat×Nat×Value×Int)→Int→Prop):Prop:=
 oS e 0 fun sP_1 sN_1 sC_1=>
 oV e 1 fun fx_1=>
 oI e 7 .i64 fun t7=>
 oI e 4 .i64 fun t4=>
  K (sP_1,sN_1,sC_1,fx_1,t7) t4
theorem Zmo (f:(Option Addr)×Nat×Nat×Value×Int) (s:ZaG) (w:World) (Kn:((Option Addr)×Nat×Nat×Value×Int)→ZaG→World→Prop) (Kx0:((Option Addr)×Nat×Nat×Value×Int)→World→Prop) (Kr:((Option Addr)×Nat×Nat×Value×Int)→Int→World→Prop) :
  ZfB f.1 f.2.1 f.2.2.1 f.2.2.2.1 f.2.2.2.2 s w (fun s1 w1=>Kn f s1 w1) (fun w1=>Kx0 f w1) (fun t4 w1=>Kr f t4 w1) =
  den Tryz.prog Tryz.f160.ntmps ZgH (sub (codeOf Tryz.f160) [false,false,true,false,true]) [false,false,true,false,true] (roundQ (fun e w=>Zb0 e fun f s=>Kn f s w) (fun e w=>ZdM e fun f t4=>Kr f t4 w) (fun id e w=>match Nat.beq id 0 with | true=>Zes e fun f=>Kx0 f w | false=>False)) (Zc3 f s) w:=by kernel_rfl
theorem ZmR:OneOk Tryz.prog Tryz.f160.ntmps ZgH (codeOf Tryz.f160) [false,true,false,true] ZgT:=by
 intro c hc ih Q e w a hr h
 have hcc:sub (codeOf Tryz.f160) [false,false,true,false,true]=c:=Zaf hc
 obtain⟨f,s,h,hrep⟩:=Zf4 e a _ hr h
 obtain⟨J,μ,hj,hround⟩:=h
 refine Zad Zan Zag ih Zc3 Zb0 Zf4 hc f J μ (Kr:=fun e w=>ZdM e fun f1 t4=>f1=f∧Q .ret [⟨4,.int .i64 t4,none⟩] w) (Kx:=fun id e w=>match Nat.beq id 0 with | true=>(Zes e fun f1=>f1=f∧Q (.exit 0) [] w) | false=>False) ?_ ?_ ?_ s w a hj hrep
 ·intro e a w hr h0
  unfold ZdM at h0
  obtain⟨sP_1,sN_1,sC_1,g0,h1⟩:=Zae h0
  obtain⟨fx_1,g1,h2⟩:=ZmO h1
  obtain⟨t7,g7,h3⟩:=Zab h2
  obtain⟨t4,g4,h4⟩:=Zab h3
  obtain⟨hf,hq⟩:=h4
  subst hf
  exact⟨_,Zac hr (by simp [g4]),hq⟩
 ·intro id e a w hr h0
  (try dsimp only at h0)
  split at h0
  ·rename_i hid
   obtain rfl:=Nat.eq_of_beq_eq_true hid
   unfold Zes at h0
   obtain⟨sP_1,sN_1,sC_1,g0,h1⟩:=Zae h0
   obtain⟨fx_1,g1,h2⟩:=ZmO h1
   obtain⟨t7,g7,h3⟩:=Zab h2
   obtain⟨hf,hq⟩:=h3
   subst hf
   exact⟨_,Zac hr (by simp),hq⟩
  ·exact h0.elim
 ·intro s w hj
  have hb:=hround s w hj
  rw[←hcc]
  have e1:=Zmo f s w (fun f1 s1 w1=>f1=f∧J s1 w1∧μ s1 w1<μ s w) (fun f1 w1=>f1=f∧Q (.exit 0) [] w1) (fun f1 t4 w1=>f1=f∧Q .ret [⟨4,.int .i64 t4,none⟩] w1)
  simp only[true_and] at e1
  exact cast e1 hb
theorem ZmK:LoopOk Tryz.prog Tryz.f160.ntmps ZgH (codeOf Tryz.f160):=Zak rfl ⟨ZmR,trivial⟩
theorem ZbT.of {sP:Option Addr} {sN:Nat} {sC:Nat} {fx:Value} {w:World} {R:Int→World→Prop} (h:Zhh sP sN sC fx w R):ZbT sP sN sC fx w R:=ofS4 (Fm:=Zhh sP sN sC fx w) Tryz.func160 (by kernel_rfl) ZmK rfl (fun _=>by kernel_rfl) h
end Go.Proofs.YtdaenijbokialaaGreat
