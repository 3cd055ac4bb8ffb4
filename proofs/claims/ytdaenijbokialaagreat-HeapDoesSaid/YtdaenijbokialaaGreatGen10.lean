import Derived.Test.YtdaenijbokialaaGreatGenC
set_option maxRecDepth 100000
set_option linter.unusedVariables false
namespace Go.Proofs.YtdaenijbokialaaGreat
open Go Go.D Go.Proofs
def ZjQ (t:Option Addr) (w:World) (R:Bool→World→Prop):Prop:=
 If t.isNone
 (R false w)
 (NN t fun a=>
 ∃limitx,w.cell? (a.add 4)=some (.int .i64 limitx)∧
 If (limitx==(0:Int))
 (R false w)
 (NN t fun a_1=>
 Zei (some (a_1.add 0)) (.func (.func 157) #[.pointer t] #[]) w fun w1=>
 R true w1))
theorem ZaJ.of {t:Option Addr} {w:World} {R:Bool→World→Prop} (h:ZjQ t w R):ZaJ t w R:=ofS2 (Fm:=ZjQ t w) Tryz.func138 (by kernel_rfl) (L0 Tryz.f138) rfl (fun _=>by kernel_rfl) h
def ZfK (x:Option Addr) (delta:Int) (w:World) (R:Int→World→Prop):Prop:=
 NN x fun a=>
 CallX Tryz.prog 158 [.pointer (some (a.add 0)),.int .i64 delta] w fun v w1=>∃t9:Int,v=(.int .i64 t9)∧
 R t9 w1
theorem ZaK.of {x:Option Addr} {delta:Int} {w:World} {R:Int→World→Prop} (h:ZfK x delta w R):ZaK x delta w R:=ofS4 (Fm:=ZfK x delta w) Tryz.func139 (by kernel_rfl) (L0 Tryz.f139) rfl (fun _=>by kernel_rfl) h
def Zmc (m:Option Addr) (i:Int) (w:World) (R:Int→Int→World→Prop):Prop:=
 Zdu m i w fun t9 w1=>
 If (t9 != (0:Int))
 (R (0:Int) t9 w1)
 (NN m fun a=>
 ∃lP lN lC,w1.cell? (a.add 0)=some (.slice lP lN lC)∧
 0≤i∧i<(lN:Int)∧NN lP fun a_1=>
 ∃t19,w1.cell? (a_1.add (i.toNat*1))=some (.int .u64 t19)∧
 R t19 (0:Int) w1)
theorem Zdm.of {m:Option Addr} {i:Int} {w:World} {R:Int→Int→World→Prop} (h:Zmc m i w R):Zdm m i w R:=ofS5 (Fm:=Zmc m i w) Tryz.func140 (by kernel_rfl) (L0 Tryz.f140) rfl (fun _=>by kernel_rfl) h
def Znz (x:Int) (y:Int) (R:Bool→World→Prop) (w1_2:World):Prop:=
 R (decide (x<y)) w1_2
def Zqr (x:Int) (y:Int) (w:World) (R:Bool→World→Prop):Prop:=
 ZdI x w fun t6 w1=>
 If t6
 (ZdI y w1 fun t9 w1_1=>
 If (!t9)
 (R true w1_1)
 (Znz x y R w1_1))
 (Znz x y R w1)
theorem Zi3.of {x:Int} {y:Int} {w:World} {R:Bool→World→Prop} (h:Zqr x y w R):Zi3 x y w R:=ofS2 (Fm:=Zqr x y w) Tryz.func143 (by kernel_rfl) (L0 Tryz.f143) rfl (fun _=>by kernel_rfl) h
def ZmD (x:Int) (w:World) (R:Bool→World→Prop):Prop:=
 R (x != x) w
theorem Zec.of {x:Int} {w:World} {R:Bool→World→Prop} (h:ZmD x w R):Zec x w R:=ofS2 (Fm:=ZmD x w) Tryz.func144 (by kernel_rfl) (L0 Tryz.f144) rfl (fun _=>by kernel_rfl) h
structure Zb1 where
 t39:Int
def ZjX (cx_1:Option Addr) (depth_2:Int) (t37P:Option Addr) (t37N:Nat) (t37C:Nat) (t38:Int) (s:Zb1) (w:World) (Kn:Zb1→World→Prop) (Kx0:World→Prop):Prop:=
 If (decide (s.t39<t38))
 (0≤s.t39∧s.t39<(t37N:Int)∧NN t37P fun a_7=>
 ∃t420,w.cell? ((a_7.add (s.t39.toNat*4)).add 0)=some (.int .i64 t420)∧
 ∃t421,w.cell? ((a_7.add (s.t39.toNat*4)).add 1)=some (.int .i64 t421)∧
 ∃t422,w.cell? ((a_7.add (s.t39.toNat*4)).add 2)=some (.string t422)∧
 ∃t423P t423N t423C,w.cell? ((a_7.add (s.t39.toNat*4)).add 3)=some (.slice t423P t423N t423C)∧
 New w (.cells #[.int .i64 0,.int .i64 0,.string ⟨#[]⟩,.slice none 0 0] 31) fun r_1 w1_7=>
 St w1_7 (Addr.add ⟨r_1,0,none⟩ 0) (.int .i64 t420) fun w1_8=>
 St w1_8 (Addr.add ⟨r_1,0,none⟩ 1) (.int .i64 t421) fun w1_9=>
 St w1_9 (Addr.add ⟨r_1,0,none⟩ 2) (.string t422) fun w1_10=>
 St w1_10 (Addr.add ⟨r_1,0,none⟩ 3) (.slice t423P t423N t423C) fun w1_11=>
 ∃t440,w1_11.cell? (Addr.add ⟨r_1,0,none⟩ 0)=some (.int .i64 t440)∧
 ∃t441,w1_11.cell? (Addr.add ⟨r_1,0,none⟩ 1)=some (.int .i64 t441)∧
 ∃t442,w1_11.cell? (Addr.add ⟨r_1,0,none⟩ 2)=some (.string t442)∧
 ∃t443P t443N t443C,w1_11.cell? (Addr.add ⟨r_1,0,none⟩ 3)=some (.slice t443P t443N t443C)∧
 ZcA cx_1 t440 t441 t442 t443P t443N t443C (IntKind.i64.wrap (depth_2+(1:Int))) w1_11 fun w1_12=>
 Kn ⟨(IntKind.i64.wrap (s.t39+(1:Int)))⟩ w1_12)
 (Kx0 w)
def ZgE (cx_1:Option Addr) (depth_2:Int) (t37P:Option Addr) (t37N:Nat) (t37C:Nat) (t38:Int) (s:Zb1) (w:World) (Kx0:World→Prop):Prop:=
 LoopS (fun s w Kn=>ZjX cx_1 depth_2 t37P t37N t37C t38 s w Kn Kx0) s w
def Zjj (cx:Option Addr) (depth:Int) (R:World→Prop) (r:Nat) (w1_6:World):Prop:=
 ∃LP LN LC,w1_6.cell? (Addr.add ⟨r,0,none⟩ 3)=some (.slice LP LN LC)∧
 ZgE cx depth LP LN LC (LN:Int) ⟨(0:Int)⟩ w1_6
 (fun w1_13=>
 R w1_13)
def Zme (cx:Option Addr) (t0:Int) (t1:Int) (t2:ByteArray) (t3P:Option Addr) (t3N:Nat) (t3C:Nat) (depth:Int) (w:World) (R:World→Prop):Prop:=
 New w (.cells #[.int .i64 t0,.int .i64 t1,.string t2,.slice t3P t3N t3C] 31) fun r w1=>
 NN cx fun a=>
 ∃parts,w1.cell? (a.add 0)=some (.int .i64 parts)∧
 NN cx fun a_1=>
 St w1 ((a_1.add 0).add 0) (.int .i64 (IntKind.i64.wrap (parts+(1:Int)))) fun w1_1=>
 NN cx fun a_2=>
 ∃depth_1,w1_1.cell? (a_2.add 1)=some (.int .i64 depth_1)∧
 NN cx fun a_3=>
 St w1_1 ((a_3.add 1).add 0) (.int .i64 (maxI depth_1 depth)) fun w1_2=>
 NN cx fun a_4=>
 ∃bad,w1_2.cell? (a_4.add 2)=some (.bool bad)∧
 If bad
 (NN cx fun a_5=>
 St w1_2 ((a_5.add 2).add 0) (.bool true) fun w1_3=>
 Zjj cx depth R r w1_3)
 (∃t300,w1_2.cell? (Addr.add ⟨r,0,none⟩ 0)=some (.int .i64 t300)∧
 ∃t301,w1_2.cell? (Addr.add ⟨r,0,none⟩ 1)=some (.int .i64 t301)∧
 ∃t302,w1_2.cell? (Addr.add ⟨r,0,none⟩ 2)=some (.string t302)∧
 ∃t303P t303N t303C,w1_2.cell? (Addr.add ⟨r,0,none⟩ 3)=some (.slice t303P t303N t303C)∧
 ZgV t300 t301 t302 t303P t303N t303C w1_2 fun t31 w1_4=>
 NN cx fun a_6=>
 St w1_4 ((a_6.add 2).add 0) (.bool (!t31)) fun w1_5=>
 Zjj cx depth R r w1_5)
def Zff (f:(Option Addr)×Int×(Option Addr)×Nat×Nat×Int) (s:Zb1):Env:=[⟨0,.pointer f.1,none⟩,⟨2,.int .i64 f.2.1,none⟩,⟨37,.slice f.2.2.1 f.2.2.2.1 f.2.2.2.2.1,none⟩,⟨38,.int .i64 f.2.2.2.2.2,none⟩,⟨39,.int .i64 s.t39,none⟩]
def ZdR (e:Env) (K:((Option Addr)×Int×(Option Addr)×Nat×Nat×Int)→Zb1→Prop):Prop:=
 oP e 0 fun cx_1=>
 oI e 2 .i64 fun depth_2=>
 oS e 37 fun t37P t37N t37C=>
 oI e 38 .i64 fun t38=>
 oI e 39 .i64 fun t39=>
  K (cx_1,depth_2,t37P,t37N,t37C,t38) ⟨t39⟩
theorem ZjV {N:Nat} (e:Env) (a:Act) (K:((Option Addr)×Int×(Option Addr)×Nat×Nat×Int)→Zb1→Prop) (hr:Rep N a e) (h0:ZdR e K):∃f s,K f s∧Rep N a (Zff f s):=by
 unfold ZdR at h0
 obtain⟨cx_1,g0,h1⟩:=Zar h0
 obtain⟨depth_2,g2,h2⟩:=Zab h1
 obtain⟨t37P,t37N,t37C,g37,h3⟩:=Zae h2
 obtain⟨t38,g38,h4⟩:=Zab h3
 obtain⟨t39,g39,h5⟩:=Zab h4
 exact⟨_,_,h5,Zac hr (by simp [Zff,g0,g2,g37,g38,g39])⟩
def ZkQ (Q:Post) (e:Env) (w:World):Prop:=
 ZdR e fun f s=>ZgE f.1 f.2.1 f.2.2.1 f.2.2.2.1 f.2.2.2.2.1 f.2.2.2.2.2 s w (fun w1=>Q (.exit 0) [] w1)
def Zmk:Gen where
 loop:=lookL [([false,true,true,true,true,true],ZkQ)]
 plan:=fun _=>none
def ZgS (e:Env) (K:((Option Addr)×Int×(Option Addr)×Nat×Nat×Int)→Prop):Prop:=
 oP e 0 fun cx_1=>
 oI e 2 .i64 fun depth_2=>
 oS e 37 fun t37P t37N t37C=>
 oI e 38 .i64 fun t38=>
  K (cx_1,depth_2,t37P,t37N,t37C,t38)
theorem ZoI (f:(Option Addr)×Int×(Option Addr)×Nat×Nat×Int) (s:Zb1) (w:World) (Kn:((Option Addr)×Int×(Option Addr)×Nat×Nat×Int)→Zb1→World→Prop) (Kx0:((Option Addr)×Int×(Option Addr)×Nat×Nat×Int)→World→Prop) :
  ZjX f.1 f.2.1 f.2.2.1 f.2.2.2.1 f.2.2.2.2.1 f.2.2.2.2.2 s w (fun s1 w1=>Kn f s1 w1) (fun w1=>Kx0 f w1) =
  den Tryz.prog Tryz.f145.ntmps Zmk (sub (codeOf Tryz.f145) [false,false,true,true,true,true,true]) [false,false,true,true,true,true,true] (roundQ (fun e w=>ZdR e fun f s=>Kn f s w) (fun e w=>False) (fun id e w=>match Nat.beq id 0 with | true=>ZgS e fun f=>Kx0 f w | false=>False)) (Zff f s) w:=by kernel_rfl
theorem ZpJ:OneOk Tryz.prog Tryz.f145.ntmps Zmk (codeOf Tryz.f145) [false,true,true,true,true,true] ZkQ:=by
 intro c hc ih Q e w a hr h
 have hcc:sub (codeOf Tryz.f145) [false,false,true,true,true,true,true]=c:=Zaf hc
 obtain⟨f,s,h,hrep⟩:=ZjV e a _ hr h
 obtain⟨J,μ,hj,hround⟩:=h
 refine Zad Zan Zag ih Zff ZdR ZjV hc f J μ (Kr:=fun e w=>False) (Kx:=fun id e w=>match Nat.beq id 0 with | true=>(ZgS e fun f1=>f1=f∧Q (.exit 0) [] w) | false=>False) ?_ ?_ ?_ s w a hj hrep
 ·intro e a w hr h
  exact h.elim
 ·intro id e a w hr h0
  (try dsimp only at h0)
  split at h0
  ·rename_i hid
   obtain rfl:=Nat.eq_of_beq_eq_true hid
   unfold ZgS at h0
   obtain⟨cx_1,g0,h1⟩:=Zar h0
   obtain⟨depth_2,g2,h2⟩:=Zab h1
   obtain⟨t37P,t37N,t37C,g37,h3⟩:=Zae h2
   obtain⟨t38,g38,h4⟩:=Zab h3
   obtain⟨hf,hq⟩:=h4
   subst hf
   exact⟨_,Zac hr (by simp),hq⟩
  ·exact h0.elim
 ·intro s w hj
  have hb:=hround s w hj
  rw[←hcc]
  have e1:=ZoI f s w (fun f1 s1 w1=>f1=f∧J s1 w1∧μ s1 w1<μ s w) (fun f1 w1=>f1=f∧Q (.exit 0) [] w1)
  simp only[true_and] at e1
  exact cast e1 hb
theorem ZpG:LoopOk Tryz.prog Tryz.f145.ntmps Zmk (codeOf Tryz.f145):=Zal rfl ⟨ZpJ,trivial⟩
theorem ZcA.of {cx:Option Addr} {t0:Int} {t1:Int} {t2:ByteArray} {t3P:Option Addr} {t3N:Nat} {t3C:Nat} {depth:Int} {w:World} {R:World→Prop} (h:Zme cx t0 t1 t2 t3P t3N t3C depth w R):ZcA cx t0 t1 t2 t3P t3N t3C depth w R:=ofS1 (Fm:=Zme cx t0 t1 t2 t3P t3N t3C depth w) Tryz.func145 (by kernel_rfl) ZpG rfl (fun _=>by kernel_rfl) h
def ZqH (n:Int) (w:World) (R:Int→Int→ByteArray→Option Addr→Nat→Nat→World→Prop):Prop:=
 New w (.cells #[.int .i64 0,.int .i64 0,.string ⟨#[]⟩,.slice none 0 0] 31) fun r w1=>
 St w1 (Addr.add ⟨r,0,none⟩ 0) (.int .i64 1) fun w1_1=>
 St w1_1 (Addr.add ⟨r,0,none⟩ 1) (.int .i64 n) fun w1_2=>
 St w1_2 (Addr.add ⟨r,0,none⟩ 2) (.string ⟨#[]⟩) fun w1_3=>
 St w1_3 (Addr.add ⟨r,0,none⟩ 3) (.slice none 0 0) fun w1_4=>
 ∃r_1,w1_4.cell? (Addr.add ⟨r,0,none⟩ 0)=some (.int .i64 r_1)∧
 ∃r_2,w1_4.cell? (Addr.add ⟨r,0,none⟩ 1)=some (.int .i64 r_2)∧
 ∃r_3,w1_4.cell? (Addr.add ⟨r,0,none⟩ 2)=some (.string r_3)∧
 ∃rP rN rC,w1_4.cell? (Addr.add ⟨r,0,none⟩ 3)=some (.slice rP rN rC)∧
 R r_1 r_2 r_3 rP rN rC w1_4
theorem Zi0.of {n:Int} {w:World} {R:Int→Int→ByteArray→Option Addr→Nat→Nat→World→Prop} (h:ZqH n w R):Zi0 n w R:=ofS10 (Fm:=ZqH n w) Tryz.func146 (by kernel_rfl) (L0 Tryz.f146) rfl (fun _=>by kernel_rfl) h
def ZfQ (R:Bool→World→Prop) (w1_1:World):Prop:=
 R false w1_1
def Zlr (t:Option Addr) (idx:Int) (w:World) (R:Bool→World→Prop):Prop:=
 ZaJ t w fun t6 w1=>
 If t6
 (If (decide (idx≥(0:Int)))
 (NN t fun a=>
 ∃lP lN lC,w1.cell? (a.add 5)=some (.slice lP lN lC)∧
 If (decide (idx<(lN:Int)))
 (NN t fun a_1=>
 ∃lP_1 lN_1 lC_1,w1.cell? (a_1.add 5)=some (.slice lP_1 lN_1 lC_1)∧
 0≤idx∧idx<(lN_1:Int)∧NN lP_1 fun a_2=>
 ∃isx,w1.cell? ((a_2.add (idx.toNat*3)).add 1)=some (.bool isx)∧
 R isx w1)
 (ZfQ R w1))
 (ZfQ R w1))
 (ZfQ R w1)
theorem Zc0.of {t:Option Addr} {idx:Int} {w:World} {R:Bool→World→Prop} (h:Zlr t idx w R):Zc0 t idx w R:=ofS2 (Fm:=Zlr t idx w) Tryz.func147 (by kernel_rfl) (L0 Tryz.f147) rfl (fun _=>by kernel_rfl) h
def Zgb (R:Int→World→Prop) (w1_1:World):Prop:=
 R (4:Int) w1_1
def ZiR (t:Option Addr) (idx:Int) (w:World) (R:Int→World→Prop):Prop:=
 ZaY t w fun t7 w1=>
 If (!t7)
 (R (6:Int) w1)
 (If (decide (idx<(0:Int)))
 (Zgb R w1)
 (NN t fun a=>
 ∃lP lN lC,w1.cell? (a.add 2)=some (.slice lP lN lC)∧
 If (decide (idx≥(lN:Int)))
 (Zgb R w1)
 (NN t fun a_1=>
 ∃lP_1 lN_1 lC_1,w1.cell? (a_1.add 2)=some (.slice lP_1 lN_1 lC_1)∧
 0≤idx∧idx<(lN_1:Int)∧NN lP_1 fun a_2=>
 ∃isx,w1.cell? ((a_2.add (idx.toNat*4)).add 2)=some (.bool isx)∧
 If (!isx)
 (R (4:Int) w1)
 (R (0:Int) w1))))
theorem ZbP.of {t:Option Addr} {idx:Int} {w:World} {R:Int→World→Prop} (h:ZiR t idx w R):ZbP t idx w R:=ofS4 (Fm:=ZiR t idx w) Tryz.func148 (by kernel_rfl) (L0 Tryz.f148) rfl (fun _=>by kernel_rfl) h
structure Zbb where
 t8:Int
def Zhd (sP_1:Option Addr) (sN_1:Nat) (sC_1:Nat) (fx_1:Value) (t7:Int) (s:Zbb) (w:World) (Kn:Zbb→World→Prop) (Kx0:World→Prop) (Kr:Int→World→Prop):Prop:=
 If (decide (s.t8<t7))
 (0≤s.t8∧s.t8<(sN_1:Int)∧NN sP_1 fun a=>
 ∃t150,w.cell? ((a.add (s.t8.toNat*2)).add 0)=some (.int .i64 t150)∧
 ∃t151,w.cell? ((a.add (s.t8.toNat*2)).add 1)=some (.int .i64 t151)∧
 CallV Tryz.prog fx_1 [.agg #[.int .i64 t150,.int .i64 t151]] w fun v w1=>∃t16:Bool,v=(.bool t16)∧
 If t16
 (Kr s.t8 w1)
 (Kn ⟨(IntKind.i64.wrap (s.t8+(1:Int)))⟩ w1))
 (Kx0 w)
def Zg5 (sP_1:Option Addr) (sN_1:Nat) (sC_1:Nat) (fx_1:Value) (t7:Int) (s:Zbb) (w:World) (Kx0:World→Prop) (Kr:Int→World→Prop):Prop:=
 LoopS (fun s w Kn=>Zhd sP_1 sN_1 sC_1 fx_1 t7 s w Kn Kx0 Kr) s w
def Zj2 (sP:Option Addr) (sN:Nat) (sC:Nat) (fx:Value) (w:World) (R:Int→World→Prop):Prop:=
 Zg5 sP sN sC fx (sN:Int) ⟨(0:Int)⟩ w
 (fun w1_1=>
 R (-1) w1_1)
 (fun t4_1 w1_2=>
 R t4_1 w1_2)
def ZdW (f:(Option Addr)×Nat×Nat×Value×Int) (s:Zbb):Env:=[⟨0,.slice f.1 f.2.1 f.2.2.1,none⟩,⟨1,f.2.2.2.1,none⟩,⟨7,.int .i64 f.2.2.2.2,none⟩,⟨8,.int .i64 s.t8,none⟩]
def ZcF (e:Env) (K:((Option Addr)×Nat×Nat×Value×Int)→Zbb→Prop):Prop:=
 oS e 0 fun sP_1 sN_1 sC_1=>
 oV e 1 fun fx_1=>
 oI e 7 .i64 fun t7=>
 oI e 8 .i64 fun t8=>
  K (sP_1,sN_1,sC_1,fx_1,t7) ⟨t8⟩
theorem Zhy {N:Nat} (e:Env) (a:Act) (K:((Option Addr)×Nat×Nat×Value×Int)→Zbb→Prop) (hr:Rep N a e) (h0:ZcF e K):∃f s,K f s∧Rep N a (ZdW f s):=by
 unfold ZcF at h0
 obtain⟨sP_1,sN_1,sC_1,g0,h1⟩:=Zae h0
 obtain⟨fx_1,g1,h2⟩:=ZmW h1
 obtain⟨t7,g7,h3⟩:=Zab h2
 obtain⟨t8,g8,h4⟩:=Zab h3
 exact⟨_,_,h4,Zac hr (by simp [ZdW,g0,g1,g7,g8])⟩
def Zjc (Q:Post) (e:Env) (w:World):Prop:=
 ZcF e fun f s=>Zg5 f.1 f.2.1 f.2.2.1 f.2.2.2.1 f.2.2.2.2 s w (fun w1=>Q (.exit 0) [] w1) (fun t4 w1=>Q .ret [⟨4,.int .i64 t4,none⟩] w1)
def ZjR:Gen where
 loop:=lookL [([false,true,false,true],Zjc)]
 plan:=fun _=>none
def Zfv (e:Env) (K:((Option Addr)×Nat×Nat×Value×Int)→Prop):Prop:=
 oS e 0 fun sP_1 sN_1 sC_1=>
 oV e 1 fun fx_1=>
 oI e 7 .i64 fun t7=>
  K (sP_1,sN_1,sC_1,fx_1,t7)
def ZeA (e:Env) (K:((Option Addr)×Nat×Nat×Value×Int)→Int→Prop):Prop:=
 oS e 0 fun sP_1 sN_1 sC_1=>
 oV e 1 fun fx_1=>
 oI e 7 .i64 fun t7=>
 oI e 4 .i64 fun t4=>
  K (sP_1,sN_1,sC_1,fx_1,t7) t4
theorem Znf (f:(Option Addr)×Nat×Nat×Value×Int) (s:Zbb) (w:World) (Kn:((Option Addr)×Nat×Nat×Value×Int)→Zbb→World→Prop) (Kx0:((Option Addr)×Nat×Nat×Value×Int)→World→Prop) (Kr:((Option Addr)×Nat×Nat×Value×Int)→Int→World→Prop) :
  Zhd f.1 f.2.1 f.2.2.1 f.2.2.2.1 f.2.2.2.2 s w (fun s1 w1=>Kn f s1 w1) (fun w1=>Kx0 f w1) (fun t4 w1=>Kr f t4 w1) =
  den Tryz.prog Tryz.f149.ntmps ZjR (sub (codeOf Tryz.f149) [false,false,true,false,true]) [false,false,true,false,true] (roundQ (fun e w=>ZcF e fun f s=>Kn f s w) (fun e w=>ZeA e fun f t4=>Kr f t4 w) (fun id e w=>match Nat.beq id 0 with | true=>Zfv e fun f=>Kx0 f w | false=>False)) (ZdW f s) w:=by kernel_rfl
theorem Zob:OneOk Tryz.prog Tryz.f149.ntmps ZjR (codeOf Tryz.f149) [false,true,false,true] Zjc:=by
 intro c hc ih Q e w a hr h
 have hcc:sub (codeOf Tryz.f149) [false,false,true,false,true]=c:=Zaf hc
 obtain⟨f,s,h,hrep⟩:=Zhy e a _ hr h
 obtain⟨J,μ,hj,hround⟩:=h
 refine Zad Zan Zag ih ZdW ZcF Zhy hc f J μ (Kr:=fun e w=>ZeA e fun f1 t4=>f1=f∧Q .ret [⟨4,.int .i64 t4,none⟩] w) (Kx:=fun id e w=>match Nat.beq id 0 with | true=>(Zfv e fun f1=>f1=f∧Q (.exit 0) [] w) | false=>False) ?_ ?_ ?_ s w a hj hrep
 ·intro e a w hr h0
  unfold ZeA at h0
  obtain⟨sP_1,sN_1,sC_1,g0,h1⟩:=Zae h0
  obtain⟨fx_1,g1,h2⟩:=ZmW h1
  obtain⟨t7,g7,h3⟩:=Zab h2
  obtain⟨t4,g4,h4⟩:=Zab h3
  obtain⟨hf,hq⟩:=h4
  subst hf
  exact⟨_,Zac hr (by simp [g4]),hq⟩
 ·intro id e a w hr h0
  (try dsimp only at h0)
  split at h0
  ·rename_i hid
   obtain rfl:=Nat.eq_of_beq_eq_true hid
   unfold Zfv at h0
   obtain⟨sP_1,sN_1,sC_1,g0,h1⟩:=Zae h0
   obtain⟨fx_1,g1,h2⟩:=ZmW h1
   obtain⟨t7,g7,h3⟩:=Zab h2
   obtain⟨hf,hq⟩:=h3
   subst hf
   exact⟨_,Zac hr (by simp),hq⟩
  ·exact h0.elim
 ·intro s w hj
  have hb:=hround s w hj
  rw[←hcc]
  have e1:=Znf f s w (fun f1 s1 w1=>f1=f∧J s1 w1∧μ s1 w1<μ s w) (fun f1 w1=>f1=f∧Q (.exit 0) [] w1) (fun f1 t4 w1=>f1=f∧Q .ret [⟨4,.int .i64 t4,none⟩] w1)
  simp only[true_and] at e1
  exact cast e1 hb
theorem ZnY:LoopOk Tryz.prog Tryz.f149.ntmps ZjR (codeOf Tryz.f149):=Zal rfl ⟨Zob,trivial⟩
theorem Zb3.of {sP:Option Addr} {sN:Nat} {sC:Nat} {fx:Value} {w:World} {R:Int→World→Prop} (h:Zj2 sP sN sC fx w R):Zb3 sP sN sC fx w R:=ofS4 (Fm:=Zj2 sP sN sC fx w) Tryz.func149 (by kernel_rfl) ZnY rfl (fun _=>by kernel_rfl) h
def ZjS (r0:Int) (r1:Int) (c0:Addr) (w:World) (R:Bool→World→Prop):Prop:=
 New w (.cells #[.int .i64 r0,.int .i64 r1] 225) fun r w1=>
 ∃Len,w1.cell? (Addr.add ⟨r,0,none⟩ 1)=some (.int .i64 Len)∧
 ∃t6,w1.cell? c0=some (.int .i64 t6)∧
 R (decide (Len≥t6)) w1
theorem ZdH.of {r0:Int} {r1:Int} {c0:Addr} {w:World} {R:Bool→World→Prop} (h:ZjS r0 r1 c0 w R):ZdH r0 r1 c0 w R:=ofS2 (Fm:=ZjS r0 r1 c0 w) Tryz.func150 (by kernel_rfl) (L0 Tryz.f150) rfl (fun _=>by kernel_rfl) h
def Zmq (sP:Option Addr) (sN:Nat) (sC:Nat) (i:Int) (j:Int) (w:World) (R:Option Addr→Nat→Nat→World→Prop):Prop:=
 0≤i∧i≤j∧j≤(sN:Int)∧(sN:Int)≤(sC:Int)∧
 If (i==j)
 (R sP sN sC w)
 (0≤i∧i≤(sC:Int)∧
 0≤j∧j≤(sN:Int)∧
 App Tryz.prog #[167,167] 167 #[.slice sP i.toNat sC,.slice (adv sP sC j.toNat 2) (sN-j.toNat) (sC-j.toNat)] (drw w) fun t26P t26N t26C w1=>
 0≤(t26N:Int)∧(t26N:Int)≤(sN:Int)∧(sN:Int)≤(t26C:Int)∧
 Clr Tryz.prog #[167] 0 #[.slice (adv t26P t26C (t26N:Int).toNat 2) ((sN:Int).toNat-(t26N:Int).toNat) (t26C-(t26N:Int).toNat)] w1 fun v w1_1=>
 R t26P t26N t26C w1_1)
def ZrS:Gen where
 loop:=lookL []
 plan:=fun id=>
  bif Nat.beq id 5 then some ([0,0,3,0,0,24,63,127],.take 0 (.take 1 (.take 2 (.take 3 (.take 4 (.take 5 (.take 6 (.take 7 .done)))))))) else none
theorem ZcJ.of {sP:Option Addr} {sN:Nat} {sC:Nat} {i:Int} {j:Int} {w:World} {R:Option Addr→Nat→Nat→World→Prop} (h:Zmq sP sN sC i j w R):ZcJ sP sN sC i j w R:=ofS6 (Fm:=Zmq sP sN sC i j w) Tryz.func151 (by kernel_rfl) (L1 ZrS Tryz.f151 fun _=>rfl) rfl (fun _=>by kernel_rfl) h
def Zk7 (m:Option Addr) (w:World) (R:World→Prop):Prop:=
 NN m fun a=>
 ∃mostx,(drw w).cell? (a.add 2)=some (.int .i64 mostx)∧
 NN m fun a_1=>
 ∃lP lN lC,(drw w).cell? (a_1.add 0)=some (.slice lP lN lC)∧
 NN m fun a_2=>
 St (drw w) ((a_2.add 2).add 0) (.int .i64 (maxI mostx (lN:Int))) fun w1=>
 R w1
def Zrb:Gen where
 loop:=lookL []
 plan:=fun id=>
  bif Nat.beq id 0 then some ([0,0,2,6,14,0,32,96,224,480,1022,2047,4095,8191],.take 0 (.take 1 (.take 2 (.take 3 (.take 4 (.take 5 (.take 6 (.take 7 (.take 8 (.take 9 (.take 10 (.take 11 (.take 12 (.take 13 .done)))))))))))))) else none
theorem ZcM.of {m:Option Addr} {w:World} {R:World→Prop} (h:Zk7 m w R):ZcM m w R:=ofS1 (Fm:=Zk7 m w) Tryz.func152 (by kernel_rfl) (L1 Zrb Tryz.f152 fun _=>rfl) rfl (fun _=>by kernel_rfl) h
structure ZaU where
 i:Int
def Zgu (R:Int→World→Prop) (w1_1:World):Prop:=
 R (-1) w1_1
def Zge (p_1:Option Addr) (atx_1:Int) (s:ZaU) (w:World) (Kn:ZaU→World→Prop) (Kx0:Int→World→Prop):Prop:=
 NN p_1 fun a_2=>
 ∃lP_1 lN_1 lC_1,w.cell? (a_2.add 0)=some (.slice lP_1 lN_1 lC_1)∧
 If (decide ((IntKind.i64.wrap (s.i+(1:Int)))<(lN_1:Int)))
 (NN p_1 fun a_3=>
 ∃lP_2 lN_2 lC_2,w.cell? (a_3.add 0)=some (.slice lP_2 lN_2 lC_2)∧
 0≤(IntKind.i64.wrap (s.i+(1:Int)))∧(IntKind.i64.wrap (s.i+(1:Int)))<(lN_2:Int)∧NN lP_2 fun a_4=>
 ∃startx,w.cell? ((a_4.add ((IntKind.i64.wrap (s.i+(1:Int))).toNat*2)).add 0)=some (.int .i64 startx)∧
 If (startx==atx_1)
 (Kn ⟨(IntKind.i64.wrap (s.i+(1:Int)))⟩ w)
 (Kx0 s.i w))
 (Kx0 s.i w)
def Zgp (p_1:Option Addr) (atx_1:Int) (s:ZaU) (w:World) (Kx0:Int→World→Prop):Prop:=
 LoopS (fun s w Kn=>Zge p_1 atx_1 s w Kn Kx0) s w
def ZfR (p:Option Addr) (atx:Int) (w:World) (R:Int→World→Prop):Prop:=
 ZaI p w fun t8 w1=>
 If (!t8)
 (Zgu R w1)
 (If (decide (atx<(0:Int)))
 (Zgu R w1)
 (NN p fun a=>
 ∃topx,w1.cell? (a.add 1)=some (.int .i64 topx)∧
 If (decide (atx≥topx))
 (R (-1) w1)
 (NN p fun a_1=>
 ∃lP lN lC,w1.cell? (a_1.add 0)=some (.slice lP lN lC)∧
 ZaA lP lN lC atx (.func (.func 164) #[] #[]) w1 fun t280 t281 w1_2=>
 If (!t281)
 (R (IntKind.i64.wrap (t280-(1:Int))) w1_2)
 (Zgp p atx ⟨t280⟩ w1_2
 (fun i_2 w1_3=>
 R i_2 w1_3)))))
def ZdC (f:(Option Addr)×Int) (s:ZaU):Env:=[⟨0,.pointer f.1,none⟩,⟨1,.int .i64 f.2,none⟩,⟨5,.int .i64 s.i,none⟩]
def Zcm (e:Env) (K:((Option Addr)×Int)→ZaU→Prop):Prop:=
 oP e 0 fun p_1=>
 oI e 1 .i64 fun atx_1=>
 oI e 5 .i64 fun i=>
  K (p_1,atx_1) ⟨i⟩
theorem Zg8 {N:Nat} (e:Env) (a:Act) (K:((Option Addr)×Int)→ZaU→Prop) (hr:Rep N a e) (h0:Zcm e K):∃f s,K f s∧Rep N a (ZdC f s):=by
 unfold Zcm at h0
 obtain⟨p_1,g0,h1⟩:=Zar h0
 obtain⟨atx_1,g1,h2⟩:=Zab h1
 obtain⟨i,g5,h3⟩:=Zab h2
 exact⟨_,_,h3,Zac hr (by simp [ZdC,g0,g1,g5])⟩
def Zh9 (Q:Post) (e:Env) (w:World):Prop:=
 Zcm e fun f s=>Zgp f.1 f.2 s w (fun i_1 w1=>Q (.exit 0) [⟨5,.int .i64 i_1,none⟩] w1)
def Ziz:Gen where
 loop:=lookL [([false,false,true,true,true,true],Zh9)]
 plan:=fun _=>none
def Ze7 (e:Env) (K:((Option Addr)×Int)→Int→Prop):Prop:=
 oP e 0 fun p_1=>
 oI e 1 .i64 fun atx_1=>
 oI e 5 .i64 fun i_1=>
  K (p_1,atx_1) i_1
theorem ZmU (f:(Option Addr)×Int) (s:ZaU) (w:World) (Kn:((Option Addr)×Int)→ZaU→World→Prop) (Kx0:((Option Addr)×Int)→Int→World→Prop) :
  Zge f.1 f.2 s w (fun s1 w1=>Kn f s1 w1) (fun i_1 w1=>Kx0 f i_1 w1) =
  den Tryz.prog Tryz.f153.ntmps Ziz (sub (codeOf Tryz.f153) [false,false,false,true,true,true,true]) [false,false,false,true,true,true,true] (roundQ (fun e w=>Zcm e fun f s=>Kn f s w) (fun e w=>False) (fun id e w=>match Nat.beq id 0 with | true=>Ze7 e fun f i_1=>Kx0 f i_1 w | false=>False)) (ZdC f s) w:=by kernel_rfl
theorem Znx:OneOk Tryz.prog Tryz.f153.ntmps Ziz (codeOf Tryz.f153) [false,false,true,true,true,true] Zh9:=by
 intro c hc ih Q e w a hr h
 have hcc:sub (codeOf Tryz.f153) [false,false,false,true,true,true,true]=c:=Zaf hc
 obtain⟨f,s,h,hrep⟩:=Zg8 e a _ hr h
 obtain⟨J,μ,hj,hround⟩:=h
 refine Zad Zan Zag ih ZdC Zcm Zg8 hc f J μ (Kr:=fun e w=>False) (Kx:=fun id e w=>match Nat.beq id 0 with | true=>(Ze7 e fun f1 i_1=>f1=f∧Q (.exit 0) [⟨5,.int .i64 i_1,none⟩] w) | false=>False) ?_ ?_ ?_ s w a hj hrep
 ·intro e a w hr h
  exact h.elim
 ·intro id e a w hr h0
  (try dsimp only at h0)
  split at h0
  ·rename_i hid
   obtain rfl:=Nat.eq_of_beq_eq_true hid
   unfold Ze7 at h0
   obtain⟨p_1,g0,h1⟩:=Zar h0
   obtain⟨atx_1,g1,h2⟩:=Zab h1
   obtain⟨i_1,g5,h3⟩:=Zab h2
   obtain⟨hf,hq⟩:=h3
   subst hf
   exact⟨_,Zac hr (by simp [g5]),hq⟩
  ·exact h0.elim
 ·intro s w hj
  have hb:=hround s w hj
  rw[←hcc]
  have e1:=ZmU f s w (fun f1 s1 w1=>f1=f∧J s1 w1∧μ s1 w1<μ s w) (fun f1 i_1 w1=>f1=f∧Q (.exit 0) [⟨5,.int .i64 i_1,none⟩] w1)
  simp only[true_and] at e1
  exact cast e1 hb
theorem ZnO:LoopOk Tryz.prog Tryz.f153.ntmps Ziz (codeOf Tryz.f153):=Zal rfl ⟨Znx,trivial⟩
theorem ZaS.of {p:Option Addr} {atx:Int} {w:World} {R:Int→World→Prop} (h:ZfR p atx w R):ZaS p atx w R:=ofS4 (Fm:=ZfR p atx w) Tryz.func153 (by kernel_rfl) ZnO rfl (fun _=>by kernel_rfl) h
def Zh5 (sx:Option Addr) (atx:Int) (n:Int) (w:World) (R:Bool→World→Prop):Prop:=
 Zbx sx atx w fun t10 w1=>
 NN sx fun a=>
 ∃runsP runsN runsC,w1.cell? (a.add 1)=some (.slice runsP runsN runsC)∧
 If (decide (t10<(runsN:Int)))
 (NN sx fun a_1=>
 ∃runsP_1 runsN_1 runsC_1,w1.cell? (a_1.add 1)=some (.slice runsP_1 runsN_1 runsC_1)∧
 0≤t10∧t10<(runsN_1:Int)∧NN runsP_1 fun a_2=>
 ∃At,w1.cell? ((a_2.add (t10.toNat*2)).add 0)=some (.int .i64 At)∧
 R (decide (At<(IntKind.i64.wrap (atx+n)))) w1)
 (R false w1)
theorem ZbA.of {sx:Option Addr} {atx:Int} {n:Int} {w:World} {R:Bool→World→Prop} (h:Zh5 sx atx n w R):ZbA sx atx n w R:=ofS2 (Fm:=Zh5 sx atx n w) Tryz.func154 (by kernel_rfl) (L0 Tryz.f154) rfl (fun _=>by kernel_rfl) h
structure ZaN where
 i:Int
def ZfN (sx_1:Option Addr) (n_1:Int) (seen_1:Option Nat) (t:Addr) (s:ZaN) (w:World) (Kn:ZaN→World→Prop) (Kx0:World→Prop) (Kr:Bool→World→Prop):Prop:=
 ∃LP LN LC,w.cell? (t.add 3)=some (.slice LP LN LC)∧
 If (decide (s.i<(LN:Int)))
 (∃LP_1 LN_1 LC_1,w.cell? (t.add 3)=some (.slice LP_1 LN_1 LC_1)∧
 0≤s.i∧s.i<(LN_1:Int)∧NN LP_1 fun a=>
 ∃t550,w.cell? ((a.add (s.i.toNat*4)).add 0)=some (.int .i64 t550)∧
 ∃t551,w.cell? ((a.add (s.i.toNat*4)).add 1)=some (.int .i64 t551)∧
 ∃t552,w.cell? ((a.add (s.i.toNat*4)).add 2)=some (.string t552)∧
 ∃t553P t553N t553C,w.cell? ((a.add (s.i.toNat*4)).add 3)=some (.slice t553P t553N t553C)∧
 Zay sx_1 n_1 t550 t551 t552 t553P t553N t553C seen_1 w fun t57 w1_10=>
 If t57
 (Kr true w1_10)
 (Kn ⟨(IntKind.i64.wrap (s.i+(1:Int)))⟩ w1_10))
 (Kx0 w)
def Zf1 (sx_1:Option Addr) (n_1:Int) (seen_1:Option Nat) (t:Addr) (s:ZaN) (w:World) (Kx0:World→Prop) (Kr:Bool→World→Prop):Prop:=
 LoopS (fun s w Kn=>ZfN sx_1 n_1 seen_1 t s w Kn Kx0 Kr) s w
def ZhY (sx:Option Addr) (n:Int) (t0:Int) (t1:Int) (t2:ByteArray) (t3P:Option Addr) (t3N:Nat) (t3C:Nat) (seen:Option Nat) (w:World) (R:Bool→World→Prop):Prop:=
 New w (.cells #[.int .i64 t0,.int .i64 t1,.string t2,.slice t3P t3N t3C] 31) fun r w1=>
 ∃Kind,w1.cell? (Addr.add ⟨r,0,none⟩ 0)=some (.int .i64 Kind)∧
 If (Kind==(1:Int))
 (∃N,w1.cell? (Addr.add ⟨r,0,none⟩ 1)=some (.int .i64 N)∧
 If (N==n)
 (R true w1)
 (∃N_1,w1.cell? (Addr.add ⟨r,0,none⟩ 1)=some (.int .i64 N_1)∧
 Zax sx N_1 w1 fun t2300 t2301 t2302 t2303P t2303N t2303C t231 w1_1=>
 New w1_1 (.cells #[.int .i64 0,.int .i64 0,.string ⟨#[]⟩,.slice none 0 0] 31) fun r_1 w1_2=>
 St w1_2 (Addr.add ⟨r_1,0,none⟩ 0) (.int .i64 t2300) fun w1_3=>
 St w1_3 (Addr.add ⟨r_1,0,none⟩ 1) (.int .i64 t2301) fun w1_4=>
 St w1_4 (Addr.add ⟨r_1,0,none⟩ 2) (.string t2302) fun w1_5=>
 St w1_5 (Addr.add ⟨r_1,0,none⟩ 3) (.slice t2303P t2303N t2303C) fun w1_6=>
 If (!t231)
 (R false w1_6)
 (∃N_2,w1_6.cell? (Addr.add ⟨r,0,none⟩ 1)=some (.int .i64 N_2)∧
 Run Tryz.prog (Instr.lookup 230 (.map seen) (.int .i64 N_2) false) w1_6 fun v w1_7=>∃t32:Bool,v=(.bool t32)∧
 If t32
 (R false w1_7)
 (∃N_3,w1_7.cell? (Addr.add ⟨r,0,none⟩ 1)=some (.int .i64 N_3)∧
 MUp Tryz.prog 230 (.map seen) (.int .i64 N_3) (.bool true) w1_7 fun w1_8=>
 ∃t390,w1_8.cell? (Addr.add ⟨r_1,0,none⟩ 0)=some (.int .i64 t390)∧
 ∃t391,w1_8.cell? (Addr.add ⟨r_1,0,none⟩ 1)=some (.int .i64 t391)∧
 ∃t392,w1_8.cell? (Addr.add ⟨r_1,0,none⟩ 2)=some (.string t392)∧
 ∃t393P t393N t393C,w1_8.cell? (Addr.add ⟨r_1,0,none⟩ 3)=some (.slice t393P t393N t393C)∧
 Zay sx n t390 t391 t392 t393P t393N t393C seen w1_8 fun t41 w1_9=>
 R t41 w1_9))))
 (Zf1 sx n seen ⟨r,0,none⟩ ⟨(0:Int)⟩ w1
 (fun w1_11=>
 R false w1_11)
 (fun t8_1 w1_12=>
 R t8_1 w1_12))
def Zdc (f:(Option Addr)×Int×(Option Nat)×Addr) (s:ZaN):Env:=[⟨0,.pointer f.1,none⟩,⟨1,.int .i64 f.2.1,none⟩,⟨3,.map f.2.2.1,none⟩,⟨6,.pointer (some f.2.2.2),none⟩,⟨11,.int .i64 s.i,none⟩]
def Zcb (e:Env) (K:((Option Addr)×Int×(Option Nat)×Addr)→ZaN→Prop):Prop:=
 oP e 0 fun sx_1=>
 oI e 1 .i64 fun n_1=>
 oM e 3 fun seen_1=>
 oA e 6 fun t=>
 oI e 11 .i64 fun i=>
  K (sx_1,n_1,seen_1,t) ⟨i⟩
theorem Zgy {N:Nat} (e:Env) (a:Act) (K:((Option Addr)×Int×(Option Nat)×Addr)→ZaN→Prop) (hr:Rep N a e) (h0:Zcb e K):∃f s,K f s∧Rep N a (Zdc f s):=by
 unfold Zcb at h0
 obtain⟨sx_1,g0,h1⟩:=Zar h0
 obtain⟨n_1,g1,h2⟩:=Zab h1
 obtain⟨seen_1,g3,h3⟩:=Zit h2
 obtain⟨t,g6,h4⟩:=Zap h3
 obtain⟨i,g11,h5⟩:=Zab h4
 exact⟨_,_,h5,Zac hr (by simp [Zdc,g0,g1,g3,g6,g11])⟩
def ZhB (Q:Post) (e:Env) (w:World):Prop:=
 Zcb e fun f s=>Zf1 f.1 f.2.1 f.2.2.1 f.2.2.2 s w (fun w1=>Q (.exit 0) [] w1) (fun t8 w1=>Q .ret [⟨8,.bool t8,none⟩] w1)
def ZhT:Gen where
 loop:=lookL [([false,true,false,true,true],ZhB)]
 plan:=fun _=>none
def ZeB (e:Env) (K:((Option Addr)×Int×(Option Nat)×Addr)→Prop):Prop:=
 oP e 0 fun sx_1=>
 oI e 1 .i64 fun n_1=>
 oM e 3 fun seen_1=>
 oA e 6 fun t=>
  K (sx_1,n_1,seen_1,t)
def Zd0 (e:Env) (K:((Option Addr)×Int×(Option Nat)×Addr)→Bool→Prop):Prop:=
 oP e 0 fun sx_1=>
 oI e 1 .i64 fun n_1=>
 oM e 3 fun seen_1=>
 oA e 6 fun t=>
 oB e 8 fun t8=>
  K (sx_1,n_1,seen_1,t) t8
theorem Zmu (f:(Option Addr)×Int×(Option Nat)×Addr) (s:ZaN) (w:World) (Kn:((Option Addr)×Int×(Option Nat)×Addr)→ZaN→World→Prop) (Kx0:((Option Addr)×Int×(Option Nat)×Addr)→World→Prop) (Kr:((Option Addr)×Int×(Option Nat)×Addr)→Bool→World→Prop) :
  ZfN f.1 f.2.1 f.2.2.1 f.2.2.2 s w (fun s1 w1=>Kn f s1 w1) (fun w1=>Kx0 f w1) (fun t8 w1=>Kr f t8 w1) =
  den Tryz.prog Tryz.f155.ntmps ZhT (sub (codeOf Tryz.f155) [false,false,true,false,true,true]) [false,false,true,false,true,true] (roundQ (fun e w=>Zcb e fun f s=>Kn f s w) (fun e w=>Zd0 e fun f t8=>Kr f t8 w) (fun id e w=>match Nat.beq id 0 with | true=>ZeB e fun f=>Kx0 f w | false=>False)) (Zdc f s) w:=by kernel_rfl
theorem Zm9:OneOk Tryz.prog Tryz.f155.ntmps ZhT (codeOf Tryz.f155) [false,true,false,true,true] ZhB:=by
 intro c hc ih Q e w a hr h
 have hcc:sub (codeOf Tryz.f155) [false,false,true,false,true,true]=c:=Zaf hc
 obtain⟨f,s,h,hrep⟩:=Zgy e a _ hr h
 obtain⟨J,μ,hj,hround⟩:=h
 refine Zad Zan Zag ih Zdc Zcb Zgy hc f J μ (Kr:=fun e w=>Zd0 e fun f1 t8=>f1=f∧Q .ret [⟨8,.bool t8,none⟩] w) (Kx:=fun id e w=>match Nat.beq id 0 with | true=>(ZeB e fun f1=>f1=f∧Q (.exit 0) [] w) | false=>False) ?_ ?_ ?_ s w a hj hrep
 ·intro e a w hr h0
  unfold Zd0 at h0
  obtain⟨sx_1,g0,h1⟩:=Zar h0
  obtain⟨n_1,g1,h2⟩:=Zab h1
  obtain⟨seen_1,g3,h3⟩:=Zit h2
  obtain⟨t,g6,h4⟩:=Zap h3
  obtain⟨t8,g8,h5⟩:=Zjx h4
  obtain⟨hf,hq⟩:=h5
  subst hf
  exact⟨_,Zac hr (by simp [g8]),hq⟩
 ·intro id e a w hr h0
  (try dsimp only at h0)
  split at h0
  ·rename_i hid
   obtain rfl:=Nat.eq_of_beq_eq_true hid
   unfold ZeB at h0
   obtain⟨sx_1,g0,h1⟩:=Zar h0
   obtain⟨n_1,g1,h2⟩:=Zab h1
   obtain⟨seen_1,g3,h3⟩:=Zit h2
   obtain⟨t,g6,h4⟩:=Zap h3
   obtain⟨hf,hq⟩:=h4
   subst hf
   exact⟨_,Zac hr (by simp),hq⟩
  ·exact h0.elim
 ·intro s w hj
  have hb:=hround s w hj
  rw[←hcc]
  have e1:=Zmu f s w (fun f1 s1 w1=>f1=f∧J s1 w1∧μ s1 w1<μ s w) (fun f1 w1=>f1=f∧Q (.exit 0) [] w1) (fun f1 t8 w1=>f1=f∧Q .ret [⟨8,.bool t8,none⟩] w1)
  simp only[true_and] at e1
  exact cast e1 hb
theorem Zm4:LoopOk Tryz.prog Tryz.f155.ntmps ZhT (codeOf Tryz.f155):=Zal rfl ⟨Zm9,trivial⟩
theorem Zay.of {sx:Option Addr} {n:Int} {t0:Int} {t1:Int} {t2:ByteArray} {t3P:Option Addr} {t3N:Nat} {t3C:Nat} {seen:Option Nat} {w:World} {R:Bool→World→Prop} (h:ZhY sx n t0 t1 t2 t3P t3N t3C seen w R):Zay sx n t0 t1 t2 t3P t3N t3C seen w R:=ofS2 (Fm:=ZhY sx n t0 t1 t2 t3P t3N t3C seen w) Tryz.func155 (by kernel_rfl) Zm4 rfl (fun _=>by kernel_rfl) h
def ZkD (o:Option Addr) (fx:Value) (w:World) (R:World→Prop):Prop:=
 NN o fun a=>
 ZaM (some (a.add 0)) w fun t7 w1=>
 If (!t7)
 (Zgw o fx w1 fun w1_1=>
 R w1_1)
 (R w1)
theorem Zei.of {o:Option Addr} {fx:Value} {w:World} {R:World→Prop} (h:ZkD o fx w R):Zei o fx w R:=ofS1 (Fm:=ZkD o fx w) Tryz.func156 (by kernel_rfl) (L0 Tryz.f156) rfl (fun _=>by kernel_rfl) h
structure Zbd where
 t10:Int
def Zg2 (t_1:Option Addr) (t8P_1:Option Addr) (t8N_1:Nat) (t8C_1:Nat) (t9:Int) (s:Zbd) (w:World) (Kn:Zbd→World→Prop) (Kx0:World→Prop):Prop:=
 If (decide (s.t10<t9))
 (0≤s.t10∧s.t10<(t8N_1:Int)∧NN t8P_1 fun a_1=>
 ∃t14,w.cell? (a_1.add (s.t10.toNat*1))=some (.string t14)∧
 NN t_1 fun a_2=>
 ∃lP lN lC,w.cell? (a_2.add 5)=some (.slice lP lN lC)∧
 BSl Tryz.prog 187 1 [(0,.agg #[.string t14,.bool true,.bool false])] w fun t22P t22N t22C w1_3=>
 App Tryz.prog #[187,187] 187 #[.slice lP lN lC,.slice t22P t22N t22C] w1_3 fun t23P t23N t23C w1_4=>
 NN t_1 fun a_3=>
 St w1_4 ((a_3.add 5).add 0) (.slice t23P t23N t23C) fun w1_5=>
 NN t_1 fun a_4=>
 ∃ids,w1_5.cell? (a_4.add 6)=some (.map ids)∧
 MUp Tryz.prog 188 (.map ids) (.string t14) (.int .i64 s.t10) w1_5 fun w1_6=>
 Kn ⟨(IntKind.i64.wrap (s.t10+(1:Int)))⟩ w1_6)
 (Kx0 w)
def Zhi (t_1:Option Addr) (t8P_1:Option Addr) (t8N_1:Nat) (t8C_1:Nat) (t9:Int) (s:Zbd) (w:World) (Kx0:World→Prop):Prop:=
 LoopS (fun s w Kn=>Zg2 t_1 t8P_1 t8N_1 t8C_1 t9 s w Kn Kx0) s w
def Zjm (t:Option Addr) (w:World) (R:World→Prop):Prop:=
 New w (.map #[] 0) fun r w1=>
 NN t fun a=>
 St w1 ((a.add 6).add 0) (.map (some r)) fun w1_1=>
 ZcI  w1_1 fun t8P t8N t8C w1_2=>
 Zhi t t8P t8N t8C (t8N:Int) ⟨(0:Int)⟩ w1_2
 (fun w1_7=>
 R w1_7)
def Zd6 (f:(Option Addr)×(Option Addr)×Nat×Nat×Int) (s:Zbd):Env:=[⟨0,.pointer f.1,none⟩,⟨8,.slice f.2.1 f.2.2.1 f.2.2.2.1,none⟩,⟨9,.int .i64 f.2.2.2.2,none⟩,⟨10,.int .i64 s.t10,none⟩]
def ZcB (e:Env) (K:((Option Addr)×(Option Addr)×Nat×Nat×Int)→Zbd→Prop):Prop:=
 oP e 0 fun t_1=>
 oS e 8 fun t8P_1 t8N_1 t8C_1=>
 oI e 9 .i64 fun t9=>
 oI e 10 .i64 fun t10=>
  K (t_1,t8P_1,t8N_1,t8C_1,t9) ⟨t10⟩
theorem ZhC {N:Nat} (e:Env) (a:Act) (K:((Option Addr)×(Option Addr)×Nat×Nat×Int)→Zbd→Prop) (hr:Rep N a e) (h0:ZcB e K):∃f s,K f s∧Rep N a (Zd6 f s):=by
 unfold ZcB at h0
 obtain⟨t_1,g0,h1⟩:=Zar h0
 obtain⟨t8P_1,t8N_1,t8C_1,g8,h2⟩:=Zae h1
 obtain⟨t9,g9,h3⟩:=Zab h2
 obtain⟨t10,g10,h4⟩:=Zab h3
 exact⟨_,_,h4,Zac hr (by simp [Zd6,g0,g8,g9,g10])⟩
def ZiY (Q:Post) (e:Env) (w:World):Prop:=
 ZcB e fun f s=>Zhi f.1 f.2.1 f.2.2.1 f.2.2.2.1 f.2.2.2.2 s w (fun w1=>Q (.exit 0) [] w1)
def ZjJ:Gen where
 loop:=lookL [([false,true,true],ZiY)]
 plan:=fun _=>none
def Zfk (e:Env) (K:((Option Addr)×(Option Addr)×Nat×Nat×Int)→Prop):Prop:=
 oP e 0 fun t_1=>
 oS e 8 fun t8P_1 t8N_1 t8C_1=>
 oI e 9 .i64 fun t9=>
  K (t_1,t8P_1,t8N_1,t8C_1,t9)
theorem Zm5 (f:(Option Addr)×(Option Addr)×Nat×Nat×Int) (s:Zbd) (w:World) (Kn:((Option Addr)×(Option Addr)×Nat×Nat×Int)→Zbd→World→Prop) (Kx0:((Option Addr)×(Option Addr)×Nat×Nat×Int)→World→Prop) :
  Zg2 f.1 f.2.1 f.2.2.1 f.2.2.2.1 f.2.2.2.2 s w (fun s1 w1=>Kn f s1 w1) (fun w1=>Kx0 f w1) =
  den Tryz.prog Tryz.f157.ntmps ZjJ (sub (codeOf Tryz.f157) [false,false,true,true]) [false,false,true,true] (roundQ (fun e w=>ZcB e fun f s=>Kn f s w) (fun e w=>False) (fun id e w=>match Nat.beq id 0 with | true=>Zfk e fun f=>Kx0 f w | false=>False)) (Zd6 f s) w:=by kernel_rfl
theorem ZnT:OneOk Tryz.prog Tryz.f157.ntmps ZjJ (codeOf Tryz.f157) [false,true,true] ZiY:=by
 intro c hc ih Q e w a hr h
 have hcc:sub (codeOf Tryz.f157) [false,false,true,true]=c:=Zaf hc
 obtain⟨f,s,h,hrep⟩:=ZhC e a _ hr h
 obtain⟨J,μ,hj,hround⟩:=h
 refine Zad Zan Zag ih Zd6 ZcB ZhC hc f J μ (Kr:=fun e w=>False) (Kx:=fun id e w=>match Nat.beq id 0 with | true=>(Zfk e fun f1=>f1=f∧Q (.exit 0) [] w) | false=>False) ?_ ?_ ?_ s w a hj hrep
 ·intro e a w hr h
  exact h.elim
 ·intro id e a w hr h0
  (try dsimp only at h0)
  split at h0
  ·rename_i hid
   obtain rfl:=Nat.eq_of_beq_eq_true hid
   unfold Zfk at h0
   obtain⟨t_1,g0,h1⟩:=Zar h0
   obtain⟨t8P_1,t8N_1,t8C_1,g8,h2⟩:=Zae h1
   obtain⟨t9,g9,h3⟩:=Zab h2
   obtain⟨hf,hq⟩:=h3
   subst hf
   exact⟨_,Zac hr (by simp),hq⟩
  ·exact h0.elim
 ·intro s w hj
  have hb:=hround s w hj
  rw[←hcc]
  have e1:=Zm5 f s w (fun f1 s1 w1=>f1=f∧J s1 w1∧μ s1 w1<μ s w) (fun f1 w1=>f1=f∧Q (.exit 0) [] w1)
  simp only[true_and] at e1
  exact cast e1 hb
theorem ZnX:LoopOk Tryz.prog Tryz.f157.ntmps ZjJ (codeOf Tryz.f157):=Zal rfl ⟨ZnT,trivial⟩
theorem ZcE.of {t:Option Addr} {w:World} {R:World→Prop} (h:Zjm t w R):ZcE t w R:=ofS1 (Fm:=Zjm t w) Tryz.func157 (by kernel_rfl) ZnX rfl (fun _=>by kernel_rfl) h
def Zmd (m:Option Addr) (i:Int) (w:World) (R:Int→World→Prop):Prop:=
 If m.isNone
 (R (6:Int) w)
 (If (decide (i<(0:Int)))
 (R (4:Int) w)
 (NN m fun a=>
 ∃lP lN lC,w.cell? (a.add 0)=some (.slice lP lN lC)∧
 If (decide (i≥(lN:Int)))
 (R (4:Int) w)
 (R (0:Int) w)))
theorem Zdu.of {m:Option Addr} {i:Int} {w:World} {R:Int→World→Prop} (h:Zmd m i w R):Zdu m i w R:=ofS4 (Fm:=Zmd m i w) Tryz.func159 (by kernel_rfl) (L0 Tryz.f159) rfl (fun _=>by kernel_rfl) h
structure ZaH where
 t8:Int
def ZfE (sP_1:Option Addr) (sN_1:Nat) (sC_1:Nat) (fx_1:Value) (t7:Int) (s:ZaH) (w:World) (Kn:ZaH→World→Prop) (Kx0:World→Prop) (Kr:Int→World→Prop):Prop:=
 If (decide (s.t8<t7))
 (0≤s.t8∧s.t8<(sN_1:Int)∧NN sP_1 fun a=>
 ∃t15,w.cell? (a.add (s.t8.toNat*1))=some (.int .u64 t15)∧
 CallV Tryz.prog fx_1 [.int .u64 t15] w fun v w1=>∃t16:Bool,v=(.bool t16)∧
 If t16
 (Kr s.t8 w1)
 (Kn ⟨(IntKind.i64.wrap (s.t8+(1:Int)))⟩ w1))
 (Kx0 w)
def Zfu (sP_1:Option Addr) (sN_1:Nat) (sC_1:Nat) (fx_1:Value) (t7:Int) (s:ZaH) (w:World) (Kx0:World→Prop) (Kr:Int→World→Prop):Prop:=
 LoopS (fun s w Kn=>ZfE sP_1 sN_1 sC_1 fx_1 t7 s w Kn Kx0 Kr) s w
def ZgW (sP:Option Addr) (sN:Nat) (sC:Nat) (fx:Value) (w:World) (R:Int→World→Prop):Prop:=
 Zfu sP sN sC fx (sN:Int) ⟨(0:Int)⟩ w
 (fun w1_1=>
 R (-1) w1_1)
 (fun t4_1 w1_2=>
 R t4_1 w1_2)
def Zc3 (f:(Option Addr)×Nat×Nat×Value×Int) (s:ZaH):Env:=[⟨0,.slice f.1 f.2.1 f.2.2.1,none⟩,⟨1,f.2.2.2.1,none⟩,⟨7,.int .i64 f.2.2.2.2,none⟩,⟨8,.int .i64 s.t8,none⟩]
def Zb0 (e:Env) (K:((Option Addr)×Nat×Nat×Value×Int)→ZaH→Prop):Prop:=
 oS e 0 fun sP_1 sN_1 sC_1=>
 oV e 1 fun fx_1=>
 oI e 7 .i64 fun t7=>
 oI e 8 .i64 fun t8=>
  K (sP_1,sN_1,sC_1,fx_1,t7) ⟨t8⟩
theorem Zf3 {N:Nat} (e:Env) (a:Act) (K:((Option Addr)×Nat×Nat×Value×Int)→ZaH→Prop) (hr:Rep N a e) (h0:Zb0 e K):∃f s,K f s∧Rep N a (Zc3 f s):=by
 unfold Zb0 at h0
 obtain⟨sP_1,sN_1,sC_1,g0,h1⟩:=Zae h0
 obtain⟨fx_1,g1,h2⟩:=ZmW h1
 obtain⟨t7,g7,h3⟩:=Zab h2
 obtain⟨t8,g8,h4⟩:=Zab h3
 exact⟨_,_,h4,Zac hr (by simp [Zc3,g0,g1,g7,g8])⟩
def ZgT (Q:Post) (e:Env) (w:World):Prop:=
 Zb0 e fun f s=>Zfu f.1 f.2.1 f.2.2.1 f.2.2.2.1 f.2.2.2.2 s w (fun w1=>Q (.exit 0) [] w1) (fun t4 w1=>Q .ret [⟨4,.int .i64 t4,none⟩] w1)
def Zhh:Gen where
 loop:=lookL [([false,true,false,true],ZgT)]
 plan:=fun _=>none
def Zeq (e:Env) (K:((Option Addr)×Nat×Nat×Value×Int)→Prop):Prop:=
 oS e 0 fun sP_1 sN_1 sC_1=>
 oV e 1 fun fx_1=>
 oI e 7 .i64 fun t7=>
  K (sP_1,sN_1,sC_1,fx_1,t7)
def ZdL (e:Env) (K:((Option Addr)×Nat×Nat×Value×Int)→Int→Prop):Prop:=
 oS e 0 fun sP_1 sN_1 sC_1=>
 oV e 1 fun fx_1=>
 oI e 7 .i64 fun t7=>
 oI e 4 .i64 fun t4=>
  K (sP_1,sN_1,sC_1,fx_1,t7) t4
theorem Zl9 (f:(Option Addr)×Nat×Nat×Value×Int) (s:ZaH) (w:World) (Kn:((Option Addr)×Nat×Nat×Value×Int)→ZaH→World→Prop) (Kx0:((Option Addr)×Nat×Nat×Value×Int)→World→Prop) (Kr:((Option Addr)×Nat×Nat×Value×Int)→Int→World→Prop) :
  ZfE f.1 f.2.1 f.2.2.1 f.2.2.2.1 f.2.2.2.2 s w (fun s1 w1=>Kn f s1 w1) (fun w1=>Kx0 f w1) (fun t4 w1=>Kr f t4 w1) =
  den Tryz.prog Tryz.f160.ntmps Zhh (sub (codeOf Tryz.f160) [false,false,true,false,true]) [false,false,true,false,true] (roundQ (fun e w=>Zb0 e fun f s=>Kn f s w) (fun e w=>ZdL e fun f t4=>Kr f t4 w) (fun id e w=>match Nat.beq id 0 with | true=>Zeq e fun f=>Kx0 f w | false=>False)) (Zc3 f s) w:=by kernel_rfl
theorem ZmX:OneOk Tryz.prog Tryz.f160.ntmps Zhh (codeOf Tryz.f160) [false,true,false,true] ZgT:=by
 intro c hc ih Q e w a hr h
 have hcc:sub (codeOf Tryz.f160) [false,false,true,false,true]=c:=Zaf hc
 obtain⟨f,s,h,hrep⟩:=Zf3 e a _ hr h
 obtain⟨J,μ,hj,hround⟩:=h
 refine Zad Zan Zag ih Zc3 Zb0 Zf3 hc f J μ (Kr:=fun e w=>ZdL e fun f1 t4=>f1=f∧Q .ret [⟨4,.int .i64 t4,none⟩] w) (Kx:=fun id e w=>match Nat.beq id 0 with | true=>(Zeq e fun f1=>f1=f∧Q (.exit 0) [] w) | false=>False) ?_ ?_ ?_ s w a hj hrep
 ·intro e a w hr h0
  unfold ZdL at h0
  obtain⟨sP_1,sN_1,sC_1,g0,h1⟩:=Zae h0
  obtain⟨fx_1,g1,h2⟩:=ZmW h1
  obtain⟨t7,g7,h3⟩:=Zab h2
  obtain⟨t4,g4,h4⟩:=Zab h3
  obtain⟨hf,hq⟩:=h4
  subst hf
  exact⟨_,Zac hr (by simp [g4]),hq⟩
 ·intro id e a w hr h0
  (try dsimp only at h0)
  split at h0
  ·rename_i hid
   obtain rfl:=Nat.eq_of_beq_eq_true hid
   unfold Zeq at h0
   obtain⟨sP_1,sN_1,sC_1,g0,h1⟩:=Zae h0
   obtain⟨fx_1,g1,h2⟩:=ZmW h1
   obtain⟨t7,g7,h3⟩:=Zab h2
   obtain⟨hf,hq⟩:=h3
   subst hf
   exact⟨_,Zac hr (by simp),hq⟩
  ·exact h0.elim
 ·intro s w hj
  have hb:=hround s w hj
  rw[←hcc]
  have e1:=Zl9 f s w (fun f1 s1 w1=>f1=f∧J s1 w1∧μ s1 w1<μ s w) (fun f1 w1=>f1=f∧Q (.exit 0) [] w1) (fun f1 t4 w1=>f1=f∧Q .ret [⟨4,.int .i64 t4,none⟩] w1)
  simp only[true_and] at e1
  exact cast e1 hb
theorem ZmE:LoopOk Tryz.prog Tryz.f160.ntmps Zhh (codeOf Tryz.f160):=Zal rfl ⟨ZmX,trivial⟩
theorem ZbS.of {sP:Option Addr} {sN:Nat} {sC:Nat} {fx:Value} {w:World} {R:Int→World→Prop} (h:ZgW sP sN sC fx w R):ZbS sP sN sC fx w R:=ofS4 (Fm:=ZgW sP sN sC fx w) Tryz.func160 (by kernel_rfl) ZmE rfl (fun _=>by kernel_rfl) h
end Go.Proofs.YtdaenijbokialaaGreat
