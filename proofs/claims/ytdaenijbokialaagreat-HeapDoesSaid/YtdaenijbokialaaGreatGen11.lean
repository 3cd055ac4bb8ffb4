import Derived.Test.YtdaenijbokialaaGreatGenC
set_option maxRecDepth 100000
set_option linter.unusedVariables false
namespace Go.Proofs.YtdaenijbokialaaGreat
open Go Go.D Go.Proofs
def ZnH (x:Int) (w:World) (R:Bool→World→Prop):Prop:=
 R (x != x) w
theorem ZdI.of {x:Int} {w:World} {R:Bool→World→Prop} (h:ZnH x w R):ZdI x w R:=ofS2 (Fm:=ZnH x w) Tryz.func161 (by kernel_rfl) (L0 Tryz.f161) rfl (fun _=>by kernel_rfl) h
def ZmV (R:Bool→World→Prop) (w1_2:World):Prop:=
 R false w1_2
def ZmF (R:Bool→World→Prop) (w1_4:World):Prop:=
 R false w1_4
def ZmH (R:Bool→World→Prop) (w1_5:World):Prop:=
 R false w1_5
def ZmJ (R:Bool→World→Prop) (w1_7:World):Prop:=
 R false w1_7
def ZmT (R:Bool→World→Prop) (w1_9:World):Prop:=
 R false w1_9
def Zpr (t0:Int) (t1:Int) (t2:ByteArray) (t3P:Option Addr) (t3N:Nat) (t3C:Nat) (w:World) (R:Bool→World→Prop):Prop:=
 New w (.cells #[.int .i64 t0,.int .i64 t1,.string t2,.slice t3P t3N t3C] 31) fun r w1=>
 ∃N,w1.cell? (Addr.add ⟨r,0,none⟩ 1)=some (.int .i64 N)∧
 If (N==(0:Int))
 (∃S,w1.cell? (Addr.add ⟨r,0,none⟩ 2)=some (.string S)∧
 ∃Kind,w1.cell? (Addr.add ⟨r,0,none⟩ 0)=some (.int .i64 Kind)∧
 If (Kind==(1:Int))
 (∃N_1,w1.cell? (Addr.add ⟨r,0,none⟩ 1)=some (.int .i64 N_1)∧
 If (decide (N_1≥(0:Int)))
 (∃N_2,w1.cell? (Addr.add ⟨r,0,none⟩ 1)=some (.int .i64 N_2)∧
 If (decide (N_2<(1073741824:Int)))
 (∃t260,w1.cell? (Addr.add ⟨r,0,none⟩ 0)=some (.int .i64 t260)∧
 ∃t261,w1.cell? (Addr.add ⟨r,0,none⟩ 1)=some (.int .i64 t261)∧
 ∃t262,w1.cell? (Addr.add ⟨r,0,none⟩ 2)=some (.string t262)∧
 ∃t263P t263N t263C,w1.cell? (Addr.add ⟨r,0,none⟩ 3)=some (.slice t263P t263N t263C)∧
 Zeo t260 t261 t262 t263P t263N t263C w1 fun t27 w1_1=>
 R t27 w1_1)
 (ZmV R w1))
 (ZmV R w1))
 (If (Kind==(2:Int))
 (∃N_3,w1.cell? (Addr.add ⟨r,0,none⟩ 1)=some (.int .i64 N_3)∧
 If (decide (N_3≥(-9007199254740991)))
 (∃N_4,w1.cell? (Addr.add ⟨r,0,none⟩ 1)=some (.int .i64 N_4)∧
 If (decide (N_4≤(9007199254740991:Int)))
 (∃t400,w1.cell? (Addr.add ⟨r,0,none⟩ 0)=some (.int .i64 t400)∧
 ∃t401,w1.cell? (Addr.add ⟨r,0,none⟩ 1)=some (.int .i64 t401)∧
 ∃t402,w1.cell? (Addr.add ⟨r,0,none⟩ 2)=some (.string t402)∧
 ∃t403P t403N t403C,w1.cell? (Addr.add ⟨r,0,none⟩ 3)=some (.slice t403P t403N t403C)∧
 Zeo t400 t401 t402 t403P t403N t403C w1 fun t41 w1_3=>
 R t41 w1_3)
 (ZmF R w1))
 (ZmF R w1))
 (If (Kind==(3:Int))
 (If (decide ((S.size:Int)≤(64:Int)))
 (∃LP LN LC,w1.cell? (Addr.add ⟨r,0,none⟩ 3)=some (.slice LP LN LC)∧
 R ((LN:Int)==(0:Int)) w1)
 (R false w1))
 (If (Kind==(4:Int))
 (If (decide ((S.size:Int)≤(64:Int)))
 (∃LP_1 LN_1 LC_1,w1.cell? (Addr.add ⟨r,0,none⟩ 3)=some (.slice LP_1 LN_1 LC_1)∧
 If (decide ((LN_1:Int)≥(1:Int)))
 (∃LP_2 LN_2 LC_2,w1.cell? (Addr.add ⟨r,0,none⟩ 3)=some (.slice LP_2 LN_2 LC_2)∧
 R (decide ((LN_2:Int)≤(16:Int))) w1)
 (ZmH R w1))
 (ZmH R w1))
 (R false w1)))))
 (∃Kind_1,w1.cell? (Addr.add ⟨r,0,none⟩ 0)=some (.int .i64 Kind_1)∧
 If (Kind_1==(1:Int))
 (∃N_5,w1.cell? (Addr.add ⟨r,0,none⟩ 1)=some (.int .i64 N_5)∧
 If (decide (N_5≥(0:Int)))
 (∃N_6,w1.cell? (Addr.add ⟨r,0,none⟩ 1)=some (.int .i64 N_6)∧
 If (decide (N_6<(1073741824:Int)))
 (∃t260_1,w1.cell? (Addr.add ⟨r,0,none⟩ 0)=some (.int .i64 t260_1)∧
 ∃t261_1,w1.cell? (Addr.add ⟨r,0,none⟩ 1)=some (.int .i64 t261_1)∧
 ∃t262_1,w1.cell? (Addr.add ⟨r,0,none⟩ 2)=some (.string t262_1)∧
 ∃t263P_1 t263N_1 t263C_1,w1.cell? (Addr.add ⟨r,0,none⟩ 3)=some (.slice t263P_1 t263N_1 t263C_1)∧
 Zeo t260_1 t261_1 t262_1 t263P_1 t263N_1 t263C_1 w1 fun t27_1 w1_6=>
 R t27_1 w1_6)
 (ZmJ R w1))
 (ZmJ R w1))
 (If (Kind_1==(2:Int))
 (∃N_7,w1.cell? (Addr.add ⟨r,0,none⟩ 1)=some (.int .i64 N_7)∧
 If (decide (N_7≥(-9007199254740991)))
 (∃N_8,w1.cell? (Addr.add ⟨r,0,none⟩ 1)=some (.int .i64 N_8)∧
 If (decide (N_8≤(9007199254740991:Int)))
 (∃t400_1,w1.cell? (Addr.add ⟨r,0,none⟩ 0)=some (.int .i64 t400_1)∧
 ∃t401_1,w1.cell? (Addr.add ⟨r,0,none⟩ 1)=some (.int .i64 t401_1)∧
 ∃t402_1,w1.cell? (Addr.add ⟨r,0,none⟩ 2)=some (.string t402_1)∧
 ∃t403P_1 t403N_1 t403C_1,w1.cell? (Addr.add ⟨r,0,none⟩ 3)=some (.slice t403P_1 t403N_1 t403C_1)∧
 Zeo t400_1 t401_1 t402_1 t403P_1 t403N_1 t403C_1 w1 fun t41_1 w1_8=>
 R t41_1 w1_8)
 (ZmT R w1))
 (ZmT R w1))
 (If (Kind_1==(3:Int))
 (R false w1)
 (If (Kind_1==(4:Int))
 (R false w1)
 (R false w1)))))
theorem ZgV.of {t0:Int} {t1:Int} {t2:ByteArray} {t3P:Option Addr} {t3N:Nat} {t3C:Nat} {w:World} {R:Bool→World→Prop} (h:Zpr t0 t1 t2 t3P t3N t3C w R):ZgV t0 t1 t2 t3P t3N t3C w R:=ofS2 (Fm:=Zpr t0 t1 t2 t3P t3N t3C w) Tryz.func162 (by kernel_rfl) (L0 Tryz.f162) rfl (fun _=>by kernel_rfl) h
structure Zas where
 i:Int
 j:Int
def Zeb (xP_1:Option Addr) (xN_1:Nat) (xC_1:Nat) (target_1:Int) (cmp_1:Value) (n:Int) (s:Zas) (w:World) (Kn:Zas→World→Prop) (Kx0:Int→World→Prop):Prop:=
 If (decide (s.i<s.j))
 (0≤(1:Int)∧
 0≤(IntKind.i64.wrap (shrI .u64 (IntKind.u64.wrap (IntKind.i64.wrap (s.i+s.j))) (1:Int)))∧(IntKind.i64.wrap (shrI .u64 (IntKind.u64.wrap (IntKind.i64.wrap (s.i+s.j))) (1:Int)))<(xN_1:Int)∧NN xP_1 fun a=>
 ∃t280,w.cell? ((a.add ((IntKind.i64.wrap (shrI .u64 (IntKind.u64.wrap (IntKind.i64.wrap (s.i+s.j))) (1:Int))).toNat*2)).add 0)=some (.int .i64 t280)∧
 ∃t281P t281N t281C,w.cell? ((a.add ((IntKind.i64.wrap (shrI .u64 (IntKind.u64.wrap (IntKind.i64.wrap (s.i+s.j))) (1:Int))).toNat*2)).add 1)=some (.slice t281P t281N t281C)∧
 CallV Tryz.prog cmp_1 [.agg #[.int .i64 t280,.slice t281P t281N t281C],.int .i64 target_1] w fun v w1=>∃t30:Int,v=(.int .i64 t30)∧
 If (decide (t30<(0:Int)))
 (Kn ⟨(IntKind.i64.wrap ((IntKind.i64.wrap (shrI .u64 (IntKind.u64.wrap (IntKind.i64.wrap (s.i+s.j))) (1:Int)))+(1:Int))),s.j⟩ w1)
 (Kn ⟨s.i,(IntKind.i64.wrap (shrI .u64 (IntKind.u64.wrap (IntKind.i64.wrap (s.i+s.j))) (1:Int)))⟩ w1))
 (Kx0 s.i w)
def ZdY (xP_1:Option Addr) (xN_1:Nat) (xC_1:Nat) (target_1:Int) (cmp_1:Value) (n:Int) (s:Zas) (w:World) (Kx0:Int→World→Prop):Prop:=
 LoopS (fun s w Kn=>Zeb xP_1 xN_1 xC_1 target_1 cmp_1 n s w Kn Kx0) s w
def Zfa (xP:Option Addr) (xN:Nat) (xC:Nat) (target:Int) (cmp:Value) (w:World) (R:Int→Bool→World→Prop):Prop:=
 ZdY xP xN xC target cmp (xN:Int) ⟨(0:Int),(xN:Int)⟩ w
 (fun i_2 w1_1=>
 If (decide (i_2<(xN:Int)))
 (0≤i_2∧i_2<(xN:Int)∧NN xP fun a_1=>
 ∃t440,w1_1.cell? ((a_1.add (i_2.toNat*2)).add 0)=some (.int .i64 t440)∧
 ∃t441P t441N t441C,w1_1.cell? ((a_1.add (i_2.toNat*2)).add 1)=some (.slice t441P t441N t441C)∧
 CallV Tryz.prog cmp [.agg #[.int .i64 t440,.slice t441P t441N t441C],.int .i64 target] w1_1 fun v_1 w1_2=>∃t46:Int,v_1=(.int .i64 t46)∧
 R i_2 (t46==(0:Int)) w1_2)
 (R i_2 false w1_1))
def Zb2 (f:(Option Addr)×Nat×Nat×Int×Value×Int) (s:Zas):Env:=[⟨0,.slice f.1 f.2.1 f.2.2.1,none⟩,⟨1,.int .i64 f.2.2.2.1,none⟩,⟨2,f.2.2.2.2.1,none⟩,⟨8,.int .i64 f.2.2.2.2.2,none⟩,⟨9,.int .i64 s.i,none⟩,⟨10,.int .i64 s.j,none⟩]
def Zbg (e:Env) (K:((Option Addr)×Nat×Nat×Int×Value×Int)→Zas→Prop):Prop:=
 oS e 0 fun xP_1 xN_1 xC_1=>
 oI e 1 .i64 fun target_1=>
 oV e 2 fun cmp_1=>
 oI e 8 .i64 fun n=>
 oI e 9 .i64 fun i=>
 oI e 10 .i64 fun j=>
  K (xP_1,xN_1,xC_1,target_1,cmp_1,n) ⟨i,j⟩
theorem Ze2 {N:Nat} (e:Env) (a:Act) (K:((Option Addr)×Nat×Nat×Int×Value×Int)→Zas→Prop) (hr:Rep N a e) (h0:Zbg e K):∃f s,K f s∧Rep N a (Zb2 f s):=by
 unfold Zbg at h0
 obtain⟨xP_1,xN_1,xC_1,g0,h1⟩:=Zae h0
 obtain⟨target_1,g1,h2⟩:=Zab h1
 obtain⟨cmp_1,g2,h3⟩:=ZmW h2
 obtain⟨n,g8,h4⟩:=Zab h3
 obtain⟨i,g9,h5⟩:=Zab h4
 obtain⟨j,g10,h6⟩:=Zab h5
 exact⟨_,_,h6,Zac hr (by simp [Zb2,g0,g1,g2,g8,g9,g10])⟩
def Zfx (Q:Post) (e:Env) (w:World):Prop:=
 Zbg e fun f s=>ZdY f.1 f.2.1 f.2.2.1 f.2.2.2.1 f.2.2.2.2.1 f.2.2.2.2.2 s w (fun i_1 w1=>Q (.exit 0) [⟨0,.slice f.1 f.2.1 f.2.2.1,none⟩,⟨1,.int .i64 f.2.2.2.1,none⟩,⟨2,f.2.2.2.2.1,none⟩,⟨8,.int .i64 f.2.2.2.2.2,none⟩,⟨9,.int .i64 i_1,none⟩] w1)
def Ze8:Gen where
 loop:=lookL [([false,false,true,true,true],Zfx)]
 plan:=fun _=>none
def Zda (e:Env) (K:((Option Addr)×Nat×Nat×Int×Value×Int)→Int→Prop):Prop:=
 oS e 0 fun xP_1 xN_1 xC_1=>
 oI e 1 .i64 fun target_1=>
 oV e 2 fun cmp_1=>
 oI e 8 .i64 fun n=>
 oI e 9 .i64 fun i_1=>
  K (xP_1,xN_1,xC_1,target_1,cmp_1,n) i_1
theorem Zko (f:(Option Addr)×Nat×Nat×Int×Value×Int) (s:Zas) (w:World) (Kn:((Option Addr)×Nat×Nat×Int×Value×Int)→Zas→World→Prop) (Kx0:((Option Addr)×Nat×Nat×Int×Value×Int)→Int→World→Prop) :
  Zeb f.1 f.2.1 f.2.2.1 f.2.2.2.1 f.2.2.2.2.1 f.2.2.2.2.2 s w (fun s1 w1=>Kn f s1 w1) (fun i_1 w1=>Kx0 f i_1 w1) =
  den Tryz.prog Tryz.f163.ntmps Ze8 (sub (codeOf Tryz.f163) [false,false,false,true,true,true]) [false,false,false,true,true,true] (roundQ (fun e w=>Zbg e fun f s=>Kn f s w) (fun e w=>False) (fun id e w=>match Nat.beq id 0 with | true=>Zda e fun f i_1=>Kx0 f i_1 w | false=>False)) (Zb2 f s) w:=by kernel_rfl
theorem Zk8:OneOk Tryz.prog Tryz.f163.ntmps Ze8 (codeOf Tryz.f163) [false,false,true,true,true] Zfx:=by
 intro c hc ih Q e w a hr h
 have hcc:sub (codeOf Tryz.f163) [false,false,false,true,true,true]=c:=Zaf hc
 obtain⟨f,s,h,hrep⟩:=Ze2 e a _ hr h
 obtain⟨J,μ,hj,hround⟩:=h
 refine Zad Zan Zag ih Zb2 Zbg Ze2 hc f J μ (Kr:=fun e w=>False) (Kx:=fun id e w=>match Nat.beq id 0 with | true=>(Zda e fun f1 i_1=>f1=f∧Q (.exit 0) [⟨0,.slice f.1 f.2.1 f.2.2.1,none⟩,⟨1,.int .i64 f.2.2.2.1,none⟩,⟨2,f.2.2.2.2.1,none⟩,⟨8,.int .i64 f.2.2.2.2.2,none⟩,⟨9,.int .i64 i_1,none⟩] w) | false=>False) ?_ ?_ ?_ s w a hj hrep
 ·intro e a w hr h
  exact h.elim
 ·intro id e a w hr h0
  (try dsimp only at h0)
  split at h0
  ·rename_i hid
   obtain rfl:=Nat.eq_of_beq_eq_true hid
   unfold Zda at h0
   obtain⟨xP_1,xN_1,xC_1,g0,h1⟩:=Zae h0
   obtain⟨target_1,g1,h2⟩:=Zab h1
   obtain⟨cmp_1,g2,h3⟩:=ZmW h2
   obtain⟨n,g8,h4⟩:=Zab h3
   obtain⟨i_1,g9,h5⟩:=Zab h4
   obtain⟨hf,hq⟩:=h5
   subst hf
   exact⟨_,Zac hr (by simp [g0,g1,g2,g8,g9]),hq⟩
  ·exact h0.elim
 ·intro s w hj
  have hb:=hround s w hj
  rw[←hcc]
  have e1:=Zko f s w (fun f1 s1 w1=>f1=f∧J s1 w1∧μ s1 w1<μ s w) (fun f1 i_1 w1=>f1=f∧Q (.exit 0) [⟨0,.slice f.1 f.2.1 f.2.2.1,none⟩,⟨1,.int .i64 f.2.2.2.1,none⟩,⟨2,f.2.2.2.2.1,none⟩,⟨8,.int .i64 f.2.2.2.2.2,none⟩,⟨9,.int .i64 i_1,none⟩] w1)
  simp only[true_and] at e1
  exact cast e1 hb
theorem ZkW:LoopOk Tryz.prog Tryz.f163.ntmps Ze8 (codeOf Tryz.f163):=Zal rfl ⟨Zk8,trivial⟩
theorem ZaA.of {xP:Option Addr} {xN:Nat} {xC:Nat} {target:Int} {cmp:Value} {w:World} {R:Int→Bool→World→Prop} (h:Zfa xP xN xC target cmp w R):ZaA xP xN xC target cmp w R:=ofS18 (Fm:=Zfa xP xN xC target cmp w) Tryz.func163 (by kernel_rfl) ZkW rfl (fun _=>by kernel_rfl) h
def Zhk (s0x:Int) (s1P:Option Addr) (s1N:Nat) (s1C:Nat) (atx:Int) (w:World) (R:Int→World→Prop):Prop:=
 New w (.cells #[.int .i64 s0x,.slice s1P s1N s1C] 169) fun r w1=>
 ∃startx,w1.cell? (Addr.add ⟨r,0,none⟩ 0)=some (.int .i64 startx)∧
 Zd4 startx atx w1 fun t8 w1_1=>
 R t8 w1_1
theorem Zcq.of {s0x:Int} {s1P:Option Addr} {s1N:Nat} {s1C:Nat} {atx:Int} {w:World} {R:Int→World→Prop} (h:Zhk s0x s1P s1N s1C atx w R):Zcq s0x s1P s1N s1C atx w R:=ofS4 (Fm:=Zhk s0x s1P s1N s1C atx w) Tryz.func164 (by kernel_rfl) (L0 Tryz.f164) rfl (fun _=>by kernel_rfl) h
def ZnP (x:Int) (y:Int) (w:World) (R:Int→World→Prop):Prop:=
 ZdI x w fun t8 w1=>
 ZdI y w1 fun t10 w1_1=>
 If t8
 (If t10
 (R (0:Int) w1_1)
 (R (-1) w1_1))
 (If t10
 (R (1:Int) w1_1)
 (If (decide (x<y))
 (R (-1) w1_1)
 (If (decide (x>y))
 (R (1:Int) w1_1)
 (R (0:Int) w1_1))))
theorem Zd4.of {x:Int} {y:Int} {w:World} {R:Int→World→Prop} (h:ZnP x y w R):Zd4 x y w R:=ofS4 (Fm:=ZnP x y w) Tryz.func165 (by kernel_rfl) (L0 Tryz.f165) rfl (fun _=>by kernel_rfl) h
def ZhR (sx:Option Addr) (atx:Int) (w:World) (R:Int→World→Prop):Prop:=
 NN sx fun a=>
 ∃runsP runsN runsC,w.cell? (a.add 1)=some (.slice runsP runsN runsC)∧
 Zau runsP runsN runsC atx (.func (.func 171) #[] #[]) w fun t130 t131 w1=>
 R t130 w1
theorem Zbx.of {sx:Option Addr} {atx:Int} {w:World} {R:Int→World→Prop} (h:ZhR sx atx w R):Zbx sx atx w R:=ofS4 (Fm:=ZhR sx atx w) Tryz.func166 (by kernel_rfl) (L0 Tryz.f166) rfl (fun _=>by kernel_rfl) h
def ZfU (x:Option Addr) (w:World) (R:Bool→World→Prop):Prop:=
 NN x fun a=>
 CallX Tryz.prog 172 [.pointer (some (a.add 0))] w fun v w1=>∃t6:Int,v=(.int .u32 t6)∧
 R (t6 != (0:Int)) w1
theorem ZaM.of {x:Option Addr} {w:World} {R:Bool→World→Prop} (h:ZfU x w R):ZaM x w R:=ofS2 (Fm:=ZfU x w) Tryz.func167 (by kernel_rfl) (L0 Tryz.f167) rfl (fun _=>by kernel_rfl) h
def ZpK (t0:Int) (t1:Int) (t2:ByteArray) (t3P:Option Addr) (t3N:Nat) (t3C:Nat) (w:World) (R:Bool→World→Prop):Prop:=
 New w (.cells #[.int .i64 t0,.int .i64 t1,.string t2,.slice t3P t3N t3C] 31) fun r w1=>
 ∃S,w1.cell? (Addr.add ⟨r,0,none⟩ 2)=some (.string S)∧
 If (S.toList==(⟨#[]⟩:ByteArray).toList)
 (∃LP LN LC,w1.cell? (Addr.add ⟨r,0,none⟩ 3)=some (.slice LP LN LC)∧
 R ((LN:Int)==(0:Int)) w1)
 (R false w1)
theorem Zeo.of {t0:Int} {t1:Int} {t2:ByteArray} {t3P:Option Addr} {t3N:Nat} {t3C:Nat} {w:World} {R:Bool→World→Prop} (h:ZpK t0 t1 t2 t3P t3N t3C w R):Zeo t0 t1 t2 t3P t3N t3C w R:=ofS2 (Fm:=ZpK t0 t1 t2 t3P t3N t3C w) Tryz.func169 (by kernel_rfl) (L0 Tryz.f169) rfl (fun _=>by kernel_rfl) h
structure Zao where
 i:Int
 j:Int
def Zc8 (xP_1:Option Addr) (xN_1:Nat) (xC_1:Nat) (target_1:Int) (cmp_1:Value) (n:Int) (s:Zao) (w:World) (Kn:Zao→World→Prop) (Kx0:Int→World→Prop):Prop:=
 If (decide (s.i<s.j))
 (0≤(1:Int)∧
 0≤(IntKind.i64.wrap (shrI .u64 (IntKind.u64.wrap (IntKind.i64.wrap (s.i+s.j))) (1:Int)))∧(IntKind.i64.wrap (shrI .u64 (IntKind.u64.wrap (IntKind.i64.wrap (s.i+s.j))) (1:Int)))<(xN_1:Int)∧NN xP_1 fun a=>
 ∃t280,w.cell? ((a.add ((IntKind.i64.wrap (shrI .u64 (IntKind.u64.wrap (IntKind.i64.wrap (s.i+s.j))) (1:Int))).toNat*2)).add 0)=some (.int .i64 t280)∧
 ∃t281,w.cell? ((a.add ((IntKind.i64.wrap (shrI .u64 (IntKind.u64.wrap (IntKind.i64.wrap (s.i+s.j))) (1:Int))).toNat*2)).add 1)=some (.int .i64 t281)∧
 CallV Tryz.prog cmp_1 [.agg #[.int .i64 t280,.int .i64 t281],.int .i64 target_1] w fun v w1=>∃t30:Int,v=(.int .i64 t30)∧
 If (decide (t30<(0:Int)))
 (Kn ⟨(IntKind.i64.wrap ((IntKind.i64.wrap (shrI .u64 (IntKind.u64.wrap (IntKind.i64.wrap (s.i+s.j))) (1:Int)))+(1:Int))),s.j⟩ w1)
 (Kn ⟨s.i,(IntKind.i64.wrap (shrI .u64 (IntKind.u64.wrap (IntKind.i64.wrap (s.i+s.j))) (1:Int)))⟩ w1))
 (Kx0 s.i w)
def Zc9 (xP_1:Option Addr) (xN_1:Nat) (xC_1:Nat) (target_1:Int) (cmp_1:Value) (n:Int) (s:Zao) (w:World) (Kx0:Int→World→Prop):Prop:=
 LoopS (fun s w Kn=>Zc8 xP_1 xN_1 xC_1 target_1 cmp_1 n s w Kn Kx0) s w
def ZdX (xP:Option Addr) (xN:Nat) (xC:Nat) (target:Int) (cmp:Value) (w:World) (R:Int→Bool→World→Prop):Prop:=
 Zc9 xP xN xC target cmp (xN:Int) ⟨(0:Int),(xN:Int)⟩ w
 (fun i_2 w1_1=>
 If (decide (i_2<(xN:Int)))
 (0≤i_2∧i_2<(xN:Int)∧NN xP fun a_1=>
 ∃t440,w1_1.cell? ((a_1.add (i_2.toNat*2)).add 0)=some (.int .i64 t440)∧
 ∃t441,w1_1.cell? ((a_1.add (i_2.toNat*2)).add 1)=some (.int .i64 t441)∧
 CallV Tryz.prog cmp [.agg #[.int .i64 t440,.int .i64 t441],.int .i64 target] w1_1 fun v_1 w1_2=>∃t46:Int,v_1=(.int .i64 t46)∧
 R i_2 (t46==(0:Int)) w1_2)
 (R i_2 false w1_1))
def ZbF (f:(Option Addr)×Nat×Nat×Int×Value×Int) (s:Zao):Env:=[⟨0,.slice f.1 f.2.1 f.2.2.1,none⟩,⟨1,.int .i64 f.2.2.2.1,none⟩,⟨2,f.2.2.2.2.1,none⟩,⟨8,.int .i64 f.2.2.2.2.2,none⟩,⟨9,.int .i64 s.i,none⟩,⟨10,.int .i64 s.j,none⟩]
def ZaO (e:Env) (K:((Option Addr)×Nat×Nat×Int×Value×Int)→Zao→Prop):Prop:=
 oS e 0 fun xP_1 xN_1 xC_1=>
 oI e 1 .i64 fun target_1=>
 oV e 2 fun cmp_1=>
 oI e 8 .i64 fun n=>
 oI e 9 .i64 fun i=>
 oI e 10 .i64 fun j=>
  K (xP_1,xN_1,xC_1,target_1,cmp_1,n) ⟨i,j⟩
theorem Zeg {N:Nat} (e:Env) (a:Act) (K:((Option Addr)×Nat×Nat×Int×Value×Int)→Zao→Prop) (hr:Rep N a e) (h0:ZaO e K):∃f s,K f s∧Rep N a (ZbF f s):=by
 unfold ZaO at h0
 obtain⟨xP_1,xN_1,xC_1,g0,h1⟩:=Zae h0
 obtain⟨target_1,g1,h2⟩:=Zab h1
 obtain⟨cmp_1,g2,h3⟩:=ZmW h2
 obtain⟨n,g8,h4⟩:=Zab h3
 obtain⟨i,g9,h5⟩:=Zab h4
 obtain⟨j,g10,h6⟩:=Zab h5
 exact⟨_,_,h6,Zac hr (by simp [ZbF,g0,g1,g2,g8,g9,g10])⟩
def Zez (Q:Post) (e:Env) (w:World):Prop:=
 ZaO e fun f s=>Zc9 f.1 f.2.1 f.2.2.1 f.2.2.2.1 f.2.2.2.2.1 f.2.2.2.2.2 s w (fun i_1 w1=>Q (.exit 0) [⟨0,.slice f.1 f.2.1 f.2.2.1,none⟩,⟨1,.int .i64 f.2.2.2.1,none⟩,⟨2,f.2.2.2.2.1,none⟩,⟨8,.int .i64 f.2.2.2.2.2,none⟩,⟨9,.int .i64 i_1,none⟩] w1)
def Zd9:Gen where
 loop:=lookL [([false,false,true,true,true],Zez)]
 plan:=fun _=>none
def Zcs (e:Env) (K:((Option Addr)×Nat×Nat×Int×Value×Int)→Int→Prop):Prop:=
 oS e 0 fun xP_1 xN_1 xC_1=>
 oI e 1 .i64 fun target_1=>
 oV e 2 fun cmp_1=>
 oI e 8 .i64 fun n=>
 oI e 9 .i64 fun i_1=>
  K (xP_1,xN_1,xC_1,target_1,cmp_1,n) i_1
theorem Zjg (f:(Option Addr)×Nat×Nat×Int×Value×Int) (s:Zao) (w:World) (Kn:((Option Addr)×Nat×Nat×Int×Value×Int)→Zao→World→Prop) (Kx0:((Option Addr)×Nat×Nat×Int×Value×Int)→Int→World→Prop) :
  Zc8 f.1 f.2.1 f.2.2.1 f.2.2.2.1 f.2.2.2.2.1 f.2.2.2.2.2 s w (fun s1 w1=>Kn f s1 w1) (fun i_1 w1=>Kx0 f i_1 w1) =
  den Tryz.prog Tryz.f170.ntmps Zd9 (sub (codeOf Tryz.f170) [false,false,false,true,true,true]) [false,false,false,true,true,true] (roundQ (fun e w=>ZaO e fun f s=>Kn f s w) (fun e w=>False) (fun id e w=>match Nat.beq id 0 with | true=>Zcs e fun f i_1=>Kx0 f i_1 w | false=>False)) (ZbF f s) w:=by kernel_rfl
theorem Zj9:OneOk Tryz.prog Tryz.f170.ntmps Zd9 (codeOf Tryz.f170) [false,false,true,true,true] Zez:=by
 intro c hc ih Q e w a hr h
 have hcc:sub (codeOf Tryz.f170) [false,false,false,true,true,true]=c:=Zaf hc
 obtain⟨f,s,h,hrep⟩:=Zeg e a _ hr h
 obtain⟨J,μ,hj,hround⟩:=h
 refine Zad Zan Zag ih ZbF ZaO Zeg hc f J μ (Kr:=fun e w=>False) (Kx:=fun id e w=>match Nat.beq id 0 with | true=>(Zcs e fun f1 i_1=>f1=f∧Q (.exit 0) [⟨0,.slice f.1 f.2.1 f.2.2.1,none⟩,⟨1,.int .i64 f.2.2.2.1,none⟩,⟨2,f.2.2.2.2.1,none⟩,⟨8,.int .i64 f.2.2.2.2.2,none⟩,⟨9,.int .i64 i_1,none⟩] w) | false=>False) ?_ ?_ ?_ s w a hj hrep
 ·intro e a w hr h
  exact h.elim
 ·intro id e a w hr h0
  (try dsimp only at h0)
  split at h0
  ·rename_i hid
   obtain rfl:=Nat.eq_of_beq_eq_true hid
   unfold Zcs at h0
   obtain⟨xP_1,xN_1,xC_1,g0,h1⟩:=Zae h0
   obtain⟨target_1,g1,h2⟩:=Zab h1
   obtain⟨cmp_1,g2,h3⟩:=ZmW h2
   obtain⟨n,g8,h4⟩:=Zab h3
   obtain⟨i_1,g9,h5⟩:=Zab h4
   obtain⟨hf,hq⟩:=h5
   subst hf
   exact⟨_,Zac hr (by simp [g0,g1,g2,g8,g9]),hq⟩
  ·exact h0.elim
 ·intro s w hj
  have hb:=hround s w hj
  rw[←hcc]
  have e1:=Zjg f s w (fun f1 s1 w1=>f1=f∧J s1 w1∧μ s1 w1<μ s w) (fun f1 i_1 w1=>f1=f∧Q (.exit 0) [⟨0,.slice f.1 f.2.1 f.2.2.1,none⟩,⟨1,.int .i64 f.2.2.2.1,none⟩,⟨2,f.2.2.2.2.1,none⟩,⟨8,.int .i64 f.2.2.2.2.2,none⟩,⟨9,.int .i64 i_1,none⟩] w1)
  simp only[true_and] at e1
  exact cast e1 hb
theorem Zj8:LoopOk Tryz.prog Tryz.f170.ntmps Zd9 (codeOf Tryz.f170):=Zal rfl ⟨Zj9,trivial⟩
theorem Zau.of {xP:Option Addr} {xN:Nat} {xC:Nat} {target:Int} {cmp:Value} {w:World} {R:Int→Bool→World→Prop} (h:ZdX xP xN xC target cmp w R):Zau xP xN xC target cmp w R:=ofS18 (Fm:=ZdX xP xN xC target cmp w) Tryz.func170 (by kernel_rfl) Zj8 rfl (fun _=>by kernel_rfl) h
def Zgl (r0:Int) (r1:Int) (atx:Int) (w:World) (R:Int→World→Prop):Prop:=
 New w (.cells #[.int .i64 r0,.int .i64 r1] 225) fun r w1=>
 ∃At,w1.cell? (Addr.add ⟨r,0,none⟩ 0)=some (.int .i64 At)∧
 ∃Len,w1.cell? (Addr.add ⟨r,0,none⟩ 1)=some (.int .i64 Len)∧
 Zd4 (IntKind.i64.wrap ((IntKind.i64.wrap (At+Len))-(1:Int))) atx w1 fun t12 w1_1=>
 R t12 w1_1
theorem Zb9.of {r0:Int} {r1:Int} {atx:Int} {w:World} {R:Int→World→Prop} (h:Zgl r0 r1 atx w R):Zb9 r0 r1 atx w R:=ofS4 (Fm:=Zgl r0 r1 atx w) Tryz.func171 (by kernel_rfl) (L0 Tryz.f171) rfl (fun _=>by kernel_rfl) h
end Go.Proofs.YtdaenijbokialaaGreat
