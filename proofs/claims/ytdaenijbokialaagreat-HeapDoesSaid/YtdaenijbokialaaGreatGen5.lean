import Derived.Test.YtdaenijbokialaaGreatGenC
set_option maxRecDepth 100000
set_option linter.unusedVariables false
namespace Go.Proofs.YtdaenijbokialaaGreat
open Go Go.D Go.Proofs
def Zpm (w:World) (R:Option Addr→World→Prop):Prop:=
 Ziu  w fun t1 w1=>
 New w1 (.cells #[.pointer t1,.slice none 0 0] 81) fun r w1_1=>
 R (some ⟨r,0,none⟩) w1_1
theorem ZgI.of {w:World} {R:Option Addr→World→Prop} (h:Zpm w R):ZgI w R:=ofS13 (Fm:=Zpm w) Tryz.func44 (by kernel_rfl) (L0 Tryz.f44) rfl (fun _=>by kernel_rfl) h
def ZjA (wx:Option Addr) (w:World) (R:World→Prop):Prop:=
 NN wx fun a=>
 ∃MarksP MarksN MarksC,(drw w).cell? (a.add 1)=some (.slice MarksP MarksN MarksC)∧
 NN wx fun a_1=>
 ∃S,(drw w).cell? (a_1.add 0)=some (.pointer S)∧
 NN S fun a_2=>
 ∃LP LN LC,(drw w).cell? (a_2.add 0)=some (.slice LP LN LC)∧
 BSl Tryz.prog 55 1 [(0,.int .i64 (LN:Int))] (drw w) fun t15P t15N t15C w1=>
 w1.cell? (a.add 1)=(drw w).cell? (a.add 1)∧
 App Tryz.prog #[55,55] 55 #[.slice MarksP MarksN MarksC,.slice t15P t15N t15C] w1 fun t16P t16N t16C w1_1=>
 NN wx fun a_3=>
 St w1_1 ((a_3.add 1).add 0) (.slice t16P t16N t16C) fun w1_2=>
 R w1_2
def ZpP:Gen where
 loop:=lookL []
 plan:=fun id=>
  bif Nat.beq id 0 then some ([0,0,2,6,14,0,32,96,224,480,992,2016,4064,8160,16382,32767,65535,131071],.take 0 (.take 1 (.take 2 (.take 3 (.take 4 (.take 5 (.take 6 (.take 7 (.take 8 (.take 9 (.take 10 (.take 11 (.take 12 (.take 13 (.take 14 (.take 15 (.take 16 (.take 17 .done)))))))))))))))))) else none
theorem ZbD.of {wx:Option Addr} {w:World} {R:World→Prop} (h:ZjA wx w R):ZbD wx w R:=ofS1 (Fm:=ZjA wx w) Tryz.func45 (by kernel_rfl) (L1 ZpP Tryz.f45 fun _=>rfl) rfl (fun _=>by kernel_rfl) h
def Zh4 (R:Int→World→Prop) (t11:Int) (w1_4:World):Prop:=
 R t11 w1_4
def Zkj (hx:Option Addr) (w:World) (R:Int→World→Prop):Prop:=
 Zaj hx w fun t5 w1=>
 If (!t5)
 (R (6:Int) w1)
 (NN hx fun a=>
 ∃pool,w1.cell? (a.add 0)=some (.pointer pool)∧
 ZbX pool w1 fun t11 w1_1=>
 If (t11==(0:Int))
 (NN hx fun a_1=>
 ∃startsP startsN startsC,(drw w1_1).cell? (a_1.add 5)=some (.slice startsP startsN startsC)∧
 NN hx fun a_2=>
 ∃startsP_1 startsN_1 startsC_1,(drw w1_1).cell? (a_2.add 5)=some (.slice startsP_1 startsN_1 startsC_1)∧
 0≤(IntKind.i64.wrap ((startsN_1:Int)-(1:Int)))∧(IntKind.i64.wrap ((startsN_1:Int)-(1:Int)))≤(startsC:Int)∧
 NN hx fun a_3=>
 St (drw w1_1) ((a_3.add 5).add 0) (.slice startsP ((IntKind.i64.wrap ((startsN_1:Int)-(1:Int))).toNat) startsC) fun w1_2=>
 NN hx fun a_4=>
 ∃marksP marksN marksC,(drw w1_2).cell? (a_4.add 6)=some (.slice marksP marksN marksC)∧
 NN hx fun a_5=>
 ∃marksP_1 marksN_1 marksC_1,(drw w1_2).cell? (a_5.add 6)=some (.slice marksP_1 marksN_1 marksC_1)∧
 0≤(IntKind.i64.wrap ((marksN_1:Int)-(1:Int)))∧(IntKind.i64.wrap ((marksN_1:Int)-(1:Int)))≤(marksC:Int)∧
 NN hx fun a_6=>
 St (drw w1_2) ((a_6.add 6).add 0) (.slice marksP ((IntKind.i64.wrap ((marksN_1:Int)-(1:Int))).toNat) marksC) fun w1_3=>
 Zh4 R t11 w1_3)
 (Zh4 R t11 w1_1))
def ZqP:Gen where
 loop:=lookL []
 plan:=fun id=>
  bif Nat.beq id 5||Nat.beq id 6 then some ([0,0,2,6,14,0,32,96,224,480,992,2046,4095,8191,16383],.take 0 (.take 1 (.take 2 (.take 3 (.take 4 (.take 5 (.take 6 (.take 7 (.take 8 (.take 9 (.take 10 (.take 11 (.take 12 (.take 13 (.take 14 .done))))))))))))))) else none
theorem Za4.of {hx:Option Addr} {w:World} {R:Int→World→Prop} (h:Zkj hx w R):Za4 hx w R:=ofS4 (Fm:=Zkj hx w) Tryz.func46 (by kernel_rfl) (L1 ZqP Tryz.f46 fun _=>rfl) rfl (fun _=>by kernel_rfl) h
def ZiB (sx:Option Addr) (a0:Int) (a1:Int) (a2:ByteArray) (a3P:Option Addr) (a3N:Nat) (a3C:Nat) (b0:Int) (b1:Int) (b2:ByteArray) (b3P:Option Addr) (b3N:Nat) (b3C:Nat) (w:World) (R:Bool→World→Prop):Prop:=
 New w (.cells #[.int .i64 a0,.int .i64 a1,.string a2,.slice a3P a3N a3C] 31) fun r w1=>
 New w1 (.cells #[.int .i64 b0,.int .i64 b1,.string b2,.slice b3P b3N b3C] 31) fun r_1 w1_1=>
 NN sx fun a=>
 ∃LP LN LC,w1_1.cell? (a.add 0)=some (.slice LP LN LC)∧
 ∃t140,w1_1.cell? (Addr.add ⟨r,0,none⟩ 0)=some (.int .i64 t140)∧
 ∃t141,w1_1.cell? (Addr.add ⟨r,0,none⟩ 1)=some (.int .i64 t141)∧
 ∃t142,w1_1.cell? (Addr.add ⟨r,0,none⟩ 2)=some (.string t142)∧
 ∃t143P t143N t143C,w1_1.cell? (Addr.add ⟨r,0,none⟩ 3)=some (.slice t143P t143N t143C)∧
 ∃t150,w1_1.cell? (Addr.add ⟨r_1,0,none⟩ 0)=some (.int .i64 t150)∧
 ∃t151,w1_1.cell? (Addr.add ⟨r_1,0,none⟩ 1)=some (.int .i64 t151)∧
 ∃t152,w1_1.cell? (Addr.add ⟨r_1,0,none⟩ 2)=some (.string t152)∧
 ∃t153P t153N t153C,w1_1.cell? (Addr.add ⟨r_1,0,none⟩ 3)=some (.slice t153P t153N t153C)∧
 New w1_1 (.map #[] 0) fun r_2 w1_2=>
 Zbo sx t140 t141 t142 t143P t143N t143C t150 t151 t152 t153P t153N t153C (some r_2) w1_2 fun t17 w1_3=>
 If t17
 (R true w1_3)
 (Za6 sx (LN:Int) w1_3 fun w1_4=>
 R false w1_4)
theorem ZaR.of {sx:Option Addr} {a0:Int} {a1:Int} {a2:ByteArray} {a3P:Option Addr} {a3N:Nat} {a3C:Nat} {b0:Int} {b1:Int} {b2:ByteArray} {b3P:Option Addr} {b3N:Nat} {b3C:Nat} {w:World} {R:Bool→World→Prop} (h:ZiB sx a0 a1 a2 a3P a3N a3C b0 b1 b2 b3P b3N b3C w R):ZaR sx a0 a1 a2 a3P a3N a3C b0 b1 b2 b3P b3N b3C w R:=ofS2 (Fm:=ZiB sx a0 a1 a2 a3P a3N a3C b0 b1 b2 b3P b3N b3C w) Tryz.func47 (by kernel_rfl) (L0 Tryz.f47) rfl (fun _=>by kernel_rfl) h
def ZjM (wx:Option Addr) (w:World) (R:World→Prop):Prop:=
 NN wx fun a=>
 ∃MarksP MarksN MarksC,w.cell? (a.add 1)=some (.slice MarksP MarksN MarksC)∧
 If ((MarksN:Int)==(0:Int))
 (NN wx fun a_1=>
 ∃S,w.cell? (a_1.add 0)=some (.pointer S)∧
 Za6 S (0:Int) w fun w1=>
 R w1)
 (NN wx fun a_2=>
 ∃S_1,(drw w).cell? (a_2.add 0)=some (.pointer S_1)∧
 NN wx fun a_3=>
 ∃MarksP_1 MarksN_1 MarksC_1,(drw w).cell? (a_3.add 1)=some (.slice MarksP_1 MarksN_1 MarksC_1)∧
 NN wx fun a_4=>
 ∃MarksP_2 MarksN_2 MarksC_2,(drw w).cell? (a_4.add 1)=some (.slice MarksP_2 MarksN_2 MarksC_2)∧
 0≤(IntKind.i64.wrap ((MarksN_2:Int)-(1:Int)))∧(IntKind.i64.wrap ((MarksN_2:Int)-(1:Int)))<(MarksN_1:Int)∧NN MarksP_1 fun a_5=>
 ∃t28,(drw w).cell? (a_5.add ((IntKind.i64.wrap ((MarksN_2:Int)-(1:Int))).toNat*1))=some (.int .i64 t28)∧
 Za6 S_1 t28 (drw w) fun w1_1=>
 R w1_1)
def ZpX:Gen where
 loop:=lookL []
 plan:=fun id=>
  bif Nat.beq id 2 then some ([0,1,3,7,0,16,48,112,0,256,768,1792,3840,7936,16368,32752,65535],.take 0 (.take 1 (.take 2 (.take 3 (.take 4 (.take 5 (.take 6 (.take 7 (.take 8 (.take 9 (.take 10 (.take 11 (.take 12 (.take 13 (.take 14 (.take 15 (.take 16 .done))))))))))))))))) else none
theorem Zb6.of {wx:Option Addr} {w:World} {R:World→Prop} (h:ZjM wx w R):Zb6 wx w R:=ofS1 (Fm:=ZjM wx w) Tryz.func48 (by kernel_rfl) (L1 ZpX Tryz.f48 fun _=>rfl) rfl (fun _=>by kernel_rfl) h
def ZiW (wx:Option Addr) (w:World) (R:Bool→World→Prop):Prop:=
 NN wx fun a=>
 ∃MarksP MarksN MarksC,w.cell? (a.add 1)=some (.slice MarksP MarksN MarksC)∧
 If ((MarksN:Int)==(0:Int))
 (R false w)
 (NN wx fun a_1=>
 ∃MarksP_1 MarksN_1 MarksC_1,(drw w).cell? (a_1.add 1)=some (.slice MarksP_1 MarksN_1 MarksC_1)∧
 NN wx fun a_2=>
 ∃MarksP_2 MarksN_2 MarksC_2,(drw w).cell? (a_2.add 1)=some (.slice MarksP_2 MarksN_2 MarksC_2)∧
 0≤(IntKind.i64.wrap ((MarksN_2:Int)-(1:Int)))∧(IntKind.i64.wrap ((MarksN_2:Int)-(1:Int)))≤(MarksC_1:Int)∧
 NN wx fun a_3=>
 St (drw w) ((a_3.add 1).add 0) (.slice MarksP_1 ((IntKind.i64.wrap ((MarksN_2:Int)-(1:Int))).toNat) MarksC_1) fun w1=>
 R true w1)
def Zpt:Gen where
 loop:=lookL []
 plan:=fun id=>
  bif Nat.beq id 3 then some ([0,0,2,6,14,0,32,96,224,480,992,2046,4095,8191,16383],.take 0 (.take 1 (.take 2 (.take 3 (.take 4 (.take 5 (.take 6 (.take 7 (.take 8 (.take 9 (.take 10 (.take 11 (.take 12 (.take 13 (.take 14 .done))))))))))))))) else none
theorem ZbH.of {wx:Option Addr} {w:World} {R:Bool→World→Prop} (h:ZiW wx w R):ZbH wx w R:=ofS2 (Fm:=ZiW wx w) Tryz.func49 (by kernel_rfl) (L1 Zpt Tryz.f49 fun _=>rfl) rfl (fun _=>by kernel_rfl) h
structure Zav where
 outP:Option Addr
 outN:Nat
 outC:Nat
 i:Int
def Zcn (s:Zav) (Kn:Zav→World→Prop) (Kr:Option Addr→Nat→Nat→Int→World→Prop) (t:Addr) (ex:Int) (w1_12:World):Prop:=
 If (ex != (0:Int))
 (Kr none 0 0 ex w1_12)
 (∃t320,w1_12.cell? (t.add 0)=some (.int .i64 t320)∧
 ∃t321,w1_12.cell? (t.add 1)=some (.int .i64 t321)∧
 ∃t322,w1_12.cell? (t.add 2)=some (.string t322)∧
 ∃t323P t323N t323C,w1_12.cell? (t.add 3)=some (.slice t323P t323N t323C)∧
 BSl Tryz.prog 22 1 [(0,.agg #[.int .i64 t320,.int .i64 t321,.string t322,.slice t323P t323N t323C])] w1_12 fun t33P t33N t33C w1_13=>
 App Tryz.prog #[22,22] 22 #[.slice s.outP s.outN s.outC,.slice t33P t33N t33C] w1_13 fun t34P t34N t34C w1_14=>
 Kn ⟨t34P,t34N,t34C,(IntKind.i64.wrap (s.i+(1:Int)))⟩ w1_14)
def ZgM (wx_1:Option Addr) (lP_1:Option Addr) (lN_1:Nat) (lC_1:Nat) (s:Zav) (w:World) (Kn:Zav→World→Prop) (Kx0:Option Addr→Nat→Nat→World→Prop) (Kr:Option Addr→Nat→Nat→Int→World→Prop):Prop:=
 If (decide (s.i<(lN_1:Int)))
 (NN wx_1 fun a=>
 ∃S,(drw w).cell? (a.add 0)=some (.pointer S)∧
 0≤s.i∧s.i<(lN_1:Int)∧NN lP_1 fun a_1=>
 ∃t240,(drw w).cell? ((a_1.add (s.i.toNat*4)).add 0)=some (.int .i64 t240)∧
 ∃t241,(drw w).cell? ((a_1.add (s.i.toNat*4)).add 1)=some (.int .i64 t241)∧
 ∃t242,(drw w).cell? ((a_1.add (s.i.toNat*4)).add 2)=some (.string t242)∧
 ∃t243P t243N t243C,(drw w).cell? ((a_1.add (s.i.toNat*4)).add 3)=some (.slice t243P t243N t243C)∧
 (Zbj S t240 t241 t242 t243P t243N t243C (drw w) fun t2500 t2501 t2502 t2503P t2503N t2503C t251 w1=>
 New w1 (.cells #[.int .i64 0,.int .i64 0,.string ⟨#[]⟩,.slice none 0 0] 31) fun r w1_1=>
 St w1_1 (Addr.add ⟨r,0,none⟩ 0) (.int .i64 t2500) fun w1_2=>
 St w1_2 (Addr.add ⟨r,0,none⟩ 1) (.int .i64 t2501) fun w1_3=>
 St w1_3 (Addr.add ⟨r,0,none⟩ 2) (.string t2502) fun w1_4=>
 St w1_4 (Addr.add ⟨r,0,none⟩ 3) (.slice t2503P t2503N t2503C) fun w1_5=>
 Zcn s Kn Kr ⟨r,0,none⟩ t251 w1_5)∧
 (New (drw w) (.cells #[.int .i64 0,.int .i64 0,.string ⟨#[]⟩,.slice none 0 0] 31) fun r_1 w1_6=>
 (∀i_,i_<4→w1_6.cell? ((a_1.add (s.i.toNat*4)).add i_)=(drw w).cell? ((a_1.add (s.i.toNat*4)).add i_))∧
 w1_6.cell? (a.add 0)=(drw w).cell? (a.add 0)∧
 Zbj S t240 t241 t242 t243P t243N t243C w1_6 fun t2500_1 t2501_1 t2502_1 t2503P_1 t2503N_1 t2503C_1 t251_1 w1_7=>
 St w1_7 (Addr.add ⟨r_1,0,none⟩ 0) (.int .i64 t2500_1) fun w1_8=>
 St w1_8 (Addr.add ⟨r_1,0,none⟩ 1) (.int .i64 t2501_1) fun w1_9=>
 St w1_9 (Addr.add ⟨r_1,0,none⟩ 2) (.string t2502_1) fun w1_10=>
 St w1_10 (Addr.add ⟨r_1,0,none⟩ 3) (.slice t2503P_1 t2503N_1 t2503C_1) fun w1_11=>
 Zcn s Kn Kr ⟨r_1,0,none⟩ t251_1 w1_11))
 (Kx0 s.outP s.outN s.outC w)
def Zg3 (wx_1:Option Addr) (lP_1:Option Addr) (lN_1:Nat) (lC_1:Nat) (s:Zav) (w:World) (Kx0:Option Addr→Nat→Nat→World→Prop) (Kr:Option Addr→Nat→Nat→Int→World→Prop):Prop:=
 LoopS (fun s w Kn=>ZgM wx_1 lP_1 lN_1 lC_1 s w Kn Kx0 Kr) s w
def Zjh (wx:Option Addr) (lP:Option Addr) (lN:Nat) (lC:Nat) (w:World) (R:Option Addr→Nat→Nat→Int→World→Prop):Prop:=
 Zg3 wx lP lN lC ⟨none,0,0,(0:Int)⟩ w
 (fun outP_2 outN_2 outC_2 w1_15=>
 Zdq outP_2 outN_2 outC_2 w1_15 fun t36P t36N t36C w1_17=>
 R t36P t36N t36C (0:Int) w1_17)
 (fun t4P_1 t4N_1 t4C_1 t5_1 w1_16=>
 R t4P_1 t4N_1 t4C_1 t5_1 w1_16)
def Zd7 (f:(Option Addr)×(Option Addr)×Nat×Nat) (s:Zav):Env:=[⟨0,.pointer f.1,none⟩,⟨1,.slice f.2.1 f.2.2.1 f.2.2.2,none⟩,⟨6,.slice s.outP s.outN s.outC,none⟩,⟨7,.int .i64 s.i,none⟩]
def ZcG (e:Env) (K:((Option Addr)×(Option Addr)×Nat×Nat)→Zav→Prop):Prop:=
 oP e 0 fun wx_1=>
 oS e 1 fun lP_1 lN_1 lC_1=>
 oS e 6 fun outP outN outC=>
 oI e 7 .i64 fun i=>
  K (wx_1,lP_1,lN_1,lC_1) ⟨outP,outN,outC,i⟩
theorem ZhG {N:Nat} (e:Env) (a:Act) (K:((Option Addr)×(Option Addr)×Nat×Nat)→Zav→Prop) (hr:Rep N a e) (h0:ZcG e K):∃f s,K f s∧Rep N a (Zd7 f s):=by
 unfold ZcG at h0
 obtain⟨wx_1,g0,h1⟩:=Zar h0
 obtain⟨lP_1,lN_1,lC_1,g1,h2⟩:=Zae h1
 obtain⟨outP,outN,outC,g6,h3⟩:=Zae h2
 obtain⟨i,g7,h4⟩:=Zab h3
 exact⟨_,_,h4,Zac hr (by simp [Zd7,g0,g1,g6,g7])⟩
def Zja (Q:Post) (e:Env) (w:World):Prop:=
 ZcG e fun f s=>Zg3 f.1 f.2.1 f.2.2.1 f.2.2.2 s w (fun outP_1 outN_1 outC_1 w1=>Q (.exit 0) [⟨6,.slice outP_1 outN_1 outC_1,none⟩] w1) (fun t4P t4N t4C t5 w1=>Q .ret [⟨4,.slice t4P t4N t4C,none⟩,⟨5,.int .i64 t5,none⟩] w1)
def Zj6:Gen where
 loop:=lookL [([false,true,false,true,true],Zja)]
 plan:=fun id=>
  bif Nat.beq id 5 then some ([0,1,3,7,0,0,48,112,255,511,1023,1023,0,6143,16383],.take 0 (.take 1 (.take 2 (.take 3 (.take 4 (.take 5 (.take 6 (.take 7 (.both 8 (.take 9 (.take 10 (.take 11 (.take 12 (.take 13 (.take 14 .done)))))) 12 (.take 8 (.take 9 (.take 10 (.take 11 (.take 13 (.take 14 .done))))))))))))))) else none
def Zfz (e:Env) (K:((Option Addr)×(Option Addr)×Nat×Nat)→Option Addr→Nat→Nat→Prop):Prop:=
 oP e 0 fun wx_1=>
 oS e 1 fun lP_1 lN_1 lC_1=>
 oS e 6 fun outP_1 outN_1 outC_1=>
  K (wx_1,lP_1,lN_1,lC_1) outP_1 outN_1 outC_1
def ZeF (e:Env) (K:((Option Addr)×(Option Addr)×Nat×Nat)→Option Addr→Nat→Nat→Int→Prop):Prop:=
 oP e 0 fun wx_1=>
 oS e 1 fun lP_1 lN_1 lC_1=>
 oS e 4 fun t4P t4N t4C=>
 oI e 5 .i64 fun t5=>
  K (wx_1,lP_1,lN_1,lC_1) t4P t4N t4C t5
theorem Zng (f:(Option Addr)×(Option Addr)×Nat×Nat) (s:Zav) (w:World) (Kn:((Option Addr)×(Option Addr)×Nat×Nat)→Zav→World→Prop) (Kx0:((Option Addr)×(Option Addr)×Nat×Nat)→Option Addr→Nat→Nat→World→Prop) (Kr:((Option Addr)×(Option Addr)×Nat×Nat)→Option Addr→Nat→Nat→Int→World→Prop) :
  ZgM f.1 f.2.1 f.2.2.1 f.2.2.2 s w (fun s1 w1=>Kn f s1 w1) (fun outP_1 outN_1 outC_1 w1=>Kx0 f outP_1 outN_1 outC_1 w1) (fun t4P t4N t4C t5 w1=>Kr f t4P t4N t4C t5 w1) =
  den Tryz.prog Tryz.f50.ntmps Zj6 (sub (codeOf Tryz.f50) [false,false,true,false,true,true]) [false,false,true,false,true,true] (roundQ (fun e w=>ZcG e fun f s=>Kn f s w) (fun e w=>ZeF e fun f t4P t4N t4C t5=>Kr f t4P t4N t4C t5 w) (fun id e w=>match Nat.beq id 0 with | true=>Zfz e fun f outP_1 outN_1 outC_1=>Kx0 f outP_1 outN_1 outC_1 w | false=>False)) (Zd7 f s) w:=by kernel_rfl
theorem Zod:OneOk Tryz.prog Tryz.f50.ntmps Zj6 (codeOf Tryz.f50) [false,true,false,true,true] Zja:=by
 intro c hc ih Q e w a hr h
 have hcc:sub (codeOf Tryz.f50) [false,false,true,false,true,true]=c:=Zaf hc
 obtain⟨f,s,h,hrep⟩:=ZhG e a _ hr h
 obtain⟨J,μ,hj,hround⟩:=h
 refine Zad Zan Zag ih Zd7 ZcG ZhG hc f J μ (Kr:=fun e w=>ZeF e fun f1 t4P t4N t4C t5=>f1=f∧Q .ret [⟨4,.slice t4P t4N t4C,none⟩,⟨5,.int .i64 t5,none⟩] w) (Kx:=fun id e w=>match Nat.beq id 0 with | true=>(Zfz e fun f1 outP_1 outN_1 outC_1=>f1=f∧Q (.exit 0) [⟨6,.slice outP_1 outN_1 outC_1,none⟩] w) | false=>False) ?_ ?_ ?_ s w a hj hrep
 ·intro e a w hr h0
  unfold ZeF at h0
  obtain⟨wx_1,g0,h1⟩:=Zar h0
  obtain⟨lP_1,lN_1,lC_1,g1,h2⟩:=Zae h1
  obtain⟨t4P,t4N,t4C,g4,h3⟩:=Zae h2
  obtain⟨t5,g5,h4⟩:=Zab h3
  obtain⟨hf,hq⟩:=h4
  subst hf
  exact⟨_,Zac hr (by simp [g4,g5]),hq⟩
 ·intro id e a w hr h0
  (try dsimp only at h0)
  split at h0
  ·rename_i hid
   obtain rfl:=Nat.eq_of_beq_eq_true hid
   unfold Zfz at h0
   obtain⟨wx_1,g0,h1⟩:=Zar h0
   obtain⟨lP_1,lN_1,lC_1,g1,h2⟩:=Zae h1
   obtain⟨outP_1,outN_1,outC_1,g6,h3⟩:=Zae h2
   obtain⟨hf,hq⟩:=h3
   subst hf
   exact⟨_,Zac hr (by simp [g6]),hq⟩
  ·exact h0.elim
 ·intro s w hj
  have hb:=hround s w hj
  rw[←hcc]
  have e1:=Zng f s w (fun f1 s1 w1=>f1=f∧J s1 w1∧μ s1 w1<μ s w) (fun f1 outP_1 outN_1 outC_1 w1=>f1=f∧Q (.exit 0) [⟨6,.slice outP_1 outN_1 outC_1,none⟩] w1) (fun f1 t4P t4N t4C t5 w1=>f1=f∧Q .ret [⟨4,.slice t4P t4N t4C,none⟩,⟨5,.int .i64 t5,none⟩] w1)
  simp only[true_and] at e1
  exact cast e1 hb
theorem Zn3:LoopOk Tryz.prog Tryz.f50.ntmps Zj6 (codeOf Tryz.f50):=Zal rfl ⟨Zod,trivial⟩
theorem Zb4.of {wx:Option Addr} {lP:Option Addr} {lN:Nat} {lC:Nat} {w:World} {R:Option Addr→Nat→Nat→Int→World→Prop} (h:Zjh wx lP lN lC w R):Zb4 wx lP lN lC w R:=ofS14 (Fm:=Zjh wx lP lN lC w) Tryz.func50 (by kernel_rfl) Zn3 rfl (fun _=>by kernel_rfl) h
def Zli (hx:Option Addr) (namex:ByteArray) (w:World) (R:Int→Int→World→Prop):Prop:=
 Zaj hx w fun t9 w1=>
 If (!t9)
 (R (0:Int) (6:Int) w1)
 (NN hx fun a=>
 ∃atoms,w1.cell? (a.add 2)=some (.pointer atoms)∧
 ZaE atoms namex w1 fun t170 t171 w1_1=>
 If (t171 != (0:Int))
 (R (0:Int) t171 w1_1)
 (ZdJ (3:Int) t170 w1_1 fun t24 w1_2=>
 R t24 (0:Int) w1_2))
theorem ZcN.of {hx:Option Addr} {namex:ByteArray} {w:World} {R:Int→Int→World→Prop} (h:Zli hx namex w R):ZcN hx namex w R:=ofS5 (Fm:=Zli hx namex w) Tryz.func51 (by kernel_rfl) (L0 Tryz.f51) rfl (fun _=>by kernel_rfl) h
def ZlP (hx:Option Addr) (n:Int) (w:World) (R:Int→Int→World→Prop):Prop:=
 Zaj hx w fun t8 w1=>
 If (!t8)
 (R (0:Int) (6:Int) w1)
 (If (decide (n<(-9007199254740991)))
 (R (0:Int) (1:Int) w1)
 (If (decide (n>(9007199254740991:Int)))
 (R (0:Int) (1:Int) w1)
 (ZdJ (4:Int) n w1 fun t18 w1_1=>
 R t18 (0:Int) w1_1)))
theorem Zdj.of {hx:Option Addr} {n:Int} {w:World} {R:Int→Int→World→Prop} (h:ZlP hx n w R):Zdj hx n w R:=ofS5 (Fm:=ZlP hx n w) Tryz.func52 (by kernel_rfl) (L0 Tryz.f52) rfl (fun _=>by kernel_rfl) h
structure ZbN where
 mk ::
def Ziq (hx_1:Option Addr) (mark_1:Int) (s:ZbN) (w:World) (Kn:ZbN→World→Prop) (Kx1:World→Prop):Prop:=
 NN hx_1 fun a_1=>
 ∃trail_1,w.cell? (a_1.add 1)=some (.pointer trail_1)∧
 Za1 trail_1 w fun t27 w1_2=>
 If (decide (t27>mark_1))
 (NN hx_1 fun a_2=>
 ∃trail_2,w1_2.cell? (a_2.add 1)=some (.pointer trail_2)∧
 Zdy trail_2 w1_2 fun t350 t351 w1_3=>
 NN hx_1 fun a_3=>
 ∃cellsP cellsN cellsC,(drw w1_3).cell? (a_3.add 4)=some (.slice cellsP cellsN cellsC)∧
 Zc7 (IntKind.i64.wrap t350) (drw w1_3) fun t45 w1_4=>
 w1_4.cell? (a_3.add 4)=(drw w1_3).cell? (a_3.add 4)∧
 0≤t350∧t350<(cellsN:Int)∧NN cellsP fun a_4=>
 St w1_4 ((a_4.add (t350.toNat*1)).add 0) (.int .u64 t45) fun w1_5=>
 Kn ⟨⟩ w1_5)
 (Kx1 w1_2)
def Zin (hx_1:Option Addr) (mark_1:Int) (s:ZbN) (w:World) (Kx1:World→Prop):Prop:=
 LoopS (fun s w Kn=>Ziq hx_1 mark_1 s w Kn Kx1) s w
def Zlf (hx:Option Addr) (mark:Int) (w:World) (R:Int→World→Prop):Prop:=
 Zaj hx w fun t9 w1=>
 If (!t9)
 (R (6:Int) w1)
 (If (decide (mark<(0:Int)))
 (R (1:Int) w1)
 (NN hx fun a=>
 ∃trail,w1.cell? (a.add 1)=some (.pointer trail)∧
 Za1 trail w1 fun t20 w1_1=>
 If (decide (mark>t20))
 (R (1:Int) w1_1)
 (Zin hx mark ⟨⟩ w1_1
 (fun w1_6=>
 R (0:Int) w1_6))))
def ZeW (f:(Option Addr)×Int) (s:ZbN):Env:=[⟨0,.pointer f.1,none⟩,⟨1,.int .i64 f.2,none⟩]
def Zdr (e:Env) (K:((Option Addr)×Int)→ZbN→Prop):Prop:=
 oP e 0 fun hx_1=>
 oI e 1 .i64 fun mark_1=>
  K (hx_1,mark_1) ⟨⟩
theorem Zi7 {N:Nat} (e:Env) (a:Act) (K:((Option Addr)×Int)→ZbN→Prop) (hr:Rep N a e) (h0:Zdr e K):∃f s,K f s∧Rep N a (ZeW f s):=by
 unfold Zdr at h0
 obtain⟨hx_1,g0,h1⟩:=Zar h0
 obtain⟨mark_1,g1,h2⟩:=Zab h1
 exact⟨_,_,h2,Zac hr (by simp [ZeW,g0,g1])⟩
def Zke (Q:Post) (e:Env) (w:World):Prop:=
 Zdr e fun f s=>Zin f.1 f.2 s w (fun w1=>Q (.exit 1) [] w1)
def Zlc:Gen where
 loop:=lookL [([false,false,true,true],Zke)]
 plan:=fun id=>
  bif Nat.beq id 7 then some ([0,1,3,7,0,0,32,96,255,511],.take 0 (.take 1 (.take 2 (.take 3 (.take 4 (.take 5 (.take 6 (.take 7 (.take 8 (.take 9 .done)))))))))) else none
def Zgk (e:Env) (K:((Option Addr)×Int)→Prop):Prop:=
 oP e 0 fun hx_1=>
 oI e 1 .i64 fun mark_1=>
  K (hx_1,mark_1)
theorem Zoc (f:(Option Addr)×Int) (s:ZbN) (w:World) (Kn:((Option Addr)×Int)→ZbN→World→Prop) (Kx1:((Option Addr)×Int)→World→Prop) :
  Ziq f.1 f.2 s w (fun s1 w1=>Kn f s1 w1) (fun w1=>Kx1 f w1) =
  den Tryz.prog Tryz.f53.ntmps Zlc (sub (codeOf Tryz.f53) [false,false,false,true,true]) [false,false,false,true,true] (roundQ (fun e w=>Zdr e fun f s=>Kn f s w) (fun e w=>False) (fun id e w=>match Nat.beq id 1 with | true=>Zgk e fun f=>Kx1 f w | false=>False)) (ZeW f s) w:=by kernel_rfl
theorem Zo8:OneOk Tryz.prog Tryz.f53.ntmps Zlc (codeOf Tryz.f53) [false,false,true,true] Zke:=by
 intro c hc ih Q e w a hr h
 have hcc:sub (codeOf Tryz.f53) [false,false,false,true,true]=c:=Zaf hc
 obtain⟨f,s,h,hrep⟩:=Zi7 e a _ hr h
 obtain⟨J,μ,hj,hround⟩:=h
 refine Zad Zan Zag ih ZeW Zdr Zi7 hc f J μ (Kr:=fun e w=>False) (Kx:=fun id e w=>match Nat.beq id 1 with | true=>(Zgk e fun f1=>f1=f∧Q (.exit 1) [] w) | false=>False) ?_ ?_ ?_ s w a hj hrep
 ·intro e a w hr h
  exact h.elim
 ·intro id e a w hr h0
  (try dsimp only at h0)
  split at h0
  ·rename_i hid
   obtain rfl:=Nat.eq_of_beq_eq_true hid
   unfold Zgk at h0
   obtain⟨hx_1,g0,h1⟩:=Zar h0
   obtain⟨mark_1,g1,h2⟩:=Zab h1
   obtain⟨hf,hq⟩:=h2
   subst hf
   exact⟨_,Zac hr (by simp),hq⟩
  ·exact h0.elim
 ·intro s w hj
  have hb:=hround s w hj
  rw[←hcc]
  have e1:=Zoc f s w (fun f1 s1 w1=>f1=f∧J s1 w1∧μ s1 w1<μ s w) (fun f1 w1=>f1=f∧Q (.exit 1) [] w1)
  simp only[true_and] at e1
  exact cast e1 hb
theorem Zo2:LoopOk Tryz.prog Tryz.f53.ntmps Zlc (codeOf Tryz.f53):=Zal rfl ⟨Zo8,trivial⟩
theorem ZcU.of {hx:Option Addr} {mark:Int} {w:World} {R:Int→World→Prop} (h:Zlf hx mark w R):ZcU hx mark w R:=ofS4 (Fm:=Zlf hx mark w) Tryz.func53 (by kernel_rfl) Zo2 rfl (fun _=>by kernel_rfl) h
def Zkk (hx:Option Addr) (w:World) (R:Option Addr→World→Prop):Prop:=
 Zaj hx w fun t4 w1=>
 If (!t4)
 (R none w1)
 (NN hx fun a=>
 ∃trail,w1.cell? (a.add 1)=some (.pointer trail)∧
 R trail w1)
theorem Zcr.of {hx:Option Addr} {w:World} {R:Option Addr→World→Prop} (h:Zkk hx w R):Zcr hx w R:=ofS13 (Fm:=Zkk hx w) Tryz.func54 (by kernel_rfl) (L0 Tryz.f54) rfl (fun _=>by kernel_rfl) h
def Zki (hx:Option Addr) (w:World) (R:Option Addr→World→Prop):Prop:=
 Zaj hx w fun t4 w1=>
 If (!t4)
 (R none w1)
 (NN hx fun a=>
 ∃atoms,w1.cell? (a.add 2)=some (.pointer atoms)∧
 R atoms w1)
theorem Zcl.of {hx:Option Addr} {w:World} {R:Option Addr→World→Prop} (h:Zki hx w R):Zcl hx w R:=ofS13 (Fm:=Zki hx w) Tryz.func55 (by kernel_rfl) (L0 Tryz.f55) rfl (fun _=>by kernel_rfl) h
def Zh1 (hx:Option Addr) (w:World) (R:Option Addr→World→Prop):Prop:=
 Zaj hx w fun t4 w1=>
 If (!t4)
 (R none w1)
 (NN hx fun a=>
 ∃funs,w1.cell? (a.add 3)=some (.pointer funs)∧
 R funs w1)
theorem Zbu.of {hx:Option Addr} {w:World} {R:Option Addr→World→Prop} (h:Zh1 hx w R):Zbu hx w R:=ofS13 (Fm:=Zh1 hx w) Tryz.func56 (by kernel_rfl) (L0 Tryz.f56) rfl (fun _=>by kernel_rfl) h
structure Zdl where
 i:Int
def Zmh (aP_1:Option Addr) (aN_1:Nat) (aC_1:Nat) (bP_1:Option Addr) (bN_1:Nat) (bC_1:Nat) (s:Zdl) (w:World) (Kn:Zdl→World→Prop) (Kx0:World→Prop) (Kr:Bool→World→Prop):Prop:=
 If (decide (s.i<(aN_1:Int)))
 (0≤s.i∧s.i<(aN_1:Int)∧NN aP_1 fun a=>
 ∃t20,(drw w).cell? (a.add (s.i.toNat*1))=some (.int .u64 t20)∧
 0≤s.i∧s.i<(bN_1:Int)∧NN bP_1 fun a_1=>
 ∃t24,(drw w).cell? (a_1.add (s.i.toNat*1))=some (.int .u64 t24)∧
 If (t20 != t24)
 (Kr false (drw w))
 (Kn ⟨(IntKind.i64.wrap (s.i+(1:Int)))⟩ (drw w)))
 (Kx0 w)
def ZlT (aP_1:Option Addr) (aN_1:Nat) (aC_1:Nat) (bP_1:Option Addr) (bN_1:Nat) (bC_1:Nat) (s:Zdl) (w:World) (Kx0:World→Prop) (Kr:Bool→World→Prop):Prop:=
 LoopS (fun s w Kn=>Zmh aP_1 aN_1 aC_1 bP_1 bN_1 bC_1 s w Kn Kx0 Kr) s w
def ZoK (aP:Option Addr) (aN:Nat) (aC:Nat) (bP:Option Addr) (bN:Nat) (bC:Nat) (w:World) (R:Bool→World→Prop):Prop:=
 If ((aN:Int) != (bN:Int))
 (R false w)
 (ZlT aP aN aC bP bN bC ⟨(0:Int)⟩ w
 (fun w1=>
 R true w1)
 (fun t4_1 w1_1=>
 R t4_1 w1_1))
def Zht (f:(Option Addr)×Nat×Nat×(Option Addr)×Nat×Nat) (s:Zdl):Env:=[⟨0,.slice f.1 f.2.1 f.2.2.1,none⟩,⟨1,.slice f.2.2.2.1 f.2.2.2.2.1 f.2.2.2.2.2,none⟩,⟨5,.int .i64 s.i,none⟩]
def ZfD (e:Env) (K:((Option Addr)×Nat×Nat×(Option Addr)×Nat×Nat)→Zdl→Prop):Prop:=
 oS e 0 fun aP_1 aN_1 aC_1=>
 oS e 1 fun bP_1 bN_1 bC_1=>
 oI e 5 .i64 fun i=>
  K (aP_1,aN_1,aC_1,bP_1,bN_1,bC_1) ⟨i⟩
theorem ZlG {N:Nat} (e:Env) (a:Act) (K:((Option Addr)×Nat×Nat×(Option Addr)×Nat×Nat)→Zdl→Prop) (hr:Rep N a e) (h0:ZfD e K):∃f s,K f s∧Rep N a (Zht f s):=by
 unfold ZfD at h0
 obtain⟨aP_1,aN_1,aC_1,g0,h1⟩:=Zae h0
 obtain⟨bP_1,bN_1,bC_1,g1,h2⟩:=Zae h1
 obtain⟨i,g5,h3⟩:=Zab h2
 exact⟨_,_,h3,Zac hr (by simp [Zht,g0,g1,g5])⟩
def Zmy (Q:Post) (e:Env) (w:World):Prop:=
 ZfD e fun f s=>ZlT f.1 f.2.1 f.2.2.1 f.2.2.2.1 f.2.2.2.2.1 f.2.2.2.2.2 s w (fun w1=>Q (.exit 0) [] w1) (fun t4 w1=>Q .ret [⟨4,.bool t4,none⟩] w1)
def Zoz:Gen where
 loop:=lookL [([false,true,false,true,true],Zmy)]
 plan:=fun id=>
  bif Nat.beq id 6 then some ([0,0,3,7,0,0,48,112,255],.take 0 (.take 1 (.take 2 (.take 3 (.take 4 (.take 5 (.take 6 (.take 7 (.take 8 .done))))))))) else none
def Zjt (e:Env) (K:((Option Addr)×Nat×Nat×(Option Addr)×Nat×Nat)→Prop):Prop:=
 oS e 0 fun aP_1 aN_1 aC_1=>
 oS e 1 fun bP_1 bN_1 bC_1=>
  K (aP_1,aN_1,aC_1,bP_1,bN_1,bC_1)
def ZhN (e:Env) (K:((Option Addr)×Nat×Nat×(Option Addr)×Nat×Nat)→Bool→Prop):Prop:=
 oS e 0 fun aP_1 aN_1 aC_1=>
 oS e 1 fun bP_1 bN_1 bC_1=>
 oB e 4 fun t4=>
  K (aP_1,aN_1,aC_1,bP_1,bN_1,bC_1) t4
theorem Zp6 (f:(Option Addr)×Nat×Nat×(Option Addr)×Nat×Nat) (s:Zdl) (w:World) (Kn:((Option Addr)×Nat×Nat×(Option Addr)×Nat×Nat)→Zdl→World→Prop) (Kx0:((Option Addr)×Nat×Nat×(Option Addr)×Nat×Nat)→World→Prop) (Kr:((Option Addr)×Nat×Nat×(Option Addr)×Nat×Nat)→Bool→World→Prop) :
  Zmh f.1 f.2.1 f.2.2.1 f.2.2.2.1 f.2.2.2.2.1 f.2.2.2.2.2 s w (fun s1 w1=>Kn f s1 w1) (fun w1=>Kx0 f w1) (fun t4 w1=>Kr f t4 w1) =
  den Tryz.prog Tryz.f61.ntmps Zoz (sub (codeOf Tryz.f61) [false,false,true,false,true,true]) [false,false,true,false,true,true] (roundQ (fun e w=>ZfD e fun f s=>Kn f s w) (fun e w=>ZhN e fun f t4=>Kr f t4 w) (fun id e w=>match Nat.beq id 0 with | true=>Zjt e fun f=>Kx0 f w | false=>False)) (Zht f s) w:=by kernel_rfl
theorem ZqY:OneOk Tryz.prog Tryz.f61.ntmps Zoz (codeOf Tryz.f61) [false,true,false,true,true] Zmy:=by
 intro c hc ih Q e w a hr h
 have hcc:sub (codeOf Tryz.f61) [false,false,true,false,true,true]=c:=Zaf hc
 obtain⟨f,s,h,hrep⟩:=ZlG e a _ hr h
 obtain⟨J,μ,hj,hround⟩:=h
 refine Zad Zan Zag ih Zht ZfD ZlG hc f J μ (Kr:=fun e w=>ZhN e fun f1 t4=>f1=f∧Q .ret [⟨4,.bool t4,none⟩] w) (Kx:=fun id e w=>match Nat.beq id 0 with | true=>(Zjt e fun f1=>f1=f∧Q (.exit 0) [] w) | false=>False) ?_ ?_ ?_ s w a hj hrep
 ·intro e a w hr h0
  unfold ZhN at h0
  obtain⟨aP_1,aN_1,aC_1,g0,h1⟩:=Zae h0
  obtain⟨bP_1,bN_1,bC_1,g1,h2⟩:=Zae h1
  obtain⟨t4,g4,h3⟩:=Zjx h2
  obtain⟨hf,hq⟩:=h3
  subst hf
  exact⟨_,Zac hr (by simp [g4]),hq⟩
 ·intro id e a w hr h0
  (try dsimp only at h0)
  split at h0
  ·rename_i hid
   obtain rfl:=Nat.eq_of_beq_eq_true hid
   unfold Zjt at h0
   obtain⟨aP_1,aN_1,aC_1,g0,h1⟩:=Zae h0
   obtain⟨bP_1,bN_1,bC_1,g1,h2⟩:=Zae h1
   obtain⟨hf,hq⟩:=h2
   subst hf
   exact⟨_,Zac hr (by simp),hq⟩
  ·exact h0.elim
 ·intro s w hj
  have hb:=hround s w hj
  rw[←hcc]
  have e1:=Zp6 f s w (fun f1 s1 w1=>f1=f∧J s1 w1∧μ s1 w1<μ s w) (fun f1 w1=>f1=f∧Q (.exit 0) [] w1) (fun f1 t4 w1=>f1=f∧Q .ret [⟨4,.bool t4,none⟩] w1)
  simp only[true_and] at e1
  exact cast e1 hb
theorem ZqW:LoopOk Tryz.prog Tryz.f61.ntmps Zoz (codeOf Tryz.f61):=Zal rfl ⟨ZqY,trivial⟩
theorem ZgN.of {aP:Option Addr} {aN:Nat} {aC:Nat} {bP:Option Addr} {bN:Nat} {bC:Nat} {w:World} {R:Bool→World→Prop} (h:ZoK aP aN aC bP bN bC w R):ZgN aP aN aC bP bN bC w R:=ofS2 (Fm:=ZoK aP aN aC bP bN bC w) Tryz.func61 (by kernel_rfl) ZqW rfl (fun _=>by kernel_rfl) h
structure Zc1 where
 n:Int
 i:Int
def Zls (lP_1:Option Addr) (lN_1:Nat) (lC_1:Nat) (s:Zc1) (w:World) (Kn:Zc1→World→Prop) (Kx0:World→Prop) (Kr:Bool→World→Prop):Prop:=
 If (decide (s.i<(lN_1:Int)))
 (If (decide (s.i<(400:Int)))
 (0≤s.i∧s.i<(lN_1:Int)∧NN lP_1 fun a=>
 ∃t180,w.cell? ((a.add (s.i.toNat*4)).add 0)=some (.int .i64 t180)∧
 ∃t181,w.cell? ((a.add (s.i.toNat*4)).add 1)=some (.int .i64 t181)∧
 ∃t182,w.cell? ((a.add (s.i.toNat*4)).add 2)=some (.string t182)∧
 ∃t183P t183N t183C,w.cell? ((a.add (s.i.toNat*4)).add 3)=some (.slice t183P t183N t183C)∧
 ZeK t180 t181 t182 t183P t183N t183C w fun t19 w1=>
 If t19
 (Kr true w1)
 (0≤s.i∧s.i<(lN_1:Int)∧NN lP_1 fun a_1=>
 ∃t240,w1.cell? ((a_1.add (s.i.toNat*4)).add 0)=some (.int .i64 t240)∧
 ∃t241,w1.cell? ((a_1.add (s.i.toNat*4)).add 1)=some (.int .i64 t241)∧
 ∃t242,w1.cell? ((a_1.add (s.i.toNat*4)).add 2)=some (.string t242)∧
 ∃t243P t243N t243C,w1.cell? ((a_1.add (s.i.toNat*4)).add 3)=some (.slice t243P t243N t243C)∧
 ZdA t240 t241 t242 t243P t243N t243C w1 fun t25 w1_1=>
 If (decide ((IntKind.i64.wrap (s.n+t25))>(20000:Int)))
 (Kr true w1_1)
 (Kn ⟨(IntKind.i64.wrap (s.n+t25)),(IntKind.i64.wrap (s.i+(1:Int)))⟩ w1_1)))
 (Kx0 w))
 (Kx0 w)
def Zk6 (lP_1:Option Addr) (lN_1:Nat) (lC_1:Nat) (s:Zc1) (w:World) (Kx0:World→Prop) (Kr:Bool→World→Prop):Prop:=
 LoopS (fun s w Kn=>Zls lP_1 lN_1 lC_1 s w Kn Kx0 Kr) s w
def ZnA (lP:Option Addr) (lN:Nat) (lC:Nat) (w:World) (R:Bool→World→Prop):Prop:=
 Zk6 lP lN lC ⟨(0:Int),(0:Int)⟩ w
 (fun w1_2=>
 R (decide ((lN:Int)>(300:Int))) w1_2)
 (fun t2_1 w1_3=>
 R t2_1 w1_3)
def Zgz (f:(Option Addr)×Nat×Nat) (s:Zc1):Env:=[⟨0,.slice f.1 f.2.1 f.2.2,none⟩,⟨3,.int .i64 s.n,none⟩,⟨4,.int .i64 s.i,none⟩]
def ZeJ (e:Env) (K:((Option Addr)×Nat×Nat)→Zc1→Prop):Prop:=
 oS e 0 fun lP_1 lN_1 lC_1=>
 oI e 3 .i64 fun n=>
 oI e 4 .i64 fun i=>
  K (lP_1,lN_1,lC_1) ⟨n,i⟩
theorem ZkK {N:Nat} (e:Env) (a:Act) (K:((Option Addr)×Nat×Nat)→Zc1→Prop) (hr:Rep N a e) (h0:ZeJ e K):∃f s,K f s∧Rep N a (Zgz f s):=by
 unfold ZeJ at h0
 obtain⟨lP_1,lN_1,lC_1,g0,h1⟩:=Zae h0
 obtain⟨n,g3,h2⟩:=Zab h1
 obtain⟨i,g4,h3⟩:=Zab h2
 exact⟨_,_,h3,Zac hr (by simp [Zgz,g0,g3,g4])⟩
def Zma (Q:Post) (e:Env) (w:World):Prop:=
 ZeJ e fun f s=>Zk6 f.1 f.2.1 f.2.2 s w (fun w1=>Q (.exit 0) [⟨0,.slice f.1 f.2.1 f.2.2,none⟩] w1) (fun t2 w1=>Q .ret [⟨2,.bool t2,none⟩] w1)
def Znk:Gen where
 loop:=lookL [([false,true,false,true,true],Zma)]
 plan:=fun _=>none
def ZiG (e:Env) (K:((Option Addr)×Nat×Nat)→Prop):Prop:=
 oS e 0 fun lP_1 lN_1 lC_1=>
  K (lP_1,lN_1,lC_1)
def ZgQ (e:Env) (K:((Option Addr)×Nat×Nat)→Bool→Prop):Prop:=
 oS e 0 fun lP_1 lN_1 lC_1=>
 oB e 2 fun t2=>
  K (lP_1,lN_1,lC_1) t2
theorem Zpu (f:(Option Addr)×Nat×Nat) (s:Zc1) (w:World) (Kn:((Option Addr)×Nat×Nat)→Zc1→World→Prop) (Kx0:((Option Addr)×Nat×Nat)→World→Prop) (Kr:((Option Addr)×Nat×Nat)→Bool→World→Prop) :
  Zls f.1 f.2.1 f.2.2 s w (fun s1 w1=>Kn f s1 w1) (fun w1=>Kx0 f w1) (fun t2 w1=>Kr f t2 w1) =
  den Tryz.prog Tryz.f63.ntmps Znk (sub (codeOf Tryz.f63) [false,false,true,false,true,true]) [false,false,true,false,true,true] (roundQ (fun e w=>ZeJ e fun f s=>Kn f s w) (fun e w=>ZgQ e fun f t2=>Kr f t2 w) (fun id e w=>match Nat.beq id 0 with | true=>ZiG e fun f=>Kx0 f w | false=>False)) (Zgz f s) w:=by kernel_rfl
theorem Zqn:OneOk Tryz.prog Tryz.f63.ntmps Znk (codeOf Tryz.f63) [false,true,false,true,true] Zma:=by
 intro c hc ih Q e w a hr h
 have hcc:sub (codeOf Tryz.f63) [false,false,true,false,true,true]=c:=Zaf hc
 obtain⟨f,s,h,hrep⟩:=ZkK e a _ hr h
 obtain⟨J,μ,hj,hround⟩:=h
 refine Zad Zan Zag ih Zgz ZeJ ZkK hc f J μ (Kr:=fun e w=>ZgQ e fun f1 t2=>f1=f∧Q .ret [⟨2,.bool t2,none⟩] w) (Kx:=fun id e w=>match Nat.beq id 0 with | true=>(ZiG e fun f1=>f1=f∧Q (.exit 0) [⟨0,.slice f.1 f.2.1 f.2.2,none⟩] w) | false=>False) ?_ ?_ ?_ s w a hj hrep
 ·intro e a w hr h0
  unfold ZgQ at h0
  obtain⟨lP_1,lN_1,lC_1,g0,h1⟩:=Zae h0
  obtain⟨t2,g2,h2⟩:=Zjx h1
  obtain⟨hf,hq⟩:=h2
  subst hf
  exact⟨_,Zac hr (by simp [g2]),hq⟩
 ·intro id e a w hr h0
  (try dsimp only at h0)
  split at h0
  ·rename_i hid
   obtain rfl:=Nat.eq_of_beq_eq_true hid
   unfold ZiG at h0
   obtain⟨lP_1,lN_1,lC_1,g0,h1⟩:=Zae h0
   obtain⟨hf,hq⟩:=h1
   subst hf
   exact⟨_,Zac hr (by simp [g0]),hq⟩
  ·exact h0.elim
 ·intro s w hj
  have hb:=hround s w hj
  rw[←hcc]
  have e1:=Zpu f s w (fun f1 s1 w1=>f1=f∧J s1 w1∧μ s1 w1<μ s w) (fun f1 w1=>f1=f∧Q (.exit 0) [⟨0,.slice f.1 f.2.1 f.2.2,none⟩] w1) (fun f1 t2 w1=>f1=f∧Q .ret [⟨2,.bool t2,none⟩] w1)
  simp only[true_and] at e1
  exact cast e1 hb
theorem Zqg:LoopOk Tryz.prog Tryz.f63.ntmps Znk (codeOf Tryz.f63):=Zal rfl ⟨Zqn,trivial⟩
theorem ZeQ.of {lP:Option Addr} {lN:Nat} {lC:Nat} {w:World} {R:Bool→World→Prop} (h:ZnA lP lN lC w R):ZeQ lP lN lC w R:=ofS2 (Fm:=ZnA lP lN lC w) Tryz.func63 (by kernel_rfl) Zqg rfl (fun _=>by kernel_rfl) h
structure Zdz where
 n:Int
 i:Int
def Zmb (t:Addr) (s:Zdz) (w:World) (Kn:Zdz→World→Prop) (Kx0:Int→World→Prop):Prop:=
 ∃LP LN LC,w.cell? (t.add 3)=some (.slice LP LN LC)∧
 If (decide (s.i<(LN:Int)))
 (∃LP_1 LN_1 LC_1,w.cell? (t.add 3)=some (.slice LP_1 LN_1 LC_1)∧
 0≤s.i∧s.i<(LN_1:Int)∧NN LP_1 fun a=>
 ∃t170,w.cell? ((a.add (s.i.toNat*4)).add 0)=some (.int .i64 t170)∧
 ∃t171,w.cell? ((a.add (s.i.toNat*4)).add 1)=some (.int .i64 t171)∧
 ∃t172,w.cell? ((a.add (s.i.toNat*4)).add 2)=some (.string t172)∧
 ∃t173P t173N t173C,w.cell? ((a.add (s.i.toNat*4)).add 3)=some (.slice t173P t173N t173C)∧
 ZdA t170 t171 t172 t173P t173N t173C w fun t18 w1_1=>
 Kn ⟨(IntKind.i64.wrap (s.n+t18)),(IntKind.i64.wrap (s.i+(1:Int)))⟩ w1_1)
 (Kx0 s.n w)
def ZlQ (t:Addr) (s:Zdz) (w:World) (Kx0:Int→World→Prop):Prop:=
 LoopS (fun s w Kn=>Zmb t s w Kn Kx0) s w
def Zop (t0:Int) (t1:Int) (t2:ByteArray) (t3P:Option Addr) (t3N:Nat) (t3C:Nat) (w:World) (R:Int→World→Prop):Prop:=
 New w (.cells #[.int .i64 t0,.int .i64 t1,.string t2,.slice t3P t3N t3C] 31) fun r w1=>
 ZlQ ⟨r,0,none⟩ ⟨(1:Int),(0:Int)⟩ w1
 (fun n_2 w1_2=>
 R n_2 w1_2)
def Zhv (f:Addr) (s:Zdz):Env:=[⟨1,.pointer (some f),none⟩,⟨3,.int .i64 s.n,none⟩,⟨4,.int .i64 s.i,none⟩]
def ZfC (e:Env) (K:Addr→Zdz→Prop):Prop:=
 oA e 1 fun t=>
 oI e 3 .i64 fun n=>
 oI e 4 .i64 fun i=>
  K (t) ⟨n,i⟩
theorem ZlE {N:Nat} (e:Env) (a:Act) (K:Addr→Zdz→Prop) (hr:Rep N a e) (h0:ZfC e K):∃f s,K f s∧Rep N a (Zhv f s):=by
 unfold ZfC at h0
 obtain⟨t,g1,h1⟩:=Zap h0
 obtain⟨n,g3,h2⟩:=Zab h1
 obtain⟨i,g4,h3⟩:=Zab h2
 exact⟨_,_,h3,Zac hr (by simp [Zhv,g1,g3,g4])⟩
def ZmA (Q:Post) (e:Env) (w:World):Prop:=
 ZfC e fun f s=>ZlQ f s w (fun n_1 w1=>Q (.exit 0) [⟨3,.int .i64 n_1,none⟩] w1)
def Zoi:Gen where
 loop:=lookL [([false,true,false,true,true],ZmA)]
 plan:=fun _=>none
def ZjK (e:Env) (K:Addr→Int→Prop):Prop:=
 oA e 1 fun t=>
 oI e 3 .i64 fun n_1=>
  K (t) n_1
theorem ZpZ (f:Addr) (s:Zdz) (w:World) (Kn:Addr→Zdz→World→Prop) (Kx0:Addr→Int→World→Prop) :
  Zmb f s w (fun s1 w1=>Kn f s1 w1) (fun n_1 w1=>Kx0 f n_1 w1) =
  den Tryz.prog Tryz.f64.ntmps Zoi (sub (codeOf Tryz.f64) [false,false,true,false,true,true]) [false,false,true,false,true,true] (roundQ (fun e w=>ZfC e fun f s=>Kn f s w) (fun e w=>False) (fun id e w=>match Nat.beq id 0 with | true=>ZjK e fun f n_1=>Kx0 f n_1 w | false=>False)) (Zhv f s) w:=by kernel_rfl
theorem Zq2:OneOk Tryz.prog Tryz.f64.ntmps Zoi (codeOf Tryz.f64) [false,true,false,true,true] ZmA:=by
 intro c hc ih Q e w a hr h
 have hcc:sub (codeOf Tryz.f64) [false,false,true,false,true,true]=c:=Zaf hc
 obtain⟨f,s,h,hrep⟩:=ZlE e a _ hr h
 obtain⟨J,μ,hj,hround⟩:=h
 refine Zad Zan Zag ih Zhv ZfC ZlE hc f J μ (Kr:=fun e w=>False) (Kx:=fun id e w=>match Nat.beq id 0 with | true=>(ZjK e fun f1 n_1=>f1=f∧Q (.exit 0) [⟨3,.int .i64 n_1,none⟩] w) | false=>False) ?_ ?_ ?_ s w a hj hrep
 ·intro e a w hr h
  exact h.elim
 ·intro id e a w hr h0
  (try dsimp only at h0)
  split at h0
  ·rename_i hid
   obtain rfl:=Nat.eq_of_beq_eq_true hid
   unfold ZjK at h0
   obtain⟨t,g1,h1⟩:=Zap h0
   obtain⟨n_1,g3,h2⟩:=Zab h1
   obtain⟨hf,hq⟩:=h2
   subst hf
   exact⟨_,Zac hr (by simp [g3]),hq⟩
  ·exact h0.elim
 ·intro s w hj
  have hb:=hround s w hj
  rw[←hcc]
  have e1:=ZpZ f s w (fun f1 s1 w1=>f1=f∧J s1 w1∧μ s1 w1<μ s w) (fun f1 n_1 w1=>f1=f∧Q (.exit 0) [⟨3,.int .i64 n_1,none⟩] w1)
  simp only[true_and] at e1
  exact cast e1 hb
theorem Zrd:LoopOk Tryz.prog Tryz.f64.ntmps Zoi (codeOf Tryz.f64):=Zal rfl ⟨Zq2,trivial⟩
theorem ZdA.of {t0:Int} {t1:Int} {t2:ByteArray} {t3P:Option Addr} {t3N:Nat} {t3C:Nat} {w:World} {R:Int→World→Prop} (h:Zop t0 t1 t2 t3P t3N t3C w R):ZdA t0 t1 t2 t3P t3N t3C w R:=ofS4 (Fm:=Zop t0 t1 t2 t3P t3N t3C w) Tryz.func64 (by kernel_rfl) Zrd rfl (fun _=>by kernel_rfl) h
end Go.Proofs.YtdaenijbokialaaGreat
