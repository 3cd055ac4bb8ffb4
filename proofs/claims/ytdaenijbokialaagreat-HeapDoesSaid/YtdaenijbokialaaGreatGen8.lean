import Derived.Test.YtdaenijbokialaaGreatGenC
set_option maxRecDepth 100000
set_option linter.unusedVariables false
namespace Go.Proofs.YtdaenijbokialaaGreat
open Go Go.D Go.Proofs
def ZhP (R:Bool→World→Prop) (w1_2:World):Prop:=
 R false w1_2
def Zkq (hx:Option Addr) (atx:Int) (w:World) (R:Bool→World→Prop):Prop:=
 If (decide (atx≥(0:Int)))
 (NN hx fun a=>
 ∃pool,(drw w).cell? (a.add 0)=some (.pointer pool)∧
 NN hx fun a_1=>
 ∃cellsP cellsN cellsC,(drw w).cell? (a_1.add 4)=some (.slice cellsP cellsN cellsC)∧
 ZbI pool (drw w) fun t13 w1=>
 w1.cell? (a_1.add 4)=(drw w).cell? (a_1.add 4)∧
 If (decide (atx<(minI t13 (cellsN:Int))))
 (NN hx fun a_2=>
 ∃pool_1,w1.cell? (a_2.add 0)=some (.pointer pool_1)∧
 ZcX pool_1 atx w1 fun t28 w1_1=>
 R (!t28) w1_1)
 (ZhP R w1))
 (ZhP R (drw w))
def Zqj:Gen where
 loop:=lookL []
 plan:=fun id=>
  bif Nat.beq id 1 then some ([0,1,3,7,7,23,55,119,247,7,519,1543,3591,7687,16375,32767,65535,131071,262143,524287,1048575,2097151,262143,8388607,16777215,33554431,67108863],.take 0 (.take 1 (.take 2 (.take 3 (.take 4 (.take 5 (.take 6 (.take 7 (.take 9 (.take 10 (.take 11 (.take 12 (.take 13 (.take 8 (.take 14 (.take 15 (.take 16 (.take 17 (.take 18 (.take 19 (.take 20 (.take 21 (.take 22 (.take 23 (.take 24 (.take 25 (.take 26 .done))))))))))))))))))))))))))) else none
theorem Zbs.of {hx:Option Addr} {atx:Int} {w:World} {R:Bool→World→Prop} (h:Zkq hx atx w R):Zbs hx atx w R:=ofS2 (Fm:=Zkq hx atx w) Tryz.func98 (by kernel_rfl) (L1 Zqj Tryz.f98 fun _=>rfl) rfl (fun _=>by kernel_rfl) h
def ZkY (p:Option Addr) (w:World) (R:Int→World→Prop):Prop:=
 ZaI p w fun t5 w1=>
 If (!t5)
 (R (6:Int) w1)
 (NN p fun a=>
 ∃lP lN lC,w1.cell? (a.add 0)=some (.slice lP lN lC)∧
 If (decide ((lN:Int)≥(4096:Int)))
 (R (2:Int) w1)
 (NN p fun a_1=>
 ∃lP_1 lN_1 lC_1,(drw w1).cell? (a_1.add 0)=some (.slice lP_1 lN_1 lC_1)∧
 NN p fun a_2=>
 ∃topx,(drw w1).cell? (a_2.add 1)=some (.int .i64 topx)∧
 BSl Tryz.prog 145 1 [(0,.agg #[.int .i64 topx,.slice none 0 0])] (drw w1) fun t24P t24N t24C w1_1=>
 w1_1.cell? (a_1.add 0)=(drw w1).cell? (a_1.add 0)∧
 App Tryz.prog #[145,145] 145 #[.slice lP_1 lN_1 lC_1,.slice t24P t24N t24C] w1_1 fun t25P t25N t25C w1_2=>
 NN p fun a_3=>
 St w1_2 ((a_3.add 0).add 0) (.slice t25P t25N t25C) fun w1_3=>
 R (0:Int) w1_3))
def Zq9:Gen where
 loop:=lookL []
 plan:=fun id=>
  bif Nat.beq id 5 then some ([0,0,2,6,14,0,32,96,224,480,992,2046,4095,8191,16383],.take 0 (.take 1 (.take 2 (.take 3 (.take 4 (.take 5 (.take 6 (.take 7 (.take 8 (.take 9 (.take 10 (.take 11 (.take 12 (.take 13 (.take 14 .done))))))))))))))) else none
theorem Zcd.of {p:Option Addr} {w:World} {R:Int→World→Prop} (h:ZkY p w R):Zcd p w R:=ofS4 (Fm:=ZkY p w) Tryz.func99 (by kernel_rfl) (L1 Zq9 Tryz.f99 fun _=>rfl) rfl (fun _=>by kernel_rfl) h
def Zl6 (m:Option Addr) (w:World) (R:Int→World→Prop):Prop:=
 If m.isNone
 (R (0:Int) w)
 (NN m fun a=>
 ∃lP lN lC,w.cell? (a.add 0)=some (.slice lP lN lC)∧
 R (lN:Int) w)
theorem Za1.of {m:Option Addr} {w:World} {R:Int→World→Prop} (h:Zl6 m w R):Za1 m w R:=ofS4 (Fm:=Zl6 m w) Tryz.func100 (by kernel_rfl) (L0 Tryz.f100) rfl (fun _=>by kernel_rfl) h
def Zlp (p:Option Addr) (w:World) (R:Int→World→Prop):Prop:=
 ZaI p w fun t4 w1=>
 If (!t4)
 (R (6:Int) w1)
 (Za0 p w1 fun t8 w1_1=>
 NN t8 fun a=>
 ∃startx,w1_1.cell? (a.add 0)=some (.int .i64 startx)∧
 NN p fun a_1=>
 St w1_1 ((a_1.add 1).add 0) (.int .i64 startx) fun w1_2=>
 Za0 p w1_2 fun t15 w1_3=>
 NN t15 fun a_2=>
 St w1_3 ((a_2.add 1).add 0) (.slice none 0 0) fun w1_4=>
 R (0:Int) w1_4)
theorem Zcg.of {p:Option Addr} {w:World} {R:Int→World→Prop} (h:Zlp p w R):Zcg p w R:=ofS4 (Fm:=Zlp p w) Tryz.func101 (by kernel_rfl) (L0 Tryz.f101) rfl (fun _=>by kernel_rfl) h
def Zk0 (p:Option Addr) (w:World) (R:Bool→World→Prop):Prop:=
 If (!p.isNone)
 (NN p fun a=>
 ∃lP lN lC,w.cell? (a.add 0)=some (.slice lP lN lC)∧
 R (decide ((lN:Int)>(0:Int))) w)
 (R false w)
theorem ZaI.of {p:Option Addr} {w:World} {R:Bool→World→Prop} (h:Zk0 p w R):ZaI p w R:=ofS2 (Fm:=Zk0 p w) Tryz.func102 (by kernel_rfl) (L0 Tryz.f102) rfl (fun _=>by kernel_rfl) h
def ZpB (w:World) (R:Option Addr→World→Prop):Prop:=
 New w (.map #[] 0) fun r w1=>
 New w1 (.cells #[.slice none 0 0,.map (some r)] 152) fun r_1 w1_1=>
 R (some ⟨r_1,0,none⟩) w1_1
theorem Ziu.of {w:World} {R:Option Addr→World→Prop} (h:ZpB w R):Ziu w R:=ofS13 (Fm:=ZpB w) Tryz.func103 (by kernel_rfl) (L0 Tryz.f103) rfl (fun _=>by kernel_rfl) h
def Zh2 (R:Int→World→Prop) (w1_7:World):Prop:=
 R (0:Int) w1_7
def Zkx (p:Option Addr) (w:World) (R:Int→World→Prop):Prop:=
 ZaI p w fun t8 w1=>
 If (!t8)
 (R (6:Int) w1)
 (NN p fun a=>
 ∃lP lN lC,w1.cell? (a.add 0)=some (.slice lP lN lC)∧
 If ((lN:Int)==(1:Int))
 (R (4:Int) w1)
 (Za0 p w1 fun t18 w1_1=>
 NN t18 fun a_1=>
 ∃runsP runsN runsC,w1_1.cell? (a_1.add 1)=some (.slice runsP runsN runsC)∧
 NN p fun a_2=>
 ∃lP_1 lN_1 lC_1,(drw w1_1).cell? (a_2.add 0)=some (.slice lP_1 lN_1 lC_1)∧
 NN p fun a_3=>
 ∃lP_2 lN_2 lC_2,(drw w1_1).cell? (a_3.add 0)=some (.slice lP_2 lN_2 lC_2)∧
 0≤(IntKind.i64.wrap ((lN_2:Int)-(1:Int)))∧(IntKind.i64.wrap ((lN_2:Int)-(1:Int)))≤(lC_1:Int)∧
 NN p fun a_4=>
 St (drw w1_1) ((a_4.add 0).add 0) (.slice lP_1 ((IntKind.i64.wrap ((lN_2:Int)-(1:Int))).toNat) lC_1) fun w1_2=>
 Za0 p w1_2 fun t37 w1_3=>
 NN t37 fun a_5=>
 ∃runsP_1 runsN_1 runsC_1,w1_3.cell? (a_5.add 1)=some (.slice runsP_1 runsN_1 runsC_1)∧
 NN t37 fun a_6=>
 ∃runsP_2 runsN_2 runsC_2,w1_3.cell? (a_6.add 1)=some (.slice runsP_2 runsN_2 runsC_2)∧
 App Tryz.prog #[167,167] 167 #[.slice runsP_2 runsN_2 runsC_2,.slice runsP runsN runsC] w1_3 fun t50P t50N t50C w1_4=>
 NN t37 fun a_7=>
 St w1_4 ((a_7.add 1).add 0) (.slice t50P t50N t50C) fun w1_5=>
 If (decide ((IntKind.i64.wrap ((runsN_1:Int)-(1:Int)))≥(0:Int)))
 (Zbk t37 (IntKind.i64.wrap ((runsN_1:Int)-(1:Int))) w1_5 fun w1_6=>
 Zh2 R w1_6)
 (Zh2 R w1_5)))
def ZqO:Gen where
 loop:=lookL []
 plan:=fun id=>
  bif Nat.beq id 6 then some ([0,0,2,6,14,0,32,96,224,480,992,2046,4095,8191,16383],.take 0 (.take 1 (.take 2 (.take 3 (.take 4 (.take 5 (.take 6 (.take 7 (.take 8 (.take 9 (.take 10 (.take 11 (.take 12 (.take 13 (.take 14 .done))))))))))))))) else none
theorem ZbX.of {p:Option Addr} {w:World} {R:Int→World→Prop} (h:Zkx p w R):ZbX p w R:=ofS4 (Fm:=Zkx p w) Tryz.func104 (by kernel_rfl) (L1 ZqO Tryz.f104 fun _=>rfl) rfl (fun _=>by kernel_rfl) h
structure ZaX where
 i:Int
def Zgh (R:Bool→World→Prop) (w1_29:World):Prop:=
 R false w1_29
def Zeu (R:Bool→World→Prop) (w1_33:World):Prop:=
 R false w1_33
def Zga (sx_1:Option Addr) (seen_1:Option Nat) (a:Addr) (b:Addr) (s:ZaX) (w:World) (Kn:ZaX→World→Prop) (Kx1:World→Prop) (Kr:Bool→World→Prop):Prop:=
 ∃LP_4 LN_4 LC_4,w.cell? (a.add 3)=some (.slice LP_4 LN_4 LC_4)∧
 If (decide (s.i<(LN_4:Int)))
 (∃LP_5 LN_5 LC_5,(drw w).cell? (a.add 3)=some (.slice LP_5 LN_5 LC_5)∧
 0≤s.i∧s.i<(LN_5:Int)∧NN LP_5 fun a_1=>
 ∃t1340,(drw w).cell? ((a_1.add (s.i.toNat*4)).add 0)=some (.int .i64 t1340)∧
 ∃t1341,(drw w).cell? ((a_1.add (s.i.toNat*4)).add 1)=some (.int .i64 t1341)∧
 ∃t1342,(drw w).cell? ((a_1.add (s.i.toNat*4)).add 2)=some (.string t1342)∧
 ∃t1343P t1343N t1343C,(drw w).cell? ((a_1.add (s.i.toNat*4)).add 3)=some (.slice t1343P t1343N t1343C)∧
 ∃LP_6 LN_6 LC_6,(drw w).cell? (b.add 3)=some (.slice LP_6 LN_6 LC_6)∧
 0≤s.i∧s.i<(LN_6:Int)∧NN LP_6 fun a_2=>
 ∃t1390,(drw w).cell? ((a_2.add (s.i.toNat*4)).add 0)=some (.int .i64 t1390)∧
 ∃t1391,(drw w).cell? ((a_2.add (s.i.toNat*4)).add 1)=some (.int .i64 t1391)∧
 ∃t1392,(drw w).cell? ((a_2.add (s.i.toNat*4)).add 2)=some (.string t1392)∧
 ∃t1393P t1393N t1393C,(drw w).cell? ((a_2.add (s.i.toNat*4)).add 3)=some (.slice t1393P t1393N t1393C)∧
 Zbo sx_1 t1340 t1341 t1342 t1343P t1343N t1343C t1390 t1391 t1392 t1393P t1393N t1393C seen_1 (drw w) fun t141 w1_35=>
 If (!t141)
 (Kr false w1_35)
 (Kn ⟨(IntKind.i64.wrap (s.i+(1:Int)))⟩ w1_35))
 (Kx1 w)
def Zgj (sx_1:Option Addr) (seen_1:Option Nat) (a:Addr) (b:Addr) (s:ZaX) (w:World) (Kx1:World→Prop) (Kr:Bool→World→Prop):Prop:=
 LoopS (fun s w Kn=>Zga sx_1 seen_1 a b s w Kn Kx1 Kr) s w
def Zgn (sx:Option Addr) (seen:Option Nat) (R:Bool→World→Prop) (r:Nat) (r_1:Nat) (w1_34:World):Prop:=
 Zgj sx seen ⟨r,0,none⟩ ⟨r_1,0,none⟩ ⟨(0:Int)⟩ w1_34
 (fun w1_36=>
 R true w1_36)
 (fun t8_1 w1_37=>
 R t8_1 w1_37)
def Zew (sx:Option Addr) (seen:Option Nat) (R:Bool→World→Prop) (r:Nat) (r_1:Nat) (w1_30:World):Prop:=
 ∃Kind_8,w1_30.cell? (Addr.add ⟨r,0,none⟩ 0)=some (.int .i64 Kind_8)∧
 If (Kind_8==(1:Int))
 (∃N_12,w1_30.cell? (Addr.add ⟨r,0,none⟩ 1)=some (.int .i64 N_12)∧
 ∃t820_1,w1_30.cell? (Addr.add ⟨r_1,0,none⟩ 0)=some (.int .i64 t820_1)∧
 ∃t821_1,w1_30.cell? (Addr.add ⟨r_1,0,none⟩ 1)=some (.int .i64 t821_1)∧
 ∃t822_1,w1_30.cell? (Addr.add ⟨r_1,0,none⟩ 2)=some (.string t822_1)∧
 ∃t823P_1 t823N_1 t823C_1,w1_30.cell? (Addr.add ⟨r_1,0,none⟩ 3)=some (.slice t823P_1 t823N_1 t823C_1)∧
 Zat sx N_12 t820_1 t821_1 t822_1 t823P_1 t823N_1 t823C_1 w1_30 fun t83_1 w1_31=>
 R t83_1 w1_31)
 (∃Kind_9,w1_30.cell? (Addr.add ⟨r_1,0,none⟩ 0)=some (.int .i64 Kind_9)∧
 If (Kind_9==(1:Int))
 (∃N_13,w1_30.cell? (Addr.add ⟨r_1,0,none⟩ 1)=some (.int .i64 N_13)∧
 ∃t910_1,w1_30.cell? (Addr.add ⟨r,0,none⟩ 0)=some (.int .i64 t910_1)∧
 ∃t911_1,w1_30.cell? (Addr.add ⟨r,0,none⟩ 1)=some (.int .i64 t911_1)∧
 ∃t912_1,w1_30.cell? (Addr.add ⟨r,0,none⟩ 2)=some (.string t912_1)∧
 ∃t913P_1 t913N_1 t913C_1,w1_30.cell? (Addr.add ⟨r,0,none⟩ 3)=some (.slice t913P_1 t913N_1 t913C_1)∧
 Zat sx N_13 t910_1 t911_1 t912_1 t913P_1 t913N_1 t913C_1 w1_30 fun t92_1 w1_32=>
 R t92_1 w1_32)
 (∃Kind_10,w1_30.cell? (Addr.add ⟨r,0,none⟩ 0)=some (.int .i64 Kind_10)∧
 ∃Kind_11,w1_30.cell? (Addr.add ⟨r_1,0,none⟩ 0)=some (.int .i64 Kind_11)∧
 If (Kind_10 != Kind_11)
 (Zeu R w1_30)
 (∃N_14,w1_30.cell? (Addr.add ⟨r,0,none⟩ 1)=some (.int .i64 N_14)∧
 ∃N_15,w1_30.cell? (Addr.add ⟨r_1,0,none⟩ 1)=some (.int .i64 N_15)∧
 If (N_14 != N_15)
 (Zeu R w1_30)
 (∃S_2,w1_30.cell? (Addr.add ⟨r,0,none⟩ 2)=some (.string S_2)∧
 ∃S_3,w1_30.cell? (Addr.add ⟨r_1,0,none⟩ 2)=some (.string S_3)∧
 If (!(S_2.toList==S_3.toList))
 (Zeu R w1_30)
 (∃LP_2 LN_2 LC_2,w1_30.cell? (Addr.add ⟨r,0,none⟩ 3)=some (.slice LP_2 LN_2 LC_2)∧
 ∃LP_3 LN_3 LC_3,w1_30.cell? (Addr.add ⟨r_1,0,none⟩ 3)=some (.slice LP_3 LN_3 LC_3)∧
 If ((LN_2:Int) != (LN_3:Int))
 (R false w1_30)
 (Zgn sx seen R r r_1 w1_30))))))
def ZbC (sx:Option Addr) (seen:Option Nat) (R:Bool→World→Prop) (r:Nat) (r_1:Nat) (w1_16:World):Prop:=
 ∃t540,(drw w1_16).cell? (Addr.add ⟨r,0,none⟩ 0)=some (.int .i64 t540)∧
 ∃t541,(drw w1_16).cell? (Addr.add ⟨r,0,none⟩ 1)=some (.int .i64 t541)∧
 ∃t542,(drw w1_16).cell? (Addr.add ⟨r,0,none⟩ 2)=some (.string t542)∧
 ∃t543P t543N t543C,(drw w1_16).cell? (Addr.add ⟨r,0,none⟩ 3)=some (.slice t543P t543N t543C)∧
 ∃t570,(drw w1_16).cell? (Addr.add ⟨r_1,0,none⟩ 0)=some (.int .i64 t570)∧
 ∃t571,(drw w1_16).cell? (Addr.add ⟨r_1,0,none⟩ 1)=some (.int .i64 t571)∧
 ∃t572,(drw w1_16).cell? (Addr.add ⟨r_1,0,none⟩ 2)=some (.string t572)∧
 ∃t573P t573N t573C,(drw w1_16).cell? (Addr.add ⟨r_1,0,none⟩ 3)=some (.slice t573P t573N t573C)∧
 ZaL sx t540 t541 t542 t543P t543N t543C (drw w1_16) fun t550 t551 t552 t553P t553N t553C w1_17=>
 (∀i_,i_<4→w1_17.cell? (Addr.add ⟨r_1,0,none⟩ i_)=(drw w1_16).cell? (Addr.add ⟨r_1,0,none⟩ i_))∧
 ZaL sx t570 t571 t572 t573P t573N t573C w1_17 fun t580 t581 t582 t583P t583N t583C w1_18=>
 St w1_18 (Addr.add ⟨r,0,none⟩ 0) (.int .i64 t550) fun w1_19=>
 St w1_19 (Addr.add ⟨r,0,none⟩ 1) (.int .i64 t551) fun w1_20=>
 St w1_20 (Addr.add ⟨r,0,none⟩ 2) (.string t552) fun w1_21=>
 St w1_21 (Addr.add ⟨r,0,none⟩ 3) (.slice t553P t553N t553C) fun w1_22=>
 St w1_22 (Addr.add ⟨r_1,0,none⟩ 0) (.int .i64 t580) fun w1_23=>
 St w1_23 (Addr.add ⟨r_1,0,none⟩ 1) (.int .i64 t581) fun w1_24=>
 St w1_24 (Addr.add ⟨r_1,0,none⟩ 2) (.string t582) fun w1_25=>
 St w1_25 (Addr.add ⟨r_1,0,none⟩ 3) (.slice t583P t583N t583C) fun w1_26=>
 ∃Kind_2,w1_26.cell? (Addr.add ⟨r,0,none⟩ 0)=some (.int .i64 Kind_2)∧
 If (Kind_2==(1:Int))
 (∃Kind_3,w1_26.cell? (Addr.add ⟨r_1,0,none⟩ 0)=some (.int .i64 Kind_3)∧
 If (Kind_3==(1:Int))
 (∃N_6,w1_26.cell? (Addr.add ⟨r,0,none⟩ 1)=some (.int .i64 N_6)∧
 ∃N_7,w1_26.cell? (Addr.add ⟨r_1,0,none⟩ 1)=some (.int .i64 N_7)∧
 If (N_6==N_7)
 (R true w1_26)
 (∃Kind_4,w1_26.cell? (Addr.add ⟨r,0,none⟩ 0)=some (.int .i64 Kind_4)∧
 If (Kind_4==(1:Int))
 (∃N_8,w1_26.cell? (Addr.add ⟨r,0,none⟩ 1)=some (.int .i64 N_8)∧
 ∃t820,w1_26.cell? (Addr.add ⟨r_1,0,none⟩ 0)=some (.int .i64 t820)∧
 ∃t821,w1_26.cell? (Addr.add ⟨r_1,0,none⟩ 1)=some (.int .i64 t821)∧
 ∃t822,w1_26.cell? (Addr.add ⟨r_1,0,none⟩ 2)=some (.string t822)∧
 ∃t823P t823N t823C,w1_26.cell? (Addr.add ⟨r_1,0,none⟩ 3)=some (.slice t823P t823N t823C)∧
 Zat sx N_8 t820 t821 t822 t823P t823N t823C w1_26 fun t83 w1_27=>
 R t83 w1_27)
 (∃Kind_5,w1_26.cell? (Addr.add ⟨r_1,0,none⟩ 0)=some (.int .i64 Kind_5)∧
 If (Kind_5==(1:Int))
 (∃N_9,w1_26.cell? (Addr.add ⟨r_1,0,none⟩ 1)=some (.int .i64 N_9)∧
 ∃t910,w1_26.cell? (Addr.add ⟨r,0,none⟩ 0)=some (.int .i64 t910)∧
 ∃t911,w1_26.cell? (Addr.add ⟨r,0,none⟩ 1)=some (.int .i64 t911)∧
 ∃t912,w1_26.cell? (Addr.add ⟨r,0,none⟩ 2)=some (.string t912)∧
 ∃t913P t913N t913C,w1_26.cell? (Addr.add ⟨r,0,none⟩ 3)=some (.slice t913P t913N t913C)∧
 Zat sx N_9 t910 t911 t912 t913P t913N t913C w1_26 fun t92 w1_28=>
 R t92 w1_28)
 (∃Kind_6,w1_26.cell? (Addr.add ⟨r,0,none⟩ 0)=some (.int .i64 Kind_6)∧
 ∃Kind_7,w1_26.cell? (Addr.add ⟨r_1,0,none⟩ 0)=some (.int .i64 Kind_7)∧
 If (Kind_6 != Kind_7)
 (Zgh R w1_26)
 (∃N_10,w1_26.cell? (Addr.add ⟨r,0,none⟩ 1)=some (.int .i64 N_10)∧
 ∃N_11,w1_26.cell? (Addr.add ⟨r_1,0,none⟩ 1)=some (.int .i64 N_11)∧
 If (N_10 != N_11)
 (Zgh R w1_26)
 (∃S,w1_26.cell? (Addr.add ⟨r,0,none⟩ 2)=some (.string S)∧
 ∃S_1,w1_26.cell? (Addr.add ⟨r_1,0,none⟩ 2)=some (.string S_1)∧
 If (!(S.toList==S_1.toList))
 (Zgh R w1_26)
 (∃LP LN LC,w1_26.cell? (Addr.add ⟨r,0,none⟩ 3)=some (.slice LP LN LC)∧
 ∃LP_1 LN_1 LC_1,w1_26.cell? (Addr.add ⟨r_1,0,none⟩ 3)=some (.slice LP_1 LN_1 LC_1)∧
 If ((LN:Int) != (LN_1:Int))
 (R false w1_26)
 (Zgn sx seen R r r_1 w1_26))))))))
 (Zew sx seen R r r_1 w1_26))
 (Zew sx seen R r r_1 w1_26)
def Ziw (sx:Option Addr) (a0:Int) (a1:Int) (a2:ByteArray) (a3P:Option Addr) (a3N:Nat) (a3C:Nat) (b0:Int) (b1:Int) (b2:ByteArray) (b3P:Option Addr) (b3N:Nat) (b3C:Nat) (seen:Option Nat) (w:World) (R:Bool→World→Prop):Prop:=
 New w (.cells #[.int .i64 a0,.int .i64 a1,.string a2,.slice a3P a3N a3C] 31) fun r w1=>
 New w1 (.cells #[.int .i64 b0,.int .i64 b1,.string b2,.slice b3P b3N b3C] 31) fun r_1 w1_1=>
 ∃Kind,w1_1.cell? (Addr.add ⟨r,0,none⟩ 0)=some (.int .i64 Kind)∧
 If (Kind==(1:Int))
 (∃Kind_1,w1_1.cell? (Addr.add ⟨r_1,0,none⟩ 0)=some (.int .i64 Kind_1)∧
 If (Kind_1==(1:Int))
 (∃N,w1_1.cell? (Addr.add ⟨r,0,none⟩ 1)=some (.int .i64 N)∧
 Zax sx N w1_1 fun t2600 t2601 t2602 t2603P t2603N t2603C t261 w1_2=>
 New w1_2 (.cells #[.int .i64 0,.int .i64 0,.string ⟨#[]⟩,.slice none 0 0] 31) fun r_2 w1_3=>
 St w1_3 (Addr.add ⟨r_2,0,none⟩ 0) (.int .i64 t2600) fun w1_4=>
 St w1_4 (Addr.add ⟨r_2,0,none⟩ 1) (.int .i64 t2601) fun w1_5=>
 St w1_5 (Addr.add ⟨r_2,0,none⟩ 2) (.string t2602) fun w1_6=>
 St w1_6 (Addr.add ⟨r_2,0,none⟩ 3) (.slice t2603P t2603N t2603C) fun w1_7=>
 ∃N_1,w1_7.cell? (Addr.add ⟨r_1,0,none⟩ 1)=some (.int .i64 N_1)∧
 Zax sx N_1 w1_7 fun t3300 t3301 t3302 t3303P t3303N t3303C t331 w1_8=>
 New w1_8 (.cells #[.int .i64 0,.int .i64 0,.string ⟨#[]⟩,.slice none 0 0] 31) fun r_3 w1_9=>
 St w1_9 (Addr.add ⟨r_3,0,none⟩ 0) (.int .i64 t3300) fun w1_10=>
 St w1_10 (Addr.add ⟨r_3,0,none⟩ 1) (.int .i64 t3301) fun w1_11=>
 St w1_11 (Addr.add ⟨r_3,0,none⟩ 2) (.string t3302) fun w1_12=>
 St w1_12 (Addr.add ⟨r_3,0,none⟩ 3) (.slice t3303P t3303N t3303C) fun w1_13=>
 If t261
 (If t331
 (∃N_2,w1_13.cell? (Addr.add ⟨r,0,none⟩ 1)=some (.int .i64 N_2)∧
 ∃N_3,w1_13.cell? (Addr.add ⟨r_1,0,none⟩ 1)=some (.int .i64 N_3)∧
 Run Tryz.prog (Instr.lookup 154 (.map seen) (.agg #[.int .i64 N_2,.int .i64 N_3]) false) w1_13 fun v w1_14=>∃t46:Bool,v=(.bool t46)∧
 If t46
 (R true w1_14)
 (∃N_4,w1_14.cell? (Addr.add ⟨r,0,none⟩ 1)=some (.int .i64 N_4)∧
 ∃N_5,w1_14.cell? (Addr.add ⟨r_1,0,none⟩ 1)=some (.int .i64 N_5)∧
 MUp Tryz.prog 154 (.map seen) (.agg #[.int .i64 N_4,.int .i64 N_5]) (.bool true) w1_14 fun w1_15=>
 ZbC sx seen R r r_1 w1_15))
 (ZbC sx seen R r r_1 w1_13))
 (ZbC sx seen R r r_1 w1_13))
 (ZbC sx seen R r r_1 w1_1))
 (ZbC sx seen R r r_1 w1_1)
def ZdF (f:(Option Addr)×(Option Nat)×Addr×Addr) (s:ZaX):Env:=[⟨0,.pointer f.1,none⟩,⟨3,.map f.2.1,none⟩,⟨5,.pointer (some f.2.2.1),none⟩,⟨6,.pointer (some f.2.2.2),none⟩,⟨13,.int .i64 s.i,none⟩]
def Zcj (e:Env) (K:((Option Addr)×(Option Nat)×Addr×Addr)→ZaX→Prop):Prop:=
 oP e 0 fun sx_1=>
 oM e 3 fun seen_1=>
 oA e 5 fun a=>
 oA e 6 fun b=>
 oI e 13 .i64 fun i=>
  K (sx_1,seen_1,a,b) ⟨i⟩
theorem ZgY {N:Nat} (e:Env) (a:Act) (K:((Option Addr)×(Option Nat)×Addr×Addr)→ZaX→Prop) (hr:Rep N a e) (h0:Zcj e K):∃f s,K f s∧Rep N a (ZdF f s):=by
 unfold Zcj at h0
 obtain⟨sx_1,g0,h1⟩:=Zar h0
 obtain⟨seen_1,g3,h2⟩:=Zit h1
 obtain⟨a,g5,h3⟩:=Zap h2
 obtain⟨b,g6,h4⟩:=Zap h3
 obtain⟨i,g13,h5⟩:=Zab h4
 exact⟨_,_,h5,Zac hr (by simp [ZdF,g0,g3,g5,g6,g13])⟩
def Zia (Q:Post) (e:Env) (w:World):Prop:=
 Zcj e fun f s=>Zgj f.1 f.2.1 f.2.2.1 f.2.2.2 s w (fun w1=>Q (.exit 1) [] w1) (fun t8 w1=>Q .ret [⟨8,.bool t8,none⟩] w1)
def ZiA:Gen where
 loop:=lookL [([false,true,false,true,true,true,true],Zia)]
 plan:=fun id=>
  bif Nat.beq id 8 then some ([0,0,3,0,0,31,63,127],.take 0 (.take 1 (.take 3 (.take 4 (.take 2 (.take 5 (.take 6 (.take 7 .done)))))))) else
  bif Nat.beq id 20 then some ([0,0,2,0,14,30,0,64,0,448,960,0,4095,8191],.take 0 (.take 1 (.take 2 (.take 3 (.take 4 (.take 5 (.take 6 (.take 7 (.take 8 (.take 9 (.take 10 (.take 11 (.take 12 (.take 13 .done)))))))))))))) else none
def Ze5 (e:Env) (K:((Option Addr)×(Option Nat)×Addr×Addr)→Prop):Prop:=
 oP e 0 fun sx_1=>
 oM e 3 fun seen_1=>
 oA e 5 fun a=>
 oA e 6 fun b=>
  K (sx_1,seen_1,a,b)
def Zen (e:Env) (K:((Option Addr)×(Option Nat)×Addr×Addr)→Bool→Prop):Prop:=
 oP e 0 fun sx_1=>
 oM e 3 fun seen_1=>
 oA e 5 fun a=>
 oA e 6 fun b=>
 oB e 8 fun t8=>
  K (sx_1,seen_1,a,b) t8
theorem ZmC (f:(Option Addr)×(Option Nat)×Addr×Addr) (s:ZaX) (w:World) (Kn:((Option Addr)×(Option Nat)×Addr×Addr)→ZaX→World→Prop) (Kx1:((Option Addr)×(Option Nat)×Addr×Addr)→World→Prop) (Kr:((Option Addr)×(Option Nat)×Addr×Addr)→Bool→World→Prop) :
  Zga f.1 f.2.1 f.2.2.1 f.2.2.2 s w (fun s1 w1=>Kn f s1 w1) (fun w1=>Kx1 f w1) (fun t8 w1=>Kr f t8 w1) =
  den Tryz.prog Tryz.f105.ntmps ZiA (sub (codeOf Tryz.f105) [false,false,true,false,true,true,true,true]) [false,false,true,false,true,true,true,true] (roundQ (fun e w=>Zcj e fun f s=>Kn f s w) (fun e w=>Zen e fun f t8=>Kr f t8 w) (fun id e w=>match Nat.beq id 1 with | true=>Ze5 e fun f=>Kx1 f w | false=>False)) (ZdF f s) w:=by kernel_rfl
theorem Znr:OneOk Tryz.prog Tryz.f105.ntmps ZiA (codeOf Tryz.f105) [false,true,false,true,true,true,true] Zia:=by
 intro c hc ih Q e w a hr h
 have hcc:sub (codeOf Tryz.f105) [false,false,true,false,true,true,true,true]=c:=Zaf hc
 obtain⟨f,s,h,hrep⟩:=ZgY e a _ hr h
 obtain⟨J,μ,hj,hround⟩:=h
 refine Zad Zan Zag ih ZdF Zcj ZgY hc f J μ (Kr:=fun e w=>Zen e fun f1 t8=>f1=f∧Q .ret [⟨8,.bool t8,none⟩] w) (Kx:=fun id e w=>match Nat.beq id 1 with | true=>(Ze5 e fun f1=>f1=f∧Q (.exit 1) [] w) | false=>False) ?_ ?_ ?_ s w a hj hrep
 ·intro e a w hr h0
  unfold Zen at h0
  obtain⟨sx_1,g0,h1⟩:=Zar h0
  obtain⟨seen_1,g3,h2⟩:=Zit h1
  obtain⟨a,g5,h3⟩:=Zap h2
  obtain⟨b,g6,h4⟩:=Zap h3
  obtain⟨t8,g8,h5⟩:=Zjx h4
  obtain⟨hf,hq⟩:=h5
  subst hf
  exact⟨_,Zac hr (by simp [g8]),hq⟩
 ·intro id e a w hr h0
  (try dsimp only at h0)
  split at h0
  ·rename_i hid
   obtain rfl:=Nat.eq_of_beq_eq_true hid
   unfold Ze5 at h0
   obtain⟨sx_1,g0,h1⟩:=Zar h0
   obtain⟨seen_1,g3,h2⟩:=Zit h1
   obtain⟨a,g5,h3⟩:=Zap h2
   obtain⟨b,g6,h4⟩:=Zap h3
   obtain⟨hf,hq⟩:=h4
   subst hf
   exact⟨_,Zac hr (by simp),hq⟩
  ·exact h0.elim
 ·intro s w hj
  have hb:=hround s w hj
  rw[←hcc]
  have e1:=ZmC f s w (fun f1 s1 w1=>f1=f∧J s1 w1∧μ s1 w1<μ s w) (fun f1 w1=>f1=f∧Q (.exit 1) [] w1) (fun f1 t8 w1=>f1=f∧Q .ret [⟨8,.bool t8,none⟩] w1)
  simp only[true_and] at e1
  exact cast e1 hb
theorem ZnK:LoopOk Tryz.prog Tryz.f105.ntmps ZiA (codeOf Tryz.f105):=Zal rfl ⟨Znr,trivial⟩
theorem Zbo.of {sx:Option Addr} {a0:Int} {a1:Int} {a2:ByteArray} {a3P:Option Addr} {a3N:Nat} {a3C:Nat} {b0:Int} {b1:Int} {b2:ByteArray} {b3P:Option Addr} {b3N:Nat} {b3C:Nat} {seen:Option Nat} {w:World} {R:Bool→World→Prop} (h:Ziw sx a0 a1 a2 a3P a3N a3C b0 b1 b2 b3P b3N b3C seen w R):Zbo sx a0 a1 a2 a3P a3N a3C b0 b1 b2 b3P b3N b3C seen w R:=ofS2 (Fm:=Ziw sx a0 a1 a2 a3P a3N a3C b0 b1 b2 b3P b3N b3C seen w) Tryz.func105 (by kernel_rfl) ZnK rfl (fun _=>by kernel_rfl) h
structure Zbf where
 mk ::
def ZgZ (sx_1:Option Addr) (n_1:Int) (s:Zbf) (w:World) (Kn:Zbf→World→Prop) (Kx0:World→Prop):Prop:=
 NN sx_1 fun a=>
 ∃LP LN LC,w.cell? (a.add 0)=some (.slice LP LN LC)∧
 If (decide ((LN:Int)>n_1))
 (NN sx_1 fun a_1=>
 ∃At,(drw w).cell? (a_1.add 1)=some (.map At)∧
 NN sx_1 fun a_2=>
 ∃LP_1 LN_1 LC_1,(drw w).cell? (a_2.add 0)=some (.slice LP_1 LN_1 LC_1)∧
 NN sx_1 fun a_3=>
 ∃LP_2 LN_2 LC_2,(drw w).cell? (a_3.add 0)=some (.slice LP_2 LN_2 LC_2)∧
 0≤(IntKind.i64.wrap ((LN_2:Int)-(1:Int)))∧(IntKind.i64.wrap ((LN_2:Int)-(1:Int)))<(LN_1:Int)∧NN LP_1 fun a_4=>
 ∃N,(drw w).cell? ((a_4.add ((IntKind.i64.wrap ((LN_2:Int)-(1:Int))).toNat*5)).add 0)=some (.int .i64 N)∧
 Del Tryz.prog #[150,3] 0 #[.map At,.int .i64 N] (drw w) fun v w1=>
 NN sx_1 fun a_5=>
 ∃LP_3 LN_3 LC_3,(drw w1).cell? (a_5.add 0)=some (.slice LP_3 LN_3 LC_3)∧
 NN sx_1 fun a_6=>
 ∃LP_4 LN_4 LC_4,(drw w1).cell? (a_6.add 0)=some (.slice LP_4 LN_4 LC_4)∧
 0≤(IntKind.i64.wrap ((LN_4:Int)-(1:Int)))∧(IntKind.i64.wrap ((LN_4:Int)-(1:Int)))≤(LC_3:Int)∧
 NN sx_1 fun a_7=>
 St (drw w1) ((a_7.add 0).add 0) (.slice LP_3 ((IntKind.i64.wrap ((LN_4:Int)-(1:Int))).toNat) LC_3) fun w1_1=>
 Kn ⟨⟩ w1_1)
 (Kx0 w)
def ZgU (sx_1:Option Addr) (n_1:Int) (s:Zbf) (w:World) (Kx0:World→Prop):Prop:=
 LoopS (fun s w Kn=>ZgZ sx_1 n_1 s w Kn Kx0) s w
def ZjD (sx:Option Addr) (n:Int) (w:World) (R:World→Prop):Prop:=
 ZgU sx n ⟨⟩ w
 (fun w1_2=>
 R w1_2)
def Zd3 (f:(Option Addr)×Int) (s:Zbf):Env:=[⟨0,.pointer f.1,none⟩,⟨1,.int .i64 f.2,none⟩]
def ZcH (e:Env) (K:((Option Addr)×Int)→Zbf→Prop):Prop:=
 oP e 0 fun sx_1=>
 oI e 1 .i64 fun n_1=>
  K (sx_1,n_1) ⟨⟩
theorem ZhE {N:Nat} (e:Env) (a:Act) (K:((Option Addr)×Int)→Zbf→Prop) (hr:Rep N a e) (h0:ZcH e K):∃f s,K f s∧Rep N a (Zd3 f s):=by
 unfold ZcH at h0
 obtain⟨sx_1,g0,h1⟩:=Zar h0
 obtain⟨n_1,g1,h2⟩:=Zab h1
 exact⟨_,_,h2,Zac hr (by simp [Zd3,g0,g1])⟩
def Zjf (Q:Post) (e:Env) (w:World):Prop:=
 ZcH e fun f s=>ZgU f.1 f.2 s w (fun w1=>Q (.exit 0) [] w1)
def Zju:Gen where
 loop:=lookL [([false],Zjf)]
 plan:=fun id=>
  bif Nat.beq id 1 then some ([0,1,3,7,0,16,48,112,0,256,768,1792,3840,7936,16368,32752,65520,131071],.take 0 (.take 1 (.take 2 (.take 3 (.take 4 (.take 5 (.take 6 (.take 7 (.take 8 (.take 9 (.take 10 (.take 11 (.take 12 (.take 13 (.take 14 (.take 15 (.take 16 (.take 17 .done)))))))))))))))))) else
  bif Nat.beq id 2 then some ([0,0,2,6,14,0,32,96,224,480,992,2046,4095,8191,16383],.take 0 (.take 1 (.take 2 (.take 3 (.take 4 (.take 5 (.take 6 (.take 7 (.take 8 (.take 9 (.take 10 (.take 11 (.take 12 (.take 13 (.take 14 .done))))))))))))))) else none
def ZfF (e:Env) (K:((Option Addr)×Int)→Prop):Prop:=
 oP e 0 fun sx_1=>
 oI e 1 .i64 fun n_1=>
  K (sx_1,n_1)
theorem Zm3 (f:(Option Addr)×Int) (s:Zbf) (w:World) (Kn:((Option Addr)×Int)→Zbf→World→Prop) (Kx0:((Option Addr)×Int)→World→Prop) :
  ZgZ f.1 f.2 s w (fun s1 w1=>Kn f s1 w1) (fun w1=>Kx0 f w1) =
  den Tryz.prog Tryz.f106.ntmps Zju (sub (codeOf Tryz.f106) [false,false]) [false,false] (roundQ (fun e w=>ZcH e fun f s=>Kn f s w) (fun e w=>False) (fun id e w=>match Nat.beq id 0 with | true=>ZfF e fun f=>Kx0 f w | false=>False)) (Zd3 f s) w:=by kernel_rfl
theorem Zoa:OneOk Tryz.prog Tryz.f106.ntmps Zju (codeOf Tryz.f106) [false] Zjf:=by
 intro c hc ih Q e w a hr h
 have hcc:sub (codeOf Tryz.f106) [false,false]=c:=Zaf hc
 obtain⟨f,s,h,hrep⟩:=ZhE e a _ hr h
 obtain⟨J,μ,hj,hround⟩:=h
 refine Zad Zan Zag ih Zd3 ZcH ZhE hc f J μ (Kr:=fun e w=>False) (Kx:=fun id e w=>match Nat.beq id 0 with | true=>(ZfF e fun f1=>f1=f∧Q (.exit 0) [] w) | false=>False) ?_ ?_ ?_ s w a hj hrep
 ·intro e a w hr h
  exact h.elim
 ·intro id e a w hr h0
  (try dsimp only at h0)
  split at h0
  ·rename_i hid
   obtain rfl:=Nat.eq_of_beq_eq_true hid
   unfold ZfF at h0
   obtain⟨sx_1,g0,h1⟩:=Zar h0
   obtain⟨n_1,g1,h2⟩:=Zab h1
   obtain⟨hf,hq⟩:=h2
   subst hf
   exact⟨_,Zac hr (by simp),hq⟩
  ·exact h0.elim
 ·intro s w hj
  have hb:=hround s w hj
  rw[←hcc]
  have e1:=Zm3 f s w (fun f1 s1 w1=>f1=f∧J s1 w1∧μ s1 w1<μ s w) (fun f1 w1=>f1=f∧Q (.exit 0) [] w1)
  simp only[true_and] at e1
  exact cast e1 hb
theorem Zn0:LoopOk Tryz.prog Tryz.f106.ntmps Zju (codeOf Tryz.f106):=Zal rfl ⟨Zoa,trivial⟩
theorem Za6.of {sx:Option Addr} {n:Int} {w:World} {R:World→Prop} (h:ZjD sx n w R):Za6 sx n w R:=ofS1 (Fm:=ZjD sx n w) Tryz.func106 (by kernel_rfl) Zn0 rfl (fun _=>by kernel_rfl) h
def Zij (sx:Option Addr) (t0:Int) (t1:Int) (t2:ByteArray) (t3P:Option Addr) (t3N:Nat) (t3C:Nat) (w:World) (R:Int→Int→ByteArray→Option Addr→Nat→Nat→Int→World→Prop):Prop:=
 New w (.cells #[.int .i64 t0,.int .i64 t1,.string t2,.slice t3P t3N t3C] 31) fun r w1=>
 New w1 (.cells #[.int .i64 0,.int .i64 0,.string ⟨#[]⟩,.slice none 0 0] 31) fun r_1 w1_1=>
 ∃t80,w1_1.cell? (Addr.add ⟨r,0,none⟩ 0)=some (.int .i64 t80)∧
 ∃t81,w1_1.cell? (Addr.add ⟨r,0,none⟩ 1)=some (.int .i64 t81)∧
 ∃t82,w1_1.cell? (Addr.add ⟨r,0,none⟩ 2)=some (.string t82)∧
 ∃t83P t83N t83C,w1_1.cell? (Addr.add ⟨r,0,none⟩ 3)=some (.slice t83P t83N t83C)∧
 Zbl sx t80 t81 t82 t83P t83N t83C (0:Int) w1_1 fun t9 w1_2=>
 If (decide (t9>(4096:Int)))
 (St w1_2 (Addr.add ⟨r_1,0,none⟩ 0) (.int .i64 0) fun w1_3=>
 St w1_3 (Addr.add ⟨r_1,0,none⟩ 1) (.int .i64 0) fun w1_4=>
 St w1_4 (Addr.add ⟨r_1,0,none⟩ 2) (.string ⟨#[]⟩) fun w1_5=>
 St w1_5 (Addr.add ⟨r_1,0,none⟩ 3) (.slice none 0 0) fun w1_6=>
 ∃r_2,w1_6.cell? (Addr.add ⟨r_1,0,none⟩ 0)=some (.int .i64 r_2)∧
 ∃r_3,w1_6.cell? (Addr.add ⟨r_1,0,none⟩ 1)=some (.int .i64 r_3)∧
 ∃r_4,w1_6.cell? (Addr.add ⟨r_1,0,none⟩ 2)=some (.string r_4)∧
 ∃rP rN rC,w1_6.cell? (Addr.add ⟨r_1,0,none⟩ 3)=some (.slice rP rN rC)∧
 R r_2 r_3 r_4 rP rN rC (62:Int) w1_6)
 (∃t130,w1_2.cell? (Addr.add ⟨r,0,none⟩ 0)=some (.int .i64 t130)∧
 ∃t131,w1_2.cell? (Addr.add ⟨r,0,none⟩ 1)=some (.int .i64 t131)∧
 ∃t132,w1_2.cell? (Addr.add ⟨r,0,none⟩ 2)=some (.string t132)∧
 ∃t133P t133N t133C,w1_2.cell? (Addr.add ⟨r,0,none⟩ 3)=some (.slice t133P t133N t133C)∧
 Zbn sx t130 t131 t132 t133P t133N t133C w1_2 fun t140 t141 t142 t143P t143N t143C w1_7=>
 New w1_7 (.cells #[.int .i64 0,.int .i64 0,.string ⟨#[]⟩,.slice none 0 0] 31) fun r_5 w1_8=>
 St w1_8 (Addr.add ⟨r_5,0,none⟩ 0) (.int .i64 t140) fun w1_9=>
 St w1_9 (Addr.add ⟨r_5,0,none⟩ 1) (.int .i64 t141) fun w1_10=>
 St w1_10 (Addr.add ⟨r_5,0,none⟩ 2) (.string t142) fun w1_11=>
 St w1_11 (Addr.add ⟨r_5,0,none⟩ 3) (.slice t143P t143N t143C) fun w1_12=>
 ∃t150,w1_12.cell? (Addr.add ⟨r_5,0,none⟩ 0)=some (.int .i64 t150)∧
 ∃t151,w1_12.cell? (Addr.add ⟨r_5,0,none⟩ 1)=some (.int .i64 t151)∧
 ∃t152,w1_12.cell? (Addr.add ⟨r_5,0,none⟩ 2)=some (.string t152)∧
 ∃t153P t153N t153C,w1_12.cell? (Addr.add ⟨r_5,0,none⟩ 3)=some (.slice t153P t153N t153C)∧
 Zdb t150 t151 t152 t153P t153N t153C w1_12 fun t16 w1_13=>
 If (decide (t16>(200:Int)))
 (St w1_13 (Addr.add ⟨r_1,0,none⟩ 0) (.int .i64 0) fun w1_14=>
 St w1_14 (Addr.add ⟨r_1,0,none⟩ 1) (.int .i64 0) fun w1_15=>
 St w1_15 (Addr.add ⟨r_1,0,none⟩ 2) (.string ⟨#[]⟩) fun w1_16=>
 St w1_16 (Addr.add ⟨r_1,0,none⟩ 3) (.slice none 0 0) fun w1_17=>
 ∃r_6,w1_17.cell? (Addr.add ⟨r_1,0,none⟩ 0)=some (.int .i64 r_6)∧
 ∃r_7,w1_17.cell? (Addr.add ⟨r_1,0,none⟩ 1)=some (.int .i64 r_7)∧
 ∃r_8,w1_17.cell? (Addr.add ⟨r_1,0,none⟩ 2)=some (.string r_8)∧
 ∃rP_1 rN_1 rC_1,w1_17.cell? (Addr.add ⟨r_1,0,none⟩ 3)=some (.slice rP_1 rN_1 rC_1)∧
 R r_6 r_7 r_8 rP_1 rN_1 rC_1 (61:Int) w1_17)
 (∃t190,w1_13.cell? (Addr.add ⟨r_5,0,none⟩ 0)=some (.int .i64 t190)∧
 ∃t191,w1_13.cell? (Addr.add ⟨r_5,0,none⟩ 1)=some (.int .i64 t191)∧
 ∃t192,w1_13.cell? (Addr.add ⟨r_5,0,none⟩ 2)=some (.string t192)∧
 ∃t193P t193N t193C,w1_13.cell? (Addr.add ⟨r_5,0,none⟩ 3)=some (.slice t193P t193N t193C)∧
 St w1_13 (Addr.add ⟨r_1,0,none⟩ 0) (.int .i64 t190) fun w1_18=>
 St w1_18 (Addr.add ⟨r_1,0,none⟩ 1) (.int .i64 t191) fun w1_19=>
 St w1_19 (Addr.add ⟨r_1,0,none⟩ 2) (.string t192) fun w1_20=>
 St w1_20 (Addr.add ⟨r_1,0,none⟩ 3) (.slice t193P t193N t193C) fun w1_21=>
 ∃r_9,w1_21.cell? (Addr.add ⟨r_1,0,none⟩ 0)=some (.int .i64 r_9)∧
 ∃r_10,w1_21.cell? (Addr.add ⟨r_1,0,none⟩ 1)=some (.int .i64 r_10)∧
 ∃r_11,w1_21.cell? (Addr.add ⟨r_1,0,none⟩ 2)=some (.string r_11)∧
 ∃rP_2 rN_2 rC_2,w1_21.cell? (Addr.add ⟨r_1,0,none⟩ 3)=some (.slice rP_2 rN_2 rC_2)∧
 R r_9 r_10 r_11 rP_2 rN_2 rC_2 (0:Int) w1_21))
theorem Zbj.of {sx:Option Addr} {t0:Int} {t1:Int} {t2:ByteArray} {t3P:Option Addr} {t3N:Nat} {t3C:Nat} {w:World} {R:Int→Int→ByteArray→Option Addr→Nat→Nat→Int→World→Prop} (h:Zij sx t0 t1 t2 t3P t3N t3C w R):Zbj sx t0 t1 t2 t3P t3N t3C w R:=ofS17 (Fm:=Zij sx t0 t1 t2 t3P t3N t3C w) Tryz.func107 (by kernel_rfl) (L0 Tryz.f107) rfl (fun _=>by kernel_rfl) h
def Zgc (t:Option Addr) (namex:ByteArray) (R:Int→Int→World→Prop) (idx:Int) (w1_9:World):Prop:=
 NN t fun a_12=>
 ∃ids_1,w1_9.cell? (a_12.add 6)=some (.map ids_1)∧
 MUp Tryz.prog 188 (.map ids_1) (.string namex) (.int .i64 idx) w1_9 fun w1_10=>
 NN t fun a_13=>
 ZaK (some (a_13.add 3)) (1:Int) w1_10 fun t87 w1_11=>
 R idx (0:Int) w1_11
def ZiJ (t:Option Addr) (namex:ByteArray) (w:World) (R:Int→Int→World→Prop):Prop:=
 ZaJ t w fun t10 w1=>
 If (!t10)
 (R (0:Int) (6:Int) w1)
 (If (decide ((namex.size:Int)>(64:Int)))
 (R (0:Int) (3:Int) w1)
 (NN t fun a=>
 ∃ids,w1.cell? (a.add 6)=some (.map ids)∧
 Run Tryz.prog (Instr.lookup 188 (.map ids) (.string namex) true) w1 fun v w1_1=>∃t210:Int,∃t211:Bool,v=(.tuple #[.int .i64 t210,.bool t211])∧
 If t211
 (R t210 (0:Int) w1_1)
 (NN t fun a_1=>
 ∃lP lN lC,w1_1.cell? (a_1.add 5)=some (.slice lP lN lC)∧
 NN t fun a_2=>
 ∃freeP freeN freeC,w1_1.cell? (a_2.add 7)=some (.slice freeP freeN freeC)∧
 If (decide ((freeN:Int)>(0:Int)))
 (NN t fun a_3=>
 ∃freeP_1 freeN_1 freeC_1,w1_1.cell? (a_3.add 7)=some (.slice freeP_1 freeN_1 freeC_1)∧
 0≤(0:Int)∧(0:Int)<(freeN_1:Int)∧NN freeP_1 fun a_4=>
 ∃t54,w1_1.cell? (a_4.add ((0:Int).toNat*1))=some (.int .i64 t54)∧
 NN t fun a_5=>
 ∃freeP_2 freeN_2 freeC_2,w1_1.cell? (a_5.add 7)=some (.slice freeP_2 freeN_2 freeC_2)∧
 0≤(1:Int)∧(1:Int)≤(freeN_2:Int)∧
 NN t fun a_6=>
 St w1_1 ((a_6.add 7).add 0) (.slice (adv freeP_2 freeC_2 (1:Int).toNat 1) (freeN_2-(1:Int).toNat) (freeC_2-(1:Int).toNat)) fun w1_2=>
 NN t fun a_7=>
 ∃lP_1 lN_1 lC_1,w1_2.cell? (a_7.add 5)=some (.slice lP_1 lN_1 lC_1)∧
 0≤t54∧t54<(lN_1:Int)∧NN lP_1 fun a_8=>
 St w1_2 ((a_8.add (t54.toNat*3)).add 0) (.string namex) fun w1_3=>
 St w1_3 ((a_8.add (t54.toNat*3)).add 1) (.bool true) fun w1_4=>
 St w1_4 ((a_8.add (t54.toNat*3)).add 2) (.bool false) fun w1_5=>
 Zgc t namex R t54 w1_5)
 (NN t fun a_9=>
 ∃limitx,w1_1.cell? (a_9.add 4)=some (.int .i64 limitx)∧
 If (decide ((lN:Int)≥limitx))
 (R (0:Int) (2:Int) w1_1)
 (NN t fun a_10=>
 ∃lP_2 lN_2 lC_2,w1_1.cell? (a_10.add 5)=some (.slice lP_2 lN_2 lC_2)∧
 BSl Tryz.prog 187 1 [(0,.agg #[.string namex,.bool true,.bool false])] w1_1 fun t38P t38N t38C w1_6=>
 App Tryz.prog #[187,187] 187 #[.slice lP_2 lN_2 lC_2,.slice t38P t38N t38C] w1_6 fun t39P t39N t39C w1_7=>
 NN t fun a_11=>
 St w1_7 ((a_11.add 5).add 0) (.slice t39P t39N t39C) fun w1_8=>
 Zgc t namex R (lN:Int) w1_8)))))
theorem ZaE.of {t:Option Addr} {namex:ByteArray} {w:World} {R:Int→Int→World→Prop} (h:ZiJ t namex w R):ZaE t namex w R:=ofS12 (Fm:=ZiJ t namex w) Tryz.func108 (by kernel_rfl) (L0 Tryz.f108) rfl (fun _=>by kernel_rfl) h
def Zjr (R:Int→Int→World→Prop) (t130:Int) (t131:Int) (w1_3:World):Prop:=
 R t130 t131 w1_3
def Zmi (m:Option Addr) (w:World) (R:Int→Int→World→Prop):Prop:=
 Za1 m w fun t8 w1=>
 Zdm m (IntKind.i64.wrap (t8-(1:Int))) w1 fun t130 t131 w1_1=>
 If (t131==(0:Int))
 (NN m fun a=>
 ∃lP lN lC,w1_1.cell? (a.add 0)=some (.slice lP lN lC)∧
 0≤(IntKind.i64.wrap (t8-(1:Int)))∧(IntKind.i64.wrap (t8-(1:Int)))≤(lC:Int)∧
 NN m fun a_1=>
 St w1_1 ((a_1.add 0).add 0) (.slice lP ((IntKind.i64.wrap (t8-(1:Int))).toNat) lC) fun w1_2=>
 Zjr R t130 t131 w1_2)
 (Zjr R t130 t131 w1_1)
theorem Zdy.of {m:Option Addr} {w:World} {R:Int→Int→World→Prop} (h:Zmi m w R):Zdy m w R:=ofS5 (Fm:=Zmi m w) Tryz.func109 (by kernel_rfl) (L0 Tryz.f109) rfl (fun _=>by kernel_rfl) h
structure ZaG where
 i:Int
 j:Int
def Zfy (R:Int→Bool→World→Prop) (i_2:Int) (w1_4:World):Prop:=
 R i_2 false w1_4
def ZfB (xP_1:Option Addr) (xN_1:Nat) (xC_1:Nat) (target_1:Int) (n:Int) (s:ZaG) (w:World) (Kn:ZaG→World→Prop) (Kx0:Int→World→Prop):Prop:=
 If (decide (s.i<s.j))
 (0≤(1:Int)∧
 0≤(IntKind.i64.wrap (shrI .u64 (IntKind.u64.wrap (IntKind.i64.wrap (s.i+s.j))) (1:Int)))∧(IntKind.i64.wrap (shrI .u64 (IntKind.u64.wrap (IntKind.i64.wrap (s.i+s.j))) (1:Int)))<(xN_1:Int)∧NN xP_1 fun a=>
 ∃t25,w.cell? (a.add ((IntKind.i64.wrap (shrI .u64 (IntKind.u64.wrap (IntKind.i64.wrap (s.i+s.j))) (1:Int))).toNat*1))=some (.int .i64 t25)∧
 Zi3 t25 target_1 w fun t27 w1=>
 If t27
 (Kn ⟨(IntKind.i64.wrap ((IntKind.i64.wrap (shrI .u64 (IntKind.u64.wrap (IntKind.i64.wrap (s.i+s.j))) (1:Int)))+(1:Int))),s.j⟩ w1)
 (Kn ⟨s.i,(IntKind.i64.wrap (shrI .u64 (IntKind.u64.wrap (IntKind.i64.wrap (s.i+s.j))) (1:Int)))⟩ w1))
 (Kx0 s.i w)
def Zfo (xP_1:Option Addr) (xN_1:Nat) (xC_1:Nat) (target_1:Int) (n:Int) (s:ZaG) (w:World) (Kx0:Int→World→Prop):Prop:=
 LoopS (fun s w Kn=>ZfB xP_1 xN_1 xC_1 target_1 n s w Kn Kx0) s w
def ZgJ (xP:Option Addr) (xN:Nat) (xC:Nat) (target:Int) (w:World) (R:Int→Bool→World→Prop):Prop:=
 Zfo xP xN xC target (xN:Int) ⟨(0:Int),(xN:Int)⟩ w
 (fun i_2 w1_1=>
 If (decide (i_2<(xN:Int)))
 (0≤i_2∧i_2<(xN:Int)∧NN xP fun a_1=>
 ∃t39,w1_1.cell? (a_1.add (i_2.toNat*1))=some (.int .i64 t39)∧
 If (t39==target)
 (R i_2 true w1_1)
 (0≤i_2∧i_2<(xN:Int)∧NN xP fun a_2=>
 ∃t46,w1_1.cell? (a_2.add (i_2.toNat*1))=some (.int .i64 t46)∧
 Zec t46 w1_1 fun t47 w1_2=>
 If t47
 (Zec target w1_2 fun t50 w1_3=>
 R i_2 t50 w1_3)
 (Zfy R i_2 w1_2)))
 (Zfy R i_2 w1_1))
def Zc2 (f:(Option Addr)×Nat×Nat×Int×Int) (s:ZaG):Env:=[⟨0,.slice f.1 f.2.1 f.2.2.1,none⟩,⟨1,.int .i64 f.2.2.2.1,none⟩,⟨6,.int .i64 f.2.2.2.2,none⟩,⟨7,.int .i64 s.i,none⟩,⟨8,.int .i64 s.j,none⟩]
def ZbZ (e:Env) (K:((Option Addr)×Nat×Nat×Int×Int)→ZaG→Prop):Prop:=
 oS e 0 fun xP_1 xN_1 xC_1=>
 oI e 1 .i64 fun target_1=>
 oI e 6 .i64 fun n=>
 oI e 7 .i64 fun i=>
 oI e 8 .i64 fun j=>
  K (xP_1,xN_1,xC_1,target_1,n) ⟨i,j⟩
theorem Zf5 {N:Nat} (e:Env) (a:Act) (K:((Option Addr)×Nat×Nat×Int×Int)→ZaG→Prop) (hr:Rep N a e) (h0:ZbZ e K):∃f s,K f s∧Rep N a (Zc2 f s):=by
 unfold ZbZ at h0
 obtain⟨xP_1,xN_1,xC_1,g0,h1⟩:=Zae h0
 obtain⟨target_1,g1,h2⟩:=Zab h1
 obtain⟨n,g6,h3⟩:=Zab h2
 obtain⟨i,g7,h4⟩:=Zab h3
 obtain⟨j,g8,h5⟩:=Zab h4
 exact⟨_,_,h5,Zac hr (by simp [Zc2,g0,g1,g6,g7,g8])⟩
def Zg0 (Q:Post) (e:Env) (w:World):Prop:=
 ZbZ e fun f s=>Zfo f.1 f.2.1 f.2.2.1 f.2.2.2.1 f.2.2.2.2 s w (fun i_1 w1=>Q (.exit 0) [⟨0,.slice f.1 f.2.1 f.2.2.1,none⟩,⟨1,.int .i64 f.2.2.2.1,none⟩,⟨6,.int .i64 f.2.2.2.2,none⟩,⟨7,.int .i64 i_1,none⟩] w1)
def Zhc:Gen where
 loop:=lookL [([false,false,true,true,true],Zg0)]
 plan:=fun _=>none
def Zes (e:Env) (K:((Option Addr)×Nat×Nat×Int×Int)→Int→Prop):Prop:=
 oS e 0 fun xP_1 xN_1 xC_1=>
 oI e 1 .i64 fun target_1=>
 oI e 6 .i64 fun n=>
 oI e 7 .i64 fun i_1=>
  K (xP_1,xN_1,xC_1,target_1,n) i_1
theorem Zmr (f:(Option Addr)×Nat×Nat×Int×Int) (s:ZaG) (w:World) (Kn:((Option Addr)×Nat×Nat×Int×Int)→ZaG→World→Prop) (Kx0:((Option Addr)×Nat×Nat×Int×Int)→Int→World→Prop) :
  ZfB f.1 f.2.1 f.2.2.1 f.2.2.2.1 f.2.2.2.2 s w (fun s1 w1=>Kn f s1 w1) (fun i_1 w1=>Kx0 f i_1 w1) =
  den Tryz.prog Tryz.f114.ntmps Zhc (sub (codeOf Tryz.f114) [false,false,false,true,true,true]) [false,false,false,true,true,true] (roundQ (fun e w=>ZbZ e fun f s=>Kn f s w) (fun e w=>False) (fun id e w=>match Nat.beq id 0 with | true=>Zes e fun f i_1=>Kx0 f i_1 w | false=>False)) (Zc2 f s) w:=by kernel_rfl
theorem ZmK:OneOk Tryz.prog Tryz.f114.ntmps Zhc (codeOf Tryz.f114) [false,false,true,true,true] Zg0:=by
 intro c hc ih Q e w a hr h
 have hcc:sub (codeOf Tryz.f114) [false,false,false,true,true,true]=c:=Zaf hc
 obtain⟨f,s,h,hrep⟩:=Zf5 e a _ hr h
 obtain⟨J,μ,hj,hround⟩:=h
 refine Zad Zan Zag ih Zc2 ZbZ Zf5 hc f J μ (Kr:=fun e w=>False) (Kx:=fun id e w=>match Nat.beq id 0 with | true=>(Zes e fun f1 i_1=>f1=f∧Q (.exit 0) [⟨0,.slice f.1 f.2.1 f.2.2.1,none⟩,⟨1,.int .i64 f.2.2.2.1,none⟩,⟨6,.int .i64 f.2.2.2.2,none⟩,⟨7,.int .i64 i_1,none⟩] w) | false=>False) ?_ ?_ ?_ s w a hj hrep
 ·intro e a w hr h
  exact h.elim
 ·intro id e a w hr h0
  (try dsimp only at h0)
  split at h0
  ·rename_i hid
   obtain rfl:=Nat.eq_of_beq_eq_true hid
   unfold Zes at h0
   obtain⟨xP_1,xN_1,xC_1,g0,h1⟩:=Zae h0
   obtain⟨target_1,g1,h2⟩:=Zab h1
   obtain⟨n,g6,h3⟩:=Zab h2
   obtain⟨i_1,g7,h4⟩:=Zab h3
   obtain⟨hf,hq⟩:=h4
   subst hf
   exact⟨_,Zac hr (by simp [g0,g1,g6,g7]),hq⟩
  ·exact h0.elim
 ·intro s w hj
  have hb:=hround s w hj
  rw[←hcc]
  have e1:=Zmr f s w (fun f1 s1 w1=>f1=f∧J s1 w1∧μ s1 w1<μ s w) (fun f1 i_1 w1=>f1=f∧Q (.exit 0) [⟨0,.slice f.1 f.2.1 f.2.2.1,none⟩,⟨1,.int .i64 f.2.2.2.1,none⟩,⟨6,.int .i64 f.2.2.2.2,none⟩,⟨7,.int .i64 i_1,none⟩] w1)
  simp only[true_and] at e1
  exact cast e1 hb
theorem ZmN:LoopOk Tryz.prog Tryz.f114.ntmps Zhc (codeOf Tryz.f114):=Zal rfl ⟨ZmK,trivial⟩
theorem ZbO.of {xP:Option Addr} {xN:Nat} {xC:Nat} {target:Int} {w:World} {R:Int→Bool→World→Prop} (h:ZgJ xP xN xC target w R):ZbO xP xN xC target w R:=ofS18 (Fm:=ZgJ xP xN xC target w) Tryz.func114 (by kernel_rfl) ZmN rfl (fun _=>by kernel_rfl) h
def ZlU (w:World) (R:Option Addr→Nat→Nat→World→Prop):Prop:=
 BSl Tryz.prog 170 15 [(0,.string ⟨#[91,93]⟩),(1,.string ⟨#[46]⟩),(2,.string ⟨#[123,125]⟩),(3,.string ⟨#[45]⟩),(4,.string ⟨#[44]⟩),(5,.string ⟨#[59]⟩),(6,.string ⟨#[45,62]⟩),(7,.string ⟨#[58,45]⟩),(8,.string ⟨#[124]⟩),(9,.string ⟨#[33]⟩),(10,.string ⟨#[92,43]⟩),(11,.string ⟨#[116,114,117,101]⟩),(12,.string ⟨#[102,97,105,108]⟩),(13,.string ⟨#[99,97,108,108]⟩),(14,.string ⟨#[101,114,114,111,114]⟩)] w fun t1P t1N t1C w1=>
 R t1P t1N t1C w1
theorem ZcI.of {w:World} {R:Option Addr→Nat→Nat→World→Prop} (h:ZlU w R):ZcI w R:=ofS6 (Fm:=ZlU w) Tryz.func115 (by kernel_rfl) (L0 Tryz.f115) rfl (fun _=>by kernel_rfl) h
def Zj0 (R:Bool→World→Prop) (w1_1:World):Prop:=
 R false w1_1
def ZjC (R:Bool→World→Prop) (w1_2:World):Prop:=
 R false w1_2
def Zl5 (R:Bool→World→Prop) (w1_3:World):Prop:=
 R false w1_3
def ZjO (R:Bool→World→Prop) (w1_4:World):Prop:=
 R false w1_4
def Zom (t0:Int) (t1:Int) (t2:ByteArray) (t3P:Option Addr) (t3N:Nat) (t3C:Nat) (w:World) (R:Bool→World→Prop):Prop:=
 New w (.cells #[.int .i64 t0,.int .i64 t1,.string t2,.slice t3P t3N t3C] 31) fun r w1=>
 ∃Kind,w1.cell? (Addr.add ⟨r,0,none⟩ 0)=some (.int .i64 Kind)∧
 If (Kind==(1:Int))
 (∃N,w1.cell? (Addr.add ⟨r,0,none⟩ 1)=some (.int .i64 N)∧
 If (decide (N≥(0:Int)))
 (∃N_1,w1.cell? (Addr.add ⟨r,0,none⟩ 1)=some (.int .i64 N_1)∧
 If (decide (N_1<(1073741824:Int)))
 (∃S,w1.cell? (Addr.add ⟨r,0,none⟩ 2)=some (.string S)∧
 If (S.toList==(⟨#[]⟩:ByteArray).toList)
 (∃LP LN LC,w1.cell? (Addr.add ⟨r,0,none⟩ 3)=some (.slice LP LN LC)∧
 R ((LN:Int)==(0:Int)) w1)
 (Zj0 R w1))
 (Zj0 R w1))
 (Zj0 R w1))
 (If (Kind==(2:Int))
 (∃N_2,w1.cell? (Addr.add ⟨r,0,none⟩ 1)=some (.int .i64 N_2)∧
 If (decide (N_2≥(-9007199254740991)))
 (∃N_3,w1.cell? (Addr.add ⟨r,0,none⟩ 1)=some (.int .i64 N_3)∧
 If (decide (N_3≤(9007199254740991:Int)))
 (∃S_1,w1.cell? (Addr.add ⟨r,0,none⟩ 2)=some (.string S_1)∧
 If (S_1.toList==(⟨#[]⟩:ByteArray).toList)
 (∃LP_1 LN_1 LC_1,w1.cell? (Addr.add ⟨r,0,none⟩ 3)=some (.slice LP_1 LN_1 LC_1)∧
 R ((LN_1:Int)==(0:Int)) w1)
 (ZjC R w1))
 (ZjC R w1))
 (ZjC R w1))
 (If (Kind==(3:Int))
 (∃N_4,w1.cell? (Addr.add ⟨r,0,none⟩ 1)=some (.int .i64 N_4)∧
 If (N_4==(0:Int))
 (∃S_2,w1.cell? (Addr.add ⟨r,0,none⟩ 2)=some (.string S_2)∧
 If (decide ((S_2.size:Int)≤(64:Int)))
 (∃LP_2 LN_2 LC_2,w1.cell? (Addr.add ⟨r,0,none⟩ 3)=some (.slice LP_2 LN_2 LC_2)∧
 R ((LN_2:Int)==(0:Int)) w1)
 (Zl5 R w1))
 (Zl5 R w1))
 (If (Kind==(4:Int))
 (∃N_5,w1.cell? (Addr.add ⟨r,0,none⟩ 1)=some (.int .i64 N_5)∧
 If (N_5==(0:Int))
 (∃S_3,w1.cell? (Addr.add ⟨r,0,none⟩ 2)=some (.string S_3)∧
 If (decide ((S_3.size:Int)≤(64:Int)))
 (∃LP_3 LN_3 LC_3,w1.cell? (Addr.add ⟨r,0,none⟩ 3)=some (.slice LP_3 LN_3 LC_3)∧
 If (decide ((LN_3:Int)≥(1:Int)))
 (∃LP_4 LN_4 LC_4,w1.cell? (Addr.add ⟨r,0,none⟩ 3)=some (.slice LP_4 LN_4 LC_4)∧
 R (decide ((LN_4:Int)≤(16:Int))) w1)
 (ZjO R w1))
 (ZjO R w1))
 (ZjO R w1))
 (R false w1))))
theorem ZfG.of {t0:Int} {t1:Int} {t2:ByteArray} {t3P:Option Addr} {t3N:Nat} {t3C:Nat} {w:World} {R:Bool→World→Prop} (h:Zom t0 t1 t2 t3P t3N t3C w R):ZfG t0 t1 t2 t3P t3N t3C w R:=ofS2 (Fm:=Zom t0 t1 t2 t3P t3N t3C w) Tryz.func116 (by kernel_rfl) (L0 Tryz.f116) rfl (fun _=>by kernel_rfl) h
end Go.Proofs.YtdaenijbokialaaGreat
