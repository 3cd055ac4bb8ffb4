import Derived.Test.YtdaenijbokialaaGreatGenC
set_option maxRecDepth 100000
set_option linter.unusedVariables false
namespace Go.Proofs.YtdaenijbokialaaGreat
open Go Go.D Go.Proofs
def Zam (R:Bool→World→Prop) (w1_36:World):Prop:=
 R false w1_36
def Znv (w:World) (R:Bool→World→Prop):Prop:=
 ZeG (100:Int) (10:Int) w fun t220 t221 w1=>
 If (t221 != (0:Int))
 (R false w1)
 (If t220.isNone
 (R false w1)
 (New w1 (.map #[] 0) fun r w1_1=>
 ZdM (3:Int) w1_1 fun t320 t321 t322 t323P t323N t323C w1_2=>
 ZfX (-7) w1_2 fun t330 t331 t332 t333P t333N t333C w1_3=>
 ZdM (3:Int) w1_3 fun t340 t341 t342 t343P t343N t343C w1_4=>
 BSl Tryz.prog 22 3 [(0,.agg #[.int .i64 t320,.int .i64 t321,.string t322,.slice t323P t323N t323C]),(1,.agg #[.int .i64 t330,.int .i64 t331,.string t332,.slice t333P t333N t333C]),(2,.agg #[.int .i64 t340,.int .i64 t341,.string t342,.slice t343P t343N t343C])] w1_4 fun t35P t35N t35C w1_5=>
 Zee ⟨#[102]⟩ t35P t35N t35C w1_5 fun t360 t361 t362 t363P t363N t363C w1_6=>
 New w1_6 (.cells #[.int .i64 0,.int .i64 0,.string ⟨#[]⟩,.slice none 0 0] 31) fun r_1 w1_7=>
 St w1_7 (Addr.add ⟨r_1,0,none⟩ 0) (.int .i64 t360) fun w1_8=>
 St w1_8 (Addr.add ⟨r_1,0,none⟩ 1) (.int .i64 t361) fun w1_9=>
 St w1_9 (Addr.add ⟨r_1,0,none⟩ 2) (.string t362) fun w1_10=>
 St w1_10 (Addr.add ⟨r_1,0,none⟩ 3) (.slice t363P t363N t363C) fun w1_11=>
 ∃t390,w1_11.cell? (Addr.add ⟨r_1,0,none⟩ 0)=some (.int .i64 t390)∧
 ∃t391,w1_11.cell? (Addr.add ⟨r_1,0,none⟩ 1)=some (.int .i64 t391)∧
 ∃t392,w1_11.cell? (Addr.add ⟨r_1,0,none⟩ 2)=some (.string t392)∧
 ∃t393P t393N t393C,w1_11.cell? (Addr.add ⟨r_1,0,none⟩ 3)=some (.slice t393P t393N t393C)∧
 Za9 t220 t390 t391 t392 t393P t393N t393C (some r) w1_11 fun t410 t411 w1_12=>
 BSl Tryz.prog 36 1 [(0,.int .u64 t410)] w1_12 fun t47P t47N t47C w1_13=>
 Za5 t220 t47P t47N t47C w1_13 fun t480P t480N t480C t481P t481N t481C t482 w1_14=>
 ZbE t220 ⟨#[102]⟩ (3:Int) w1_14 fun t540 t541 w1_15=>
 Zdt t220 t540 (2:Int) w1_15 fun t600 t601 w1_16=>
 ZaB t220 t410 t540 w1_16 fun t670 t671 w1_17=>
 BSl Tryz.prog 36 1 [(0,.int .u64 t540)] w1_17 fun t73P t73N t73C w1_18=>
 Za5 t220 t73P t73N t73C w1_18 fun t740P t740N t740C t741P t741N t741C t742 w1_19=>
 ZeG (-1) (0:Int) w1_19 fun t790 t791 w1_20=>
 If (t411==(0:Int))
 (If (t482==(0:Int))
 (If ((t480N:Int)==(1:Int))
 (If ((t481N:Int)==(1:Int))
 (0≤(0:Int)∧(0:Int)<(t481N:Int)∧NN t481P fun a=>
 ∃t101,(drw w1_20).cell? (a.add ((0:Int).toNat*1))=some (.int .u64 t101)∧
 Run Tryz.prog (Instr.lookup 35 (.map (some r)) (.int .i64 3) false) (drw w1_20) fun v w1_21=>∃t103:Int,v=(.int .u64 t103)∧
 w1_21.cell? (a.add ((0:Int).toNat*1))=(drw w1_20).cell? (a.add ((0:Int).toNat*1))∧
 If (t101==t103)
 (0≤(0:Int)∧(0:Int)<(t480N:Int)∧NN t480P fun a_1=>
 ∃t1090,w1_21.cell? ((a_1.add ((0:Int).toNat*4)).add 0)=some (.int .i64 t1090)∧
 ∃t1091,w1_21.cell? ((a_1.add ((0:Int).toNat*4)).add 1)=some (.int .i64 t1091)∧
 ∃t1092,w1_21.cell? ((a_1.add ((0:Int).toNat*4)).add 2)=some (.string t1092)∧
 ∃t1093P t1093N t1093C,w1_21.cell? ((a_1.add ((0:Int).toNat*4)).add 3)=some (.slice t1093P t1093N t1093C)∧
 ZdM (0:Int) w1_21 fun t1100 t1101 t1102 t1103P t1103N t1103C w1_22=>
 (∀i_,i_<4→w1_22.cell? ((a_1.add ((0:Int).toNat*4)).add i_)=w1_21.cell? ((a_1.add ((0:Int).toNat*4)).add i_))∧
 ZfX (-7) w1_22 fun t1110 t1111 t1112 t1113P t1113N t1113C w1_23=>
 (∀i_,i_<4→w1_23.cell? ((a_1.add ((0:Int).toNat*4)).add i_)=w1_21.cell? ((a_1.add ((0:Int).toNat*4)).add i_))∧
 ZdM (0:Int) w1_23 fun t1120 t1121 t1122 t1123P t1123N t1123C w1_24=>
 (∀i_,i_<4→w1_24.cell? ((a_1.add ((0:Int).toNat*4)).add i_)=w1_21.cell? ((a_1.add ((0:Int).toNat*4)).add i_))∧
 BSl Tryz.prog 22 3 [(0,.agg #[.int .i64 t1100,.int .i64 t1101,.string t1102,.slice t1103P t1103N t1103C]),(1,.agg #[.int .i64 t1110,.int .i64 t1111,.string t1112,.slice t1113P t1113N t1113C]),(2,.agg #[.int .i64 t1120,.int .i64 t1121,.string t1122,.slice t1123P t1123N t1123C])] w1_24 fun t113P t113N t113C w1_25=>
 (∀i_,i_<4→w1_25.cell? ((a_1.add ((0:Int).toNat*4)).add i_)=w1_21.cell? ((a_1.add ((0:Int).toNat*4)).add i_))∧
 Zee ⟨#[102]⟩ t113P t113N t113C w1_25 fun t1140 t1141 t1142 t1143P t1143N t1143C w1_26=>
 (∀i_,i_<4→w1_26.cell? ((a_1.add ((0:Int).toNat*4)).add i_)=w1_21.cell? ((a_1.add ((0:Int).toNat*4)).add i_))∧
 Zct t1090 t1091 t1092 t1093P t1093N t1093C t1140 t1141 t1142 t1143P t1143N t1143C w1_26 fun t115 w1_27=>
 If t115
 (If (t541==(0:Int))
 (If (t601==(0:Int))
 (If t670
 (If (t671==(0:Int))
 (If (t742==(0:Int))
 (If ((t740N:Int)==(1:Int))
 (0≤(0:Int)∧(0:Int)<(t740N:Int)∧NN t740P fun a_2=>
 ∃t1440,w1_27.cell? ((a_2.add ((0:Int).toNat*4)).add 0)=some (.int .i64 t1440)∧
 ∃t1441,w1_27.cell? ((a_2.add ((0:Int).toNat*4)).add 1)=some (.int .i64 t1441)∧
 ∃t1442,w1_27.cell? ((a_2.add ((0:Int).toNat*4)).add 2)=some (.string t1442)∧
 ∃t1443P t1443N t1443C,w1_27.cell? ((a_2.add ((0:Int).toNat*4)).add 3)=some (.slice t1443P t1443N t1443C)∧
 0≤(0:Int)∧(0:Int)<(t480N:Int)∧NN t480P fun a_3=>
 ∃t1470,w1_27.cell? ((a_3.add ((0:Int).toNat*4)).add 0)=some (.int .i64 t1470)∧
 ∃t1471,w1_27.cell? ((a_3.add ((0:Int).toNat*4)).add 1)=some (.int .i64 t1471)∧
 ∃t1472,w1_27.cell? ((a_3.add ((0:Int).toNat*4)).add 2)=some (.string t1472)∧
 ∃t1473P t1473N t1473C,w1_27.cell? ((a_3.add ((0:Int).toNat*4)).add 3)=some (.slice t1473P t1473N t1473C)∧
 Zct t1440 t1441 t1442 t1443P t1443N t1443C t1470 t1471 t1472 t1473P t1473N t1473C w1_27 fun t148 w1_28=>
 If t148
 (Zej t220 t410 ⟨#[102]⟩ (3:Int) w1_28 fun t153 w1_29=>
 If t153
 (Zbr t220 t600 w1_29 fun t158 w1_30=>
 If (t158 != t600)
 (If (t791==(1:Int))
 (ZcQ t220 w1_30 fun t168 w1_31=>
 If (!t168.isNone)
 (Zcr t220 w1_31 fun t173 w1_32=>
 If (!t173.isNone)
 (Zcl t220 w1_32 fun t178 w1_33=>
 If (!t178.isNone)
 (Zbu t220 w1_33 fun t183 w1_34=>
 If (!t183.isNone)
 (ZcP t220 (0:Int) w1_34 fun t188 w1_35=>
 R (t188 != (0:Int)) w1_35)
 (Zam R w1_34))
 (Zam R w1_33))
 (Zam R w1_32))
 (Zam R w1_31))
 (Zam R w1_30))
 (Zam R w1_30))
 (Zam R w1_29))
 (Zam R w1_28))
 (Zam R w1_27))
 (Zam R w1_27))
 (Zam R w1_27))
 (Zam R w1_27))
 (Zam R w1_27))
 (Zam R w1_27))
 (Zam R w1_27))
 (Zam R w1_21))
 (Zam R (drw w1_20)))
 (Zam R (drw w1_20)))
 (Zam R (drw w1_20)))
 (Zam R (drw w1_20))))
def Zsz:Gen where
 loop:=lookL []
 plan:=fun id=>
  bif Nat.beq id 13 then some ([0,1,3,7,15,31,63,127,255,511,1023,2047,4095,8191,16383,32767,65535,131071,262143,524287,131071,1179647,4194303,8388607,16777215,33554431,67108863,134217727,33554431,301989887,838860799,1912602623,4060086271,8589934591,17179869183,34359738367,68719476735,137438953471,274877906943,549755813887,1099511627775,2199023255551,4398046511103,8796093022207,17592186044415,35184372088831,70368744177663,140737488355327,281474976710655,562949953421311,1125899906842623,2251799813685247,4503599627370495,9007199254740991,18014398509481983,36028797018963967,72057594037927935,144115188075855871,288230376151711743,576460752303423487,1152921504606846975,2305843009213693951,4611686018427387903,1152921504606846975,10376293541461622783,28823037615171174399,73786976294838206463,147573952589676412927,295147905179352825855,590295810358705651711,590295810358705651711,2361183241434822606847,4722366482869645213695,9444732965739290427391,18889465931478580854783,18889465931478580854783,75557863725914323419135,18889465931478580854783,302231454903657293676543,604462909807314587353087,1208925819614629174706175,2417851639229258349412351,4835703278458516698824703,9671406556917033397649407,19342813113834066795298815,38685626227668133590597631,77371252455336267181195263,154742504910672534362390527,309485009821345068724781055,618970019642690137449562111,1237940039285380274899124223,2475880078570760549798248447,4951760157141521099596496895,9903520314283042199192993791,19807040628566084398385987583,39614081257132168796771975167,79228162514264337593543950335,158456325028528675187087900671,316912650057057350374175801343,633825300114114700748351602687,1267650600228229401496703205375,2535301200456458802993406410751,5070602400912917605986812821503,10141204801825835211973625643007,20282409603651670423947251286015,40564819207303340847894502572031,81129638414606681695789005144063,162259276829213363391578010288127,324518553658426726783156020576255,649037107316853453566312041152511],.take 0 (.take 1 (.take 2 (.take 3 (.take 4 (.take 5 (.take 6 (.take 7 (.take 8 (.take 9 (.take 10 (.take 11 (.take 12 (.take 13 (.take 14 (.take 15 (.take 16 (.take 17 (.take 18 (.take 19 (.take 20 (.take 21 (.take 22 (.take 23 (.take 24 (.take 25 (.take 26 (.take 27 (.take 28 (.take 29 (.take 30 (.take 31 (.take 32 (.take 33 (.take 34 (.take 35 (.take 36 (.take 37 (.take 38 (.take 39 (.take 40 (.take 41 (.take 42 (.take 43 (.take 44 (.take 45 (.take 46 (.take 47 (.take 48 (.take 49 (.take 50 (.take 51 (.take 52 (.take 53 (.take 54 (.take 55 (.take 56 (.take 57 (.take 58 (.take 59 (.take 60 (.take 61 (.take 62 (.take 63 (.take 64 (.take 65 (.take 66 (.take 67 (.take 68 (.take 69 (.take 70 (.take 71 (.take 72 (.take 73 (.take 74 (.take 75 (.take 77 (.take 76 (.take 78 (.take 79 (.take 80 (.take 81 (.take 82 (.take 83 (.take 84 (.take 85 (.take 86 (.take 87 (.take 88 (.take 89 (.take 90 (.take 91 (.take 92 (.take 93 (.take 94 (.take 95 (.take 96 (.take 97 (.take 98 (.take 99 (.take 100 (.take 101 (.take 102 (.take 103 (.take 104 (.take 105 (.take 106 (.take 107 (.take 108 (.take 109 .done)))))))))))))))))))))))))))))))))))))))))))))))))))))))))))))))))))))))))))))))))))))))))))))))))))))))))))))) else none
theorem Zcx.of {w:World} {R:Bool→World→Prop} (h:Znv w R):Zcx w R:=ofS2 (Fm:=Znv w) Tryz.func13 (by kernel_rfl) (L1 Zsz Tryz.f13 fun _=>rfl) rfl (fun _=>by kernel_rfl) h
def ZoS (cells:Int) (trail:Int) (w:World) (R:Option Addr→Int→World→Prop):Prop:=
 Zf8 cells w fun t150 t151 w1=>
 If (t151 != (0:Int))
 (R none t151 w1)
 (Zf7 trail w1 fun t230 t231 w1_1=>
 If (t231 != (0:Int))
 (R none t231 w1_1)
 (Zfm (16384:Int) w1_1 fun t300 t301 w1_2=>
 ZcD (16384:Int) t300 w1_2 fun t350 t351 w1_3=>
 BSl Tryz.prog 55 1 [(0,.int .i64 0)] w1_3 fun t42P t42N t42C w1_4=>
 BSl Tryz.prog 55 1 [(0,.int .i64 0)] w1_4 fun t43P t43N t43C w1_5=>
 New w1_5 (.cells #[.pointer t150,.pointer t230,.pointer t300,.pointer t350,.slice none 0 0,.slice t42P t42N t42C,.slice t43P t43N t43C] 114) fun r w1_6=>
 R (some ⟨r,0,none⟩) (0:Int) w1_6))
theorem ZeG.of {cells:Int} {trail:Int} {w:World} {R:Option Addr→Int→World→Prop} (h:ZoS cells trail w R):ZeG cells trail w R:=ofS3 (Fm:=ZoS cells trail w) Tryz.func14 (by kernel_rfl) (L0 Tryz.f14) rfl (fun _=>by kernel_rfl) h
def Znq (t0:Int) (t1:Int) (t2:ByteArray) (t3P:Option Addr) (t3N:Nat) (t3C:Nat) (w:World) (R:Int→World→Prop):Prop:=
 New w (.cells #[.int .i64 t0,.int .i64 t1,.string t2,.slice t3P t3N t3C] 31) fun r w1=>
 ∃t40,w1.cell? (Addr.add ⟨r,0,none⟩ 0)=some (.int .i64 t40)∧
 ∃t41,w1.cell? (Addr.add ⟨r,0,none⟩ 1)=some (.int .i64 t41)∧
 ∃t42,w1.cell? (Addr.add ⟨r,0,none⟩ 2)=some (.string t42)∧
 ∃t43P t43N t43C,w1.cell? (Addr.add ⟨r,0,none⟩ 3)=some (.slice t43P t43N t43C)∧
 Zd2 t40 t41 t42 t43P t43N t43C w1 fun t5 w1_1=>
 If (!t5)
 (R (60:Int) w1_1)
 (∃t80,w1_1.cell? (Addr.add ⟨r,0,none⟩ 0)=some (.int .i64 t80)∧
 ∃t81,w1_1.cell? (Addr.add ⟨r,0,none⟩ 1)=some (.int .i64 t81)∧
 ∃t82,w1_1.cell? (Addr.add ⟨r,0,none⟩ 2)=some (.string t82)∧
 ∃t83P t83N t83C,w1_1.cell? (Addr.add ⟨r,0,none⟩ 3)=some (.slice t83P t83N t83C)∧
 Zdb t80 t81 t82 t83P t83N t83C w1_1 fun t9 w1_2=>
 If (decide (t9>(200:Int)))
 (R (61:Int) w1_2)
 (∃t120,w1_2.cell? (Addr.add ⟨r,0,none⟩ 0)=some (.int .i64 t120)∧
 ∃t121,w1_2.cell? (Addr.add ⟨r,0,none⟩ 1)=some (.int .i64 t121)∧
 ∃t122,w1_2.cell? (Addr.add ⟨r,0,none⟩ 2)=some (.string t122)∧
 ∃t123P t123N t123C,w1_2.cell? (Addr.add ⟨r,0,none⟩ 3)=some (.slice t123P t123N t123C)∧
 ZdA t120 t121 t122 t123P t123N t123C w1_2 fun t13 w1_3=>
 If (decide (t13>(4096:Int)))
 (R (62:Int) w1_3)
 (R (0:Int) w1_3)))
theorem ZeN.of {t0:Int} {t1:Int} {t2:ByteArray} {t3P:Option Addr} {t3N:Nat} {t3C:Nat} {w:World} {R:Int→World→Prop} (h:Znq t0 t1 t2 t3P t3N t3C w R):ZeN t0 t1 t2 t3P t3N t3C w R:=ofS4 (Fm:=Znq t0 t1 t2 t3P t3N t3C w) Tryz.func15 (by kernel_rfl) (L0 Tryz.f15) rfl (fun _=>by kernel_rfl) h
def Zg9 (hx:Option Addr) (R:Int→Int→World→Prop) (r:Nat) (vars_1:Option Nat) (w1_4:World):Prop:=
 ∃t210,w1_4.cell? (Addr.add ⟨r,0,none⟩ 0)=some (.int .i64 t210)∧
 ∃t211,w1_4.cell? (Addr.add ⟨r,0,none⟩ 1)=some (.int .i64 t211)∧
 ∃t212,w1_4.cell? (Addr.add ⟨r,0,none⟩ 2)=some (.string t212)∧
 ∃t213P t213N t213C,w1_4.cell? (Addr.add ⟨r,0,none⟩ 3)=some (.slice t213P t213N t213C)∧
 ZbY hx t210 t211 t212 t213P t213N t213C vars_1 w1_4 fun t230 t231 w1_5=>
 R t230 t231 w1_5
def ZjZ (hx:Option Addr) (t0:Int) (t1:Int) (t2:ByteArray) (t3P:Option Addr) (t3N:Nat) (t3C:Nat) (vars:Option Nat) (w:World) (R:Int→Int→World→Prop):Prop:=
 New w (.cells #[.int .i64 t0,.int .i64 t1,.string t2,.slice t3P t3N t3C] 31) fun r w1=>
 Zaj hx w1 fun t10 w1_1=>
 If (!t10)
 (R (0:Int) (6:Int) w1_1)
 (∃t120,w1_1.cell? (Addr.add ⟨r,0,none⟩ 0)=some (.int .i64 t120)∧
 ∃t121,w1_1.cell? (Addr.add ⟨r,0,none⟩ 1)=some (.int .i64 t121)∧
 ∃t122,w1_1.cell? (Addr.add ⟨r,0,none⟩ 2)=some (.string t122)∧
 ∃t123P t123N t123C,w1_1.cell? (Addr.add ⟨r,0,none⟩ 3)=some (.slice t123P t123N t123C)∧
 ZeR t120 t121 t122 t123P t123N t123C w1_1 fun t13 w1_2=>
 If (t13 != (0:Int))
 (R (0:Int) t13 w1_2)
 (If vars.isNone
 (New w1_2 (.map #[] 0) fun r_1 w1_3=>
 Zg9 hx R r (some r_1) w1_3)
 (Zg9 hx R r vars w1_2)))
theorem Za9.of {hx:Option Addr} {t0:Int} {t1:Int} {t2:ByteArray} {t3P:Option Addr} {t3N:Nat} {t3C:Nat} {vars:Option Nat} {w:World} {R:Int→Int→World→Prop} (h:ZjZ hx t0 t1 t2 t3P t3N t3C vars w R):Za9 hx t0 t1 t2 t3P t3N t3C vars w R:=ofS5 (Fm:=ZjZ hx t0 t1 t2 t3P t3N t3C vars w) Tryz.func16 (by kernel_rfl) (L0 Tryz.f16) rfl (fun _=>by kernel_rfl) h
structure Zck where
 outP:Option Addr
 outN:Nat
 outC:Nat
 i:Int
def Zkm (hx_1:Option Addr) (lP_1:Option Addr) (lN_1:Nat) (lC_1:Nat) (vars_1:Option Nat) (s:Zck) (w:World) (Kn:Zck→World→Prop) (Kx0:Option Addr→Nat→Nat→World→Prop) (Kr:Option Addr→Nat→Nat→World→Prop):Prop:=
 If (decide (s.i<(lN_1:Int)))
 (0≤s.i∧s.i<(lN_1:Int)∧NN lP_1 fun a=>
 ∃t220,w.cell? ((a.add (s.i.toNat*4)).add 0)=some (.int .i64 t220)∧
 ∃t221,w.cell? ((a.add (s.i.toNat*4)).add 1)=some (.int .i64 t221)∧
 ∃t222,w.cell? ((a.add (s.i.toNat*4)).add 2)=some (.string t222)∧
 ∃t223P t223N t223C,w.cell? ((a.add (s.i.toNat*4)).add 3)=some (.slice t223P t223N t223C)∧
 Za9 hx_1 t220 t221 t222 t223P t223N t223C vars_1 w fun t240 t241 w1=>
 If (t241 != (0:Int))
 (Kr none 0 0 w1)
 (BSl Tryz.prog 36 1 [(0,.int .u64 t240)] w1 fun t31P t31N t31C w1_1=>
 App Tryz.prog #[36,36] 36 #[.slice s.outP s.outN s.outC,.slice t31P t31N t31C] w1_1 fun t32P t32N t32C w1_2=>
 Kn ⟨t32P,t32N,t32C,(IntKind.i64.wrap (s.i+(1:Int)))⟩ w1_2))
 (Kx0 s.outP s.outN s.outC w)
def Zkh (hx_1:Option Addr) (lP_1:Option Addr) (lN_1:Nat) (lC_1:Nat) (vars_1:Option Nat) (s:Zck) (w:World) (Kx0:Option Addr→Nat→Nat→World→Prop) (Kr:Option Addr→Nat→Nat→World→Prop):Prop:=
 LoopS (fun s w Kn=>Zkm hx_1 lP_1 lN_1 lC_1 vars_1 s w Kn Kx0 Kr) s w
def ZmS (hx:Option Addr) (lP:Option Addr) (lN:Nat) (lC:Nat) (vars:Option Nat) (w:World) (R:Option Addr→Nat→Nat→World→Prop):Prop:=
 Zkh hx lP lN lC vars ⟨none,0,0,(0:Int)⟩ w
 (fun outP_2 outN_2 outC_2 w1_3=>
 R outP_2 outN_2 outC_2 w1_3)
 (fun t6P_1 t6N_1 t6C_1 w1_4=>
 R t6P_1 t6N_1 t6C_1 w1_4)
def ZfV (f:(Option Addr)×(Option Addr)×Nat×Nat×(Option Nat)) (s:Zck):Env:=[⟨0,.pointer f.1,none⟩,⟨1,.slice f.2.1 f.2.2.1 f.2.2.2.1,none⟩,⟨2,.map f.2.2.2.2,none⟩,⟨7,.slice s.outP s.outN s.outC,none⟩,⟨8,.int .i64 s.i,none⟩]
def Zep (e:Env) (K:((Option Addr)×(Option Addr)×Nat×Nat×(Option Nat))→Zck→Prop):Prop:=
 oP e 0 fun hx_1=>
 oS e 1 fun lP_1 lN_1 lC_1=>
 oM e 2 fun vars_1=>
 oS e 7 fun outP outN outC=>
 oI e 8 .i64 fun i=>
  K (hx_1,lP_1,lN_1,lC_1,vars_1) ⟨outP,outN,outC,i⟩
theorem Zkg {N:Nat} (e:Env) (a:Act) (K:((Option Addr)×(Option Addr)×Nat×Nat×(Option Nat))→Zck→Prop) (hr:Rep N a e) (h0:Zep e K):∃f s,K f s∧Rep N a (ZfV f s):=by
 unfold Zep at h0
 obtain⟨hx_1,g0,h1⟩:=Zar h0
 obtain⟨lP_1,lN_1,lC_1,g1,h2⟩:=Zae h1
 obtain⟨vars_1,g2,h3⟩:=Zit h2
 obtain⟨outP,outN,outC,g7,h4⟩:=Zae h3
 obtain⟨i,g8,h5⟩:=Zab h4
 exact⟨_,_,h5,Zac hr (by simp [ZfV,g0,g1,g2,g7,g8])⟩
def ZlH (Q:Post) (e:Env) (w:World):Prop:=
 Zep e fun f s=>Zkh f.1 f.2.1 f.2.2.1 f.2.2.2.1 f.2.2.2.2 s w (fun outP_1 outN_1 outC_1 w1=>Q (.exit 0) [⟨7,.slice outP_1 outN_1 outC_1,none⟩] w1) (fun t6P t6N t6C w1=>Q .ret [⟨6,.slice t6P t6N t6C,none⟩] w1)
def ZmP:Gen where
 loop:=lookL [([false,true,false,true,true],ZlH)]
 plan:=fun _=>none
def Zh0 (e:Env) (K:((Option Addr)×(Option Addr)×Nat×Nat×(Option Nat))→Option Addr→Nat→Nat→Prop):Prop:=
 oP e 0 fun hx_1=>
 oS e 1 fun lP_1 lN_1 lC_1=>
 oM e 2 fun vars_1=>
 oS e 7 fun outP_1 outN_1 outC_1=>
  K (hx_1,lP_1,lN_1,lC_1,vars_1) outP_1 outN_1 outC_1
def Zgs (e:Env) (K:((Option Addr)×(Option Addr)×Nat×Nat×(Option Nat))→Option Addr→Nat→Nat→Prop):Prop:=
 oP e 0 fun hx_1=>
 oS e 1 fun lP_1 lN_1 lC_1=>
 oM e 2 fun vars_1=>
 oS e 6 fun t6P t6N t6C=>
  K (hx_1,lP_1,lN_1,lC_1,vars_1) t6P t6N t6C
theorem Zo5 (f:(Option Addr)×(Option Addr)×Nat×Nat×(Option Nat)) (s:Zck) (w:World) (Kn:((Option Addr)×(Option Addr)×Nat×Nat×(Option Nat))→Zck→World→Prop) (Kx0:((Option Addr)×(Option Addr)×Nat×Nat×(Option Nat))→Option Addr→Nat→Nat→World→Prop) (Kr:((Option Addr)×(Option Addr)×Nat×Nat×(Option Nat))→Option Addr→Nat→Nat→World→Prop) :
  Zkm f.1 f.2.1 f.2.2.1 f.2.2.2.1 f.2.2.2.2 s w (fun s1 w1=>Kn f s1 w1) (fun outP_1 outN_1 outC_1 w1=>Kx0 f outP_1 outN_1 outC_1 w1) (fun t6P t6N t6C w1=>Kr f t6P t6N t6C w1) =
  den Tryz.prog Tryz.f17.ntmps ZmP (sub (codeOf Tryz.f17) [false,false,true,false,true,true]) [false,false,true,false,true,true] (roundQ (fun e w=>Zep e fun f s=>Kn f s w) (fun e w=>Zgs e fun f t6P t6N t6C=>Kr f t6P t6N t6C w) (fun id e w=>match Nat.beq id 0 with | true=>Zh0 e fun f outP_1 outN_1 outC_1=>Kx0 f outP_1 outN_1 outC_1 w | false=>False)) (ZfV f s) w:=by kernel_rfl
theorem ZpW:OneOk Tryz.prog Tryz.f17.ntmps ZmP (codeOf Tryz.f17) [false,true,false,true,true] ZlH:=by
 intro c hc ih Q e w a hr h
 have hcc:sub (codeOf Tryz.f17) [false,false,true,false,true,true]=c:=Zaf hc
 obtain⟨f,s,h,hrep⟩:=Zkg e a _ hr h
 obtain⟨J,μ,hj,hround⟩:=h
 refine Zad Zan Zag ih ZfV Zep Zkg hc f J μ (Kr:=fun e w=>Zgs e fun f1 t6P t6N t6C=>f1=f∧Q .ret [⟨6,.slice t6P t6N t6C,none⟩] w) (Kx:=fun id e w=>match Nat.beq id 0 with | true=>(Zh0 e fun f1 outP_1 outN_1 outC_1=>f1=f∧Q (.exit 0) [⟨7,.slice outP_1 outN_1 outC_1,none⟩] w) | false=>False) ?_ ?_ ?_ s w a hj hrep
 ·intro e a w hr h0
  unfold Zgs at h0
  obtain⟨hx_1,g0,h1⟩:=Zar h0
  obtain⟨lP_1,lN_1,lC_1,g1,h2⟩:=Zae h1
  obtain⟨vars_1,g2,h3⟩:=Zit h2
  obtain⟨t6P,t6N,t6C,g6,h4⟩:=Zae h3
  obtain⟨hf,hq⟩:=h4
  subst hf
  exact⟨_,Zac hr (by simp [g6]),hq⟩
 ·intro id e a w hr h0
  (try dsimp only at h0)
  split at h0
  ·rename_i hid
   obtain rfl:=Nat.eq_of_beq_eq_true hid
   unfold Zh0 at h0
   obtain⟨hx_1,g0,h1⟩:=Zar h0
   obtain⟨lP_1,lN_1,lC_1,g1,h2⟩:=Zae h1
   obtain⟨vars_1,g2,h3⟩:=Zit h2
   obtain⟨outP_1,outN_1,outC_1,g7,h4⟩:=Zae h3
   obtain⟨hf,hq⟩:=h4
   subst hf
   exact⟨_,Zac hr (by simp [g7]),hq⟩
  ·exact h0.elim
 ·intro s w hj
  have hb:=hround s w hj
  rw[←hcc]
  have e1:=Zo5 f s w (fun f1 s1 w1=>f1=f∧J s1 w1∧μ s1 w1<μ s w) (fun f1 outP_1 outN_1 outC_1 w1=>f1=f∧Q (.exit 0) [⟨7,.slice outP_1 outN_1 outC_1,none⟩] w1) (fun f1 t6P t6N t6C w1=>f1=f∧Q .ret [⟨6,.slice t6P t6N t6C,none⟩] w1)
  simp only[true_and] at e1
  exact cast e1 hb
theorem Zp2:LoopOk Tryz.prog Tryz.f17.ntmps ZmP (codeOf Tryz.f17):=Zal rfl ⟨ZpW,trivial⟩
theorem Zef.of {hx:Option Addr} {lP:Option Addr} {lN:Nat} {lC:Nat} {vars:Option Nat} {w:World} {R:Option Addr→Nat→Nat→World→Prop} (h:ZmS hx lP lN lC vars w R):Zef hx lP lN lC vars w R:=ofS6 (Fm:=ZmS hx lP lN lC vars w) Tryz.func17 (by kernel_rfl) Zp2 rfl (fun _=>by kernel_rfl) h
structure Zbh where
 t19:Int
structure Zbc where
 outP:Option Addr
 outN:Nat
 outC:Nat
 t34:Int
def Zhb (hx_1:Option Addr) (lP_1:Option Addr) (lN_1:Nat) (lC_1:Nat) (t17P:Option Addr) (t17N:Nat) (t17C:Nat) (t18:Int) (s:Zbh) (w:World) (Kn:Zbh→World→Prop) (Kx0:World→Prop) (Kr:Option Addr→Nat→Nat→Option Addr→Nat→Nat→Int→World→Prop):Prop:=
 If (decide (s.t19<t18))
 (0≤s.t19∧s.t19<(t17N:Int)∧NN t17P fun a=>
 ∃t22,w.cell? (a.add (s.t19.toNat*1))=some (.int .u64 t22)∧
 Zaw hx_1 t22 w fun t25 w1_1=>
 If (!t25)
 (Kr none 0 0 none 0 0 (1:Int) w1_1)
 (Kn ⟨(IntKind.i64.wrap (s.t19+(1:Int)))⟩ w1_1))
 (Kx0 w)
def ZgX (hx_1:Option Addr) (lP_1:Option Addr) (lN_1:Nat) (lC_1:Nat) (t17P:Option Addr) (t17N:Nat) (t17C:Nat) (t18:Int) (s:Zbh) (w:World) (Kx0:World→Prop) (Kr:Option Addr→Nat→Nat→Option Addr→Nat→Nat→Int→World→Prop):Prop:=
 LoopS (fun s w Kn=>Zhb hx_1 lP_1 lN_1 lC_1 t17P t17N t17C t18 s w Kn Kx0 Kr) s w
def ZgL (r_2:Addr) (t32P:Option Addr) (t32N:Nat) (t32C:Nat) (t33:Int) (s:Zbc) (w:World) (Kn:Zbc→World→Prop) (Kx2:Option Addr→Nat→Nat→World→Prop) (Kr:Option Addr→Nat→Nat→Option Addr→Nat→Nat→Int→World→Prop):Prop:=
 If (decide (s.t34<t33))
 (0≤s.t34∧s.t34<(t32N:Int)∧NN t32P fun a_1=>
 ∃t37,w.cell? (a_1.add (s.t34.toNat*1))=some (.int .u64 t37)∧
 NN (some r_2) fun a_2=>
 St w ((a_2.add 3).add 0) (.int .i64 0) fun w1_6=>
 Za7 (some r_2) t37 w1_6 fun t430 t431 t432 t433P t433N t433C w1_7=>
 New w1_7 (.cells #[.int .i64 0,.int .i64 0,.string ⟨#[]⟩,.slice none 0 0] 31) fun r_3 w1_8=>
 St w1_8 (Addr.add ⟨r_3,0,none⟩ 0) (.int .i64 t430) fun w1_9=>
 St w1_9 (Addr.add ⟨r_3,0,none⟩ 1) (.int .i64 t431) fun w1_10=>
 St w1_10 (Addr.add ⟨r_3,0,none⟩ 2) (.string t432) fun w1_11=>
 St w1_11 (Addr.add ⟨r_3,0,none⟩ 3) (.slice t433P t433N t433C) fun w1_12=>
 NN (some r_2) fun a_3=>
 ∃parts,w1_12.cell? (a_3.add 3)=some (.int .i64 parts)∧
 If (decide (parts>(4096:Int)))
 (Kr none 0 0 none 0 0 (62:Int) w1_12)
 (∃t490,w1_12.cell? (Addr.add ⟨r_3,0,none⟩ 0)=some (.int .i64 t490)∧
 ∃t491,w1_12.cell? (Addr.add ⟨r_3,0,none⟩ 1)=some (.int .i64 t491)∧
 ∃t492,w1_12.cell? (Addr.add ⟨r_3,0,none⟩ 2)=some (.string t492)∧
 ∃t493P t493N t493C,w1_12.cell? (Addr.add ⟨r_3,0,none⟩ 3)=some (.slice t493P t493N t493C)∧
 ZeR t490 t491 t492 t493P t493N t493C w1_12 fun t50 w1_13=>
 If (t50 != (0:Int))
 (Kr none 0 0 none 0 0 (61:Int) w1_13)
 (∃t530,w1_13.cell? (Addr.add ⟨r_3,0,none⟩ 0)=some (.int .i64 t530)∧
 ∃t531,w1_13.cell? (Addr.add ⟨r_3,0,none⟩ 1)=some (.int .i64 t531)∧
 ∃t532,w1_13.cell? (Addr.add ⟨r_3,0,none⟩ 2)=some (.string t532)∧
 ∃t533P t533N t533C,w1_13.cell? (Addr.add ⟨r_3,0,none⟩ 3)=some (.slice t533P t533N t533C)∧
 BSl Tryz.prog 22 1 [(0,.agg #[.int .i64 t530,.int .i64 t531,.string t532,.slice t533P t533N t533C])] w1_13 fun t54P t54N t54C w1_14=>
 App Tryz.prog #[22,22] 22 #[.slice s.outP s.outN s.outC,.slice t54P t54N t54C] w1_14 fun t55P t55N t55C w1_15=>
 Kn ⟨t55P,t55N,t55C,(IntKind.i64.wrap (s.t34+(1:Int)))⟩ w1_15)))
 (Kx2 s.outP s.outN s.outC w)
def Zhl (r_2:Addr) (t32P:Option Addr) (t32N:Nat) (t32C:Nat) (t33:Int) (s:Zbc) (w:World) (Kx2:Option Addr→Nat→Nat→World→Prop) (Kr:Option Addr→Nat→Nat→Option Addr→Nat→Nat→Int→World→Prop):Prop:=
 LoopS (fun s w Kn=>ZgL r_2 t32P t32N t32C t33 s w Kn Kx2 Kr) s w
def Zjz (hx:Option Addr) (lP:Option Addr) (lN:Nat) (lC:Nat) (w:World) (R:Option Addr→Nat→Nat→Option Addr→Nat→Nat→Int→World→Prop):Prop:=
 Zaj hx w fun t15 w1=>
 If (!t15)
 (R none 0 0 none 0 0 (6:Int) w1)
 (ZgX hx lP lN lC lP lN lC (lN:Int) ⟨(0:Int)⟩ w1
 (fun w1_2=>
 New w1_2 (.map #[] 0) fun r w1_4=>
 New w1_4 (.cells #[.pointer hx,.map (some r),.slice none 0 0,.int .i64 0] 119) fun r_1 w1_5=>
 Zhl ⟨r_1,0,none⟩ lP lN lC (lN:Int) ⟨none,0,0,(0:Int)⟩ w1_5
 (fun outP_2 outN_2 outC_2 w1_16=>
 NN (some ⟨r_1,0,none⟩) fun a_4=>
 ∃varsP varsN varsC,(drw w1_16).cell? (a_4.add 2)=some (.slice varsP varsN varsC)∧
 (drw w1_16).cell? (a_4.add 2)=(drw w1_16).cell? (a_4.add 2)∧
 R outP_2 outN_2 outC_2 varsP varsN varsC (0:Int) (drw w1_16))
 (fun t4P_3 t4N_3 t4C_3 t5P_3 t5N_3 t5C_3 t6_3 w1_17=>
 R t4P_3 t4N_3 t4C_3 t5P_3 t5N_3 t5C_3 t6_3 w1_17))
 (fun t4P_1 t4N_1 t4C_1 t5P_1 t5N_1 t5C_1 t6_1 w1_3=>
 R t4P_1 t4N_1 t4C_1 t5P_1 t5N_1 t5C_1 t6_1 w1_3))
def ZdU (f:(Option Addr)×(Option Addr)×Nat×Nat×(Option Addr)×Nat×Nat×Int) (s:Zbh):Env:=[⟨0,.pointer f.1,none⟩,⟨1,.slice f.2.1 f.2.2.1 f.2.2.2.1,none⟩,⟨17,.slice f.2.2.2.2.1 f.2.2.2.2.2.1 f.2.2.2.2.2.2.1,none⟩,⟨18,.int .i64 f.2.2.2.2.2.2.2,none⟩,⟨19,.int .i64 s.t19,none⟩]
def Zcu (e:Env) (K:((Option Addr)×(Option Addr)×Nat×Nat×(Option Addr)×Nat×Nat×Int)→Zbh→Prop):Prop:=
 oP e 0 fun hx_1=>
 oS e 1 fun lP_1 lN_1 lC_1=>
 oS e 17 fun t17P t17N t17C=>
 oI e 18 .i64 fun t18=>
 oI e 19 .i64 fun t19=>
  K (hx_1,lP_1,lN_1,lC_1,t17P,t17N,t17C,t18) ⟨t19⟩
theorem Zhx {N:Nat} (e:Env) (a:Act) (K:((Option Addr)×(Option Addr)×Nat×Nat×(Option Addr)×Nat×Nat×Int)→Zbh→Prop) (hr:Rep N a e) (h0:Zcu e K):∃f s,K f s∧Rep N a (ZdU f s):=by
 unfold Zcu at h0
 obtain⟨hx_1,g0,h1⟩:=Zar h0
 obtain⟨lP_1,lN_1,lC_1,g1,h2⟩:=Zae h1
 obtain⟨t17P,t17N,t17C,g17,h3⟩:=Zae h2
 obtain⟨t18,g18,h4⟩:=Zab h3
 obtain⟨t19,g19,h5⟩:=Zab h4
 exact⟨_,_,h5,Zac hr (by simp [ZdU,g0,g1,g17,g18,g19])⟩
def Zi2 (Q:Post) (e:Env) (w:World):Prop:=
 Zcu e fun f s=>ZgX f.1 f.2.1 f.2.2.1 f.2.2.2.1 f.2.2.2.2.1 f.2.2.2.2.2.1 f.2.2.2.2.2.2.1 f.2.2.2.2.2.2.2 s w (fun w1=>Q (.exit 0) [⟨0,.pointer f.1,none⟩,⟨1,.slice f.2.1 f.2.2.1 f.2.2.2.1,none⟩] w1) (fun t4P t4N t4C t5P t5N t5C t6 w1=>Q .ret [⟨4,.slice t4P t4N t4C,none⟩,⟨5,.slice t5P t5N t5C,none⟩,⟨6,.int .i64 t6,none⟩] w1)
def ZdZ (f:Addr×(Option Addr)×Nat×Nat×Int) (s:Zbc):Env:=[⟨9,.pointer (some f.1),none⟩,⟨32,.slice f.2.1 f.2.2.1 f.2.2.2.1,none⟩,⟨33,.int .i64 f.2.2.2.2,none⟩,⟨10,.slice s.outP s.outN s.outC,none⟩,⟨34,.int .i64 s.t34,none⟩]
def Zcw (e:Env) (K:(Addr×(Option Addr)×Nat×Nat×Int)→Zbc→Prop):Prop:=
 oA e 9 fun r_2=>
 oS e 32 fun t32P t32N t32C=>
 oI e 33 .i64 fun t33=>
 oS e 10 fun outP outN outC=>
 oI e 34 .i64 fun t34=>
  K (r_2,t32P,t32N,t32C,t33) ⟨outP,outN,outC,t34⟩
theorem ZhF {N:Nat} (e:Env) (a:Act) (K:(Addr×(Option Addr)×Nat×Nat×Int)→Zbc→Prop) (hr:Rep N a e) (h0:Zcw e K):∃f s,K f s∧Rep N a (ZdZ f s):=by
 unfold Zcw at h0
 obtain⟨r_2,g9,h1⟩:=Zap h0
 obtain⟨t32P,t32N,t32C,g32,h2⟩:=Zae h1
 obtain⟨t33,g33,h3⟩:=Zab h2
 obtain⟨outP,outN,outC,g10,h4⟩:=Zae h3
 obtain⟨t34,g34,h5⟩:=Zab h4
 exact⟨_,_,h5,Zac hr (by simp [ZdZ,g9,g32,g33,g10,g34])⟩
def Zje (Q:Post) (e:Env) (w:World):Prop:=
 Zcw e fun f s=>Zhl f.1 f.2.1 f.2.2.1 f.2.2.2.1 f.2.2.2.2 s w (fun outP_1 outN_1 outC_1 w1=>Q (.exit 2) [⟨9,.pointer (some f.1),none⟩,⟨10,.slice outP_1 outN_1 outC_1,none⟩] w1) (fun t4P_2 t4N_2 t4C_2 t5P_2 t5N_2 t5C_2 t6_2 w1=>Q .ret [⟨4,.slice t4P_2 t4N_2 t4C_2,none⟩,⟨5,.slice t5P_2 t5N_2 t5C_2,none⟩,⟨6,.int .i64 t6_2,none⟩] w1)
def ZeU:Gen where
 loop:=lookL [([false,true,false,true,true],Zi2),([false,true,false,true,true,true,true,true],Zje)]
 plan:=fun id=>
  bif Nat.beq id 22 then some ([0,0,2,6,14,1,63,127],.take 0 (.take 1 (.take 2 (.take 3 (.take 4 (.take 5 (.take 6 (.take 7 .done)))))))) else none
def Zfl (e:Env) (K:((Option Addr)×(Option Addr)×Nat×Nat×(Option Addr)×Nat×Nat×Int)→Prop):Prop:=
 oP e 0 fun hx_1=>
 oS e 1 fun lP_1 lN_1 lC_1=>
 oS e 17 fun t17P t17N t17C=>
 oI e 18 .i64 fun t18=>
  K (hx_1,lP_1,lN_1,lC_1,t17P,t17N,t17C,t18)
def ZeC (e:Env) (K:((Option Addr)×(Option Addr)×Nat×Nat×(Option Addr)×Nat×Nat×Int)→Option Addr→Nat→Nat→Option Addr→Nat→Nat→Int→Prop):Prop:=
 oP e 0 fun hx_1=>
 oS e 1 fun lP_1 lN_1 lC_1=>
 oS e 17 fun t17P t17N t17C=>
 oI e 18 .i64 fun t18=>
 oS e 4 fun t4P t4N t4C=>
 oS e 5 fun t5P t5N t5C=>
 oI e 6 .i64 fun t6=>
  K (hx_1,lP_1,lN_1,lC_1,t17P,t17N,t17C,t18) t4P t4N t4C t5P t5N t5C t6
theorem Zm7 (f:(Option Addr)×(Option Addr)×Nat×Nat×(Option Addr)×Nat×Nat×Int) (s:Zbh) (w:World) (Kn:((Option Addr)×(Option Addr)×Nat×Nat×(Option Addr)×Nat×Nat×Int)→Zbh→World→Prop) (Kx0:((Option Addr)×(Option Addr)×Nat×Nat×(Option Addr)×Nat×Nat×Int)→World→Prop) (Kr:((Option Addr)×(Option Addr)×Nat×Nat×(Option Addr)×Nat×Nat×Int)→Option Addr→Nat→Nat→Option Addr→Nat→Nat→Int→World→Prop) :
  Zhb f.1 f.2.1 f.2.2.1 f.2.2.2.1 f.2.2.2.2.1 f.2.2.2.2.2.1 f.2.2.2.2.2.2.1 f.2.2.2.2.2.2.2 s w (fun s1 w1=>Kn f s1 w1) (fun w1=>Kx0 f w1) (fun t4P t4N t4C t5P t5N t5C t6 w1=>Kr f t4P t4N t4C t5P t5N t5C t6 w1) =
  den Tryz.prog Tryz.f18.ntmps ZeU (sub (codeOf Tryz.f18) [false,false,true,false,true,true]) [false,false,true,false,true,true] (roundQ (fun e w=>Zcu e fun f s=>Kn f s w) (fun e w=>ZeC e fun f t4P t4N t4C t5P t5N t5C t6=>Kr f t4P t4N t4C t5P t5N t5C t6 w) (fun id e w=>match Nat.beq id 0 with | true=>Zfl e fun f=>Kx0 f w | false=>False)) (ZdU f s) w:=by kernel_rfl
def Zfn (e:Env) (K:(Addr×(Option Addr)×Nat×Nat×Int)→Option Addr→Nat→Nat→Prop):Prop:=
 oA e 9 fun r_2=>
 oS e 32 fun t32P t32N t32C=>
 oI e 33 .i64 fun t33=>
 oS e 10 fun outP_1 outN_1 outC_1=>
  K (r_2,t32P,t32N,t32C,t33) outP_1 outN_1 outC_1
def ZeD (e:Env) (K:(Addr×(Option Addr)×Nat×Nat×Int)→Option Addr→Nat→Nat→Option Addr→Nat→Nat→Int→Prop):Prop:=
 oA e 9 fun r_2=>
 oS e 32 fun t32P t32N t32C=>
 oI e 33 .i64 fun t33=>
 oS e 4 fun t4P_2 t4N_2 t4C_2=>
 oS e 5 fun t5P_2 t5N_2 t5C_2=>
 oI e 6 .i64 fun t6_2=>
  K (r_2,t32P,t32N,t32C,t33) t4P_2 t4N_2 t4C_2 t5P_2 t5N_2 t5C_2 t6_2
theorem Zne (f:Addr×(Option Addr)×Nat×Nat×Int) (s:Zbc) (w:World) (Kn:(Addr×(Option Addr)×Nat×Nat×Int)→Zbc→World→Prop) (Kx2:(Addr×(Option Addr)×Nat×Nat×Int)→Option Addr→Nat→Nat→World→Prop) (Kr:(Addr×(Option Addr)×Nat×Nat×Int)→Option Addr→Nat→Nat→Option Addr→Nat→Nat→Int→World→Prop) :
  ZgL f.1 f.2.1 f.2.2.1 f.2.2.2.1 f.2.2.2.2 s w (fun s1 w1=>Kn f s1 w1) (fun outP_1 outN_1 outC_1 w1=>Kx2 f outP_1 outN_1 outC_1 w1) (fun t4P_2 t4N_2 t4C_2 t5P_2 t5N_2 t5C_2 t6_2 w1=>Kr f t4P_2 t4N_2 t4C_2 t5P_2 t5N_2 t5C_2 t6_2 w1) =
  den Tryz.prog Tryz.f18.ntmps ZeU (sub (codeOf Tryz.f18) [false,false,true,false,true,true,true,true,true]) [false,false,true,false,true,true,true,true,true] (roundQ (fun e w=>Zcw e fun f s=>Kn f s w) (fun e w=>ZeD e fun f t4P_2 t4N_2 t4C_2 t5P_2 t5N_2 t5C_2 t6_2=>Kr f t4P_2 t4N_2 t4C_2 t5P_2 t5N_2 t5C_2 t6_2 w) (fun id e w=>match Nat.beq id 2 with | true=>Zfn e fun f outP_1 outN_1 outC_1=>Kx2 f outP_1 outN_1 outC_1 w | false=>False)) (ZdZ f s) w:=by kernel_rfl
theorem Zn9:OneOk Tryz.prog Tryz.f18.ntmps ZeU (codeOf Tryz.f18) [false,true,false,true,true] Zi2:=by
 intro c hc ih Q e w a hr h
 have hcc:sub (codeOf Tryz.f18) [false,false,true,false,true,true]=c:=Zaf hc
 obtain⟨f,s,h,hrep⟩:=Zhx e a _ hr h
 obtain⟨J,μ,hj,hround⟩:=h
 refine Zad Zan Zag ih ZdU Zcu Zhx hc f J μ (Kr:=fun e w=>ZeC e fun f1 t4P t4N t4C t5P t5N t5C t6=>f1=f∧Q .ret [⟨4,.slice t4P t4N t4C,none⟩,⟨5,.slice t5P t5N t5C,none⟩,⟨6,.int .i64 t6,none⟩] w) (Kx:=fun id e w=>match Nat.beq id 0 with | true=>(Zfl e fun f1=>f1=f∧Q (.exit 0) [⟨0,.pointer f.1,none⟩,⟨1,.slice f.2.1 f.2.2.1 f.2.2.2.1,none⟩] w) | false=>False) ?_ ?_ ?_ s w a hj hrep
 ·intro e a w hr h0
  unfold ZeC at h0
  obtain⟨hx_1,g0,h1⟩:=Zar h0
  obtain⟨lP_1,lN_1,lC_1,g1,h2⟩:=Zae h1
  obtain⟨t17P,t17N,t17C,g17,h3⟩:=Zae h2
  obtain⟨t18,g18,h4⟩:=Zab h3
  obtain⟨t4P,t4N,t4C,g4,h5⟩:=Zae h4
  obtain⟨t5P,t5N,t5C,g5,h6⟩:=Zae h5
  obtain⟨t6,g6,h7⟩:=Zab h6
  obtain⟨hf,hq⟩:=h7
  subst hf
  exact⟨_,Zac hr (by simp [g4,g5,g6]),hq⟩
 ·intro id e a w hr h0
  (try dsimp only at h0)
  split at h0
  ·rename_i hid
   obtain rfl:=Nat.eq_of_beq_eq_true hid
   unfold Zfl at h0
   obtain⟨hx_1,g0,h1⟩:=Zar h0
   obtain⟨lP_1,lN_1,lC_1,g1,h2⟩:=Zae h1
   obtain⟨t17P,t17N,t17C,g17,h3⟩:=Zae h2
   obtain⟨t18,g18,h4⟩:=Zab h3
   obtain⟨hf,hq⟩:=h4
   subst hf
   exact⟨_,Zac hr (by simp [g0,g1]),hq⟩
  ·exact h0.elim
 ·intro s w hj
  have hb:=hround s w hj
  rw[←hcc]
  have e1:=Zm7 f s w (fun f1 s1 w1=>f1=f∧J s1 w1∧μ s1 w1<μ s w) (fun f1 w1=>f1=f∧Q (.exit 0) [⟨0,.pointer f.1,none⟩,⟨1,.slice f.2.1 f.2.2.1 f.2.2.2.1,none⟩] w1) (fun f1 t4P t4N t4C t5P t5N t5C t6 w1=>f1=f∧Q .ret [⟨4,.slice t4P t4N t4C,none⟩,⟨5,.slice t5P t5N t5C,none⟩,⟨6,.int .i64 t6,none⟩] w1)
  simp only[true_and] at e1
  exact cast e1 hb
theorem ZnV:OneOk Tryz.prog Tryz.f18.ntmps ZeU (codeOf Tryz.f18) [false,true,false,true,true,true,true,true] Zje:=by
 intro c hc ih Q e w a hr h
 have hcc:sub (codeOf Tryz.f18) [false,false,true,false,true,true,true,true,true]=c:=Zaf hc
 obtain⟨f,s,h,hrep⟩:=ZhF e a _ hr h
 obtain⟨J,μ,hj,hround⟩:=h
 refine Zad Zan Zag ih ZdZ Zcw ZhF hc f J μ (Kr:=fun e w=>ZeD e fun f1 t4P_2 t4N_2 t4C_2 t5P_2 t5N_2 t5C_2 t6_2=>f1=f∧Q .ret [⟨4,.slice t4P_2 t4N_2 t4C_2,none⟩,⟨5,.slice t5P_2 t5N_2 t5C_2,none⟩,⟨6,.int .i64 t6_2,none⟩] w) (Kx:=fun id e w=>match Nat.beq id 2 with | true=>(Zfn e fun f1 outP_1 outN_1 outC_1=>f1=f∧Q (.exit 2) [⟨9,.pointer (some f.1),none⟩,⟨10,.slice outP_1 outN_1 outC_1,none⟩] w) | false=>False) ?_ ?_ ?_ s w a hj hrep
 ·intro e a w hr h0
  unfold ZeD at h0
  obtain⟨r_2,g9,h1⟩:=Zap h0
  obtain⟨t32P,t32N,t32C,g32,h2⟩:=Zae h1
  obtain⟨t33,g33,h3⟩:=Zab h2
  obtain⟨t4P_2,t4N_2,t4C_2,g4,h4⟩:=Zae h3
  obtain⟨t5P_2,t5N_2,t5C_2,g5,h5⟩:=Zae h4
  obtain⟨t6_2,g6,h6⟩:=Zab h5
  obtain⟨hf,hq⟩:=h6
  subst hf
  exact⟨_,Zac hr (by simp [g4,g5,g6]),hq⟩
 ·intro id e a w hr h0
  (try dsimp only at h0)
  split at h0
  ·rename_i hid
   obtain rfl:=Nat.eq_of_beq_eq_true hid
   unfold Zfn at h0
   obtain⟨r_2,g9,h1⟩:=Zap h0
   obtain⟨t32P,t32N,t32C,g32,h2⟩:=Zae h1
   obtain⟨t33,g33,h3⟩:=Zab h2
   obtain⟨outP_1,outN_1,outC_1,g10,h4⟩:=Zae h3
   obtain⟨hf,hq⟩:=h4
   subst hf
   exact⟨_,Zac hr (by simp [g9,g10]),hq⟩
  ·exact h0.elim
 ·intro s w hj
  have hb:=hround s w hj
  rw[←hcc]
  have e1:=Zne f s w (fun f1 s1 w1=>f1=f∧J s1 w1∧μ s1 w1<μ s w) (fun f1 outP_1 outN_1 outC_1 w1=>f1=f∧Q (.exit 2) [⟨9,.pointer (some f.1),none⟩,⟨10,.slice outP_1 outN_1 outC_1,none⟩] w1) (fun f1 t4P_2 t4N_2 t4C_2 t5P_2 t5N_2 t5C_2 t6_2 w1=>f1=f∧Q .ret [⟨4,.slice t4P_2 t4N_2 t4C_2,none⟩,⟨5,.slice t5P_2 t5N_2 t5C_2,none⟩,⟨6,.int .i64 t6_2,none⟩] w1)
  simp only[true_and] at e1
  exact cast e1 hb
theorem Zn8:LoopOk Tryz.prog Tryz.f18.ntmps ZeU (codeOf Tryz.f18):=Zal rfl ⟨Zn9,⟨ZnV,trivial⟩⟩
theorem Za5.of {hx:Option Addr} {lP:Option Addr} {lN:Nat} {lC:Nat} {w:World} {R:Option Addr→Nat→Nat→Option Addr→Nat→Nat→Int→World→Prop} (h:Zjz hx lP lN lC w R):Za5 hx lP lN lC w R:=ofS7 (Fm:=Zjz hx lP lN lC w) Tryz.func18 (by kernel_rfl) Zn8 rfl (fun _=>by kernel_rfl) h
structure Zb8 where
 isx:Bool
 j:Int
structure Za8 where
 varsP_2:Option Addr
 varsN_2:Nat
 varsC_2:Nat
 k:Int
structure Zb7 where
 varsP:Option Addr
 varsN:Nat
 varsC:Nat
 i:Int
structure Zb5 where
 outP_3:Option Addr
 outN_3:Nat
 outC_3:Nat
 i_3:Int
def Zjn (s:Za8) (Kn:Za8→World→Prop) (varsP_5:Option Addr) (varsN_5:Nat) (varsC_5:Nat) (w1_4:World):Prop:=
 Kn ⟨varsP_5,varsN_5,varsC_5,(IntKind.i64.wrap (s.k+(1:Int)))⟩ w1_4
def ZjB (lP_3:Option Addr) (lN_3:Nat) (lC_3:Nat) (varsP_4:Option Addr) (varsN_4:Nat) (varsC_4:Nat) (outP_2:Option Addr) (outN_2:Nat) (outC_2:Nat) (i_2:Int) (vP_1:Option Addr) (vN_1:Nat) (vC_1:Nat) (k_1:Int) (s:Zb8) (w:World) (Kn:Zb8→World→Prop) (Kx4:Bool→World→Prop):Prop:=
 If (decide (s.j<(varsN_4:Int)))
 (If s.isx
 (Kn ⟨true,(IntKind.i64.wrap (s.j+(1:Int)))⟩ (drw w))
 (0≤s.j∧s.j<(varsN_4:Int)∧NN varsP_4 fun a_1=>
 ∃t39,(drw w).cell? (a_1.add (s.j.toNat*1))=some (.int .i64 t39)∧
 0≤k_1∧k_1<(vN_1:Int)∧NN vP_1 fun a_2=>
 ∃t43,(drw w).cell? (a_2.add (k_1.toNat*1))=some (.int .i64 t43)∧
 Kn ⟨(t39==t43),(IntKind.i64.wrap (s.j+(1:Int)))⟩ (drw w)))
 (Kx4 s.isx w)
def ZjF (lP_3:Option Addr) (lN_3:Nat) (lC_3:Nat) (varsP_4:Option Addr) (varsN_4:Nat) (varsC_4:Nat) (outP_2:Option Addr) (outN_2:Nat) (outC_2:Nat) (i_2:Int) (vP_1:Option Addr) (vN_1:Nat) (vC_1:Nat) (k_1:Int) (s:Zb8) (w:World) (Kx4:Bool→World→Prop):Prop:=
 LoopS (fun s w Kn=>ZjB lP_3 lN_3 lC_3 varsP_4 varsN_4 varsC_4 outP_2 outN_2 outC_2 i_2 vP_1 vN_1 vC_1 k_1 s w Kn Kx4) s w
def Zjp (lP_2:Option Addr) (lN_2:Nat) (lC_2:Nat) (outP_1:Option Addr) (outN_1:Nat) (outC_1:Nat) (i_1:Int) (vP:Option Addr) (vN:Nat) (vC:Nat) (s:Za8) (w:World) (Kn:Za8→World→Prop) (Kx2:Option Addr→Nat→Nat→World→Prop):Prop:=
 If (decide (s.k<(vN:Int)))
 (ZjF lP_2 lN_2 lC_2 s.varsP_2 s.varsN_2 s.varsC_2 outP_1 outN_1 outC_1 i_1 vP vN vC s.k ⟨false,(0:Int)⟩ w
 (fun isx_2 w1_1=>
 If (!isx_2)
 (0≤s.k∧s.k<(vN:Int)∧NN vP fun a_3=>
 ∃t52,w1_1.cell? (a_3.add (s.k.toNat*1))=some (.int .i64 t52)∧
 BSl Tryz.prog 55 1 [(0,.int .i64 t52)] w1_1 fun t53P t53N t53C w1_2=>
 App Tryz.prog #[55,55] 55 #[.slice s.varsP_2 s.varsN_2 s.varsC_2,.slice t53P t53N t53C] w1_2 fun t54P t54N t54C w1_3=>
 Zjn s Kn t54P t54N t54C w1_3)
 (Zjn s Kn s.varsP_2 s.varsN_2 s.varsC_2 w1_1)))
 (Kx2 s.varsP_2 s.varsN_2 s.varsC_2 w)
def Zj5 (lP_2:Option Addr) (lN_2:Nat) (lC_2:Nat) (outP_1:Option Addr) (outN_1:Nat) (outC_1:Nat) (i_1:Int) (vP:Option Addr) (vN:Nat) (vC:Nat) (s:Za8) (w:World) (Kx2:Option Addr→Nat→Nat→World→Prop):Prop:=
 LoopS (fun s w Kn=>Zjp lP_2 lN_2 lC_2 outP_1 outN_1 outC_1 i_1 vP vN vC s w Kn Kx2) s w
def ZjT (lP_1:Option Addr) (lN_1:Nat) (lC_1:Nat) (outP:Option Addr) (outN:Nat) (outC:Nat) (s:Zb7) (w:World) (Kn:Zb7→World→Prop) (Kx0:Option Addr→Nat→Nat→World→Prop):Prop:=
 If (decide (s.i<(lN_1:Int)))
 (0≤s.i∧s.i<(lN_1:Int)∧NN lP_1 fun a=>
 ∃t200,w.cell? ((a.add (s.i.toNat*4)).add 0)=some (.int .i64 t200)∧
 ∃t201,w.cell? ((a.add (s.i.toNat*4)).add 1)=some (.int .i64 t201)∧
 ∃t202,w.cell? ((a.add (s.i.toNat*4)).add 2)=some (.string t202)∧
 ∃t203P t203N t203C,w.cell? ((a.add (s.i.toNat*4)).add 3)=some (.slice t203P t203N t203C)∧
 ZfH t200 t201 t202 t203P t203N t203C w fun t21P t21N t21C w1=>
 Zj5 lP_1 lN_1 lC_1 outP outN outC s.i t21P t21N t21C ⟨s.varsP,s.varsN,s.varsC,(0:Int)⟩ w1
 (fun varsP_6 varsN_6 varsC_6 w1_5=>
 Kn ⟨varsP_6,varsN_6,varsC_6,(IntKind.i64.wrap (s.i+(1:Int)))⟩ w1_5))
 (Kx0 s.varsP s.varsN s.varsC w)
def ZjI (lP_1:Option Addr) (lN_1:Nat) (lC_1:Nat) (outP:Option Addr) (outN:Nat) (outC:Nat) (s:Zb7) (w:World) (Kx0:Option Addr→Nat→Nat→World→Prop):Prop:=
 LoopS (fun s w Kn=>ZjT lP_1 lN_1 lC_1 outP outN outC s w Kn Kx0) s w
def ZjU (lP_4:Option Addr) (lN_4:Nat) (lC_4:Nat) (varsP_8:Option Addr) (varsN_8:Nat) (varsC_8:Nat) (s:Zb5) (w:World) (Kn:Zb5→World→Prop) (Kx6:Option Addr→Nat→Nat→World→Prop):Prop:=
 If (decide (s.i_3<(lN_4:Int)))
 (0≤s.i_3∧s.i_3<(lN_4:Int)∧NN lP_4 fun a_4=>
 ∃t650,w.cell? ((a_4.add (s.i_3.toNat*4)).add 0)=some (.int .i64 t650)∧
 ∃t651,w.cell? ((a_4.add (s.i_3.toNat*4)).add 1)=some (.int .i64 t651)∧
 ∃t652,w.cell? ((a_4.add (s.i_3.toNat*4)).add 2)=some (.string t652)∧
 ∃t653P t653N t653C,w.cell? ((a_4.add (s.i_3.toNat*4)).add 3)=some (.slice t653P t653N t653C)∧
 ZbW t650 t651 t652 t653P t653N t653C varsP_8 varsN_8 varsC_8 w fun t670 t671 t672 t673P t673N t673C w1_7=>
 BSl Tryz.prog 22 1 [(0,.agg #[.int .i64 t670,.int .i64 t671,.string t672,.slice t673P t673N t673C])] w1_7 fun t68P t68N t68C w1_8=>
 App Tryz.prog #[22,22] 22 #[.slice s.outP_3 s.outN_3 s.outC_3,.slice t68P t68N t68C] w1_8 fun t69P t69N t69C w1_9=>
 Kn ⟨t69P,t69N,t69C,(IntKind.i64.wrap (s.i_3+(1:Int)))⟩ w1_9)
 (Kx6 s.outP_3 s.outN_3 s.outC_3 w)
def ZjG (lP_4:Option Addr) (lN_4:Nat) (lC_4:Nat) (varsP_8:Option Addr) (varsN_8:Nat) (varsC_8:Nat) (s:Zb5) (w:World) (Kx6:Option Addr→Nat→Nat→World→Prop):Prop:=
 LoopS (fun s w Kn=>ZjU lP_4 lN_4 lC_4 varsP_8 varsN_8 varsC_8 s w Kn Kx6) s w
def Zl2 (lP:Option Addr) (lN:Nat) (lC:Nat) (w:World) (R:Option Addr→Nat→Nat→World→Prop):Prop:=
 ZjI lP lN lC none 0 0 ⟨none,0,0,(0:Int)⟩ w
 (fun varsP_7 varsN_7 varsC_7 w1_6=>
 ZjG lP lN lC varsP_7 varsN_7 varsC_7 ⟨none,0,0,(0:Int)⟩ w1_6
 (fun outP_5 outN_5 outC_5 w1_10=>
 R outP_5 outN_5 outC_5 w1_10))
def Zfj (f:(Option Addr)×Nat×Nat×(Option Addr)×Nat×Nat) (s:Zb7):Env:=[⟨0,.slice f.1 f.2.1 f.2.2.1,none⟩,⟨4,.slice f.2.2.2.1 f.2.2.2.2.1 f.2.2.2.2.2,none⟩,⟨3,.slice s.varsP s.varsN s.varsC,none⟩,⟨5,.int .i64 s.i,none⟩]
def ZdP (e:Env) (K:((Option Addr)×Nat×Nat×(Option Addr)×Nat×Nat)→Zb7→Prop):Prop:=
 oS e 0 fun lP_1 lN_1 lC_1=>
 oS e 4 fun outP outN outC=>
 oS e 3 fun varsP varsN varsC=>
 oI e 5 .i64 fun i=>
  K (lP_1,lN_1,lC_1,outP,outN,outC) ⟨varsP,varsN,varsC,i⟩
theorem Zj4 {N:Nat} (e:Env) (a:Act) (K:((Option Addr)×Nat×Nat×(Option Addr)×Nat×Nat)→Zb7→Prop) (hr:Rep N a e) (h0:ZdP e K):∃f s,K f s∧Rep N a (Zfj f s):=by
 unfold ZdP at h0
 obtain⟨lP_1,lN_1,lC_1,g0,h1⟩:=Zae h0
 obtain⟨outP,outN,outC,g4,h2⟩:=Zae h1
 obtain⟨varsP,varsN,varsC,g3,h3⟩:=Zae h2
 obtain⟨i,g5,h4⟩:=Zab h3
 exact⟨_,_,h4,Zac hr (by simp [Zfj,g0,g4,g3,g5])⟩
def ZkI (Q:Post) (e:Env) (w:World):Prop:=
 ZdP e fun f s=>ZjI f.1 f.2.1 f.2.2.1 f.2.2.2.1 f.2.2.2.2.1 f.2.2.2.2.2 s w (fun varsP_1 varsN_1 varsC_1 w1=>Q (.exit 0) [⟨0,.slice f.1 f.2.1 f.2.2.1,none⟩,⟨4,.slice f.2.2.2.1 f.2.2.2.2.1 f.2.2.2.2.2,none⟩,⟨3,.slice varsP_1 varsN_1 varsC_1,none⟩] w1)
def Zfh (f:(Option Addr)×Nat×Nat×(Option Addr)×Nat×Nat×Int×(Option Addr)×Nat×Nat) (s:Za8):Env:=[⟨0,.slice f.1 f.2.1 f.2.2.1,none⟩,⟨4,.slice f.2.2.2.1 f.2.2.2.2.1 f.2.2.2.2.2.1,none⟩,⟨5,.int .i64 f.2.2.2.2.2.2.1,none⟩,⟨6,.slice f.2.2.2.2.2.2.2.1 f.2.2.2.2.2.2.2.2.1 f.2.2.2.2.2.2.2.2.2,none⟩,⟨3,.slice s.varsP_2 s.varsN_2 s.varsC_2,none⟩,⟨7,.int .i64 s.k,none⟩]
def ZdT (e:Env) (K:((Option Addr)×Nat×Nat×(Option Addr)×Nat×Nat×Int×(Option Addr)×Nat×Nat)→Za8→Prop):Prop:=
 oS e 0 fun lP_2 lN_2 lC_2=>
 oS e 4 fun outP_1 outN_1 outC_1=>
 oI e 5 .i64 fun i_1=>
 oS e 6 fun vP vN vC=>
 oS e 3 fun varsP_2 varsN_2 varsC_2=>
 oI e 7 .i64 fun k=>
  K (lP_2,lN_2,lC_2,outP_1,outN_1,outC_1,i_1,vP,vN,vC) ⟨varsP_2,varsN_2,varsC_2,k⟩
theorem Zjq {N:Nat} (e:Env) (a:Act) (K:((Option Addr)×Nat×Nat×(Option Addr)×Nat×Nat×Int×(Option Addr)×Nat×Nat)→Za8→Prop) (hr:Rep N a e) (h0:ZdT e K):∃f s,K f s∧Rep N a (Zfh f s):=by
 unfold ZdT at h0
 obtain⟨lP_2,lN_2,lC_2,g0,h1⟩:=Zae h0
 obtain⟨outP_1,outN_1,outC_1,g4,h2⟩:=Zae h1
 obtain⟨i_1,g5,h3⟩:=Zab h2
 obtain⟨vP,vN,vC,g6,h4⟩:=Zae h3
 obtain⟨varsP_2,varsN_2,varsC_2,g3,h5⟩:=Zae h4
 obtain⟨k,g7,h6⟩:=Zab h5
 exact⟨_,_,h6,Zac hr (by simp [Zfh,g0,g4,g5,g6,g3,g7])⟩
def ZkP (Q:Post) (e:Env) (w:World):Prop:=
 ZdT e fun f s=>Zj5 f.1 f.2.1 f.2.2.1 f.2.2.2.1 f.2.2.2.2.1 f.2.2.2.2.2.1 f.2.2.2.2.2.2.1 f.2.2.2.2.2.2.2.1 f.2.2.2.2.2.2.2.2.1 f.2.2.2.2.2.2.2.2.2 s w (fun varsP_3 varsN_3 varsC_3 w1=>Q (.exit 2) [⟨0,.slice f.1 f.2.1 f.2.2.1,none⟩,⟨4,.slice f.2.2.2.1 f.2.2.2.2.1 f.2.2.2.2.2.1,none⟩,⟨5,.int .i64 f.2.2.2.2.2.2.1,none⟩,⟨3,.slice varsP_3 varsN_3 varsC_3,none⟩] w1)
def Zfg (f:(Option Addr)×Nat×Nat×(Option Addr)×Nat×Nat×(Option Addr)×Nat×Nat×Int×(Option Addr)×Nat×Nat×Int) (s:Zb8):Env:=[⟨0,.slice f.1 f.2.1 f.2.2.1,none⟩,⟨3,.slice f.2.2.2.1 f.2.2.2.2.1 f.2.2.2.2.2.1,none⟩,⟨4,.slice f.2.2.2.2.2.2.1 f.2.2.2.2.2.2.2.1 f.2.2.2.2.2.2.2.2.1,none⟩,⟨5,.int .i64 f.2.2.2.2.2.2.2.2.2.1,none⟩,⟨6,.slice f.2.2.2.2.2.2.2.2.2.2.1 f.2.2.2.2.2.2.2.2.2.2.2.1 f.2.2.2.2.2.2.2.2.2.2.2.2.1,none⟩,⟨7,.int .i64 f.2.2.2.2.2.2.2.2.2.2.2.2.2,none⟩,⟨8,.bool s.isx,none⟩,⟨9,.int .i64 s.j,none⟩]
def ZdQ (e:Env) (K:((Option Addr)×Nat×Nat×(Option Addr)×Nat×Nat×(Option Addr)×Nat×Nat×Int×(Option Addr)×Nat×Nat×Int)→Zb8→Prop):Prop:=
 oS e 0 fun lP_3 lN_3 lC_3=>
 oS e 3 fun varsP_4 varsN_4 varsC_4=>
 oS e 4 fun outP_2 outN_2 outC_2=>
 oI e 5 .i64 fun i_2=>
 oS e 6 fun vP_1 vN_1 vC_1=>
 oI e 7 .i64 fun k_1=>
 oB e 8 fun isx=>
 oI e 9 .i64 fun j=>
  K (lP_3,lN_3,lC_3,varsP_4,varsN_4,varsC_4,outP_2,outN_2,outC_2,i_2,vP_1,vN_1,vC_1,k_1) ⟨isx,j⟩
theorem ZjY {N:Nat} (e:Env) (a:Act) (K:((Option Addr)×Nat×Nat×(Option Addr)×Nat×Nat×(Option Addr)×Nat×Nat×Int×(Option Addr)×Nat×Nat×Int)→Zb8→Prop) (hr:Rep N a e) (h0:ZdQ e K):∃f s,K f s∧Rep N a (Zfg f s):=by
 unfold ZdQ at h0
 obtain⟨lP_3,lN_3,lC_3,g0,h1⟩:=Zae h0
 obtain⟨varsP_4,varsN_4,varsC_4,g3,h2⟩:=Zae h1
 obtain⟨outP_2,outN_2,outC_2,g4,h3⟩:=Zae h2
 obtain⟨i_2,g5,h4⟩:=Zab h3
 obtain⟨vP_1,vN_1,vC_1,g6,h5⟩:=Zae h4
 obtain⟨k_1,g7,h6⟩:=Zab h5
 obtain⟨isx,g8,h7⟩:=Zjx h6
 obtain⟨j,g9,h8⟩:=Zab h7
 exact⟨_,_,h8,Zac hr (by simp [Zfg,g0,g3,g4,g5,g6,g7,g8,g9])⟩
def ZkS (Q:Post) (e:Env) (w:World):Prop:=
 ZdQ e fun f s=>ZjF f.1 f.2.1 f.2.2.1 f.2.2.2.1 f.2.2.2.2.1 f.2.2.2.2.2.1 f.2.2.2.2.2.2.1 f.2.2.2.2.2.2.2.1 f.2.2.2.2.2.2.2.2.1 f.2.2.2.2.2.2.2.2.2.1 f.2.2.2.2.2.2.2.2.2.2.1 f.2.2.2.2.2.2.2.2.2.2.2.1 f.2.2.2.2.2.2.2.2.2.2.2.2.1 f.2.2.2.2.2.2.2.2.2.2.2.2.2 s w (fun isx_1 w1=>Q (.exit 4) [⟨0,.slice f.1 f.2.1 f.2.2.1,none⟩,⟨3,.slice f.2.2.2.1 f.2.2.2.2.1 f.2.2.2.2.2.1,none⟩,⟨4,.slice f.2.2.2.2.2.2.1 f.2.2.2.2.2.2.2.1 f.2.2.2.2.2.2.2.2.1,none⟩,⟨5,.int .i64 f.2.2.2.2.2.2.2.2.2.1,none⟩,⟨6,.slice f.2.2.2.2.2.2.2.2.2.2.1 f.2.2.2.2.2.2.2.2.2.2.2.1 f.2.2.2.2.2.2.2.2.2.2.2.2.1,none⟩,⟨7,.int .i64 f.2.2.2.2.2.2.2.2.2.2.2.2.2,none⟩,⟨8,.bool isx_1,none⟩] w1)
def Zfi (f:(Option Addr)×Nat×Nat×(Option Addr)×Nat×Nat) (s:Zb5):Env:=[⟨0,.slice f.1 f.2.1 f.2.2.1,none⟩,⟨3,.slice f.2.2.2.1 f.2.2.2.2.1 f.2.2.2.2.2,none⟩,⟨4,.slice s.outP_3 s.outN_3 s.outC_3,none⟩,⟨10,.int .i64 s.i_3,none⟩]
def ZdO (e:Env) (K:((Option Addr)×Nat×Nat×(Option Addr)×Nat×Nat)→Zb5→Prop):Prop:=
 oS e 0 fun lP_4 lN_4 lC_4=>
 oS e 3 fun varsP_8 varsN_8 varsC_8=>
 oS e 4 fun outP_3 outN_3 outC_3=>
 oI e 10 .i64 fun i_3=>
  K (lP_4,lN_4,lC_4,varsP_8,varsN_8,varsC_8) ⟨outP_3,outN_3,outC_3,i_3⟩
theorem ZjE {N:Nat} (e:Env) (a:Act) (K:((Option Addr)×Nat×Nat×(Option Addr)×Nat×Nat)→Zb5→Prop) (hr:Rep N a e) (h0:ZdO e K):∃f s,K f s∧Rep N a (Zfi f s):=by
 unfold ZdO at h0
 obtain⟨lP_4,lN_4,lC_4,g0,h1⟩:=Zae h0
 obtain⟨varsP_8,varsN_8,varsC_8,g3,h2⟩:=Zae h1
 obtain⟨outP_3,outN_3,outC_3,g4,h3⟩:=Zae h2
 obtain⟨i_3,g10,h4⟩:=Zab h3
 exact⟨_,_,h4,Zac hr (by simp [Zfi,g0,g3,g4,g10])⟩
def ZkJ (Q:Post) (e:Env) (w:World):Prop:=
 ZdO e fun f s=>ZjG f.1 f.2.1 f.2.2.1 f.2.2.2.1 f.2.2.2.2.1 f.2.2.2.2.2 s w (fun outP_4 outN_4 outC_4 w1=>Q (.exit 6) [⟨4,.slice outP_4 outN_4 outC_4,none⟩] w1)
def ZcK:Gen where
 loop:=lookL [([false,true,false,true,true,true],ZkI),([false,true,true,false,false,true,false,false,true,false,true,true,true],ZkP),([false,true,false,true,false,false,true,false,false,true,true,false,false,true,false,false,true,false,true,true,true],ZkS),([false,true,false,true,true,true,true],ZkJ)]
 plan:=fun id=>
  bif Nat.beq id 14 then some ([0,1,3,3,15,31,3,3,195,451,1023,2047,4095],.take 0 (.take 1 (.take 2 (.take 3 (.take 4 (.take 5 (.take 6 (.take 7 (.take 8 (.take 9 (.take 10 (.take 11 (.take 12 .done))))))))))))) else none
def Zho (e:Env) (K:((Option Addr)×Nat×Nat×(Option Addr)×Nat×Nat)→Option Addr→Nat→Nat→Prop):Prop:=
 oS e 0 fun lP_1 lN_1 lC_1=>
 oS e 4 fun outP outN outC=>
 oS e 3 fun varsP_1 varsN_1 varsC_1=>
  K (lP_1,lN_1,lC_1,outP,outN,outC) varsP_1 varsN_1 varsC_1
theorem Zor (f:(Option Addr)×Nat×Nat×(Option Addr)×Nat×Nat) (s:Zb7) (w:World) (Kn:((Option Addr)×Nat×Nat×(Option Addr)×Nat×Nat)→Zb7→World→Prop) (Kx0:((Option Addr)×Nat×Nat×(Option Addr)×Nat×Nat)→Option Addr→Nat→Nat→World→Prop) :
  ZjT f.1 f.2.1 f.2.2.1 f.2.2.2.1 f.2.2.2.2.1 f.2.2.2.2.2 s w (fun s1 w1=>Kn f s1 w1) (fun varsP_1 varsN_1 varsC_1 w1=>Kx0 f varsP_1 varsN_1 varsC_1 w1) =
  den Tryz.prog Tryz.f19.ntmps ZcK (sub (codeOf Tryz.f19) [false,false,true,false,true,true,true]) [false,false,true,false,true,true,true] (roundQ (fun e w=>ZdP e fun f s=>Kn f s w) (fun e w=>False) (fun id e w=>match Nat.beq id 0 with | true=>Zho e fun f varsP_1 varsN_1 varsC_1=>Kx0 f varsP_1 varsN_1 varsC_1 w | false=>False)) (Zfj f s) w:=by kernel_rfl
def Zhn (e:Env) (K:((Option Addr)×Nat×Nat×(Option Addr)×Nat×Nat×Int×(Option Addr)×Nat×Nat)→Option Addr→Nat→Nat→Prop):Prop:=
 oS e 0 fun lP_2 lN_2 lC_2=>
 oS e 4 fun outP_1 outN_1 outC_1=>
 oI e 5 .i64 fun i_1=>
 oS e 6 fun vP vN vC=>
 oS e 3 fun varsP_3 varsN_3 varsC_3=>
  K (lP_2,lN_2,lC_2,outP_1,outN_1,outC_1,i_1,vP,vN,vC) varsP_3 varsN_3 varsC_3
theorem Zos (f:(Option Addr)×Nat×Nat×(Option Addr)×Nat×Nat×Int×(Option Addr)×Nat×Nat) (s:Za8) (w:World) (Kn:((Option Addr)×Nat×Nat×(Option Addr)×Nat×Nat×Int×(Option Addr)×Nat×Nat)→Za8→World→Prop) (Kx2:((Option Addr)×Nat×Nat×(Option Addr)×Nat×Nat×Int×(Option Addr)×Nat×Nat)→Option Addr→Nat→Nat→World→Prop) :
  Zjp f.1 f.2.1 f.2.2.1 f.2.2.2.1 f.2.2.2.2.1 f.2.2.2.2.2.1 f.2.2.2.2.2.2.1 f.2.2.2.2.2.2.2.1 f.2.2.2.2.2.2.2.2.1 f.2.2.2.2.2.2.2.2.2 s w (fun s1 w1=>Kn f s1 w1) (fun varsP_3 varsN_3 varsC_3 w1=>Kx2 f varsP_3 varsN_3 varsC_3 w1) =
  den Tryz.prog Tryz.f19.ntmps ZcK (sub (codeOf Tryz.f19) [false,false,true,true,false,false,true,false,false,true,false,true,true,true]) [false,false,true,true,false,false,true,false,false,true,false,true,true,true] (roundQ (fun e w=>ZdT e fun f s=>Kn f s w) (fun e w=>False) (fun id e w=>match Nat.beq id 2 with | true=>Zhn e fun f varsP_3 varsN_3 varsC_3=>Kx2 f varsP_3 varsN_3 varsC_3 w | false=>False)) (Zfh f s) w:=by kernel_rfl
def Zg4 (e:Env) (K:((Option Addr)×Nat×Nat×(Option Addr)×Nat×Nat×(Option Addr)×Nat×Nat×Int×(Option Addr)×Nat×Nat×Int)→Bool→Prop):Prop:=
 oS e 0 fun lP_3 lN_3 lC_3=>
 oS e 3 fun varsP_4 varsN_4 varsC_4=>
 oS e 4 fun outP_2 outN_2 outC_2=>
 oI e 5 .i64 fun i_2=>
 oS e 6 fun vP_1 vN_1 vC_1=>
 oI e 7 .i64 fun k_1=>
 oB e 8 fun isx_1=>
  K (lP_3,lN_3,lC_3,varsP_4,varsN_4,varsC_4,outP_2,outN_2,outC_2,i_2,vP_1,vN_1,vC_1,k_1) isx_1
theorem ZoD (f:(Option Addr)×Nat×Nat×(Option Addr)×Nat×Nat×(Option Addr)×Nat×Nat×Int×(Option Addr)×Nat×Nat×Int) (s:Zb8) (w:World) (Kn:((Option Addr)×Nat×Nat×(Option Addr)×Nat×Nat×(Option Addr)×Nat×Nat×Int×(Option Addr)×Nat×Nat×Int)→Zb8→World→Prop) (Kx4:((Option Addr)×Nat×Nat×(Option Addr)×Nat×Nat×(Option Addr)×Nat×Nat×Int×(Option Addr)×Nat×Nat×Int)→Bool→World→Prop) :
  ZjB f.1 f.2.1 f.2.2.1 f.2.2.2.1 f.2.2.2.2.1 f.2.2.2.2.2.1 f.2.2.2.2.2.2.1 f.2.2.2.2.2.2.2.1 f.2.2.2.2.2.2.2.2.1 f.2.2.2.2.2.2.2.2.2.1 f.2.2.2.2.2.2.2.2.2.2.1 f.2.2.2.2.2.2.2.2.2.2.2.1 f.2.2.2.2.2.2.2.2.2.2.2.2.1 f.2.2.2.2.2.2.2.2.2.2.2.2.2 s w (fun s1 w1=>Kn f s1 w1) (fun isx_1 w1=>Kx4 f isx_1 w1) =
  den Tryz.prog Tryz.f19.ntmps ZcK (sub (codeOf Tryz.f19) [false,false,true,false,true,false,false,true,false,false,true,true,false,false,true,false,false,true,false,true,true,true]) [false,false,true,false,true,false,false,true,false,false,true,true,false,false,true,false,false,true,false,true,true,true] (roundQ (fun e w=>ZdQ e fun f s=>Kn f s w) (fun e w=>False) (fun id e w=>match Nat.beq id 4 with | true=>Zg4 e fun f isx_1=>Kx4 f isx_1 w | false=>False)) (Zfg f s) w:=by kernel_rfl
def Zg7 (e:Env) (K:((Option Addr)×Nat×Nat×(Option Addr)×Nat×Nat)→Option Addr→Nat→Nat→Prop):Prop:=
 oS e 0 fun lP_4 lN_4 lC_4=>
 oS e 3 fun varsP_8 varsN_8 varsC_8=>
 oS e 4 fun outP_4 outN_4 outC_4=>
  K (lP_4,lN_4,lC_4,varsP_8,varsN_8,varsC_8) outP_4 outN_4 outC_4
theorem Zoj (f:(Option Addr)×Nat×Nat×(Option Addr)×Nat×Nat) (s:Zb5) (w:World) (Kn:((Option Addr)×Nat×Nat×(Option Addr)×Nat×Nat)→Zb5→World→Prop) (Kx6:((Option Addr)×Nat×Nat×(Option Addr)×Nat×Nat)→Option Addr→Nat→Nat→World→Prop) :
  ZjU f.1 f.2.1 f.2.2.1 f.2.2.2.1 f.2.2.2.2.1 f.2.2.2.2.2 s w (fun s1 w1=>Kn f s1 w1) (fun outP_4 outN_4 outC_4 w1=>Kx6 f outP_4 outN_4 outC_4 w1) =
  den Tryz.prog Tryz.f19.ntmps ZcK (sub (codeOf Tryz.f19) [false,false,true,false,true,true,true,true]) [false,false,true,false,true,true,true,true] (roundQ (fun e w=>ZdO e fun f s=>Kn f s w) (fun e w=>False) (fun id e w=>match Nat.beq id 6 with | true=>Zg7 e fun f outP_4 outN_4 outC_4=>Kx6 f outP_4 outN_4 outC_4 w | false=>False)) (Zfi f s) w:=by kernel_rfl
theorem ZpH:OneOk Tryz.prog Tryz.f19.ntmps ZcK (codeOf Tryz.f19) [false,true,false,true,true,true] ZkI:=by
 intro c hc ih Q e w a hr h
 have hcc:sub (codeOf Tryz.f19) [false,false,true,false,true,true,true]=c:=Zaf hc
 obtain⟨f,s,h,hrep⟩:=Zj4 e a _ hr h
 obtain⟨J,μ,hj,hround⟩:=h
 refine Zad Zan Zag ih Zfj ZdP Zj4 hc f J μ (Kr:=fun e w=>False) (Kx:=fun id e w=>match Nat.beq id 0 with | true=>(Zho e fun f1 varsP_1 varsN_1 varsC_1=>f1=f∧Q (.exit 0) [⟨0,.slice f.1 f.2.1 f.2.2.1,none⟩,⟨4,.slice f.2.2.2.1 f.2.2.2.2.1 f.2.2.2.2.2,none⟩,⟨3,.slice varsP_1 varsN_1 varsC_1,none⟩] w) | false=>False) ?_ ?_ ?_ s w a hj hrep
 ·intro e a w hr h
  exact h.elim
 ·intro id e a w hr h0
  (try dsimp only at h0)
  split at h0
  ·rename_i hid
   obtain rfl:=Nat.eq_of_beq_eq_true hid
   unfold Zho at h0
   obtain⟨lP_1,lN_1,lC_1,g0,h1⟩:=Zae h0
   obtain⟨outP,outN,outC,g4,h2⟩:=Zae h1
   obtain⟨varsP_1,varsN_1,varsC_1,g3,h3⟩:=Zae h2
   obtain⟨hf,hq⟩:=h3
   subst hf
   exact⟨_,Zac hr (by simp [g0,g4,g3]),hq⟩
  ·exact h0.elim
 ·intro s w hj
  have hb:=hround s w hj
  rw[←hcc]
  have e1:=Zor f s w (fun f1 s1 w1=>f1=f∧J s1 w1∧μ s1 w1<μ s w) (fun f1 varsP_1 varsN_1 varsC_1 w1=>f1=f∧Q (.exit 0) [⟨0,.slice f.1 f.2.1 f.2.2.1,none⟩,⟨4,.slice f.2.2.2.1 f.2.2.2.2.1 f.2.2.2.2.2,none⟩,⟨3,.slice varsP_1 varsN_1 varsC_1,none⟩] w1)
  simp only[true_and] at e1
  exact cast e1 hb
theorem ZpE:OneOk Tryz.prog Tryz.f19.ntmps ZcK (codeOf Tryz.f19) [false,true,true,false,false,true,false,false,true,false,true,true,true] ZkP:=by
 intro c hc ih Q e w a hr h
 have hcc:sub (codeOf Tryz.f19) [false,false,true,true,false,false,true,false,false,true,false,true,true,true]=c:=Zaf hc
 obtain⟨f,s,h,hrep⟩:=Zjq e a _ hr h
 obtain⟨J,μ,hj,hround⟩:=h
 refine Zad Zan Zag ih Zfh ZdT Zjq hc f J μ (Kr:=fun e w=>False) (Kx:=fun id e w=>match Nat.beq id 2 with | true=>(Zhn e fun f1 varsP_3 varsN_3 varsC_3=>f1=f∧Q (.exit 2) [⟨0,.slice f.1 f.2.1 f.2.2.1,none⟩,⟨4,.slice f.2.2.2.1 f.2.2.2.2.1 f.2.2.2.2.2.1,none⟩,⟨5,.int .i64 f.2.2.2.2.2.2.1,none⟩,⟨3,.slice varsP_3 varsN_3 varsC_3,none⟩] w) | false=>False) ?_ ?_ ?_ s w a hj hrep
 ·intro e a w hr h
  exact h.elim
 ·intro id e a w hr h0
  (try dsimp only at h0)
  split at h0
  ·rename_i hid
   obtain rfl:=Nat.eq_of_beq_eq_true hid
   unfold Zhn at h0
   obtain⟨lP_2,lN_2,lC_2,g0,h1⟩:=Zae h0
   obtain⟨outP_1,outN_1,outC_1,g4,h2⟩:=Zae h1
   obtain⟨i_1,g5,h3⟩:=Zab h2
   obtain⟨vP,vN,vC,g6,h4⟩:=Zae h3
   obtain⟨varsP_3,varsN_3,varsC_3,g3,h5⟩:=Zae h4
   obtain⟨hf,hq⟩:=h5
   subst hf
   exact⟨_,Zac hr (by simp [g0,g4,g5,g3]),hq⟩
  ·exact h0.elim
 ·intro s w hj
  have hb:=hround s w hj
  rw[←hcc]
  have e1:=Zos f s w (fun f1 s1 w1=>f1=f∧J s1 w1∧μ s1 w1<μ s w) (fun f1 varsP_3 varsN_3 varsC_3 w1=>f1=f∧Q (.exit 2) [⟨0,.slice f.1 f.2.1 f.2.2.1,none⟩,⟨4,.slice f.2.2.2.1 f.2.2.2.2.1 f.2.2.2.2.2.1,none⟩,⟨5,.int .i64 f.2.2.2.2.2.2.1,none⟩,⟨3,.slice varsP_3 varsN_3 varsC_3,none⟩] w1)
  simp only[true_and] at e1
  exact cast e1 hb
theorem Zpf:OneOk Tryz.prog Tryz.f19.ntmps ZcK (codeOf Tryz.f19) [false,true,false,true,false,false,true,false,false,true,true,false,false,true,false,false,true,false,true,true,true] ZkS:=by
 intro c hc ih Q e w a hr h
 have hcc:sub (codeOf Tryz.f19) [false,false,true,false,true,false,false,true,false,false,true,true,false,false,true,false,false,true,false,true,true,true]=c:=Zaf hc
 obtain⟨f,s,h,hrep⟩:=ZjY e a _ hr h
 obtain⟨J,μ,hj,hround⟩:=h
 refine Zad Zan Zag ih Zfg ZdQ ZjY hc f J μ (Kr:=fun e w=>False) (Kx:=fun id e w=>match Nat.beq id 4 with | true=>(Zg4 e fun f1 isx_1=>f1=f∧Q (.exit 4) [⟨0,.slice f.1 f.2.1 f.2.2.1,none⟩,⟨3,.slice f.2.2.2.1 f.2.2.2.2.1 f.2.2.2.2.2.1,none⟩,⟨4,.slice f.2.2.2.2.2.2.1 f.2.2.2.2.2.2.2.1 f.2.2.2.2.2.2.2.2.1,none⟩,⟨5,.int .i64 f.2.2.2.2.2.2.2.2.2.1,none⟩,⟨6,.slice f.2.2.2.2.2.2.2.2.2.2.1 f.2.2.2.2.2.2.2.2.2.2.2.1 f.2.2.2.2.2.2.2.2.2.2.2.2.1,none⟩,⟨7,.int .i64 f.2.2.2.2.2.2.2.2.2.2.2.2.2,none⟩,⟨8,.bool isx_1,none⟩] w) | false=>False) ?_ ?_ ?_ s w a hj hrep
 ·intro e a w hr h
  exact h.elim
 ·intro id e a w hr h0
  (try dsimp only at h0)
  split at h0
  ·rename_i hid
   obtain rfl:=Nat.eq_of_beq_eq_true hid
   unfold Zg4 at h0
   obtain⟨lP_3,lN_3,lC_3,g0,h1⟩:=Zae h0
   obtain⟨varsP_4,varsN_4,varsC_4,g3,h2⟩:=Zae h1
   obtain⟨outP_2,outN_2,outC_2,g4,h3⟩:=Zae h2
   obtain⟨i_2,g5,h4⟩:=Zab h3
   obtain⟨vP_1,vN_1,vC_1,g6,h5⟩:=Zae h4
   obtain⟨k_1,g7,h6⟩:=Zab h5
   obtain⟨isx_1,g8,h7⟩:=Zjx h6
   obtain⟨hf,hq⟩:=h7
   subst hf
   exact⟨_,Zac hr (by simp [g0,g3,g4,g5,g6,g7,g8]),hq⟩
  ·exact h0.elim
 ·intro s w hj
  have hb:=hround s w hj
  rw[←hcc]
  have e1:=ZoD f s w (fun f1 s1 w1=>f1=f∧J s1 w1∧μ s1 w1<μ s w) (fun f1 isx_1 w1=>f1=f∧Q (.exit 4) [⟨0,.slice f.1 f.2.1 f.2.2.1,none⟩,⟨3,.slice f.2.2.2.1 f.2.2.2.2.1 f.2.2.2.2.2.1,none⟩,⟨4,.slice f.2.2.2.2.2.2.1 f.2.2.2.2.2.2.2.1 f.2.2.2.2.2.2.2.2.1,none⟩,⟨5,.int .i64 f.2.2.2.2.2.2.2.2.2.1,none⟩,⟨6,.slice f.2.2.2.2.2.2.2.2.2.2.1 f.2.2.2.2.2.2.2.2.2.2.2.1 f.2.2.2.2.2.2.2.2.2.2.2.2.1,none⟩,⟨7,.int .i64 f.2.2.2.2.2.2.2.2.2.2.2.2.2,none⟩,⟨8,.bool isx_1,none⟩] w1)
  simp only[true_and] at e1
  exact cast e1 hb
theorem Zpi:OneOk Tryz.prog Tryz.f19.ntmps ZcK (codeOf Tryz.f19) [false,true,false,true,true,true,true] ZkJ:=by
 intro c hc ih Q e w a hr h
 have hcc:sub (codeOf Tryz.f19) [false,false,true,false,true,true,true,true]=c:=Zaf hc
 obtain⟨f,s,h,hrep⟩:=ZjE e a _ hr h
 obtain⟨J,μ,hj,hround⟩:=h
 refine Zad Zan Zag ih Zfi ZdO ZjE hc f J μ (Kr:=fun e w=>False) (Kx:=fun id e w=>match Nat.beq id 6 with | true=>(Zg7 e fun f1 outP_4 outN_4 outC_4=>f1=f∧Q (.exit 6) [⟨4,.slice outP_4 outN_4 outC_4,none⟩] w) | false=>False) ?_ ?_ ?_ s w a hj hrep
 ·intro e a w hr h
  exact h.elim
 ·intro id e a w hr h0
  (try dsimp only at h0)
  split at h0
  ·rename_i hid
   obtain rfl:=Nat.eq_of_beq_eq_true hid
   unfold Zg7 at h0
   obtain⟨lP_4,lN_4,lC_4,g0,h1⟩:=Zae h0
   obtain⟨varsP_8,varsN_8,varsC_8,g3,h2⟩:=Zae h1
   obtain⟨outP_4,outN_4,outC_4,g4,h3⟩:=Zae h2
   obtain⟨hf,hq⟩:=h3
   subst hf
   exact⟨_,Zac hr (by simp [g4]),hq⟩
  ·exact h0.elim
 ·intro s w hj
  have hb:=hround s w hj
  rw[←hcc]
  have e1:=Zoj f s w (fun f1 s1 w1=>f1=f∧J s1 w1∧μ s1 w1<μ s w) (fun f1 outP_4 outN_4 outC_4 w1=>f1=f∧Q (.exit 6) [⟨4,.slice outP_4 outN_4 outC_4,none⟩] w1)
  simp only[true_and] at e1
  exact cast e1 hb
theorem ZpD:LoopOk Tryz.prog Tryz.f19.ntmps ZcK (codeOf Tryz.f19):=Zal rfl ⟨ZpH,⟨ZpE,⟨Zpf,⟨Zpi,trivial⟩⟩⟩⟩
theorem Zdq.of {lP:Option Addr} {lN:Nat} {lC:Nat} {w:World} {R:Option Addr→Nat→Nat→World→Prop} (h:Zl2 lP lN lC w R):Zdq lP lN lC w R:=ofS6 (Fm:=Zl2 lP lN lC w) Tryz.func19 (by kernel_rfl) ZpD rfl (fun _=>by kernel_rfl) h
end Go.Proofs.YtdaenijbokialaaGreat
