import Derived.Test.YtdaenijbokialaaGreatGenC
set_option maxRecDepth 100000
set_option linter.unusedVariables false
namespace Go.Proofs.YtdaenijbokialaaGreat
open Go Go.D Go.Proofs
def ZmO (t0:Int) (t1:Int) (t2:ByteArray) (t3P:Option Addr) (t3N:Nat) (t3C:Nat) (w:World) (R:Int→Int→Bool→World→Prop):Prop:=
 New w (.cells #[.int .i64 t0,.int .i64 t1,.string t2,.slice t3P t3N t3C] 31) fun r w1=>
 New w1 (.cells #[.int .i64 0,.int .i64 0,.bool false] 196) fun r_1 w1_1=>
 New w1_1 (.cells #[.int .i64 0,.int .i64 0,.bool false] 196) fun r_2 w1_2=>
 ∃t40,w1_2.cell? (Addr.add ⟨r,0,none⟩ 0)=some (.int .i64 t40)∧
 ∃t41,w1_2.cell? (Addr.add ⟨r,0,none⟩ 1)=some (.int .i64 t41)∧
 ∃t42,w1_2.cell? (Addr.add ⟨r,0,none⟩ 2)=some (.string t42)∧
 ∃t43P t43N t43C,w1_2.cell? (Addr.add ⟨r,0,none⟩ 3)=some (.slice t43P t43N t43C)∧
 ZcA (some ⟨r_2,0,none⟩) t40 t41 t42 t43P t43N t43C (1:Int) w1_2 fun w1_3=>
 ∃t60,w1_3.cell? (Addr.add ⟨r_2,0,none⟩ 0)=some (.int .i64 t60)∧
 ∃t61,w1_3.cell? (Addr.add ⟨r_2,0,none⟩ 1)=some (.int .i64 t61)∧
 ∃t62,w1_3.cell? (Addr.add ⟨r_2,0,none⟩ 2)=some (.bool t62)∧
 St w1_3 (Addr.add ⟨r_1,0,none⟩ 0) (.int .i64 t60) fun w1_4=>
 St w1_4 (Addr.add ⟨r_1,0,none⟩ 1) (.int .i64 t61) fun w1_5=>
 St w1_5 (Addr.add ⟨r_1,0,none⟩ 2) (.bool t62) fun w1_6=>
 ∃r_3,w1_6.cell? (Addr.add ⟨r_1,0,none⟩ 0)=some (.int .i64 r_3)∧
 ∃r_4,w1_6.cell? (Addr.add ⟨r_1,0,none⟩ 1)=some (.int .i64 r_4)∧
 ∃r_5,w1_6.cell? (Addr.add ⟨r_1,0,none⟩ 2)=some (.bool r_5)∧
 R r_3 r_4 r_5 w1_6
theorem Zeh.of {t0:Int} {t1:Int} {t2:ByteArray} {t3P:Option Addr} {t3N:Nat} {t3C:Nat} {w:World} {R:Int→Int→Bool→World→Prop} (h:ZmO t0 t1 t2 t3P t3N t3C w R):Zeh t0 t1 t2 t3P t3N t3C w R:=ofS19 (Fm:=ZmO t0 t1 t2 t3P t3N t3C w) Tryz.func117 (by kernel_rfl) (L0 Tryz.f117) rfl (fun _=>by kernel_rfl) h
def ZdV (R:Int→Int→World→Prop) (t270:Int) (t271:Int) (w1_5:World):Prop:=
 R t270 t271 w1_5
def ZfM (hx:Option Addr) (n:Int) (vars:Option Nat) (R:Int→Int→World→Prop) (w1_2:World):Prop:=
 Zdh hx w1_2 fun t270 t271 w1_3=>
 If (t271==(0:Int))
 (If (!vars.isNone)
 (MUp Tryz.prog 35 (.map vars) (.int .i64 n) (.int .u64 t270) w1_3 fun w1_4=>
 ZdV R t270 t271 w1_4)
 (ZdV R t270 t271 w1_3))
 (ZdV R t270 t271 w1_3)
def ZhJ (hx:Option Addr) (n:Int) (vars:Option Nat) (w:World) (R:Int→Int→World→Prop):Prop:=
 Run Tryz.prog (Instr.lookup 35 (.map vars) (.int .i64 n) true) w fun v w1=>∃t150:Int,∃t151:Bool,v=(.tuple #[.int .u64 t150,.bool t151])∧
 If t151
 (Zaw hx t150 w1 fun t22 w1_1=>
 If t22
 (R t150 (0:Int) w1_1)
 (ZfM hx n vars R w1_1))
 (ZfM hx n vars R w1)
theorem Zbw.of {hx:Option Addr} {n:Int} {vars:Option Nat} {w:World} {R:Int→Int→World→Prop} (h:ZhJ hx n vars w R):Zbw hx n vars w R:=ofS5 (Fm:=ZhJ hx n vars w) Tryz.func118 (by kernel_rfl) (L0 Tryz.f118) rfl (fun _=>by kernel_rfl) h
def Ze9 (R:Int→Int→ByteArray→Option Addr→Nat→Nat→World→Prop) (r_1:Nat) (n:Int) (w1_6:World):Prop:=
 Zi0 n w1_6 fun t400 t401 t402 t403P t403N t403C w1_7=>
 St w1_7 (Addr.add ⟨r_1,0,none⟩ 0) (.int .i64 t400) fun w1_8=>
 St w1_8 (Addr.add ⟨r_1,0,none⟩ 1) (.int .i64 t401) fun w1_9=>
 St w1_9 (Addr.add ⟨r_1,0,none⟩ 2) (.string t402) fun w1_10=>
 St w1_10 (Addr.add ⟨r_1,0,none⟩ 3) (.slice t403P t403N t403C) fun w1_11=>
 ∃r_2,w1_11.cell? (Addr.add ⟨r_1,0,none⟩ 0)=some (.int .i64 r_2)∧
 ∃r_3,w1_11.cell? (Addr.add ⟨r_1,0,none⟩ 1)=some (.int .i64 r_3)∧
 ∃r_4,w1_11.cell? (Addr.add ⟨r_1,0,none⟩ 2)=some (.string r_4)∧
 ∃rP rN rC,w1_11.cell? (Addr.add ⟨r_1,0,none⟩ 3)=some (.slice rP rN rC)∧
 R r_2 r_3 r_4 rP rN rC w1_11
def Zgt (r:Option Addr) (wx:Int) (w:World) (R:Int→Int→ByteArray→Option Addr→Nat→Nat→World→Prop):Prop:=
 New w (.cells #[.int .i64 0,.int .i64 0,.string ⟨#[]⟩,.slice none 0 0] 31) fun r_1 w1=>
 NN r fun a=>
 ∃atx,w1.cell? (a.add 1)=some (.map atx)∧
 Run Tryz.prog (Instr.lookup 117 (.map atx) (.int .u64 wx) true) w1 fun v w1_1=>∃t130:Int,∃t131:Bool,v=(.tuple #[.int .i64 t130,.bool t131])∧
 If (!t131)
 (NN r fun a_1=>
 ∃varsP varsN varsC,w1_1.cell? (a_1.add 2)=some (.slice varsP varsN varsC)∧
 NN r fun a_2=>
 ∃atx_1,w1_1.cell? (a_2.add 1)=some (.map atx_1)∧
 MUp Tryz.prog 117 (.map atx_1) (.int .u64 wx) (.int .i64 (varsN:Int)) w1_1 fun w1_2=>
 NN r fun a_3=>
 ∃varsP_1 varsN_1 varsC_1,w1_2.cell? (a_3.add 2)=some (.slice varsP_1 varsN_1 varsC_1)∧
 BSl Tryz.prog 36 1 [(0,.int .u64 wx)] w1_2 fun t35P t35N t35C w1_3=>
 App Tryz.prog #[36,36] 36 #[.slice varsP_1 varsN_1 varsC_1,.slice t35P t35N t35C] w1_3 fun t36P t36N t36C w1_4=>
 NN r fun a_4=>
 St w1_4 ((a_4.add 2).add 0) (.slice t36P t36N t36C) fun w1_5=>
 Ze9 R r_1 (varsN:Int) w1_5)
 (Ze9 R r_1 t130 w1_1)
theorem ZaT.of {r:Option Addr} {wx:Int} {w:World} {R:Int→Int→ByteArray→Option Addr→Nat→Nat→World→Prop} (h:Zgt r wx w R):ZaT r wx w R:=ofS10 (Fm:=Zgt r wx w) Tryz.func119 (by kernel_rfl) (L0 Tryz.f119) rfl (fun _=>by kernel_rfl) h
def ZqC (n:Int) (w:World) (R:Int→Int→ByteArray→Option Addr→Nat→Nat→World→Prop):Prop:=
 New w (.cells #[.int .i64 0,.int .i64 0,.string ⟨#[]⟩,.slice none 0 0] 31) fun r w1=>
 St w1 (Addr.add ⟨r,0,none⟩ 0) (.int .i64 2) fun w1_1=>
 St w1_1 (Addr.add ⟨r,0,none⟩ 1) (.int .i64 n) fun w1_2=>
 St w1_2 (Addr.add ⟨r,0,none⟩ 2) (.string ⟨#[]⟩) fun w1_3=>
 St w1_3 (Addr.add ⟨r,0,none⟩ 3) (.slice none 0 0) fun w1_4=>
 ∃r_1,w1_4.cell? (Addr.add ⟨r,0,none⟩ 0)=some (.int .i64 r_1)∧
 ∃r_2,w1_4.cell? (Addr.add ⟨r,0,none⟩ 1)=some (.int .i64 r_2)∧
 ∃r_3,w1_4.cell? (Addr.add ⟨r,0,none⟩ 2)=some (.string r_3)∧
 ∃rP rN rC,w1_4.cell? (Addr.add ⟨r,0,none⟩ 3)=some (.slice rP rN rC)∧
 R r_1 r_2 r_3 rP rN rC w1_4
theorem ZiX.of {n:Int} {w:World} {R:Int→Int→ByteArray→Option Addr→Nat→Nat→World→Prop} (h:ZqC n w R):ZiX n w R:=ofS10 (Fm:=ZqC n w) Tryz.func120 (by kernel_rfl) (L0 Tryz.f120) rfl (fun _=>by kernel_rfl) h
def ZpF (sx:ByteArray) (w:World) (R:Int→Int→ByteArray→Option Addr→Nat→Nat→World→Prop):Prop:=
 New w (.cells #[.int .i64 0,.int .i64 0,.string ⟨#[]⟩,.slice none 0 0] 31) fun r w1=>
 St w1 (Addr.add ⟨r,0,none⟩ 0) (.int .i64 3) fun w1_1=>
 St w1_1 (Addr.add ⟨r,0,none⟩ 1) (.int .i64 0) fun w1_2=>
 St w1_2 (Addr.add ⟨r,0,none⟩ 2) (.string sx) fun w1_3=>
 St w1_3 (Addr.add ⟨r,0,none⟩ 3) (.slice none 0 0) fun w1_4=>
 ∃r_1,w1_4.cell? (Addr.add ⟨r,0,none⟩ 0)=some (.int .i64 r_1)∧
 ∃r_2,w1_4.cell? (Addr.add ⟨r,0,none⟩ 1)=some (.int .i64 r_2)∧
 ∃r_3,w1_4.cell? (Addr.add ⟨r,0,none⟩ 2)=some (.string r_3)∧
 ∃rP rN rC,w1_4.cell? (Addr.add ⟨r,0,none⟩ 3)=some (.slice rP rN rC)∧
 R r_1 r_2 r_3 rP rN rC w1_4
theorem Zhj.of {sx:ByteArray} {w:World} {R:Int→Int→ByteArray→Option Addr→Nat→Nat→World→Prop} (h:ZpF sx w R):Zhj sx w R:=ofS10 (Fm:=ZpF sx w) Tryz.func121 (by kernel_rfl) (L0 Tryz.f121) rfl (fun _=>by kernel_rfl) h
def Zly (t:Option Addr) (idx:Int) (w:World) (R:Int→World→Prop):Prop:=
 ZaJ t w fun t7 w1=>
 If (!t7)
 (R (6:Int) w1)
 (Zc0 t idx w1 fun t12 w1_1=>
 If (!t12)
 (R (4:Int) w1_1)
 (R (0:Int) w1_1))
theorem ZcR.of {t:Option Addr} {idx:Int} {w:World} {R:Int→World→Prop} (h:Zly t idx w R):ZcR t idx w R:=ofS4 (Fm:=Zly t idx w) Tryz.func122 (by kernel_rfl) (L0 Tryz.f122) rfl (fun _=>by kernel_rfl) h
def ZiF (t:Option Addr) (idx:Int) (w:World) (R:ByteArray→Int→Int→World→Prop):Prop:=
 ZbP t idx w fun t13 w1=>
 If (t13 != (0:Int))
 (R ⟨#[]⟩ (0:Int) t13 w1)
 (NN t fun a=>
 ∃lP lN lC,w1.cell? (a.add 2)=some (.slice lP lN lC)∧
 0≤idx∧idx<(lN:Int)∧NN lP fun a_1=>
 ∃f0,w1.cell? (((a_1.add (idx.toNat*4)).add 0).add 0)=some (.int .i64 f0)∧
 ∃f1,w1.cell? (((a_1.add (idx.toNat*4)).add 0).add 1)=some (.int .i64 f1)∧
 New w1 (.cells #[.int .i64 0,.int .i64 0] 204) fun r w1_1=>
 St w1_1 (Addr.add ⟨r,0,none⟩ 0) (.int .i64 f0) fun w1_2=>
 St w1_2 (Addr.add ⟨r,0,none⟩ 1) (.int .i64 f1) fun w1_3=>
 NN t fun a_2=>
 ∃atoms,(drw w1_3).cell? (a_2.add 0)=some (.pointer atoms)∧
 ∃namex,(drw w1_3).cell? (Addr.add ⟨r,0,none⟩ 0)=some (.int .i64 namex)∧
 ZaC atoms namex (drw w1_3) fun t320 t321 w1_4=>
 If (t321 != (0:Int))
 (R ⟨#[]⟩ (0:Int) t321 w1_4)
 (∃arity,(drw w1_4).cell? (Addr.add ⟨r,0,none⟩ 1)=some (.int .i64 arity)∧
 (drw w1_4).cell? (Addr.add ⟨r,0,none⟩ 1)=(drw w1_4).cell? (Addr.add ⟨r,0,none⟩ 1)∧
 R t320 arity (0:Int) (drw w1_4)))
def ZpI:Gen where
 loop:=lookL []
 plan:=fun id=>
  bif Nat.beq id 5 then some ([0,1,3,7,0,16,63,127,255,255,511,2047],.take 0 (.take 1 (.take 2 (.take 3 (.take 4 (.take 5 (.take 6 (.take 7 (.take 8 (.take 9 (.take 10 (.take 11 .done)))))))))))) else
  bif Nat.beq id 8 then some ([0,0,2,1,15,31],.take 0 (.take 1 (.take 2 (.take 3 (.take 4 (.take 5 .done)))))) else none
theorem ZbK.of {t:Option Addr} {idx:Int} {w:World} {R:ByteArray→Int→Int→World→Prop} (h:ZiF t idx w R):ZbK t idx w R:=ofS20 (Fm:=ZiF t idx w) Tryz.func123 (by kernel_rfl) (L1 ZpI Tryz.f123 fun _=>rfl) rfl (fun _=>by kernel_rfl) h
def Zh3 (t:Option Addr) (w:World) (R:Bool→World→Prop):Prop:=
 If (!t.isNone)
 (NN t fun a=>
 ∃ids,w.cell? (a.add 3)=some (.map ids)∧
 R (!ids.isNone) w)
 (R false w)
theorem ZaY.of {t:Option Addr} {w:World} {R:Bool→World→Prop} (h:Zh3 t w R):ZaY t w R:=ofS2 (Fm:=Zh3 t w) Tryz.func124 (by kernel_rfl) (L0 Tryz.f124) rfl (fun _=>by kernel_rfl) h
def Zgf (t:Option Addr) (R:Int→Int→World→Prop) (r:Nat) (idx:Int) (w1_9:World):Prop:=
 NN t fun a_11=>
 ∃ids,(drw w1_9).cell? (a_11.add 3)=some (.map ids)∧
 ∃t630,(drw w1_9).cell? (Addr.add ⟨r,0,none⟩ 0)=some (.int .i64 t630)∧
 ∃t631,(drw w1_9).cell? (Addr.add ⟨r,0,none⟩ 1)=some (.int .i64 t631)∧
 MUp Tryz.prog 191 (.map ids) (.agg #[.int .i64 t630,.int .i64 t631]) (.int .i64 idx) (drw w1_9) fun w1_10=>
 R idx (0:Int) w1_10
def Zih (t:Option Addr) (f0:Int) (f1:Int) (w:World) (R:Int→Int→World→Prop):Prop:=
 New w (.cells #[.int .i64 f0,.int .i64 f1] 204) fun r w1=>
 NN t fun a=>
 ∃lP lN lC,w1.cell? (a.add 2)=some (.slice lP lN lC)∧
 NN t fun a_1=>
 ∃freeP freeN freeC,w1.cell? (a_1.add 4)=some (.slice freeP freeN freeC)∧
 If (decide ((freeN:Int)>(0:Int)))
 (NN t fun a_2=>
 ∃freeP_1 freeN_1 freeC_1,w1.cell? (a_2.add 4)=some (.slice freeP_1 freeN_1 freeC_1)∧
 0≤(0:Int)∧(0:Int)<(freeN_1:Int)∧NN freeP_1 fun a_3=>
 ∃t35,w1.cell? (a_3.add ((0:Int).toNat*1))=some (.int .i64 t35)∧
 NN t fun a_4=>
 ∃freeP_2 freeN_2 freeC_2,w1.cell? (a_4.add 4)=some (.slice freeP_2 freeN_2 freeC_2)∧
 0≤(1:Int)∧(1:Int)≤(freeN_2:Int)∧
 NN t fun a_5=>
 St w1 ((a_5.add 4).add 0) (.slice (adv freeP_2 freeC_2 (1:Int).toNat 1) (freeN_2-(1:Int).toNat) (freeC_2-(1:Int).toNat)) fun w1_1=>
 NN t fun a_6=>
 ∃lP_1 lN_1 lC_1,(drw w1_1).cell? (a_6.add 2)=some (.slice lP_1 lN_1 lC_1)∧
 ∃t490,(drw w1_1).cell? (Addr.add ⟨r,0,none⟩ 0)=some (.int .i64 t490)∧
 ∃t491,(drw w1_1).cell? (Addr.add ⟨r,0,none⟩ 1)=some (.int .i64 t491)∧
 0≤t35∧t35<(lN_1:Int)∧NN lP_1 fun a_7=>
 St (drw w1_1) ((a_7.add (t35.toNat*4)).add 0) (.int .i64 t490) fun w1_2=>
 St w1_2 ((a_7.add (t35.toNat*4)).add 1) (.int .i64 t491) fun w1_3=>
 St w1_3 ((a_7.add (t35.toNat*4)).add 2) (.bool true) fun w1_4=>
 St w1_4 ((a_7.add (t35.toNat*4)).add 3) (.bool false) fun w1_5=>
 Zgf t R r t35 w1_5)
 (NN t fun a_8=>
 ∃limitx,w1.cell? (a_8.add 1)=some (.int .i64 limitx)∧
 If (decide ((lN:Int)≥limitx))
 (R (0:Int) (2:Int) w1)
 (NN t fun a_9=>
 ∃lP_2 lN_2 lC_2,(drw w1).cell? (a_9.add 2)=some (.slice lP_2 lN_2 lC_2)∧
 ∃t170,(drw w1).cell? (Addr.add ⟨r,0,none⟩ 0)=some (.int .i64 t170)∧
 ∃t171,(drw w1).cell? (Addr.add ⟨r,0,none⟩ 1)=some (.int .i64 t171)∧
 BSl Tryz.prog 192 1 [(0,.agg #[.int .i64 t170,.int .i64 t171,.bool true,.bool false])] (drw w1) fun t19P t19N t19C w1_6=>
 w1_6.cell? (a_9.add 2)=(drw w1).cell? (a_9.add 2)∧
 App Tryz.prog #[192,192] 192 #[.slice lP_2 lN_2 lC_2,.slice t19P t19N t19C] w1_6 fun t20P t20N t20C w1_7=>
 NN t fun a_10=>
 St w1_7 ((a_10.add 2).add 0) (.slice t20P t20N t20C) fun w1_8=>
 Zgf t R r (lN:Int) w1_8))
def Zpe:Gen where
 loop:=lookL []
 plan:=fun id=>
  bif Nat.beq id 6 then some ([0,1,3,7,0,0,32,127,255],.take 0 (.take 1 (.take 2 (.take 3 (.take 4 (.take 5 (.take 6 (.take 7 (.take 8 .done))))))))) else
  bif Nat.beq id 2 then some ([0,0,2,6,14,0,32,96,254,511,1023,2047],.take 0 (.take 1 (.take 2 (.take 3 (.take 4 (.take 5 (.take 6 (.take 7 (.take 8 (.take 9 (.take 10 (.take 11 .done)))))))))))) else
  bif Nat.beq id 9 then some ([0,1,3,7,0,0,63],.take 0 (.take 1 (.take 2 (.take 3 (.take 4 (.take 5 (.take 6 .done))))))) else none
theorem ZbM.of {t:Option Addr} {f0:Int} {f1:Int} {w:World} {R:Int→Int→World→Prop} (h:Zih t f0 f1 w R):ZbM t f0 f1 w R:=ofS12 (Fm:=Zih t f0 f1 w) Tryz.func125 (by kernel_rfl) (L1 Zpe Tryz.f125 fun _=>rfl) rfl (fun _=>by kernel_rfl) h
def ZiM (R:Int→Int→World→Prop) (At:Int) (w1_8:World):Prop:=
 R At (0:Int) w1_8
def ZlA (p:Option Addr) (n:Int) (w:World) (R:Int→Int→World→Prop):Prop:=
 New w (.cells #[.int .i64 n] 3) fun r w1=>
 ZaI p w1 fun t12 w1_1=>
 If (!t12)
 (R (0:Int) (6:Int) w1_1)
 (∃t15,w1_1.cell? ⟨r,0,none⟩=some (.int .i64 t15)∧
 If (decide (t15<(1:Int)))
 (R (0:Int) (1:Int) w1_1)
 (Za0 p w1_1 fun t18 w1_2=>
 NN t18 fun a=>
 ∃runsP runsN runsC,w1_2.cell? (a.add 1)=some (.slice runsP runsN runsC)∧
 Zb3 runsP runsN runsC (.func (.func 150) #[] #[.pointer (some ⟨r,0,none⟩)]) w1_2 fun t24 w1_3=>
 If (decide (t24≥(0:Int)))
 (NN t18 fun a_1=>
 ∃runsP_1 runsN_1 runsC_1,w1_3.cell? (a_1.add 1)=some (.slice runsP_1 runsN_1 runsC_1)∧
 0≤t24∧t24<(runsN_1:Int)∧NN runsP_1 fun a_2=>
 ∃At,w1_3.cell? ((a_2.add (t24.toNat*2)).add 0)=some (.int .i64 At)∧
 NN t18 fun a_3=>
 ∃runsP_2 runsN_2 runsC_2,(drw w1_3).cell? (a_3.add 1)=some (.slice runsP_2 runsN_2 runsC_2)∧
 0≤t24∧t24<(runsN_2:Int)∧NN runsP_2 fun a_4=>
 ∃At_1,(drw w1_3).cell? ((a_4.add (t24.toNat*2)).add 0)=some (.int .i64 At_1)∧
 ∃t43,(drw w1_3).cell? ⟨r,0,none⟩=some (.int .i64 t43)∧
 0≤t24∧t24<(runsN_2:Int)∧NN runsP_2 fun a_5=>
 St (drw w1_3) (((a_5.add (t24.toNat*2)).add 0).add 0) (.int .i64 (IntKind.i64.wrap (At_1+t43))) fun w1_4=>
 NN t18 fun a_6=>
 ∃runsP_3 runsN_3 runsC_3,(drw w1_4).cell? (a_6.add 1)=some (.slice runsP_3 runsN_3 runsC_3)∧
 0≤t24∧t24<(runsN_3:Int)∧NN runsP_3 fun a_7=>
 ∃Len,(drw w1_4).cell? ((a_7.add (t24.toNat*2)).add 1)=some (.int .i64 Len)∧
 ∃t55,(drw w1_4).cell? ⟨r,0,none⟩=some (.int .i64 t55)∧
 0≤t24∧t24<(runsN_3:Int)∧NN runsP_3 fun a_8=>
 St (drw w1_4) (((a_8.add (t24.toNat*2)).add 1).add 0) (.int .i64 (IntKind.i64.wrap (Len-t55))) fun w1_5=>
 NN t18 fun a_9=>
 ∃runsP_4 runsN_4 runsC_4,w1_5.cell? (a_9.add 1)=some (.slice runsP_4 runsN_4 runsC_4)∧
 0≤t24∧t24<(runsN_4:Int)∧NN runsP_4 fun a_10=>
 ∃Len_1,w1_5.cell? ((a_10.add (t24.toNat*2)).add 1)=some (.int .i64 Len_1)∧
 If (Len_1==(0:Int))
 (NN t18 fun a_11=>
 ∃runsP_5 runsN_5 runsC_5,w1_5.cell? (a_11.add 1)=some (.slice runsP_5 runsN_5 runsC_5)∧
 ZcJ runsP_5 runsN_5 runsC_5 t24 (IntKind.i64.wrap (t24+(1:Int))) w1_5 fun t76P t76N t76C w1_6=>
 NN t18 fun a_12=>
 St w1_6 ((a_12.add 1).add 0) (.slice t76P t76N t76C) fun w1_7=>
 ZiM R At w1_7)
 (ZiM R At w1_5))
 (∃t80,(drw w1_3).cell? ⟨r,0,none⟩=some (.int .i64 t80)∧
 NN p fun a_13=>
 ∃limitx,(drw w1_3).cell? (a_13.add 2)=some (.int .i64 limitx)∧
 NN p fun a_14=>
 ∃topx,(drw w1_3).cell? (a_14.add 1)=some (.int .i64 topx)∧
 If (decide (t80>(IntKind.i64.wrap (limitx-topx))))
 (R (0:Int) (2:Int) (drw w1_3))
 (NN p fun a_15=>
 ∃topx_1,(drw w1_3).cell? (a_15.add 1)=some (.int .i64 topx_1)∧
 NN p fun a_16=>
 ∃topx_2:Int,(drw (drw w1_3)).cell? (a_16.add 1)=some (.int .i64 topx_2)∧
 ∃t99:Int,(drw (drw w1_3)).cell? ⟨r,0,none⟩=some (.int .i64 t99)∧
 NN p fun a_17=>
 St (drw (drw w1_3)) ((a_17.add 1).add 0) (.int .i64 (IntKind.i64.wrap (topx_2+t99))) fun w1_9=>
 R topx_1 (0:Int) w1_9))))
def Zq3:Gen where
 loop:=lookL []
 plan:=fun id=>
  bif Nat.beq id 9||Nat.beq id 10 then some ([0,1,3,7,0,31,63,127,0,511,1023,2047,4095],.take 0 (.take 1 (.take 2 (.take 3 (.take 4 (.take 5 (.take 6 (.take 7 (.take 8 (.take 9 (.take 10 (.take 11 (.take 12 .done))))))))))))) else
  bif Nat.beq id 14 then some ([0,0,2,6,14,0,32,96,224,510,1023],.take 0 (.take 1 (.take 2 (.take 3 (.take 4 (.take 5 (.take 6 (.take 7 (.take 8 (.take 9 (.take 10 .done))))))))))) else
  bif Nat.beq id 17 then some ([0,1,3,7,0,31,63,127,255],.take 0 (.take 1 (.take 2 (.take 3 (.take 4 (.take 5 (.take 6 (.take 7 (.take 8 .done))))))))) else none
theorem Zcf.of {p:Option Addr} {n:Int} {w:World} {R:Int→Int→World→Prop} (h:ZlA p n w R):Zcf p n w R:=ofS12 (Fm:=ZlA p n w) Tryz.func126 (by kernel_rfl) (L1 Zq3 Tryz.f126 fun _=>rfl) rfl (fun _=>by kernel_rfl) h
def ZkB (R:Int→Int→World→Prop) (w1:World):Prop:=
 R (0:Int) (1:Int) w1
def Zph (tag:Int) (n:Int) (w:World) (R:Int→Int→World→Prop):Prop:=
 If (decide (tag<(1:Int)))
 (ZkB R w)
 (If (decide (tag>(7:Int)))
 (ZkB R w)
 (If (decide (n<(-1152921504606846976)))
 (ZkB R w)
 (If (decide (n>(1152921504606846975:Int)))
 (R (0:Int) (1:Int) w)
 (0≤(3:Int)∧
 R (orI .u64 (shlI .u64 (IntKind.u64.wrap n) (3:Int)) (IntKind.u64.wrap tag)) (0:Int) w))))
theorem Zhe.of {tag:Int} {n:Int} {w:World} {R:Int→Int→World→Prop} (h:Zph tag n w R):Zhe tag n w R:=ofS5 (Fm:=Zph tag n w) Tryz.func127 (by kernel_rfl) (L0 Tryz.f127) rfl (fun _=>by kernel_rfl) h
def Zlv (m:Option Addr) (wx:Int) (w:World) (R:Int→World→Prop):Prop:=
 If m.isNone
 (R (6:Int) w)
 (NN m fun a=>
 ∃lP lN lC,(drw w).cell? (a.add 0)=some (.slice lP lN lC)∧
 NN m fun a_1=>
 ∃limitx,(drw w).cell? (a_1.add 1)=some (.int .i64 limitx)∧
 If (decide ((lN:Int)≥limitx))
 (R (2:Int) (drw w))
 (NN m fun a_2=>
 ∃lP_1 lN_1 lC_1,(drw w).cell? (a_2.add 0)=some (.slice lP_1 lN_1 lC_1)∧
 BSl Tryz.prog 36 1 [(0,.int .u64 wx)] (drw w) fun t25P t25N t25C w1=>
 App Tryz.prog #[36,36] 36 #[.slice lP_1 lN_1 lC_1,.slice t25P t25N t25C] w1 fun t26P t26N t26C w1_1=>
 NN m fun a_3=>
 St w1_1 ((a_3.add 0).add 0) (.slice t26P t26N t26C) fun w1_2=>
 ZcM m w1_2 fun w1_3=>
 R (0:Int) w1_3))
def Zq1:Gen where
 loop:=lookL []
 plan:=fun id=>
  bif Nat.beq id 3 then some ([0,1,3,7,15,0,32,96,224,511,1023],.take 0 (.take 1 (.take 2 (.take 3 (.take 4 (.take 5 (.take 6 (.take 7 (.take 8 (.take 9 (.take 10 .done))))))))))) else none
theorem ZcO.of {m:Option Addr} {wx:Int} {w:World} {R:Int→World→Prop} (h:Zlv m wx w R):ZcO m wx w R:=ofS4 (Fm:=Zlv m wx w) Tryz.func128 (by kernel_rfl) (L1 Zq1 Tryz.f128 fun _=>rfl) rfl (fun _=>by kernel_rfl) h
def Ziy (m:Option Addr) (wx:Int) (x:Int) (w:World) (R:Bool→World→Prop):Prop:=
 NN m fun a=>
 ∃hx,w.cell? (a.add 0)=some (.pointer hx)∧
 ZcT hx wx x w fun t160 t161 w1=>
 NN m fun a_1=>
 ∃ex,w1.cell? (a_1.add 2)=some (.int .i64 ex)∧
 NN m fun a_2=>
 St w1 ((a_2.add 2).add 0) (.int .i64 (maxI ex t161)) fun w1_1=>
 R t160 w1_1
theorem ZaQ.of {m:Option Addr} {wx:Int} {x:Int} {w:World} {R:Bool→World→Prop} (h:Ziy m wx x w R):ZaQ m wx x w R:=ofS2 (Fm:=Ziy m wx x w) Tryz.func129 (by kernel_rfl) (L0 Tryz.f129) rfl (fun _=>by kernel_rfl) h
def Zlq (p:Option Addr) (atx:Int) (w:World) (R:Bool→World→Prop):Prop:=
 ZaS p atx w fun t8 w1=>
 If (decide (t8≥(0:Int)))
 (NN p fun a=>
 ∃lP lN lC,w1.cell? (a.add 0)=some (.slice lP lN lC)∧
 0≤t8∧t8<(lN:Int)∧NN lP fun a_1=>
 ZbA (some (a_1.add (t8.toNat*2))) atx (1:Int) w1 fun t19 w1_1=>
 R t19 w1_1)
 (R false w1)
theorem ZcX.of {p:Option Addr} {atx:Int} {w:World} {R:Bool→World→Prop} (h:Zlq p atx w R):ZcX p atx w R:=ofS2 (Fm:=Zlq p atx w) Tryz.func130 (by kernel_rfl) (L0 Tryz.f130) rfl (fun _=>by kernel_rfl) h
def Zle (p:Option Addr) (w:World) (R:Option Addr→World→Prop):Prop:=
 NN p fun a=>
 ∃lP lN lC,(drw w).cell? (a.add 0)=some (.slice lP lN lC)∧
 NN p fun a_1=>
 ∃lP_1 lN_1 lC_1,(drw w).cell? (a_1.add 0)=some (.slice lP_1 lN_1 lC_1)∧
 0≤(IntKind.i64.wrap ((lN_1:Int)-(1:Int)))∧(IntKind.i64.wrap ((lN_1:Int)-(1:Int)))<(lN:Int)∧NN lP fun a_2=>
 R (some (a_2.add ((IntKind.i64.wrap ((lN_1:Int)-(1:Int))).toNat*2))) (drw w)
def ZqZ:Gen where
 loop:=lookL []
 plan:=fun id=>
  bif Nat.beq id 1 then some ([0,1,3,7,0,16,48,112,240,496,1023,2047],.take 0 (.take 1 (.take 2 (.take 3 (.take 4 (.take 5 (.take 6 (.take 7 (.take 8 (.take 9 (.take 10 (.take 11 .done)))))))))))) else none
theorem Za0.of {p:Option Addr} {w:World} {R:Option Addr→World→Prop} (h:Zle p w R):Za0 p w R:=ofS13 (Fm:=Zle p w) Tryz.func131 (by kernel_rfl) (L1 ZqZ Tryz.f131 fun _=>rfl) rfl (fun _=>by kernel_rfl) h
def ZiD (sx:Option Addr) (i:Int) (w:World) (R:World→Prop):Prop:=
 NN sx fun a=>
 ∃runsP runsN runsC,(drw w).cell? (a.add 1)=some (.slice runsP runsN runsC)∧
 If (decide ((IntKind.i64.wrap (i+(1:Int)))<(runsN:Int)))
 (NN sx fun a_1=>
 ∃runsP_1 runsN_1 runsC_1,(drw w).cell? (a_1.add 1)=some (.slice runsP_1 runsN_1 runsC_1)∧
 0≤i∧i<(runsN_1:Int)∧NN runsP_1 fun a_2=>
 ∃At,(drw w).cell? ((a_2.add (i.toNat*2)).add 0)=some (.int .i64 At)∧
 NN sx fun a_3=>
 ∃runsP_2 runsN_2 runsC_2,(drw w).cell? (a_3.add 1)=some (.slice runsP_2 runsN_2 runsC_2)∧
 0≤i∧i<(runsN_2:Int)∧NN runsP_2 fun a_4=>
 ∃Len,(drw w).cell? ((a_4.add (i.toNat*2)).add 1)=some (.int .i64 Len)∧
 NN sx fun a_5=>
 ∃runsP_3 runsN_3 runsC_3,(drw w).cell? (a_5.add 1)=some (.slice runsP_3 runsN_3 runsC_3)∧
 0≤(IntKind.i64.wrap (i+(1:Int)))∧(IntKind.i64.wrap (i+(1:Int)))<(runsN_3:Int)∧NN runsP_3 fun a_6=>
 ∃At_1,(drw w).cell? ((a_6.add ((IntKind.i64.wrap (i+(1:Int))).toNat*2)).add 0)=some (.int .i64 At_1)∧
 If ((IntKind.i64.wrap (At+Len))==At_1)
 (NN sx fun a_7=>
 ∃runsP_4 runsN_4 runsC_4,(drw (drw w)).cell? (a_7.add 1)=some (.slice runsP_4 runsN_4 runsC_4)∧
 0≤i∧i<(runsN_4:Int)∧NN runsP_4 fun a_8=>
 ∃Len_1:Int,(drw (drw w)).cell? ((a_8.add (i.toNat*2)).add 1)=some (.int .i64 Len_1)∧
 NN sx fun a_9=>
 ∃runsP_5 runsN_5 runsC_5,(drw (drw w)).cell? (a_9.add 1)=some (.slice runsP_5 runsN_5 runsC_5)∧
 0≤(IntKind.i64.wrap (i+(1:Int)))∧(IntKind.i64.wrap (i+(1:Int)))<(runsN_5:Int)∧NN runsP_5 fun a_10=>
 ∃Len_2:Int,(drw (drw w)).cell? ((a_10.add ((IntKind.i64.wrap (i+(1:Int))).toNat*2)).add 1)=some (.int .i64 Len_2)∧
 0≤i∧i<(runsN_4:Int)∧NN runsP_4 fun a_11=>
 St (drw (drw w)) (((a_11.add (i.toNat*2)).add 1).add 0) (.int .i64 (IntKind.i64.wrap (Len_1+Len_2))) fun w1=>
 NN sx fun a_12=>
 ∃runsP_6 runsN_6 runsC_6,w1.cell? (a_12.add 1)=some (.slice runsP_6 runsN_6 runsC_6)∧
 ZcJ runsP_6 runsN_6 runsC_6 (IntKind.i64.wrap (i+(1:Int))) (IntKind.i64.wrap (i+(2:Int))) w1 fun t70P t70N t70C w1_1=>
 NN sx fun a_13=>
 St w1_1 ((a_13.add 1).add 0) (.slice t70P t70N t70C) fun w1_2=>
 R w1_2)
 (R (drw w)))
 (R (drw w))
def Zpz:Gen where
 loop:=lookL []
 plan:=fun id=>
  bif Nat.beq id 0 then some ([0,1,0,4,12,28,60,127,255,511,1023,2047,4095,511,16383,32767,65535,511,131583,393727,918015,511,4063743,8258047,16646655,33554431,511,67109375,201327103,469762559,511,1073742335,4227858943,8522826239,17112760831,34359738367,68719476735],.take 0 (.take 1 (.take 2 (.take 3 (.take 4 (.take 5 (.take 6 (.take 7 (.take 8 (.take 9 (.take 10 (.take 11 (.take 12 (.take 13 (.take 14 (.take 15 (.take 16 (.take 17 (.take 18 (.take 19 (.take 20 (.take 21 (.take 22 (.take 23 (.take 24 (.take 25 (.take 26 (.take 27 (.take 28 (.take 29 (.take 30 (.take 31 (.take 32 (.take 33 (.take 34 (.take 35 (.take 36 .done))))))))))))))))))))))))))))))))))))) else
  bif Nat.beq id 1 then some ([0,1,3,7,0,31,63,127,0,256,768,1792,0,4096,16128,32512,65280,131071,262143,524287,1048575],.take 0 (.take 1 (.take 2 (.take 3 (.take 4 (.take 5 (.take 6 (.take 7 (.take 8 (.take 9 (.take 10 (.take 11 (.take 12 (.take 13 (.take 14 (.take 15 (.take 16 (.take 17 (.take 18 (.take 19 (.take 20 .done))))))))))))))))))))) else none
theorem Zbk.of {sx:Option Addr} {i:Int} {w:World} {R:World→Prop} (h:ZiD sx i w R):Zbk sx i w R:=ofS1 (Fm:=ZiD sx i w) Tryz.func132 (by kernel_rfl) (L1 Zpz Tryz.f132 fun _=>rfl) rfl (fun _=>by kernel_rfl) h
def ZiT (sx:Option Addr) (n:Int) (w:World) (R:Int→Int→ByteArray→Option Addr→Nat→Nat→Bool→World→Prop):Prop:=
 New w (.cells #[.int .i64 0,.int .i64 0,.string ⟨#[]⟩,.slice none 0 0] 31) fun r w1=>
 NN sx fun a=>
 ∃At,w1.cell? (a.add 1)=some (.map At)∧
 Run Tryz.prog (Instr.lookup 150 (.map At) (.int .i64 n) true) w1 fun v w1_1=>∃t140:Int,∃t141:Bool,v=(.tuple #[.int .i64 t140,.bool t141])∧
 If (!t141)
 (St w1_1 (Addr.add ⟨r,0,none⟩ 0) (.int .i64 0) fun w1_2=>
 St w1_2 (Addr.add ⟨r,0,none⟩ 1) (.int .i64 0) fun w1_3=>
 St w1_3 (Addr.add ⟨r,0,none⟩ 2) (.string ⟨#[]⟩) fun w1_4=>
 St w1_4 (Addr.add ⟨r,0,none⟩ 3) (.slice none 0 0) fun w1_5=>
 ∃r_1,w1_5.cell? (Addr.add ⟨r,0,none⟩ 0)=some (.int .i64 r_1)∧
 ∃r_2,w1_5.cell? (Addr.add ⟨r,0,none⟩ 1)=some (.int .i64 r_2)∧
 ∃r_3,w1_5.cell? (Addr.add ⟨r,0,none⟩ 2)=some (.string r_3)∧
 ∃rP rN rC,w1_5.cell? (Addr.add ⟨r,0,none⟩ 3)=some (.slice rP rN rC)∧
 R r_1 r_2 r_3 rP rN rC false w1_5)
 (NN sx fun a_1=>
 ∃LP LN LC,w1_1.cell? (a_1.add 0)=some (.slice LP LN LC)∧
 0≤t140∧t140<(LN:Int)∧NN LP fun a_2=>
 ∃T0,w1_1.cell? (((a_2.add (t140.toNat*5)).add 1).add 0)=some (.int .i64 T0)∧
 ∃T1,w1_1.cell? (((a_2.add (t140.toNat*5)).add 1).add 1)=some (.int .i64 T1)∧
 ∃T2,w1_1.cell? (((a_2.add (t140.toNat*5)).add 1).add 2)=some (.string T2)∧
 ∃T3P T3N T3C,w1_1.cell? (((a_2.add (t140.toNat*5)).add 1).add 3)=some (.slice T3P T3N T3C)∧
 St w1_1 (Addr.add ⟨r,0,none⟩ 0) (.int .i64 T0) fun w1_6=>
 St w1_6 (Addr.add ⟨r,0,none⟩ 1) (.int .i64 T1) fun w1_7=>
 St w1_7 (Addr.add ⟨r,0,none⟩ 2) (.string T2) fun w1_8=>
 St w1_8 (Addr.add ⟨r,0,none⟩ 3) (.slice T3P T3N T3C) fun w1_9=>
 ∃r_4,w1_9.cell? (Addr.add ⟨r,0,none⟩ 0)=some (.int .i64 r_4)∧
 ∃r_5,w1_9.cell? (Addr.add ⟨r,0,none⟩ 1)=some (.int .i64 r_5)∧
 ∃r_6,w1_9.cell? (Addr.add ⟨r,0,none⟩ 2)=some (.string r_6)∧
 ∃rP_1 rN_1 rC_1,w1_9.cell? (Addr.add ⟨r,0,none⟩ 3)=some (.slice rP_1 rN_1 rC_1)∧
 R r_4 r_5 r_6 rP_1 rN_1 rC_1 true w1_9)
theorem Zax.of {sx:Option Addr} {n:Int} {w:World} {R:Int→Int→ByteArray→Option Addr→Nat→Nat→Bool→World→Prop} (h:ZiT sx n w R):Zax sx n w R:=ofS21 (Fm:=ZiT sx n w) Tryz.func133 (by kernel_rfl) (L0 Tryz.f133) rfl (fun _=>by kernel_rfl) h
structure Zbe where
 mk ::
def Zg1 (sx_1:Option Addr) (t:Addr) (t4:Addr) (s:Zbe) (w:World) (Kn:Zbe→World→Prop) (Kx0:World→Prop):Prop:=
 ∃Kind,w.cell? (t.add 0)=some (.int .i64 Kind)∧
 If (Kind==(1:Int))
 (∃N,w.cell? (t.add 1)=some (.int .i64 N)∧
 Zax sx_1 N w fun t1400 t1401 t1402 t1403P t1403N t1403C t141 w1_2=>
 New w1_2 (.cells #[.int .i64 0,.int .i64 0,.string ⟨#[]⟩,.slice none 0 0] 31) fun r_2 w1_3=>
 St w1_3 (Addr.add ⟨r_2,0,none⟩ 0) (.int .i64 t1400) fun w1_4=>
 St w1_4 (Addr.add ⟨r_2,0,none⟩ 1) (.int .i64 t1401) fun w1_5=>
 St w1_5 (Addr.add ⟨r_2,0,none⟩ 2) (.string t1402) fun w1_6=>
 St w1_6 (Addr.add ⟨r_2,0,none⟩ 3) (.slice t1403P t1403N t1403C) fun w1_7=>
 If (!t141)
 (Kx0 w1_7)
 (∃t190,w1_7.cell? (Addr.add ⟨r_2,0,none⟩ 0)=some (.int .i64 t190)∧
 ∃t191,w1_7.cell? (Addr.add ⟨r_2,0,none⟩ 1)=some (.int .i64 t191)∧
 ∃t192,w1_7.cell? (Addr.add ⟨r_2,0,none⟩ 2)=some (.string t192)∧
 ∃t193P t193N t193C,w1_7.cell? (Addr.add ⟨r_2,0,none⟩ 3)=some (.slice t193P t193N t193C)∧
 St w1_7 (t.add 0) (.int .i64 t190) fun w1_8=>
 St w1_8 (t.add 1) (.int .i64 t191) fun w1_9=>
 St w1_9 (t.add 2) (.string t192) fun w1_10=>
 St w1_10 (t.add 3) (.slice t193P t193N t193C) fun w1_11=>
 Kn ⟨⟩ w1_11))
 (Kx0 w)
def ZgP (sx_1:Option Addr) (t:Addr) (t4:Addr) (s:Zbe) (w:World) (Kx0:World→Prop):Prop:=
 LoopS (fun s w Kn=>Zg1 sx_1 t t4 s w Kn Kx0) s w
def ZjH (sx:Option Addr) (t0:Int) (t1:Int) (t2:ByteArray) (t3P:Option Addr) (t3N:Nat) (t3C:Nat) (w:World) (R:Int→Int→ByteArray→Option Addr→Nat→Nat→World→Prop):Prop:=
 New w (.cells #[.int .i64 t0,.int .i64 t1,.string t2,.slice t3P t3N t3C] 31) fun r w1=>
 New w1 (.cells #[.int .i64 0,.int .i64 0,.string ⟨#[]⟩,.slice none 0 0] 31) fun r_1 w1_1=>
 ZgP sx ⟨r,0,none⟩ ⟨r_1,0,none⟩ ⟨⟩ w1_1
 (fun w1_12=>
 ∃t200,w1_12.cell? (Addr.add ⟨r,0,none⟩ 0)=some (.int .i64 t200)∧
 ∃t201,w1_12.cell? (Addr.add ⟨r,0,none⟩ 1)=some (.int .i64 t201)∧
 ∃t202,w1_12.cell? (Addr.add ⟨r,0,none⟩ 2)=some (.string t202)∧
 ∃t203P t203N t203C,w1_12.cell? (Addr.add ⟨r,0,none⟩ 3)=some (.slice t203P t203N t203C)∧
 St w1_12 (Addr.add ⟨r_1,0,none⟩ 0) (.int .i64 t200) fun w1_13=>
 St w1_13 (Addr.add ⟨r_1,0,none⟩ 1) (.int .i64 t201) fun w1_14=>
 St w1_14 (Addr.add ⟨r_1,0,none⟩ 2) (.string t202) fun w1_15=>
 St w1_15 (Addr.add ⟨r_1,0,none⟩ 3) (.slice t203P t203N t203C) fun w1_16=>
 ∃r_3,w1_16.cell? (Addr.add ⟨r_1,0,none⟩ 0)=some (.int .i64 r_3)∧
 ∃r_4,w1_16.cell? (Addr.add ⟨r_1,0,none⟩ 1)=some (.int .i64 r_4)∧
 ∃r_5,w1_16.cell? (Addr.add ⟨r_1,0,none⟩ 2)=some (.string r_5)∧
 ∃rP rN rC,w1_16.cell? (Addr.add ⟨r_1,0,none⟩ 3)=some (.slice rP rN rC)∧
 R r_3 r_4 r_5 rP rN rC w1_16)
def Zea (f:(Option Addr)×Addr×Addr) (s:Zbe):Env:=[⟨0,.pointer f.1,none⟩,⟨3,.pointer (some f.2.1),none⟩,⟨4,.pointer (some f.2.2),none⟩]
def Zcz (e:Env) (K:((Option Addr)×Addr×Addr)→Zbe→Prop):Prop:=
 oP e 0 fun sx_1=>
 oA e 3 fun t=>
 oA e 4 fun t4=>
  K (sx_1,t,t4) ⟨⟩
theorem ZhD {N:Nat} (e:Env) (a:Act) (K:((Option Addr)×Addr×Addr)→Zbe→Prop) (hr:Rep N a e) (h0:Zcz e K):∃f s,K f s∧Rep N a (Zea f s):=by
 unfold Zcz at h0
 obtain⟨sx_1,g0,h1⟩:=Zar h0
 obtain⟨t,g3,h2⟩:=Zap h1
 obtain⟨t4,g4,h3⟩:=Zap h2
 exact⟨_,_,h3,Zac hr (by simp [Zea,g0,g3,g4])⟩
def Zi6 (Q:Post) (e:Env) (w:World):Prop:=
 Zcz e fun f s=>ZgP f.1 f.2.1 f.2.2 s w (fun w1=>Q (.exit 0) [⟨3,.pointer (some f.2.1),none⟩,⟨4,.pointer (some f.2.2),none⟩] w1)
def Zj1:Gen where
 loop:=lookL [([false,false,true],Zi6)]
 plan:=fun _=>none
def Zfw (e:Env) (K:((Option Addr)×Addr×Addr)→Prop):Prop:=
 oP e 0 fun sx_1=>
 oA e 3 fun t=>
 oA e 4 fun t4=>
  K (sx_1,t,t4)
theorem Zm0 (f:(Option Addr)×Addr×Addr) (s:Zbe) (w:World) (Kn:((Option Addr)×Addr×Addr)→Zbe→World→Prop) (Kx0:((Option Addr)×Addr×Addr)→World→Prop) :
  Zg1 f.1 f.2.1 f.2.2 s w (fun s1 w1=>Kn f s1 w1) (fun w1=>Kx0 f w1) =
  den Tryz.prog Tryz.f134.ntmps Zj1 (sub (codeOf Tryz.f134) [false,false,false,true]) [false,false,false,true] (roundQ (fun e w=>Zcz e fun f s=>Kn f s w) (fun e w=>False) (fun id e w=>match Nat.beq id 0 with | true=>Zfw e fun f=>Kx0 f w | false=>False)) (Zea f s) w:=by kernel_rfl
theorem Zn4:OneOk Tryz.prog Tryz.f134.ntmps Zj1 (codeOf Tryz.f134) [false,false,true] Zi6:=by
 intro c hc ih Q e w a hr h
 have hcc:sub (codeOf Tryz.f134) [false,false,false,true]=c:=Zaf hc
 obtain⟨f,s,h,hrep⟩:=ZhD e a _ hr h
 obtain⟨J,μ,hj,hround⟩:=h
 refine Zad Zan Zag ih Zea Zcz ZhD hc f J μ (Kr:=fun e w=>False) (Kx:=fun id e w=>match Nat.beq id 0 with | true=>(Zfw e fun f1=>f1=f∧Q (.exit 0) [⟨3,.pointer (some f.2.1),none⟩,⟨4,.pointer (some f.2.2),none⟩] w) | false=>False) ?_ ?_ ?_ s w a hj hrep
 ·intro e a w hr h
  exact h.elim
 ·intro id e a w hr h0
  (try dsimp only at h0)
  split at h0
  ·rename_i hid
   obtain rfl:=Nat.eq_of_beq_eq_true hid
   unfold Zfw at h0
   obtain⟨sx_1,g0,h1⟩:=Zar h0
   obtain⟨t,g3,h2⟩:=Zap h1
   obtain⟨t4,g4,h3⟩:=Zap h2
   obtain⟨hf,hq⟩:=h3
   subst hf
   exact⟨_,Zac hr (by simp [g3,g4]),hq⟩
  ·exact h0.elim
 ·intro s w hj
  have hb:=hround s w hj
  rw[←hcc]
  have e1:=Zm0 f s w (fun f1 s1 w1=>f1=f∧J s1 w1∧μ s1 w1<μ s w) (fun f1 w1=>f1=f∧Q (.exit 0) [⟨3,.pointer (some f.2.1),none⟩,⟨4,.pointer (some f.2.2),none⟩] w1)
  simp only[true_and] at e1
  exact cast e1 hb
theorem ZnU:LoopOk Tryz.prog Tryz.f134.ntmps Zj1 (codeOf Tryz.f134):=Zal rfl ⟨Zn4,trivial⟩
theorem ZaL.of {sx:Option Addr} {t0:Int} {t1:Int} {t2:ByteArray} {t3P:Option Addr} {t3N:Nat} {t3C:Nat} {w:World} {R:Int→Int→ByteArray→Option Addr→Nat→Nat→World→Prop} (h:ZjH sx t0 t1 t2 t3P t3N t3C w R):ZaL sx t0 t1 t2 t3P t3N t3C w R:=ofS10 (Fm:=ZjH sx t0 t1 t2 t3P t3N t3C w) Tryz.func134 (by kernel_rfl) ZnU rfl (fun _=>by kernel_rfl) h
def ZjW (sx:Option Addr) (n:Int) (t0:Int) (t1:Int) (t2:ByteArray) (t3P:Option Addr) (t3N:Nat) (t3C:Nat) (w:World) (R:Bool→World→Prop):Prop:=
 New w (.cells #[.int .i64 t0,.int .i64 t1,.string t2,.slice t3P t3N t3C] 31) fun r w1=>
 ∃t90,w1.cell? (Addr.add ⟨r,0,none⟩ 0)=some (.int .i64 t90)∧
 ∃t91,w1.cell? (Addr.add ⟨r,0,none⟩ 1)=some (.int .i64 t91)∧
 ∃t92,w1.cell? (Addr.add ⟨r,0,none⟩ 2)=some (.string t92)∧
 ∃t93P t93N t93C,w1.cell? (Addr.add ⟨r,0,none⟩ 3)=some (.slice t93P t93N t93C)∧
 New w1 (.map #[] 0) fun r_1 w1_1=>
 Zay sx n t90 t91 t92 t93P t93N t93C (some r_1) w1_1 fun t11 w1_2=>
 If t11
 (R false w1_2)
 (NN sx fun a=>
 ∃At,(drw w1_2).cell? (a.add 1)=some (.map At)∧
 NN sx fun a_1=>
 ∃LP LN LC,(drw w1_2).cell? (a_1.add 0)=some (.slice LP LN LC)∧
 MUp Tryz.prog 150 (.map At) (.int .i64 n) (.int .i64 (LN:Int)) (drw w1_2) fun w1_3=>
 NN sx fun a_2=>
 ∃LP_1 LN_1 LC_1,(drw w1_3).cell? (a_2.add 0)=some (.slice LP_1 LN_1 LC_1)∧
 ∃t280,(drw w1_3).cell? (Addr.add ⟨r,0,none⟩ 0)=some (.int .i64 t280)∧
 ∃t281,(drw w1_3).cell? (Addr.add ⟨r,0,none⟩ 1)=some (.int .i64 t281)∧
 ∃t282,(drw w1_3).cell? (Addr.add ⟨r,0,none⟩ 2)=some (.string t282)∧
 ∃t283P t283N t283C,(drw w1_3).cell? (Addr.add ⟨r,0,none⟩ 3)=some (.slice t283P t283N t283C)∧
 BSl Tryz.prog 149 1 [(0,.agg #[.int .i64 n,.int .i64 t280,.int .i64 t281,.string t282,.slice t283P t283N t283C])] (drw w1_3) fun t30P t30N t30C w1_4=>
 w1_4.cell? (a_2.add 0)=(drw w1_3).cell? (a_2.add 0)∧
 App Tryz.prog #[149,149] 149 #[.slice LP_1 LN_1 LC_1,.slice t30P t30N t30C] w1_4 fun t31P t31N t31C w1_5=>
 NN sx fun a_3=>
 St w1_5 ((a_3.add 0).add 0) (.slice t31P t31N t31C) fun w1_6=>
 R true w1_6)
def ZpR:Gen where
 loop:=lookL []
 plan:=fun id=>
  bif Nat.beq id 3 then some ([0,1,3,7,0,0,32,96,224,480,1023],.take 0 (.take 1 (.take 2 (.take 3 (.take 4 (.take 5 (.take 6 (.take 7 (.take 8 (.take 9 (.take 10 .done))))))))))) else
  bif Nat.beq id 4 then some ([0,0,2,6,14,0,0,96,224,510,1023,2047,4095],.take 0 (.take 1 (.take 2 (.take 3 (.take 4 (.take 5 (.take 6 (.take 7 (.take 8 (.take 9 (.take 10 (.take 11 (.take 12 .done))))))))))))) else none
theorem Zat.of {sx:Option Addr} {n:Int} {t0:Int} {t1:Int} {t2:ByteArray} {t3P:Option Addr} {t3N:Nat} {t3C:Nat} {w:World} {R:Bool→World→Prop} (h:ZjW sx n t0 t1 t2 t3P t3N t3C w R):Zat sx n t0 t1 t2 t3P t3N t3C w R:=ofS2 (Fm:=ZjW sx n t0 t1 t2 t3P t3N t3C w) Tryz.func135 (by kernel_rfl) (L1 ZpR Tryz.f135 fun _=>rfl) rfl (fun _=>by kernel_rfl) h
structure ZaV where
 n_1:Int
 i:Int
def Zgg (sx_1:Option Addr) (t:Addr) (s:ZaV) (w:World) (Kn:ZaV→World→Prop) (Kx0:Int→World→Prop):Prop:=
 ∃LP LN LC,w.cell? (t.add 3)=some (.slice LP LN LC)∧
 If (decide (s.i<(LN:Int)))
 (If (decide (s.n_1≤(4096:Int)))
 (∃LP_1 LN_1 LC_1,w.cell? (t.add 3)=some (.slice LP_1 LN_1 LC_1)∧
 0≤s.i∧s.i<(LN_1:Int)∧NN LP_1 fun a=>
 ∃t290,w.cell? ((a.add (s.i.toNat*4)).add 0)=some (.int .i64 t290)∧
 ∃t291,w.cell? ((a.add (s.i.toNat*4)).add 1)=some (.int .i64 t291)∧
 ∃t292,w.cell? ((a.add (s.i.toNat*4)).add 2)=some (.string t292)∧
 ∃t293P t293N t293C,w.cell? ((a.add (s.i.toNat*4)).add 3)=some (.slice t293P t293N t293C)∧
 Zbl sx_1 t290 t291 t292 t293P t293N t293C s.n_1 w fun t31 w1_6=>
 Kn ⟨t31,(IntKind.i64.wrap (s.i+(1:Int)))⟩ w1_6)
 (Kx0 s.n_1 w))
 (Kx0 s.n_1 w)
def Zgm (sx_1:Option Addr) (t:Addr) (s:ZaV) (w:World) (Kx0:Int→World→Prop):Prop:=
 LoopS (fun s w Kn=>Zgg sx_1 t s w Kn Kx0) s w
def ZiU (sx:Option Addr) (t0:Int) (t1:Int) (t2:ByteArray) (t3P:Option Addr) (t3N:Nat) (t3C:Nat) (n:Int) (w:World) (R:Int→World→Prop):Prop:=
 New w (.cells #[.int .i64 t0,.int .i64 t1,.string t2,.slice t3P t3N t3C] 31) fun r w1=>
 ∃t90,w1.cell? (Addr.add ⟨r,0,none⟩ 0)=some (.int .i64 t90)∧
 ∃t91,w1.cell? (Addr.add ⟨r,0,none⟩ 1)=some (.int .i64 t91)∧
 ∃t92,w1.cell? (Addr.add ⟨r,0,none⟩ 2)=some (.string t92)∧
 ∃t93P t93N t93C,w1.cell? (Addr.add ⟨r,0,none⟩ 3)=some (.slice t93P t93N t93C)∧
 ZaL sx t90 t91 t92 t93P t93N t93C w1 fun t100 t101 t102 t103P t103N t103C w1_1=>
 St w1_1 (Addr.add ⟨r,0,none⟩ 0) (.int .i64 t100) fun w1_2=>
 St w1_2 (Addr.add ⟨r,0,none⟩ 1) (.int .i64 t101) fun w1_3=>
 St w1_3 (Addr.add ⟨r,0,none⟩ 2) (.string t102) fun w1_4=>
 St w1_4 (Addr.add ⟨r,0,none⟩ 3) (.slice t103P t103N t103C) fun w1_5=>
 Zgm sx ⟨r,0,none⟩ ⟨(IntKind.i64.wrap (n+(1:Int))),(0:Int)⟩ w1_5
 (fun n_3 w1_7=>
 R n_3 w1_7)
def ZdG (f:(Option Addr)×Addr) (s:ZaV):Env:=[⟨0,.pointer f.1,none⟩,⟨4,.pointer (some f.2),none⟩,⟨2,.int .i64 s.n_1,none⟩,⟨7,.int .i64 s.i,none⟩]
def Zco (e:Env) (K:((Option Addr)×Addr)→ZaV→Prop):Prop:=
 oP e 0 fun sx_1=>
 oA e 4 fun t=>
 oI e 2 .i64 fun n_1=>
 oI e 7 .i64 fun i=>
  K (sx_1,t) ⟨n_1,i⟩
theorem Zg6 {N:Nat} (e:Env) (a:Act) (K:((Option Addr)×Addr)→ZaV→Prop) (hr:Rep N a e) (h0:Zco e K):∃f s,K f s∧Rep N a (ZdG f s):=by
 unfold Zco at h0
 obtain⟨sx_1,g0,h1⟩:=Zar h0
 obtain⟨t,g4,h2⟩:=Zap h1
 obtain⟨n_1,g2,h3⟩:=Zab h2
 obtain⟨i,g7,h4⟩:=Zab h3
 exact⟨_,_,h4,Zac hr (by simp [ZdG,g0,g4,g2,g7])⟩
def Zic (Q:Post) (e:Env) (w:World):Prop:=
 Zco e fun f s=>Zgm f.1 f.2 s w (fun n_2 w1=>Q (.exit 0) [⟨2,.int .i64 n_2,none⟩] w1)
def ZiS:Gen where
 loop:=lookL [([false,true,false,true,true,true],Zic)]
 plan:=fun _=>none
def Ze6 (e:Env) (K:((Option Addr)×Addr)→Int→Prop):Prop:=
 oP e 0 fun sx_1=>
 oA e 4 fun t=>
 oI e 2 .i64 fun n_2=>
  K (sx_1,t) n_2
theorem ZmB (f:(Option Addr)×Addr) (s:ZaV) (w:World) (Kn:((Option Addr)×Addr)→ZaV→World→Prop) (Kx0:((Option Addr)×Addr)→Int→World→Prop) :
  Zgg f.1 f.2 s w (fun s1 w1=>Kn f s1 w1) (fun n_2 w1=>Kx0 f n_2 w1) =
  den Tryz.prog Tryz.f136.ntmps ZiS (sub (codeOf Tryz.f136) [false,false,true,false,true,true,true]) [false,false,true,false,true,true,true] (roundQ (fun e w=>Zco e fun f s=>Kn f s w) (fun e w=>False) (fun id e w=>match Nat.beq id 0 with | true=>Ze6 e fun f n_2=>Kx0 f n_2 w | false=>False)) (ZdG f s) w:=by kernel_rfl
theorem ZnM:OneOk Tryz.prog Tryz.f136.ntmps ZiS (codeOf Tryz.f136) [false,true,false,true,true,true] Zic:=by
 intro c hc ih Q e w a hr h
 have hcc:sub (codeOf Tryz.f136) [false,false,true,false,true,true,true]=c:=Zaf hc
 obtain⟨f,s,h,hrep⟩:=Zg6 e a _ hr h
 obtain⟨J,μ,hj,hround⟩:=h
 refine Zad Zan Zag ih ZdG Zco Zg6 hc f J μ (Kr:=fun e w=>False) (Kx:=fun id e w=>match Nat.beq id 0 with | true=>(Ze6 e fun f1 n_2=>f1=f∧Q (.exit 0) [⟨2,.int .i64 n_2,none⟩] w) | false=>False) ?_ ?_ ?_ s w a hj hrep
 ·intro e a w hr h
  exact h.elim
 ·intro id e a w hr h0
  (try dsimp only at h0)
  split at h0
  ·rename_i hid
   obtain rfl:=Nat.eq_of_beq_eq_true hid
   unfold Ze6 at h0
   obtain⟨sx_1,g0,h1⟩:=Zar h0
   obtain⟨t,g4,h2⟩:=Zap h1
   obtain⟨n_2,g2,h3⟩:=Zab h2
   obtain⟨hf,hq⟩:=h3
   subst hf
   exact⟨_,Zac hr (by simp [g2]),hq⟩
  ·exact h0.elim
 ·intro s w hj
  have hb:=hround s w hj
  rw[←hcc]
  have e1:=ZmB f s w (fun f1 s1 w1=>f1=f∧J s1 w1∧μ s1 w1<μ s w) (fun f1 n_2 w1=>f1=f∧Q (.exit 0) [⟨2,.int .i64 n_2,none⟩] w1)
  simp only[true_and] at e1
  exact cast e1 hb
theorem ZnG:LoopOk Tryz.prog Tryz.f136.ntmps ZiS (codeOf Tryz.f136):=Zal rfl ⟨ZnM,trivial⟩
theorem Zbl.of {sx:Option Addr} {t0:Int} {t1:Int} {t2:ByteArray} {t3P:Option Addr} {t3N:Nat} {t3C:Nat} {n:Int} {w:World} {R:Int→World→Prop} (h:ZiU sx t0 t1 t2 t3P t3N t3C n w R):Zbl sx t0 t1 t2 t3P t3N t3C n w R:=ofS4 (Fm:=ZiU sx t0 t1 t2 t3P t3N t3C n w) Tryz.func136 (by kernel_rfl) ZnG rfl (fun _=>by kernel_rfl) h
structure ZaW where
 i:Int
def Zgo (sx_1:Option Addr) (t:Addr) (t4:Addr) (out:Addr) (s:ZaW) (w:World) (Kn:ZaW→World→Prop) (Kx0:World→Prop):Prop:=
 ∃LP LN LC,w.cell? (t.add 3)=some (.slice LP LN LC)∧
 If (decide (s.i<(LN:Int)))
 (∃LP_1 LN_1 LC_1,(drw w).cell? (out.add 3)=some (.slice LP_1 LN_1 LC_1)∧
 ∃LP_2 LN_2 LC_2,(drw w).cell? (t.add 3)=some (.slice LP_2 LN_2 LC_2)∧
 0≤s.i∧s.i<(LN_2:Int)∧NN LP_2 fun a=>
 ∃t310,(drw w).cell? ((a.add (s.i.toNat*4)).add 0)=some (.int .i64 t310)∧
 ∃t311,(drw w).cell? ((a.add (s.i.toNat*4)).add 1)=some (.int .i64 t311)∧
 ∃t312,(drw w).cell? ((a.add (s.i.toNat*4)).add 2)=some (.string t312)∧
 ∃t313P t313N t313C,(drw w).cell? ((a.add (s.i.toNat*4)).add 3)=some (.slice t313P t313N t313C)∧
 Zbn sx_1 t310 t311 t312 t313P t313N t313C (drw w) fun t320 t321 t322 t323P t323N t323C w1_12=>
 w1_12.cell? (out.add 3)=(drw w).cell? (out.add 3)∧
 BSl Tryz.prog 22 1 [(0,.agg #[.int .i64 t320,.int .i64 t321,.string t322,.slice t323P t323N t323C])] w1_12 fun t33P t33N t33C w1_13=>
 w1_13.cell? (out.add 3)=(drw w).cell? (out.add 3)∧
 App Tryz.prog #[22,22] 22 #[.slice LP_1 LN_1 LC_1,.slice t33P t33N t33C] w1_13 fun t34P t34N t34C w1_14=>
 St w1_14 ((out.add 3).add 0) (.slice t34P t34N t34C) fun w1_15=>
 Kn ⟨(IntKind.i64.wrap (s.i+(1:Int)))⟩ w1_15)
 (Kx0 w)
def Zgr (sx_1:Option Addr) (t:Addr) (t4:Addr) (out:Addr) (s:ZaW) (w:World) (Kx0:World→Prop):Prop:=
 LoopS (fun s w Kn=>Zgo sx_1 t t4 out s w Kn Kx0) s w
def Zir (sx:Option Addr) (t0:Int) (t1:Int) (t2:ByteArray) (t3P:Option Addr) (t3N:Nat) (t3C:Nat) (w:World) (R:Int→Int→ByteArray→Option Addr→Nat→Nat→World→Prop):Prop:=
 New w (.cells #[.int .i64 t0,.int .i64 t1,.string t2,.slice t3P t3N t3C] 31) fun r w1=>
 New w1 (.cells #[.int .i64 0,.int .i64 0,.string ⟨#[]⟩,.slice none 0 0] 31) fun r_1 w1_1=>
 ∃t80,w1_1.cell? (Addr.add ⟨r,0,none⟩ 0)=some (.int .i64 t80)∧
 ∃t81,w1_1.cell? (Addr.add ⟨r,0,none⟩ 1)=some (.int .i64 t81)∧
 ∃t82,w1_1.cell? (Addr.add ⟨r,0,none⟩ 2)=some (.string t82)∧
 ∃t83P t83N t83C,w1_1.cell? (Addr.add ⟨r,0,none⟩ 3)=some (.slice t83P t83N t83C)∧
 ZaL sx t80 t81 t82 t83P t83N t83C w1_1 fun t90 t91 t92 t93P t93N t93C w1_2=>
 St w1_2 (Addr.add ⟨r,0,none⟩ 0) (.int .i64 t90) fun w1_3=>
 St w1_3 (Addr.add ⟨r,0,none⟩ 1) (.int .i64 t91) fun w1_4=>
 St w1_4 (Addr.add ⟨r,0,none⟩ 2) (.string t92) fun w1_5=>
 St w1_5 (Addr.add ⟨r,0,none⟩ 3) (.slice t93P t93N t93C) fun w1_6=>
 ∃Kind,w1_6.cell? (Addr.add ⟨r,0,none⟩ 0)=some (.int .i64 Kind)∧
 ∃N,w1_6.cell? (Addr.add ⟨r,0,none⟩ 1)=some (.int .i64 N)∧
 ∃S,w1_6.cell? (Addr.add ⟨r,0,none⟩ 2)=some (.string S)∧
 New w1_6 (.cells #[.int .i64 0,.int .i64 0,.string ⟨#[]⟩,.slice none 0 0] 31) fun r_2 w1_7=>
 St w1_7 (Addr.add ⟨r_2,0,none⟩ 0) (.int .i64 Kind) fun w1_8=>
 St w1_8 (Addr.add ⟨r_2,0,none⟩ 1) (.int .i64 N) fun w1_9=>
 St w1_9 (Addr.add ⟨r_2,0,none⟩ 2) (.string S) fun w1_10=>
 St w1_10 (Addr.add ⟨r_2,0,none⟩ 3) (.slice none 0 0) fun w1_11=>
 Zgr sx ⟨r,0,none⟩ ⟨r_1,0,none⟩ ⟨r_2,0,none⟩ ⟨(0:Int)⟩ w1_11
 (fun w1_16=>
 ∃t360,w1_16.cell? (Addr.add ⟨r_2,0,none⟩ 0)=some (.int .i64 t360)∧
 ∃t361,w1_16.cell? (Addr.add ⟨r_2,0,none⟩ 1)=some (.int .i64 t361)∧
 ∃t362,w1_16.cell? (Addr.add ⟨r_2,0,none⟩ 2)=some (.string t362)∧
 ∃t363P t363N t363C,w1_16.cell? (Addr.add ⟨r_2,0,none⟩ 3)=some (.slice t363P t363N t363C)∧
 St w1_16 (Addr.add ⟨r_1,0,none⟩ 0) (.int .i64 t360) fun w1_17=>
 St w1_17 (Addr.add ⟨r_1,0,none⟩ 1) (.int .i64 t361) fun w1_18=>
 St w1_18 (Addr.add ⟨r_1,0,none⟩ 2) (.string t362) fun w1_19=>
 St w1_19 (Addr.add ⟨r_1,0,none⟩ 3) (.slice t363P t363N t363C) fun w1_20=>
 ∃r_3,w1_20.cell? (Addr.add ⟨r_1,0,none⟩ 0)=some (.int .i64 r_3)∧
 ∃r_4,w1_20.cell? (Addr.add ⟨r_1,0,none⟩ 1)=some (.int .i64 r_4)∧
 ∃r_5,w1_20.cell? (Addr.add ⟨r_1,0,none⟩ 2)=some (.string r_5)∧
 ∃rP rN rC,w1_20.cell? (Addr.add ⟨r_1,0,none⟩ 3)=some (.slice rP rN rC)∧
 R r_3 r_4 r_5 rP rN rC w1_20)
def ZdD (f:(Option Addr)×Addr×Addr×Addr) (s:ZaW):Env:=[⟨0,.pointer f.1,none⟩,⟨3,.pointer (some f.2.1),none⟩,⟨4,.pointer (some f.2.2.1),none⟩,⟨5,.pointer (some f.2.2.2),none⟩,⟨6,.int .i64 s.i,none⟩]
def Zcp (e:Env) (K:((Option Addr)×Addr×Addr×Addr)→ZaW→Prop):Prop:=
 oP e 0 fun sx_1=>
 oA e 3 fun t=>
 oA e 4 fun t4=>
 oA e 5 fun out=>
 oI e 6 .i64 fun i=>
  K (sx_1,t,t4,out) ⟨i⟩
theorem ZgH {N:Nat} (e:Env) (a:Act) (K:((Option Addr)×Addr×Addr×Addr)→ZaW→Prop) (hr:Rep N a e) (h0:Zcp e K):∃f s,K f s∧Rep N a (ZdD f s):=by
 unfold Zcp at h0
 obtain⟨sx_1,g0,h1⟩:=Zar h0
 obtain⟨t,g3,h2⟩:=Zap h1
 obtain⟨t4,g4,h3⟩:=Zap h2
 obtain⟨out,g5,h4⟩:=Zap h3
 obtain⟨i,g6,h5⟩:=Zab h4
 exact⟨_,_,h5,Zac hr (by simp [ZdD,g0,g3,g4,g5,g6])⟩
def Zh6 (Q:Post) (e:Env) (w:World):Prop:=
 Zcp e fun f s=>Zgr f.1 f.2.1 f.2.2.1 f.2.2.2 s w (fun w1=>Q (.exit 0) [⟨4,.pointer (some f.2.2.1),none⟩,⟨5,.pointer (some f.2.2.2),none⟩] w1)
def Zig:Gen where
 loop:=lookL [([false,true,false,true,true,true],Zh6)]
 plan:=fun id=>
  bif Nat.beq id 6 then some ([0,1,0,0,8,0,56,120,252,508,1023,2047,4095],.take 0 (.take 1 (.take 2 (.take 3 (.take 4 (.take 5 (.take 6 (.take 7 (.take 8 (.take 9 (.take 10 (.take 11 (.take 12 .done))))))))))))) else none
def Zfd (e:Env) (K:((Option Addr)×Addr×Addr×Addr)→Prop):Prop:=
 oP e 0 fun sx_1=>
 oA e 3 fun t=>
 oA e 4 fun t4=>
 oA e 5 fun out=>
  K (sx_1,t,t4,out)
theorem ZmR (f:(Option Addr)×Addr×Addr×Addr) (s:ZaW) (w:World) (Kn:((Option Addr)×Addr×Addr×Addr)→ZaW→World→Prop) (Kx0:((Option Addr)×Addr×Addr×Addr)→World→Prop) :
  Zgo f.1 f.2.1 f.2.2.1 f.2.2.2 s w (fun s1 w1=>Kn f s1 w1) (fun w1=>Kx0 f w1) =
  den Tryz.prog Tryz.f137.ntmps Zig (sub (codeOf Tryz.f137) [false,false,true,false,true,true,true]) [false,false,true,false,true,true,true] (roundQ (fun e w=>Zcp e fun f s=>Kn f s w) (fun e w=>False) (fun id e w=>match Nat.beq id 0 with | true=>Zfd e fun f=>Kx0 f w | false=>False)) (ZdD f s) w:=by kernel_rfl
theorem Zns:OneOk Tryz.prog Tryz.f137.ntmps Zig (codeOf Tryz.f137) [false,true,false,true,true,true] Zh6:=by
 intro c hc ih Q e w a hr h
 have hcc:sub (codeOf Tryz.f137) [false,false,true,false,true,true,true]=c:=Zaf hc
 obtain⟨f,s,h,hrep⟩:=ZgH e a _ hr h
 obtain⟨J,μ,hj,hround⟩:=h
 refine Zad Zan Zag ih ZdD Zcp ZgH hc f J μ (Kr:=fun e w=>False) (Kx:=fun id e w=>match Nat.beq id 0 with | true=>(Zfd e fun f1=>f1=f∧Q (.exit 0) [⟨4,.pointer (some f.2.2.1),none⟩,⟨5,.pointer (some f.2.2.2),none⟩] w) | false=>False) ?_ ?_ ?_ s w a hj hrep
 ·intro e a w hr h
  exact h.elim
 ·intro id e a w hr h0
  (try dsimp only at h0)
  split at h0
  ·rename_i hid
   obtain rfl:=Nat.eq_of_beq_eq_true hid
   unfold Zfd at h0
   obtain⟨sx_1,g0,h1⟩:=Zar h0
   obtain⟨t,g3,h2⟩:=Zap h1
   obtain⟨t4,g4,h3⟩:=Zap h2
   obtain⟨out,g5,h4⟩:=Zap h3
   obtain⟨hf,hq⟩:=h4
   subst hf
   exact⟨_,Zac hr (by simp [g4,g5]),hq⟩
  ·exact h0.elim
 ·intro s w hj
  have hb:=hround s w hj
  rw[←hcc]
  have e1:=ZmR f s w (fun f1 s1 w1=>f1=f∧J s1 w1∧μ s1 w1<μ s w) (fun f1 w1=>f1=f∧Q (.exit 0) [⟨4,.pointer (some f.2.2.1),none⟩,⟨5,.pointer (some f.2.2.2),none⟩] w1)
  simp only[true_and] at e1
  exact cast e1 hb
theorem Zny:LoopOk Tryz.prog Tryz.f137.ntmps Zig (codeOf Tryz.f137):=Zal rfl ⟨Zns,trivial⟩
theorem Zbn.of {sx:Option Addr} {t0:Int} {t1:Int} {t2:ByteArray} {t3P:Option Addr} {t3N:Nat} {t3C:Nat} {w:World} {R:Int→Int→ByteArray→Option Addr→Nat→Nat→World→Prop} (h:Zir sx t0 t1 t2 t3P t3N t3C w R):Zbn sx t0 t1 t2 t3P t3N t3C w R:=ofS10 (Fm:=Zir sx t0 t1 t2 t3P t3N t3C w) Tryz.func137 (by kernel_rfl) Zny rfl (fun _=>by kernel_rfl) h
end Go.Proofs.YtdaenijbokialaaGreat
