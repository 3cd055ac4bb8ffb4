import Derived.Test.YtdaenijbokialaaGreatGenC
set_option maxRecDepth 100000
set_option linter.unusedVariables false
namespace Go.Proofs.YtdaenijbokialaaGreat
open Go Go.D Go.Proofs
structure Zaq where
 i:Int
def Zio (R:Bool→World→Prop) (w1_4:World):Prop:=
 Zcx  w1_4 fun t37 w1_5=>
 R t37 w1_5
def Zmo (R:Bool→World→Prop) (w1_10:World):Prop:=
 R false w1_10
def Zer (Kr:Bool→World→Prop) (w1_23:World):Prop:=
 Kr false w1_23
def Zbm (hx:Option Addr) (x:Option Addr) (allP:Option Addr) (allN:Nat) (allC:Nat) (wsP:Option Addr) (wsN:Nat) (wsC:Nat) (s:Zaq) (Kn:Zaq→World→Prop) (Kr:Bool→World→Prop) (w1_31:World):Prop:=
 Za5 hx wsP wsN wsC w1_31 fun t1850P t1850N t1850C t1851P t1851N t1851C t1852 w1_32=>
 Zb4 x allP allN allC w1_32 fun t1920P t1920N t1920C t1921 w1_33=>
 If (t1852 != t1921)
 (Kr false w1_33)
 (ZfI t1850P t1850N t1850C t1920P t1920N t1920C w1_33 fun t201 w1_34=>
 If (!t201)
 (Kr false w1_34)
 (Kn ⟨(IntKind.i64.wrap (s.i+(1:Int)))⟩ w1_34))
def ZfO (hx:Option Addr) (x:Option Addr) (allP:Option Addr) (allN:Nat) (allC:Nat) (wsP:Option Addr) (wsN:Nat) (wsC:Nat) (s:Zaq) (Kn:Zaq→World→Prop) (Kr:Bool→World→Prop) (t145:Bool) (w1_24:World):Prop:=
 If t145
 (Kr false w1_24)
 (Zbm hx x allP allN allC wsP wsN wsC s Kn Kr w1_24)
def Zis (lP_1:Option Addr) (lN_1:Nat) (lC_1:Nat) (hx:Option Addr) (x:Option Addr) (allP:Option Addr) (allN:Nat) (allC:Nat) (wsP:Option Addr) (wsN:Nat) (wsC:Nat) (s:Zaq) (w:World) (Kn:Zaq→World→Prop) (Kx0:World→Prop) (Kr:Bool→World→Prop):Prop:=
 If (decide (s.i<(lN_1:Int)))
 (0≤s.i∧s.i<(lN_1:Int)∧NN lP_1 fun a=>
 ∃Kind,w.cell? ((a.add (s.i.toNat*9)).add 0)=some (.int .i64 Kind)∧
 If (Kind==(1:Int))
 (Zbq hx w fun t890 t891 w1_16=>
 If (t891 != (0:Int))
 (Kr false w1_16)
 (0≤(IntKind.i64.wrap ((2:Int)*s.i))∧(IntKind.i64.wrap ((2:Int)*s.i))<(wsN:Int)∧NN wsP fun a_1=>
 ∃t100,(drw w1_16).cell? (a_1.add ((IntKind.i64.wrap ((2:Int)*s.i)).toNat*1))=some (.int .u64 t100)∧
 0≤(IntKind.i64.wrap ((IntKind.i64.wrap ((2:Int)*s.i))+(1:Int)))∧(IntKind.i64.wrap ((IntKind.i64.wrap ((2:Int)*s.i))+(1:Int)))<(wsN:Int)∧NN wsP fun a_2=>
 ∃t106,(drw w1_16).cell? (a_2.add ((IntKind.i64.wrap ((IntKind.i64.wrap ((2:Int)*s.i))+(1:Int))).toNat*1))=some (.int .u64 t106)∧
 ZaB hx t100 t106 (drw w1_16) fun t1070 t1071 w1_17=>
 If (!t1070)
 (ZbU hx (drw w1_17) fun t114 w1_18=>
 If (t114 != (0:Int))
 (Zer Kr w1_18)
 (Za4 hx w1_18 fun t119 w1_19=>
 If (t119 != (0:Int))
 (Zer Kr w1_19)
 (If (t1071 != (0:Int))
 (Zer Kr w1_19)
 (NN x fun a_3=>
 ∃S,w1_19.cell? (a_3.add 0)=some (.pointer S)∧
 0≤(IntKind.i64.wrap ((2:Int)*s.i))∧(IntKind.i64.wrap ((2:Int)*s.i))<(allN:Int)∧NN allP fun a_4=>
 ∃t1360,w1_19.cell? ((a_4.add ((IntKind.i64.wrap ((2:Int)*s.i)).toNat*4)).add 0)=some (.int .i64 t1360)∧
 ∃t1361,w1_19.cell? ((a_4.add ((IntKind.i64.wrap ((2:Int)*s.i)).toNat*4)).add 1)=some (.int .i64 t1361)∧
 ∃t1362,w1_19.cell? ((a_4.add ((IntKind.i64.wrap ((2:Int)*s.i)).toNat*4)).add 2)=some (.string t1362)∧
 ∃t1363P t1363N t1363C,w1_19.cell? ((a_4.add ((IntKind.i64.wrap ((2:Int)*s.i)).toNat*4)).add 3)=some (.slice t1363P t1363N t1363C)∧
 0≤(IntKind.i64.wrap ((IntKind.i64.wrap ((2:Int)*s.i))+(1:Int)))∧(IntKind.i64.wrap ((IntKind.i64.wrap ((2:Int)*s.i))+(1:Int)))<(allN:Int)∧NN allP fun a_5=>
 ∃t1420,w1_19.cell? ((a_5.add ((IntKind.i64.wrap ((IntKind.i64.wrap ((2:Int)*s.i))+(1:Int))).toNat*4)).add 0)=some (.int .i64 t1420)∧
 ∃t1421,w1_19.cell? ((a_5.add ((IntKind.i64.wrap ((IntKind.i64.wrap ((2:Int)*s.i))+(1:Int))).toNat*4)).add 1)=some (.int .i64 t1421)∧
 ∃t1422,w1_19.cell? ((a_5.add ((IntKind.i64.wrap ((IntKind.i64.wrap ((2:Int)*s.i))+(1:Int))).toNat*4)).add 2)=some (.string t1422)∧
 ∃t1423P t1423N t1423C,w1_19.cell? ((a_5.add ((IntKind.i64.wrap ((IntKind.i64.wrap ((2:Int)*s.i))+(1:Int))).toNat*4)).add 3)=some (.slice t1423P t1423N t1423C)∧
 ZaR S t1360 t1361 t1362 t1363P t1363N t1363C t1420 t1421 t1422 t1423P t1423N t1423C w1_19 fun t143 w1_20=>
 ZfO hx x allP allN allC wsP wsN wsC s Kn Kr (!(t1070==t143)) w1_20))))
 (Za4 hx (drw w1_17) fun t119_1 w1_21=>
 If (t119_1 != (0:Int))
 (Zer Kr w1_21)
 (If (t1071 != (0:Int))
 (Zer Kr w1_21)
 (NN x fun a_6=>
 ∃S_1,w1_21.cell? (a_6.add 0)=some (.pointer S_1)∧
 0≤(IntKind.i64.wrap ((2:Int)*s.i))∧(IntKind.i64.wrap ((2:Int)*s.i))<(allN:Int)∧NN allP fun a_7=>
 ∃t1360_1,w1_21.cell? ((a_7.add ((IntKind.i64.wrap ((2:Int)*s.i)).toNat*4)).add 0)=some (.int .i64 t1360_1)∧
 ∃t1361_1,w1_21.cell? ((a_7.add ((IntKind.i64.wrap ((2:Int)*s.i)).toNat*4)).add 1)=some (.int .i64 t1361_1)∧
 ∃t1362_1,w1_21.cell? ((a_7.add ((IntKind.i64.wrap ((2:Int)*s.i)).toNat*4)).add 2)=some (.string t1362_1)∧
 ∃t1363P_1 t1363N_1 t1363C_1,w1_21.cell? ((a_7.add ((IntKind.i64.wrap ((2:Int)*s.i)).toNat*4)).add 3)=some (.slice t1363P_1 t1363N_1 t1363C_1)∧
 0≤(IntKind.i64.wrap ((IntKind.i64.wrap ((2:Int)*s.i))+(1:Int)))∧(IntKind.i64.wrap ((IntKind.i64.wrap ((2:Int)*s.i))+(1:Int)))<(allN:Int)∧NN allP fun a_8=>
 ∃t1420_1,w1_21.cell? ((a_8.add ((IntKind.i64.wrap ((IntKind.i64.wrap ((2:Int)*s.i))+(1:Int))).toNat*4)).add 0)=some (.int .i64 t1420_1)∧
 ∃t1421_1,w1_21.cell? ((a_8.add ((IntKind.i64.wrap ((IntKind.i64.wrap ((2:Int)*s.i))+(1:Int))).toNat*4)).add 1)=some (.int .i64 t1421_1)∧
 ∃t1422_1,w1_21.cell? ((a_8.add ((IntKind.i64.wrap ((IntKind.i64.wrap ((2:Int)*s.i))+(1:Int))).toNat*4)).add 2)=some (.string t1422_1)∧
 ∃t1423P_1 t1423N_1 t1423C_1,w1_21.cell? ((a_8.add ((IntKind.i64.wrap ((IntKind.i64.wrap ((2:Int)*s.i))+(1:Int))).toNat*4)).add 3)=some (.slice t1423P_1 t1423N_1 t1423C_1)∧
 ZaR S_1 t1360_1 t1361_1 t1362_1 t1363P_1 t1363N_1 t1363C_1 t1420_1 t1421_1 t1422_1 t1423P_1 t1423N_1 t1423C_1 w1_21 fun t143_1 w1_22=>
 ZfO hx x allP allN allC wsP wsN wsC s Kn Kr (!(t1070==t143_1)) w1_22)))))
 (If (Kind==(2:Int))
 (Zbq hx w fun t1500 t1501 w1_25=>
 If (t1501 != (0:Int))
 (Kr false w1_25)
 (ZbD x w1_25 fun w1_26=>
 Zbm hx x allP allN allC wsP wsN wsC s Kn Kr w1_26))
 (If (Kind==(3:Int))
 (Zb6 x w fun w1_27=>
 ZbU hx w1_27 fun t162 w1_28=>
 If (t162 != (0:Int))
 (Kr false w1_28)
 (Zbm hx x allP allN allC wsP wsN wsC s Kn Kr w1_28))
 (If (Kind==(4:Int))
 (NN x fun a_9=>
 ∃MarksP MarksN MarksC,w.cell? (a_9.add 1)=some (.slice MarksP MarksN MarksC)∧
 If (decide ((MarksN:Int)>(1:Int)))
 (ZbH x w fun t174 w1_29=>
 If (!t174)
 (Kr false w1_29)
 (Za4 hx w1_29 fun t178 w1_30=>
 If (t178 != (0:Int))
 (Kr false w1_30)
 (Zbm hx x allP allN allC wsP wsN wsC s Kn Kr w1_30)))
 (Zbm hx x allP allN allC wsP wsN wsC s Kn Kr w))
 (Zbm hx x allP allN allC wsP wsN wsC s Kn Kr w)))))
 (Kx0 w)
def Zii (lP_1:Option Addr) (lN_1:Nat) (lC_1:Nat) (hx:Option Addr) (x:Option Addr) (allP:Option Addr) (allN:Nat) (allC:Nat) (wsP:Option Addr) (wsN:Nat) (wsC:Nat) (s:Zaq) (w:World) (Kx0:World→Prop) (Kr:Bool→World→Prop):Prop:=
 LoopS (fun s w Kn=>Zis lP_1 lN_1 lC_1 hx x allP allN allC wsP wsN wsC s w Kn Kx0 Kr) s w
def ZlB (lP:Option Addr) (lN:Nat) (lC:Nat) (w:World) (R:Bool→World→Prop):Prop:=
 If (decide ((lN:Int)>(9:Int)))
 (Zio R w)
 (Zdf lP lN lC w fun t28P t28N t28C w1=>
 ZeY t28P t28N t28C w1 fun t29 w1_1=>
 If t29
 (Zio R w1_1)
 (Zdf lP lN lC w1_1 fun t33P t33N t33C w1_2=>
 Zhf t33P t33N t33C w1_2 fun t34 w1_3=>
 If (!t34)
 (Zcx  w1_3 fun t37_1 w1_6=>
 R t37_1 w1_6)
 (ZeG (131072:Int) (65536:Int) w1_3 fun t390 t391 w1_7=>
 ZgI  w1_7 fun t42 w1_8=>
 Zcx  w1_8 fun t43 w1_9=>
 If (!t43)
 (Zmo R w1_9)
 (If (t391 != (0:Int))
 (Zmo R w1_9)
 (If t390.isNone
 (R false w1_9)
 (Zdf lP lN lC w1_9 fun t54P t54N t54C w1_11=>
 New w1_11 (.map #[] 0) fun r w1_12=>
 Zef t390 t54P t54N t54C (some r) w1_12 fun t59P t59N t59C w1_13=>
 If ((t59N:Int) != (t54N:Int))
 (R false w1_13)
 (Zbq t390 w1_13 fun t670 t671 w1_14=>
 If (t671 != (0:Int))
 (R false w1_14)
 (ZbD t42 w1_14 fun w1_15=>
 Zii lP lN lC t390 t42 t54P t54N t54C t59P t59N t59C ⟨(0:Int)⟩ w1_15
 (fun w1_35=>
 R true w1_35)
 (fun t2_1 w1_36=>
 R t2_1 w1_36)))))))))
def ZeT (f:(Option Addr)×Nat×Nat×(Option Addr)×(Option Addr)×(Option Addr)×Nat×Nat×(Option Addr)×Nat×Nat) (s:Zaq):Env:=[⟨0,.slice f.1 f.2.1 f.2.2.1,none⟩,⟨3,.pointer f.2.2.2.1,none⟩,⟨5,.pointer f.2.2.2.2.1,none⟩,⟨6,.slice f.2.2.2.2.2.1 f.2.2.2.2.2.2.1 f.2.2.2.2.2.2.2.1,none⟩,⟨8,.slice f.2.2.2.2.2.2.2.2.1 f.2.2.2.2.2.2.2.2.2.1 f.2.2.2.2.2.2.2.2.2.2,none⟩,⟨11,.int .i64 s.i,none⟩]
def Zdk (e:Env) (K:((Option Addr)×Nat×Nat×(Option Addr)×(Option Addr)×(Option Addr)×Nat×Nat×(Option Addr)×Nat×Nat)→Zaq→Prop):Prop:=
 oS e 0 fun lP_1 lN_1 lC_1=>
 oP e 3 fun hx=>
 oP e 5 fun x=>
 oS e 6 fun allP allN allC=>
 oS e 8 fun wsP wsN wsC=>
 oI e 11 .i64 fun i=>
  K (lP_1,lN_1,lC_1,hx,x,allP,allN,allC,wsP,wsN,wsC) ⟨i⟩
theorem ZiZ {N:Nat} (e:Env) (a:Act) (K:((Option Addr)×Nat×Nat×(Option Addr)×(Option Addr)×(Option Addr)×Nat×Nat×(Option Addr)×Nat×Nat)→Zaq→Prop) (hr:Rep N a e) (h0:Zdk e K):∃f s,K f s∧Rep N a (ZeT f s):=by
 unfold Zdk at h0
 obtain⟨lP_1,lN_1,lC_1,g0,h1⟩:=Zae h0
 obtain⟨hx,g3,h2⟩:=Zar h1
 obtain⟨x,g5,h3⟩:=Zar h2
 obtain⟨allP,allN,allC,g6,h4⟩:=Zae h3
 obtain⟨wsP,wsN,wsC,g8,h5⟩:=Zae h4
 obtain⟨i,g11,h6⟩:=Zab h5
 exact⟨_,_,h6,Zac hr (by simp [ZeT,g0,g3,g5,g6,g8,g11])⟩
def Zkf (Q:Post) (e:Env) (w:World):Prop:=
 Zdk e fun f s=>Zii f.1 f.2.1 f.2.2.1 f.2.2.2.1 f.2.2.2.2.1 f.2.2.2.2.2.1 f.2.2.2.2.2.2.1 f.2.2.2.2.2.2.2.1 f.2.2.2.2.2.2.2.2.1 f.2.2.2.2.2.2.2.2.2.1 f.2.2.2.2.2.2.2.2.2.2 s w (fun w1=>Q (.exit 0) [] w1) (fun t2 w1=>Q .ret [⟨2,.bool t2,none⟩] w1)
def Zlw:Gen where
 loop:=lookL [([false,true,false,true,true,true,true,true,true,true,true,true,true,true],Zkf)]
 plan:=fun id=>
  bif Nat.beq id 24 then some ([0,0,0,4,14,30,0,0,128,384,960,1984,4095,8191,16383,16383,32767,131071],.take 0 (.take 1 (.take 2 (.take 3 (.take 4 (.take 5 (.take 6 (.take 7 (.take 8 (.take 9 (.take 10 (.take 11 (.take 12 (.take 13 (.take 14 (.take 15 (.take 16 (.take 17 .done)))))))))))))))))) else
  bif Nat.beq id 25 then some ([0,1,3,7,15,31,63,127,255,511,1023,2047,4095,8191,16383,32767,65535,131071,131071,393215,917503,1966079,131071,131071,8519679,29491199,63045631,131071,131071,268566527,805437439,2013396991,4160880639,8589803519,17179869183,34359738367],.take 0 (.take 1 (.take 2 (.take 3 (.take 4 (.take 5 (.take 6 (.take 7 (.take 8 (.take 9 (.take 10 (.take 11 (.take 12 (.take 13 (.take 14 (.take 15 (.take 16 (.take 17 (.take 18 (.take 19 (.take 20 (.take 21 (.take 22 (.take 23 (.take 24 (.take 25 (.take 26 (.take 27 (.take 28 (.take 29 (.take 30 (.take 31 (.take 32 (.take 33 (.take 34 (.take 35 .done)))))))))))))))))))))))))))))))))))) else none
def Zgq (e:Env) (K:((Option Addr)×Nat×Nat×(Option Addr)×(Option Addr)×(Option Addr)×Nat×Nat×(Option Addr)×Nat×Nat)→Prop):Prop:=
 oS e 0 fun lP_1 lN_1 lC_1=>
 oP e 3 fun hx=>
 oP e 5 fun x=>
 oS e 6 fun allP allN allC=>
 oS e 8 fun wsP wsN wsC=>
  K (lP_1,lN_1,lC_1,hx,x,allP,allN,allC,wsP,wsN,wsC)
def Zfr (e:Env) (K:((Option Addr)×Nat×Nat×(Option Addr)×(Option Addr)×(Option Addr)×Nat×Nat×(Option Addr)×Nat×Nat)→Bool→Prop):Prop:=
 oS e 0 fun lP_1 lN_1 lC_1=>
 oP e 3 fun hx=>
 oP e 5 fun x=>
 oS e 6 fun allP allN allC=>
 oS e 8 fun wsP wsN wsC=>
 oB e 2 fun t2=>
  K (lP_1,lN_1,lC_1,hx,x,allP,allN,allC,wsP,wsN,wsC) t2
theorem Zn6 (f:(Option Addr)×Nat×Nat×(Option Addr)×(Option Addr)×(Option Addr)×Nat×Nat×(Option Addr)×Nat×Nat) (s:Zaq) (w:World) (Kn:((Option Addr)×Nat×Nat×(Option Addr)×(Option Addr)×(Option Addr)×Nat×Nat×(Option Addr)×Nat×Nat)→Zaq→World→Prop) (Kx0:((Option Addr)×Nat×Nat×(Option Addr)×(Option Addr)×(Option Addr)×Nat×Nat×(Option Addr)×Nat×Nat)→World→Prop) (Kr:((Option Addr)×Nat×Nat×(Option Addr)×(Option Addr)×(Option Addr)×Nat×Nat×(Option Addr)×Nat×Nat)→Bool→World→Prop) :
  Zis f.1 f.2.1 f.2.2.1 f.2.2.2.1 f.2.2.2.2.1 f.2.2.2.2.2.1 f.2.2.2.2.2.2.1 f.2.2.2.2.2.2.2.1 f.2.2.2.2.2.2.2.2.1 f.2.2.2.2.2.2.2.2.2.1 f.2.2.2.2.2.2.2.2.2.2 s w (fun s1 w1=>Kn f s1 w1) (fun w1=>Kx0 f w1) (fun t2 w1=>Kr f t2 w1) =
  den Tryz.prog Tryz.f9.ntmps Zlw (sub (codeOf Tryz.f9) [false,false,true,false,true,true,true,true,true,true,true,true,true,true,true]) [false,false,true,false,true,true,true,true,true,true,true,true,true,true,true] (roundQ (fun e w=>Zdk e fun f s=>Kn f s w) (fun e w=>Zfr e fun f t2=>Kr f t2 w) (fun id e w=>match Nat.beq id 0 with | true=>Zgq e fun f=>Kx0 f w | false=>False)) (ZeT f s) w:=by kernel_rfl
theorem Zo7:OneOk Tryz.prog Tryz.f9.ntmps Zlw (codeOf Tryz.f9) [false,true,false,true,true,true,true,true,true,true,true,true,true,true] Zkf:=by
 intro c hc ih Q e w a hr h
 have hcc:sub (codeOf Tryz.f9) [false,false,true,false,true,true,true,true,true,true,true,true,true,true,true]=c:=Zaf hc
 obtain⟨f,s,h,hrep⟩:=ZiZ e a _ hr h
 obtain⟨J,μ,hj,hround⟩:=h
 refine Zad Zan Zag ih ZeT Zdk ZiZ hc f J μ (Kr:=fun e w=>Zfr e fun f1 t2=>f1=f∧Q .ret [⟨2,.bool t2,none⟩] w) (Kx:=fun id e w=>match Nat.beq id 0 with | true=>(Zgq e fun f1=>f1=f∧Q (.exit 0) [] w) | false=>False) ?_ ?_ ?_ s w a hj hrep
 ·intro e a w hr h0
  unfold Zfr at h0
  obtain⟨lP_1,lN_1,lC_1,g0,h1⟩:=Zae h0
  obtain⟨hx,g3,h2⟩:=Zar h1
  obtain⟨x,g5,h3⟩:=Zar h2
  obtain⟨allP,allN,allC,g6,h4⟩:=Zae h3
  obtain⟨wsP,wsN,wsC,g8,h5⟩:=Zae h4
  obtain⟨t2,g2,h6⟩:=Zjx h5
  obtain⟨hf,hq⟩:=h6
  subst hf
  exact⟨_,Zac hr (by simp [g2]),hq⟩
 ·intro id e a w hr h0
  (try dsimp only at h0)
  split at h0
  ·rename_i hid
   obtain rfl:=Nat.eq_of_beq_eq_true hid
   unfold Zgq at h0
   obtain⟨lP_1,lN_1,lC_1,g0,h1⟩:=Zae h0
   obtain⟨hx,g3,h2⟩:=Zar h1
   obtain⟨x,g5,h3⟩:=Zar h2
   obtain⟨allP,allN,allC,g6,h4⟩:=Zae h3
   obtain⟨wsP,wsN,wsC,g8,h5⟩:=Zae h4
   obtain⟨hf,hq⟩:=h5
   subst hf
   exact⟨_,Zac hr (by simp),hq⟩
  ·exact h0.elim
 ·intro s w hj
  have hb:=hround s w hj
  rw[←hcc]
  have e1:=Zn6 f s w (fun f1 s1 w1=>f1=f∧J s1 w1∧μ s1 w1<μ s w) (fun f1 w1=>f1=f∧Q (.exit 0) [] w1) (fun f1 t2 w1=>f1=f∧Q .ret [⟨2,.bool t2,none⟩] w1)
  simp only[true_and] at e1
  exact cast e1 hb
theorem Zo4:LoopOk Tryz.prog Tryz.f9.ntmps Zlw (codeOf Tryz.f9):=Zal rfl ⟨Zo7,trivial⟩
theorem ZdK.of {lP:Option Addr} {lN:Nat} {lC:Nat} {w:World} {R:Bool→World→Prop} (h:ZlB lP lN lC w R):ZdK lP lN lC w R:=ofS2 (Fm:=ZlB lP lN lC w) Tryz.func9 (by kernel_rfl) Zo4 rfl (fun _=>by kernel_rfl) h
structure ZcS where
 n:Int
 i:Int
def Zlb (lP_1:Option Addr) (lN_1:Nat) (lC_1:Nat) (s:ZcS) (w:World) (Kn:ZcS→World→Prop) (Kx0:Int→World→Prop):Prop:=
 If (decide (s.i<(lN_1:Int)))
 (0≤s.i∧s.i<(lN_1:Int)∧NN lP_1 fun a=>
 ∃t220,w.cell? ((a.add (s.i.toNat*4)).add 0)=some (.int .i64 t220)∧
 ∃t221,w.cell? ((a.add (s.i.toNat*4)).add 1)=some (.int .i64 t221)∧
 ∃t222,w.cell? ((a.add (s.i.toNat*4)).add 2)=some (.string t222)∧
 ∃t223P t223N t223C,w.cell? ((a.add (s.i.toNat*4)).add 3)=some (.slice t223P t223N t223C)∧
 ZdA t220 t221 t222 t223P t223N t223C w fun t23 w1_1=>
 Kn ⟨(IntKind.i64.wrap (s.n+t23)),(IntKind.i64.wrap (s.i+(1:Int)))⟩ w1_1)
 (Kx0 s.n w)
def Zlg (lP_1:Option Addr) (lN_1:Nat) (lC_1:Nat) (s:ZcS) (w:World) (Kx0:Int→World→Prop):Prop:=
 LoopS (fun s w Kn=>Zlb lP_1 lN_1 lC_1 s w Kn Kx0) s w
def ZnE (lP:Option Addr) (lN:Nat) (lC:Nat) (w:World) (R:Bool→World→Prop):Prop:=
 If (decide ((lN:Int)>(20:Int)))
 (R true w)
 (ZeQ lP lN lC w fun t10 w1=>
 If t10
 (R true w1)
 (Zlg lP lN lC ⟨(0:Int),(0:Int)⟩ w1
 (fun n_2 w1_2=>
 R (decide (n_2>(8000:Int))) w1_2)))
def ZgD (f:(Option Addr)×Nat×Nat) (s:ZcS):Env:=[⟨0,.slice f.1 f.2.1 f.2.2,none⟩,⟨3,.int .i64 s.n,none⟩,⟨4,.int .i64 s.i,none⟩]
def ZeX (e:Env) (K:((Option Addr)×Nat×Nat)→ZcS→Prop):Prop:=
 oS e 0 fun lP_1 lN_1 lC_1=>
 oI e 3 .i64 fun n=>
 oI e 4 .i64 fun i=>
  K (lP_1,lN_1,lC_1) ⟨n,i⟩
theorem ZkF {N:Nat} (e:Env) (a:Act) (K:((Option Addr)×Nat×Nat)→ZcS→Prop) (hr:Rep N a e) (h0:ZeX e K):∃f s,K f s∧Rep N a (ZgD f s):=by
 unfold ZeX at h0
 obtain⟨lP_1,lN_1,lC_1,g0,h1⟩:=Zae h0
 obtain⟨n,g3,h2⟩:=Zab h1
 obtain⟨i,g4,h3⟩:=Zab h2
 exact⟨_,_,h3,Zac hr (by simp [ZgD,g0,g3,g4])⟩
def ZlZ (Q:Post) (e:Env) (w:World):Prop:=
 ZeX e fun f s=>Zlg f.1 f.2.1 f.2.2 s w (fun n_1 w1=>Q (.exit 0) [⟨3,.int .i64 n_1,none⟩] w1)
def Znu:Gen where
 loop:=lookL [([false,true,false,true,true,true],ZlZ)]
 plan:=fun _=>none
def Zip (e:Env) (K:((Option Addr)×Nat×Nat)→Int→Prop):Prop:=
 oS e 0 fun lP_1 lN_1 lC_1=>
 oI e 3 .i64 fun n_1=>
  K (lP_1,lN_1,lC_1) n_1
theorem Zpn (f:(Option Addr)×Nat×Nat) (s:ZcS) (w:World) (Kn:((Option Addr)×Nat×Nat)→ZcS→World→Prop) (Kx0:((Option Addr)×Nat×Nat)→Int→World→Prop) :
  Zlb f.1 f.2.1 f.2.2 s w (fun s1 w1=>Kn f s1 w1) (fun n_1 w1=>Kx0 f n_1 w1) =
  den Tryz.prog Tryz.f12.ntmps Znu (sub (codeOf Tryz.f12) [false,false,true,false,true,true,true]) [false,false,true,false,true,true,true] (roundQ (fun e w=>ZeX e fun f s=>Kn f s w) (fun e w=>False) (fun id e w=>match Nat.beq id 0 with | true=>Zip e fun f n_1=>Kx0 f n_1 w | false=>False)) (ZgD f s) w:=by kernel_rfl
theorem ZqJ:OneOk Tryz.prog Tryz.f12.ntmps Znu (codeOf Tryz.f12) [false,true,false,true,true,true] ZlZ:=by
 intro c hc ih Q e w a hr h
 have hcc:sub (codeOf Tryz.f12) [false,false,true,false,true,true,true]=c:=Zaf hc
 obtain⟨f,s,h,hrep⟩:=ZkF e a _ hr h
 obtain⟨J,μ,hj,hround⟩:=h
 refine Zad Zan Zag ih ZgD ZeX ZkF hc f J μ (Kr:=fun e w=>False) (Kx:=fun id e w=>match Nat.beq id 0 with | true=>(Zip e fun f1 n_1=>f1=f∧Q (.exit 0) [⟨3,.int .i64 n_1,none⟩] w) | false=>False) ?_ ?_ ?_ s w a hj hrep
 ·intro e a w hr h
  exact h.elim
 ·intro id e a w hr h0
  (try dsimp only at h0)
  split at h0
  ·rename_i hid
   obtain rfl:=Nat.eq_of_beq_eq_true hid
   unfold Zip at h0
   obtain⟨lP_1,lN_1,lC_1,g0,h1⟩:=Zae h0
   obtain⟨n_1,g3,h2⟩:=Zab h1
   obtain⟨hf,hq⟩:=h2
   subst hf
   exact⟨_,Zac hr (by simp [g3]),hq⟩
  ·exact h0.elim
 ·intro s w hj
  have hb:=hround s w hj
  rw[←hcc]
  have e1:=Zpn f s w (fun f1 s1 w1=>f1=f∧J s1 w1∧μ s1 w1<μ s w) (fun f1 n_1 w1=>f1=f∧Q (.exit 0) [⟨3,.int .i64 n_1,none⟩] w1)
  simp only[true_and] at e1
  exact cast e1 hb
theorem Zqy:LoopOk Tryz.prog Tryz.f12.ntmps Znu (codeOf Tryz.f12):=Zal rfl ⟨ZqJ,trivial⟩
theorem ZeY.of {lP:Option Addr} {lN:Nat} {lC:Nat} {w:World} {R:Bool→World→Prop} (h:ZnE lP lN lC w R):ZeY lP lN lC w R:=ofS2 (Fm:=ZnE lP lN lC w) Tryz.func12 (by kernel_rfl) Zqy rfl (fun _=>by kernel_rfl) h
end Go.Proofs.YtdaenijbokialaaGreat
