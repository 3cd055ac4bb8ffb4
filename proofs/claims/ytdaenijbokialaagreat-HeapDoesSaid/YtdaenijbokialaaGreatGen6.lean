import Derived.Test.YtdaenijbokialaaGreatGenC
set_option maxRecDepth 100000
set_option linter.unusedVariables false
namespace Go.Proofs.YtdaenijbokialaaGreat
open Go Go.D Go.Proofs
def Zpo (n:Int) (w:World) (R:Int→Int→ByteArray→Option Addr→Nat→Nat→World→Prop):Prop:=
 New w (.cells #[.int .i64 0,.int .i64 0,.string ⟨#[]⟩,.slice none 0 0] 31) fun r w1=>
 St w1 (Addr.add ⟨r,0,none⟩ 0) (.int .i64 2) fun w1_1=>
 St w1_1 (Addr.add ⟨r,0,none⟩ 1) (.int .i64 n) fun w1_2=>
 St w1_2 (Addr.add ⟨r,0,none⟩ 2) (.string ⟨#[]⟩) fun w1_3=>
 St w1_3 (Addr.add ⟨r,0,none⟩ 3) (.slice none 0 0) fun w1_4=>
 ∃r_1,w1_4.cell? (Addr.add ⟨r,0,none⟩ 0)=some (.int .i64 r_1)∧
 ∃r_2,w1_4.cell? (Addr.add ⟨r,0,none⟩ 1)=some (.int .i64 r_2)∧
 ∃r_3,w1_4.cell? (Addr.add ⟨r,0,none⟩ 2)=some (.string r_3)∧
 ∃rP rN rC,w1_4.cell? (Addr.add ⟨r,0,none⟩ 3)=some (.slice rP rN rC)∧
 R r_1 r_2 r_3 rP rN rC w1_4
theorem ZfX.of {n:Int} {w:World} {R:Int→Int→ByteArray→Option Addr→Nat→Nat→World→Prop} (h:Zpo n w R):ZfX n w R:=ofS10 (Fm:=Zpo n w) Tryz.func65 (by kernel_rfl) (L0 Tryz.f65) rfl (fun _=>by kernel_rfl) h
structure ZcW where
 i:Int
def ZkZ (R:Bool→World→Prop) (w1_2:World):Prop:=
 R false w1_2
def Zlt (a:Addr) (b:Addr) (s:ZcW) (w:World) (Kn:ZcW→World→Prop) (Kx0:World→Prop) (Kr:Bool→World→Prop):Prop:=
 ∃LP_2 LN_2 LC_2,w.cell? (a.add 3)=some (.slice LP_2 LN_2 LC_2)∧
 If (decide (s.i<(LN_2:Int)))
 (∃LP_3 LN_3 LC_3,(drw w).cell? (a.add 3)=some (.slice LP_3 LN_3 LC_3)∧
 0≤s.i∧s.i<(LN_3:Int)∧NN LP_3 fun a_1=>
 ∃t450,(drw w).cell? ((a_1.add (s.i.toNat*4)).add 0)=some (.int .i64 t450)∧
 ∃t451,(drw w).cell? ((a_1.add (s.i.toNat*4)).add 1)=some (.int .i64 t451)∧
 ∃t452,(drw w).cell? ((a_1.add (s.i.toNat*4)).add 2)=some (.string t452)∧
 ∃t453P t453N t453C,(drw w).cell? ((a_1.add (s.i.toNat*4)).add 3)=some (.slice t453P t453N t453C)∧
 ∃LP_4 LN_4 LC_4,(drw w).cell? (b.add 3)=some (.slice LP_4 LN_4 LC_4)∧
 0≤s.i∧s.i<(LN_4:Int)∧NN LP_4 fun a_2=>
 ∃t500,(drw w).cell? ((a_2.add (s.i.toNat*4)).add 0)=some (.int .i64 t500)∧
 ∃t501,(drw w).cell? ((a_2.add (s.i.toNat*4)).add 1)=some (.int .i64 t501)∧
 ∃t502,(drw w).cell? ((a_2.add (s.i.toNat*4)).add 2)=some (.string t502)∧
 ∃t503P t503N t503C,(drw w).cell? ((a_2.add (s.i.toNat*4)).add 3)=some (.slice t503P t503N t503C)∧
 Zct t450 t451 t452 t453P t453N t453C t500 t501 t502 t503P t503N t503C (drw w) fun t51 w1_3=>
 If (!t51)
 (Kr false w1_3)
 (Kn ⟨(IntKind.i64.wrap (s.i+(1:Int)))⟩ w1_3))
 (Kx0 w)
def ZkX (a:Addr) (b:Addr) (s:ZcW) (w:World) (Kx0:World→Prop) (Kr:Bool→World→Prop):Prop:=
 LoopS (fun s w Kn=>Zlt a b s w Kn Kx0 Kr) s w
def ZnC (a0:Int) (a1:Int) (a2:ByteArray) (a3P:Option Addr) (a3N:Nat) (a3C:Nat) (b0:Int) (b1:Int) (b2:ByteArray) (b3P:Option Addr) (b3N:Nat) (b3C:Nat) (w:World) (R:Bool→World→Prop):Prop:=
 New w (.cells #[.int .i64 a0,.int .i64 a1,.string a2,.slice a3P a3N a3C] 31) fun r w1=>
 New w1 (.cells #[.int .i64 b0,.int .i64 b1,.string b2,.slice b3P b3N b3C] 31) fun r_1 w1_1=>
 ∃Kind,w1_1.cell? (Addr.add ⟨r,0,none⟩ 0)=some (.int .i64 Kind)∧
 ∃Kind_1,w1_1.cell? (Addr.add ⟨r_1,0,none⟩ 0)=some (.int .i64 Kind_1)∧
 If (Kind != Kind_1)
 (ZkZ R w1_1)
 (∃N,w1_1.cell? (Addr.add ⟨r,0,none⟩ 1)=some (.int .i64 N)∧
 ∃N_1,w1_1.cell? (Addr.add ⟨r_1,0,none⟩ 1)=some (.int .i64 N_1)∧
 If (N != N_1)
 (ZkZ R w1_1)
 (∃S,w1_1.cell? (Addr.add ⟨r,0,none⟩ 2)=some (.string S)∧
 ∃S_1,w1_1.cell? (Addr.add ⟨r_1,0,none⟩ 2)=some (.string S_1)∧
 If (!(S.toList==S_1.toList))
 (ZkZ R w1_1)
 (∃LP LN LC,w1_1.cell? (Addr.add ⟨r,0,none⟩ 3)=some (.slice LP LN LC)∧
 ∃LP_1 LN_1 LC_1,w1_1.cell? (Addr.add ⟨r_1,0,none⟩ 3)=some (.slice LP_1 LN_1 LC_1)∧
 If ((LN:Int) != (LN_1:Int))
 (R false w1_1)
 (ZkX ⟨r,0,none⟩ ⟨r_1,0,none⟩ ⟨(0:Int)⟩ w1_1
 (fun w1_4=>
 R true w1_4)
 (fun t4_1 w1_5=>
 R t4_1 w1_5)))))
def ZgB (f:Addr×Addr) (s:ZcW):Env:=[⟨2,.pointer (some f.1),none⟩,⟨3,.pointer (some f.2),none⟩,⟨5,.int .i64 s.i,none⟩]
def ZeO (e:Env) (K:(Addr×Addr)→ZcW→Prop):Prop:=
 oA e 2 fun a=>
 oA e 3 fun b=>
 oI e 5 .i64 fun i=>
  K (a,b) ⟨i⟩
theorem ZkN {N:Nat} (e:Env) (a:Act) (K:(Addr×Addr)→ZcW→Prop) (hr:Rep N a e) (h0:ZeO e K):∃f s,K f s∧Rep N a (ZgB f s):=by
 unfold ZeO at h0
 obtain⟨a,g2,h1⟩:=Zap h0
 obtain⟨b,g3,h2⟩:=Zap h1
 obtain⟨i,g5,h3⟩:=Zab h2
 exact⟨_,_,h3,Zac hr (by simp [ZgB,g2,g3,g5])⟩
def ZlV (Q:Post) (e:Env) (w:World):Prop:=
 ZeO e fun f s=>ZkX f.1 f.2 s w (fun w1=>Q (.exit 0) [] w1) (fun t4 w1=>Q .ret [⟨4,.bool t4,none⟩] w1)
def Znt:Gen where
 loop:=lookL [([false,true,false,true,true],ZlV)]
 plan:=fun id=>
  bif Nat.beq id 6 then some ([0,1,0,7,15,0,32,0,224,480,1023,2047],.take 0 (.take 1 (.take 2 (.take 3 (.take 4 (.take 5 (.take 6 (.take 7 (.take 8 (.take 9 (.take 10 (.take 11 .done)))))))))))) else none
def ZiN (e:Env) (K:(Addr×Addr)→Prop):Prop:=
 oA e 2 fun a=>
 oA e 3 fun b=>
  K (a,b)
def ZgK (e:Env) (K:(Addr×Addr)→Bool→Prop):Prop:=
 oA e 2 fun a=>
 oA e 3 fun b=>
 oB e 4 fun t4=>
  K (a,b) t4
theorem ZpL (f:Addr×Addr) (s:ZcW) (w:World) (Kn:(Addr×Addr)→ZcW→World→Prop) (Kx0:(Addr×Addr)→World→Prop) (Kr:(Addr×Addr)→Bool→World→Prop) :
  Zlt f.1 f.2 s w (fun s1 w1=>Kn f s1 w1) (fun w1=>Kx0 f w1) (fun t4 w1=>Kr f t4 w1) =
  den Tryz.prog Tryz.f66.ntmps Znt (sub (codeOf Tryz.f66) [false,false,true,false,true,true]) [false,false,true,false,true,true] (roundQ (fun e w=>ZeO e fun f s=>Kn f s w) (fun e w=>ZgK e fun f t4=>Kr f t4 w) (fun id e w=>match Nat.beq id 0 with | true=>ZiN e fun f=>Kx0 f w | false=>False)) (ZgB f s) w:=by kernel_rfl
theorem Zqs:OneOk Tryz.prog Tryz.f66.ntmps Znt (codeOf Tryz.f66) [false,true,false,true,true] ZlV:=by
 intro c hc ih Q e w a hr h
 have hcc:sub (codeOf Tryz.f66) [false,false,true,false,true,true]=c:=Zaf hc
 obtain⟨f,s,h,hrep⟩:=ZkN e a _ hr h
 obtain⟨J,μ,hj,hround⟩:=h
 refine Zad Zan Zag ih ZgB ZeO ZkN hc f J μ (Kr:=fun e w=>ZgK e fun f1 t4=>f1=f∧Q .ret [⟨4,.bool t4,none⟩] w) (Kx:=fun id e w=>match Nat.beq id 0 with | true=>(ZiN e fun f1=>f1=f∧Q (.exit 0) [] w) | false=>False) ?_ ?_ ?_ s w a hj hrep
 ·intro e a w hr h0
  unfold ZgK at h0
  obtain⟨a,g2,h1⟩:=Zap h0
  obtain⟨b,g3,h2⟩:=Zap h1
  obtain⟨t4,g4,h3⟩:=Zjx h2
  obtain⟨hf,hq⟩:=h3
  subst hf
  exact⟨_,Zac hr (by simp [g4]),hq⟩
 ·intro id e a w hr h0
  (try dsimp only at h0)
  split at h0
  ·rename_i hid
   obtain rfl:=Nat.eq_of_beq_eq_true hid
   unfold ZiN at h0
   obtain⟨a,g2,h1⟩:=Zap h0
   obtain⟨b,g3,h2⟩:=Zap h1
   obtain⟨hf,hq⟩:=h2
   subst hf
   exact⟨_,Zac hr (by simp),hq⟩
  ·exact h0.elim
 ·intro s w hj
  have hb:=hround s w hj
  rw[←hcc]
  have e1:=ZpL f s w (fun f1 s1 w1=>f1=f∧J s1 w1∧μ s1 w1<μ s w) (fun f1 w1=>f1=f∧Q (.exit 0) [] w1) (fun f1 t4 w1=>f1=f∧Q .ret [⟨4,.bool t4,none⟩] w1)
  simp only[true_and] at e1
  exact cast e1 hb
theorem Zqf:LoopOk Tryz.prog Tryz.f66.ntmps Znt (codeOf Tryz.f66):=Zal rfl ⟨Zqs,trivial⟩
theorem Zct.of {a0:Int} {a1:Int} {a2:ByteArray} {a3P:Option Addr} {a3N:Nat} {a3C:Nat} {b0:Int} {b1:Int} {b2:ByteArray} {b3P:Option Addr} {b3N:Nat} {b3C:Nat} {w:World} {R:Bool→World→Prop} (h:ZnC a0 a1 a2 a3P a3N a3C b0 b1 b2 b3P b3N b3C w R):Zct a0 a1 a2 a3P a3N a3C b0 b1 b2 b3P b3N b3C w R:=ofS2 (Fm:=ZnC a0 a1 a2 a3P a3N a3C b0 b1 b2 b3P b3N b3C w) Tryz.func66 (by kernel_rfl) Zqf rfl (fun _=>by kernel_rfl) h
def ZoW (limitx:Int) (w:World) (R:Option Addr→Int→World→Prop):Prop:=
 If (decide (limitx<(0:Int)))
 (R none (1:Int) w)
 (If (decide (limitx>(1048576:Int)))
 (R none (1:Int) w)
 (BSl Tryz.prog 145 1 [(0,.agg #[.int .i64 0,.slice none 0 0])] w fun t11P t11N t11C w1=>
 New w1 (.cells #[.slice t11P t11N t11C,.int .i64 0,.int .i64 limitx] 147) fun r w1_1=>
 R (some ⟨r,0,none⟩) (0:Int) w1_1))
theorem Zf8.of {limitx:Int} {w:World} {R:Option Addr→Int→World→Prop} (h:ZoW limitx w R):Zf8 limitx w R:=ofS3 (Fm:=ZoW limitx w) Tryz.func67 (by kernel_rfl) (L0 Tryz.f67) rfl (fun _=>by kernel_rfl) h
def ZoX (limitx:Int) (w:World) (R:Option Addr→Int→World→Prop):Prop:=
 If (decide (limitx<(0:Int)))
 (R none (1:Int) w)
 (If (decide (limitx>(1048576:Int)))
 (R none (1:Int) w)
 (New w (.cells #[.slice none 0 0,.int .i64 limitx,.int .i64 0] 161) fun r w1=>
 R (some ⟨r,0,none⟩) (0:Int) w1))
theorem Zf7.of {limitx:Int} {w:World} {R:Option Addr→Int→World→Prop} (h:ZoX limitx w R):Zf7 limitx w R:=ofS3 (Fm:=ZoX limitx w) Tryz.func68 (by kernel_rfl) (L0 Tryz.f68) rfl (fun _=>by kernel_rfl) h
def ZoL (limitx:Int) (w:World) (R:Option Addr→Int→World→Prop):Prop:=
 ZcI  w fun t5P t5N t5C w1=>
 If (decide (limitx<(t5N:Int)))
 (R none (1:Int) w1)
 (If (decide (limitx>(16384:Int)))
 (R none (1:Int) w1)
 (New w1 (.cells #[.int .u32 0,.int .i32 0,.int .u32 0,.int .i64 0,.int .i64 limitx,.slice none 0 0,.map none,.slice none 0 0] 190) fun r w1_1=>
 R (some ⟨r,0,none⟩) (0:Int) w1_1))
theorem Zfm.of {limitx:Int} {w:World} {R:Option Addr→Int→World→Prop} (h:ZoL limitx w R):Zfm limitx w R:=ofS3 (Fm:=ZoL limitx w) Tryz.func69 (by kernel_rfl) (L0 Tryz.f69) rfl (fun _=>by kernel_rfl) h
def Zlm (R:Option Addr→Int→World→Prop) (w1:World):Prop:=
 R none (1:Int) w1
def ZlJ (limitx:Int) (atoms:Option Addr) (w:World) (R:Option Addr→Int→World→Prop):Prop:=
 If (decide (limitx<(1:Int)))
 (Zlm R w)
 (If (decide (limitx>(16384:Int)))
 (Zlm R w)
 (If atoms.isNone
 (R none (1:Int) w)
 (New w (.map #[] 0) fun r w1_1=>
 New w1_1 (.cells #[.pointer atoms,.int .i64 limitx,.slice none 0 0,.map (some r),.slice none 0 0] 194) fun r_1 w1_2=>
 R (some ⟨r_1,0,none⟩) (0:Int) w1_2)))
theorem ZcD.of {limitx:Int} {atoms:Option Addr} {w:World} {R:Option Addr→Int→World→Prop} (h:ZlJ limitx atoms w R):ZcD limitx atoms w R:=ofS3 (Fm:=ZlJ limitx atoms w) Tryz.func70 (by kernel_rfl) (L0 Tryz.f70) rfl (fun _=>by kernel_rfl) h
structure ZcV where
 i:Int
def Zk3 (t:Addr) (s:ZcV) (w:World) (Kn:ZcV→World→Prop) (Kx0:World→Prop) (Kr:Bool→World→Prop):Prop:=
 ∃LP LN LC,w.cell? (t.add 3)=some (.slice LP LN LC)∧
 If (decide (s.i<(LN:Int)))
 (∃LP_1 LN_1 LC_1,w.cell? (t.add 3)=some (.slice LP_1 LN_1 LC_1)∧
 0≤s.i∧s.i<(LN_1:Int)∧NN LP_1 fun a=>
 ∃t180,w.cell? ((a.add (s.i.toNat*4)).add 0)=some (.int .i64 t180)∧
 ∃t181,w.cell? ((a.add (s.i.toNat*4)).add 1)=some (.int .i64 t181)∧
 ∃t182,w.cell? ((a.add (s.i.toNat*4)).add 2)=some (.string t182)∧
 ∃t183P t183N t183C,w.cell? ((a.add (s.i.toNat*4)).add 3)=some (.slice t183P t183N t183C)∧
 Zd2 t180 t181 t182 t183P t183N t183C w fun t19 w1_2=>
 If (!t19)
 (Kr false w1_2)
 (Kn ⟨(IntKind.i64.wrap (s.i+(1:Int)))⟩ w1_2))
 (Kx0 w)
def Zk9 (t:Addr) (s:ZcV) (w:World) (Kx0:World→Prop) (Kr:Bool→World→Prop):Prop:=
 LoopS (fun s w Kn=>Zk3 t s w Kn Kx0 Kr) s w
def ZnF (t0:Int) (t1:Int) (t2:ByteArray) (t3P:Option Addr) (t3N:Nat) (t3C:Nat) (w:World) (R:Bool→World→Prop):Prop:=
 New w (.cells #[.int .i64 t0,.int .i64 t1,.string t2,.slice t3P t3N t3C] 31) fun r w1=>
 ∃t40,w1.cell? (Addr.add ⟨r,0,none⟩ 0)=some (.int .i64 t40)∧
 ∃t41,w1.cell? (Addr.add ⟨r,0,none⟩ 1)=some (.int .i64 t41)∧
 ∃t42,w1.cell? (Addr.add ⟨r,0,none⟩ 2)=some (.string t42)∧
 ∃t43P t43N t43C,w1.cell? (Addr.add ⟨r,0,none⟩ 3)=some (.slice t43P t43N t43C)∧
 ZfG t40 t41 t42 t43P t43N t43C w1 fun t5 w1_1=>
 If (!t5)
 (R false w1_1)
 (Zk9 ⟨r,0,none⟩ ⟨(0:Int)⟩ w1_1
 (fun w1_3=>
 R true w1_3)
 (fun t2_2 w1_4=>
 R t2_2 w1_4))
def ZgC (f:Addr) (s:ZcV):Env:=[⟨1,.pointer (some f),none⟩,⟨3,.int .i64 s.i,none⟩]
def Ze4 (e:Env) (K:Addr→ZcV→Prop):Prop:=
 oA e 1 fun t=>
 oI e 3 .i64 fun i=>
  K (t) ⟨i⟩
theorem ZkL {N:Nat} (e:Env) (a:Act) (K:Addr→ZcV→Prop) (hr:Rep N a e) (h0:Ze4 e K):∃f s,K f s∧Rep N a (ZgC f s):=by
 unfold Ze4 at h0
 obtain⟨t,g1,h1⟩:=Zap h0
 obtain⟨i,g3,h2⟩:=Zab h1
 exact⟨_,_,h2,Zac hr (by simp [ZgC,g1,g3])⟩
def ZlX (Q:Post) (e:Env) (w:World):Prop:=
 Ze4 e fun f s=>Zk9 f s w (fun w1=>Q (.exit 0) [] w1) (fun t2_1 w1=>Q .ret [⟨2,.bool t2_1,none⟩] w1)
def Znw:Gen where
 loop:=lookL [([false,true,false,true,true],ZlX)]
 plan:=fun _=>none
def Ziv (e:Env) (K:Addr→Prop):Prop:=
 oA e 1 fun t=>
  K (t)
def ZgO (e:Env) (K:Addr→Bool→Prop):Prop:=
 oA e 1 fun t=>
 oB e 2 fun t2_1=>
  K (t) t2_1
theorem Zpg (f:Addr) (s:ZcV) (w:World) (Kn:Addr→ZcV→World→Prop) (Kx0:Addr→World→Prop) (Kr:Addr→Bool→World→Prop) :
  Zk3 f s w (fun s1 w1=>Kn f s1 w1) (fun w1=>Kx0 f w1) (fun t2_1 w1=>Kr f t2_1 w1) =
  den Tryz.prog Tryz.f71.ntmps Znw (sub (codeOf Tryz.f71) [false,false,true,false,true,true]) [false,false,true,false,true,true] (roundQ (fun e w=>Ze4 e fun f s=>Kn f s w) (fun e w=>ZgO e fun f t2_1=>Kr f t2_1 w) (fun id e w=>match Nat.beq id 0 with | true=>Ziv e fun f=>Kx0 f w | false=>False)) (ZgC f s) w:=by kernel_rfl
theorem ZqL:OneOk Tryz.prog Tryz.f71.ntmps Znw (codeOf Tryz.f71) [false,true,false,true,true] ZlX:=by
 intro c hc ih Q e w a hr h
 have hcc:sub (codeOf Tryz.f71) [false,false,true,false,true,true]=c:=Zaf hc
 obtain⟨f,s,h,hrep⟩:=ZkL e a _ hr h
 obtain⟨J,μ,hj,hround⟩:=h
 refine Zad Zan Zag ih ZgC Ze4 ZkL hc f J μ (Kr:=fun e w=>ZgO e fun f1 t2_1=>f1=f∧Q .ret [⟨2,.bool t2_1,none⟩] w) (Kx:=fun id e w=>match Nat.beq id 0 with | true=>(Ziv e fun f1=>f1=f∧Q (.exit 0) [] w) | false=>False) ?_ ?_ ?_ s w a hj hrep
 ·intro e a w hr h0
  unfold ZgO at h0
  obtain⟨t,g1,h1⟩:=Zap h0
  obtain⟨t2_1,g2,h2⟩:=Zjx h1
  obtain⟨hf,hq⟩:=h2
  subst hf
  exact⟨_,Zac hr (by simp [g2]),hq⟩
 ·intro id e a w hr h0
  (try dsimp only at h0)
  split at h0
  ·rename_i hid
   obtain rfl:=Nat.eq_of_beq_eq_true hid
   unfold Ziv at h0
   obtain⟨t,g1,h1⟩:=Zap h0
   obtain⟨hf,hq⟩:=h1
   subst hf
   exact⟨_,Zac hr (by simp),hq⟩
  ·exact h0.elim
 ·intro s w hj
  have hb:=hround s w hj
  rw[←hcc]
  have e1:=Zpg f s w (fun f1 s1 w1=>f1=f∧J s1 w1∧μ s1 w1<μ s w) (fun f1 w1=>f1=f∧Q (.exit 0) [] w1) (fun f1 t2_1 w1=>f1=f∧Q .ret [⟨2,.bool t2_1,none⟩] w1)
  simp only[true_and] at e1
  exact cast e1 hb
theorem Zqz:LoopOk Tryz.prog Tryz.f71.ntmps Znw (codeOf Tryz.f71):=Zal rfl ⟨ZqL,trivial⟩
theorem Zd2.of {t0:Int} {t1:Int} {t2:ByteArray} {t3P:Option Addr} {t3N:Nat} {t3C:Nat} {w:World} {R:Bool→World→Prop} (h:ZnF t0 t1 t2 t3P t3N t3C w R):Zd2 t0 t1 t2 t3P t3N t3C w R:=ofS2 (Fm:=ZnF t0 t1 t2 t3P t3N t3C w) Tryz.func71 (by kernel_rfl) Zqz rfl (fun _=>by kernel_rfl) h
structure ZbV where
 d:Int
 i:Int
def Zln (s:ZbV) (Kn:ZbV→World→Prop) (d_2:Int) (w1_2:World):Prop:=
 Kn ⟨d_2,(IntKind.i64.wrap (s.i+(1:Int)))⟩ w1_2
def Zk2 (t:Addr) (s:ZbV) (w:World) (Kn:ZbV→World→Prop) (Kx0:Int→World→Prop):Prop:=
 ∃LP LN LC,w.cell? (t.add 3)=some (.slice LP LN LC)∧
 If (decide (s.i<(LN:Int)))
 (∃LP_1 LN_1 LC_1,w.cell? (t.add 3)=some (.slice LP_1 LN_1 LC_1)∧
 0≤s.i∧s.i<(LN_1:Int)∧NN LP_1 fun a=>
 ∃t170,w.cell? ((a.add (s.i.toNat*4)).add 0)=some (.int .i64 t170)∧
 ∃t171,w.cell? ((a.add (s.i.toNat*4)).add 1)=some (.int .i64 t171)∧
 ∃t172,w.cell? ((a.add (s.i.toNat*4)).add 2)=some (.string t172)∧
 ∃t173P t173N t173C,w.cell? ((a.add (s.i.toNat*4)).add 3)=some (.slice t173P t173N t173C)∧
 Zdb t170 t171 t172 t173P t173N t173C w fun t18 w1_1=>
 If (decide (t18>s.d))
 (Zln s Kn t18 w1_1)
 (Zln s Kn s.d w1_1))
 (Kx0 s.d w)
def Zlh (t:Addr) (s:ZbV) (w:World) (Kx0:Int→World→Prop):Prop:=
 LoopS (fun s w Kn=>Zk2 t s w Kn Kx0) s w
def ZnR (t0:Int) (t1:Int) (t2:ByteArray) (t3P:Option Addr) (t3N:Nat) (t3C:Nat) (w:World) (R:Int→World→Prop):Prop:=
 New w (.cells #[.int .i64 t0,.int .i64 t1,.string t2,.slice t3P t3N t3C] 31) fun r w1=>
 Zlh ⟨r,0,none⟩ ⟨(0:Int),(0:Int)⟩ w1
 (fun d_3 w1_3=>
 R (IntKind.i64.wrap (d_3+(1:Int))) w1_3)
def ZgA (f:Addr) (s:ZbV):Env:=[⟨1,.pointer (some f),none⟩,⟨3,.int .i64 s.d,none⟩,⟨4,.int .i64 s.i,none⟩]
def ZeI (e:Env) (K:Addr→ZbV→Prop):Prop:=
 oA e 1 fun t=>
 oI e 3 .i64 fun d=>
 oI e 4 .i64 fun i=>
  K (t) ⟨d,i⟩
theorem ZkU {N:Nat} (e:Env) (a:Act) (K:Addr→ZbV→Prop) (hr:Rep N a e) (h0:ZeI e K):∃f s,K f s∧Rep N a (ZgA f s):=by
 unfold ZeI at h0
 obtain⟨t,g1,h1⟩:=Zap h0
 obtain⟨d,g3,h2⟩:=Zab h1
 obtain⟨i,g4,h3⟩:=Zab h2
 exact⟨_,_,h3,Zac hr (by simp [ZgA,g1,g3,g4])⟩
def Zl4 (Q:Post) (e:Env) (w:World):Prop:=
 ZeI e fun f s=>Zlh f s w (fun d_1 w1=>Q (.exit 0) [⟨3,.int .i64 d_1,none⟩] w1)
def ZnL:Gen where
 loop:=lookL [([false,true,false,true,true],Zl4)]
 plan:=fun _=>none
def ZiC (e:Env) (K:Addr→Int→Prop):Prop:=
 oA e 1 fun t=>
 oI e 3 .i64 fun d_1=>
  K (t) d_1
theorem ZpC (f:Addr) (s:ZbV) (w:World) (Kn:Addr→ZbV→World→Prop) (Kx0:Addr→Int→World→Prop) :
  Zk2 f s w (fun s1 w1=>Kn f s1 w1) (fun d_1 w1=>Kx0 f d_1 w1) =
  den Tryz.prog Tryz.f72.ntmps ZnL (sub (codeOf Tryz.f72) [false,false,true,false,true,true]) [false,false,true,false,true,true] (roundQ (fun e w=>ZeI e fun f s=>Kn f s w) (fun e w=>False) (fun id e w=>match Nat.beq id 0 with | true=>ZiC e fun f d_1=>Kx0 f d_1 w | false=>False)) (ZgA f s) w:=by kernel_rfl
theorem Zqq:OneOk Tryz.prog Tryz.f72.ntmps ZnL (codeOf Tryz.f72) [false,true,false,true,true] Zl4:=by
 intro c hc ih Q e w a hr h
 have hcc:sub (codeOf Tryz.f72) [false,false,true,false,true,true]=c:=Zaf hc
 obtain⟨f,s,h,hrep⟩:=ZkU e a _ hr h
 obtain⟨J,μ,hj,hround⟩:=h
 refine Zad Zan Zag ih ZgA ZeI ZkU hc f J μ (Kr:=fun e w=>False) (Kx:=fun id e w=>match Nat.beq id 0 with | true=>(ZiC e fun f1 d_1=>f1=f∧Q (.exit 0) [⟨3,.int .i64 d_1,none⟩] w) | false=>False) ?_ ?_ ?_ s w a hj hrep
 ·intro e a w hr h
  exact h.elim
 ·intro id e a w hr h0
  (try dsimp only at h0)
  split at h0
  ·rename_i hid
   obtain rfl:=Nat.eq_of_beq_eq_true hid
   unfold ZiC at h0
   obtain⟨t,g1,h1⟩:=Zap h0
   obtain⟨d_1,g3,h2⟩:=Zab h1
   obtain⟨hf,hq⟩:=h2
   subst hf
   exact⟨_,Zac hr (by simp [g3]),hq⟩
  ·exact h0.elim
 ·intro s w hj
  have hb:=hround s w hj
  rw[←hcc]
  have e1:=ZpC f s w (fun f1 s1 w1=>f1=f∧J s1 w1∧μ s1 w1<μ s w) (fun f1 d_1 w1=>f1=f∧Q (.exit 0) [⟨3,.int .i64 d_1,none⟩] w1)
  simp only[true_and] at e1
  exact cast e1 hb
theorem Zqx:LoopOk Tryz.prog Tryz.f72.ntmps ZnL (codeOf Tryz.f72):=Zal rfl ⟨Zqq,trivial⟩
theorem Zdb.of {t0:Int} {t1:Int} {t2:ByteArray} {t3P:Option Addr} {t3N:Nat} {t3C:Nat} {w:World} {R:Int→World→Prop} (h:ZnR t0 t1 t2 t3P t3N t3C w R):Zdb t0 t1 t2 t3P t3N t3C w R:=ofS4 (Fm:=ZnR t0 t1 t2 t3P t3N t3C w) Tryz.func72 (by kernel_rfl) Zqx rfl (fun _=>by kernel_rfl) h
def Zlj (hx:Option Addr) (w:World) (R:Bool→World→Prop):Prop:=
 If (!hx.isNone)
 (NN hx fun a=>
 ∃pool,w.cell? (a.add 0)=some (.pointer pool)∧
 R (!pool.isNone) w)
 (R false w)
theorem Zaj.of {hx:Option Addr} {w:World} {R:Bool→World→Prop} (h:Zlj hx w R):Zaj hx w R:=ofS2 (Fm:=Zlj hx w) Tryz.func73 (by kernel_rfl) (L0 Tryz.f73) rfl (fun _=>by kernel_rfl) h
def ZoC (t0:Int) (t1:Int) (t2:ByteArray) (t3P:Option Addr) (t3N:Nat) (t3C:Nat) (w:World) (R:Int→World→Prop):Prop:=
 New w (.cells #[.int .i64 t0,.int .i64 t1,.string t2,.slice t3P t3N t3C] 31) fun r w1=>
 ∃t40,w1.cell? (Addr.add ⟨r,0,none⟩ 0)=some (.int .i64 t40)∧
 ∃t41,w1.cell? (Addr.add ⟨r,0,none⟩ 1)=some (.int .i64 t41)∧
 ∃t42,w1.cell? (Addr.add ⟨r,0,none⟩ 2)=some (.string t42)∧
 ∃t43P t43N t43C,w1.cell? (Addr.add ⟨r,0,none⟩ 3)=some (.slice t43P t43N t43C)∧
 Zeh t40 t41 t42 t43P t43N t43C w1 fun t50 t51 t52 w1_1=>
 New w1_1 (.cells #[.int .i64 0,.int .i64 0,.bool false] 196) fun r_1 w1_2=>
 St w1_2 (Addr.add ⟨r_1,0,none⟩ 0) (.int .i64 t50) fun w1_3=>
 St w1_3 (Addr.add ⟨r_1,0,none⟩ 1) (.int .i64 t51) fun w1_4=>
 St w1_4 (Addr.add ⟨r_1,0,none⟩ 2) (.bool t52) fun w1_5=>
 ∃bad,w1_5.cell? (Addr.add ⟨r_1,0,none⟩ 2)=some (.bool bad)∧
 If bad
 (R (60:Int) w1_5)
 (∃depth,w1_5.cell? (Addr.add ⟨r_1,0,none⟩ 1)=some (.int .i64 depth)∧
 If (decide (depth>(200:Int)))
 (R (61:Int) w1_5)
 (∃parts,w1_5.cell? (Addr.add ⟨r_1,0,none⟩ 0)=some (.int .i64 parts)∧
 If (decide (parts>(4096:Int)))
 (R (62:Int) w1_5)
 (R (0:Int) w1_5)))
theorem ZeR.of {t0:Int} {t1:Int} {t2:ByteArray} {t3P:Option Addr} {t3N:Nat} {t3C:Nat} {w:World} {R:Int→World→Prop} (h:ZoC t0 t1 t2 t3P t3N t3C w R):ZeR t0 t1 t2 t3P t3N t3C w R:=ofS4 (Fm:=ZoC t0 t1 t2 t3P t3N t3C w) Tryz.func74 (by kernel_rfl) (L0 Tryz.f74) rfl (fun _=>by kernel_rfl) h
structure ZbB where
 t57:Int
def ZhK (hx_1:Option Addr) (vars_1:Option Nat) (wx:Int) (t55P:Option Addr) (t55N:Nat) (t55C:Nat) (t56:Int) (s:ZbB) (w:World) (Kn:ZbB→World→Prop) (Kx1:World→Prop) (Kr:Int→Int→World→Prop):Prop:=
 If (decide (s.t57<t56))
 (0≤s.t57∧s.t57<(t55N:Int)∧NN t55P fun a=>
 ∃t610,w.cell? ((a.add (s.t57.toNat*4)).add 0)=some (.int .i64 t610)∧
 ∃t611,w.cell? ((a.add (s.t57.toNat*4)).add 1)=some (.int .i64 t611)∧
 ∃t612,w.cell? ((a.add (s.t57.toNat*4)).add 2)=some (.string t612)∧
 ∃t613P t613N t613C,w.cell? ((a.add (s.t57.toNat*4)).add 3)=some (.slice t613P t613N t613C)∧
 New w (.cells #[.int .i64 0,.int .i64 0,.string ⟨#[]⟩,.slice none 0 0] 31) fun r_1 w1_5=>
 St w1_5 (Addr.add ⟨r_1,0,none⟩ 0) (.int .i64 t610) fun w1_6=>
 St w1_6 (Addr.add ⟨r_1,0,none⟩ 1) (.int .i64 t611) fun w1_7=>
 St w1_7 (Addr.add ⟨r_1,0,none⟩ 2) (.string t612) fun w1_8=>
 St w1_8 (Addr.add ⟨r_1,0,none⟩ 3) (.slice t613P t613N t613C) fun w1_9=>
 ∃t640,w1_9.cell? (Addr.add ⟨r_1,0,none⟩ 0)=some (.int .i64 t640)∧
 ∃t641,w1_9.cell? (Addr.add ⟨r_1,0,none⟩ 1)=some (.int .i64 t641)∧
 ∃t642,w1_9.cell? (Addr.add ⟨r_1,0,none⟩ 2)=some (.string t642)∧
 ∃t643P t643N t643C,w1_9.cell? (Addr.add ⟨r_1,0,none⟩ 3)=some (.slice t643P t643N t643C)∧
 ZbY hx_1 t640 t641 t642 t643P t643N t643C vars_1 w1_9 fun t660 t661 w1_10=>
 If (t661 != (0:Int))
 (Kr (0:Int) t661 w1_10)
 (NN hx_1 fun a_1=>
 ∃cellsP cellsN cellsC,(drw w1_10).cell? (a_1.add 4)=some (.slice cellsP cellsN cellsC)∧
 Zel wx (IntKind.i64.wrap (s.t57+(1:Int))) (drw w1_10) fun t79 w1_11=>
 w1_11.cell? (a_1.add 4)=(drw w1_10).cell? (a_1.add 4)∧
 ZaD hx_1 t660 w1_11 fun t82 w1_12=>
 w1_12.cell? (a_1.add 4)=(drw w1_10).cell? (a_1.add 4)∧
 0≤t79∧t79<(cellsN:Int)∧NN cellsP fun a_2=>
 St w1_12 ((a_2.add (t79.toNat*1)).add 0) (.int .u64 t82) fun w1_13=>
 Kn ⟨(IntKind.i64.wrap (s.t57+(1:Int)))⟩ w1_13))
 (Kx1 w)
def ZhQ (hx_1:Option Addr) (vars_1:Option Nat) (wx:Int) (t55P:Option Addr) (t55N:Nat) (t55C:Nat) (t56:Int) (s:ZbB) (w:World) (Kx1:World→Prop) (Kr:Int→Int→World→Prop):Prop:=
 LoopS (fun s w Kn=>ZhK hx_1 vars_1 wx t55P t55N t55C t56 s w Kn Kx1 Kr) s w
def Zkl (hx:Option Addr) (t0:Int) (t1:Int) (t2:ByteArray) (t3P:Option Addr) (t3N:Nat) (t3C:Nat) (vars:Option Nat) (w:World) (R:Int→Int→World→Prop):Prop:=
 New w (.cells #[.int .i64 t0,.int .i64 t1,.string t2,.slice t3P t3N t3C] 31) fun r w1=>
 ∃Kind,w1.cell? (Addr.add ⟨r,0,none⟩ 0)=some (.int .i64 Kind)∧
 If (Kind==(1:Int))
 (∃N,w1.cell? (Addr.add ⟨r,0,none⟩ 1)=some (.int .i64 N)∧
 Zbw hx N vars w1 fun t220 t221 w1_1=>
 R t220 t221 w1_1)
 (If (Kind==(2:Int))
 (∃N_1,w1.cell? (Addr.add ⟨r,0,none⟩ 1)=some (.int .i64 N_1)∧
 Zdj hx N_1 w1 fun t300 t301 w1_2=>
 R t300 t301 w1_2)
 (If (Kind==(3:Int))
 (∃S,w1.cell? (Addr.add ⟨r,0,none⟩ 2)=some (.string S)∧
 ZcN hx S w1 fun t380 t381 w1_3=>
 R t380 t381 w1_3)
 (∃S_1,w1.cell? (Addr.add ⟨r,0,none⟩ 2)=some (.string S_1)∧
 ∃LP LN LC,w1.cell? (Addr.add ⟨r,0,none⟩ 3)=some (.slice LP LN LC)∧
 ZbE hx S_1 (LN:Int) w1 fun t480 t481 w1_4=>
 If (t481 != (0:Int))
 (R (0:Int) t481 w1_4)
 (∃LP_1 LN_1 LC_1,w1_4.cell? (Addr.add ⟨r,0,none⟩ 3)=some (.slice LP_1 LN_1 LC_1)∧
 ZhQ hx vars t480 LP_1 LN_1 LC_1 (LN_1:Int) ⟨(0:Int)⟩ w1_4
 (fun w1_14=>
 R t480 (0:Int) w1_14)
 (fun t6_1 t7_1 w1_15=>
 R t6_1 t7_1 w1_15)))))
def Zet (f:(Option Addr)×(Option Nat)×Int×(Option Addr)×Nat×Nat×Int) (s:ZbB):Env:=[⟨0,.pointer f.1,none⟩,⟨2,.map f.2.1,none⟩,⟨8,.int .u64 f.2.2.1,none⟩,⟨55,.slice f.2.2.2.1 f.2.2.2.2.1 f.2.2.2.2.2.1,none⟩,⟨56,.int .i64 f.2.2.2.2.2.2,none⟩,⟨57,.int .i64 s.t57,none⟩]
def Zc4 (e:Env) (K:((Option Addr)×(Option Nat)×Int×(Option Addr)×Nat×Nat×Int)→ZbB→Prop):Prop:=
 oP e 0 fun hx_1=>
 oM e 2 fun vars_1=>
 oI e 8 .u64 fun wx=>
 oS e 55 fun t55P t55N t55C=>
 oI e 56 .i64 fun t56=>
 oI e 57 .i64 fun t57=>
  K (hx_1,vars_1,wx,t55P,t55N,t55C,t56) ⟨t57⟩
theorem Zh8 {N:Nat} (e:Env) (a:Act) (K:((Option Addr)×(Option Nat)×Int×(Option Addr)×Nat×Nat×Int)→ZbB→Prop) (hr:Rep N a e) (h0:Zc4 e K):∃f s,K f s∧Rep N a (Zet f s):=by
 unfold Zc4 at h0
 obtain⟨hx_1,g0,h1⟩:=Zar h0
 obtain⟨vars_1,g2,h2⟩:=Zit h1
 obtain⟨wx,g8,h3⟩:=Zab h2
 obtain⟨t55P,t55N,t55C,g55,h4⟩:=Zae h3
 obtain⟨t56,g56,h5⟩:=Zab h4
 obtain⟨t57,g57,h6⟩:=Zab h5
 exact⟨_,_,h6,Zac hr (by simp [Zet,g0,g2,g8,g55,g56,g57])⟩
def Zjl (Q:Post) (e:Env) (w:World):Prop:=
 Zc4 e fun f s=>ZhQ f.1 f.2.1 f.2.2.1 f.2.2.2.1 f.2.2.2.2.1 f.2.2.2.2.2.1 f.2.2.2.2.2.2 s w (fun w1=>Q (.exit 1) [⟨8,.int .u64 f.2.2.1,none⟩] w1) (fun t6 t7 w1=>Q .ret [⟨6,.int .u64 t6,none⟩,⟨7,.int .i64 t7,none⟩] w1)
def ZkA:Gen where
 loop:=lookL [([false,true,false,true,true,true,true],Zjl)]
 plan:=fun id=>
  bif Nat.beq id 17 then some ([0,1,3,7,0,0,32,112,0,0,1008,2047,4095],.take 0 (.take 1 (.take 2 (.take 3 (.take 4 (.take 5 (.take 6 (.take 8 (.take 9 (.take 7 (.take 10 (.take 11 (.take 12 .done))))))))))))) else none
def ZfS (e:Env) (K:((Option Addr)×(Option Nat)×Int×(Option Addr)×Nat×Nat×Int)→Prop):Prop:=
 oP e 0 fun hx_1=>
 oM e 2 fun vars_1=>
 oI e 8 .u64 fun wx=>
 oS e 55 fun t55P t55N t55C=>
 oI e 56 .i64 fun t56=>
  K (hx_1,vars_1,wx,t55P,t55N,t55C,t56)
def Zfc (e:Env) (K:((Option Addr)×(Option Nat)×Int×(Option Addr)×Nat×Nat×Int)→Int→Int→Prop):Prop:=
 oP e 0 fun hx_1=>
 oM e 2 fun vars_1=>
 oI e 8 .u64 fun wx=>
 oS e 55 fun t55P t55N t55C=>
 oI e 56 .i64 fun t56=>
 oI e 6 .u64 fun t6=>
 oI e 7 .i64 fun t7=>
  K (hx_1,vars_1,wx,t55P,t55N,t55C,t56) t6 t7
theorem ZnD (f:(Option Addr)×(Option Nat)×Int×(Option Addr)×Nat×Nat×Int) (s:ZbB) (w:World) (Kn:((Option Addr)×(Option Nat)×Int×(Option Addr)×Nat×Nat×Int)→ZbB→World→Prop) (Kx1:((Option Addr)×(Option Nat)×Int×(Option Addr)×Nat×Nat×Int)→World→Prop) (Kr:((Option Addr)×(Option Nat)×Int×(Option Addr)×Nat×Nat×Int)→Int→Int→World→Prop) :
  ZhK f.1 f.2.1 f.2.2.1 f.2.2.2.1 f.2.2.2.2.1 f.2.2.2.2.2.1 f.2.2.2.2.2.2 s w (fun s1 w1=>Kn f s1 w1) (fun w1=>Kx1 f w1) (fun t6 t7 w1=>Kr f t6 t7 w1) =
  den Tryz.prog Tryz.f75.ntmps ZkA (sub (codeOf Tryz.f75) [false,false,true,false,true,true,true,true]) [false,false,true,false,true,true,true,true] (roundQ (fun e w=>Zc4 e fun f s=>Kn f s w) (fun e w=>Zfc e fun f t6 t7=>Kr f t6 t7 w) (fun id e w=>match Nat.beq id 1 with | true=>ZfS e fun f=>Kx1 f w | false=>False)) (Zet f s) w:=by kernel_rfl
theorem Zol:OneOk Tryz.prog Tryz.f75.ntmps ZkA (codeOf Tryz.f75) [false,true,false,true,true,true,true] Zjl:=by
 intro c hc ih Q e w a hr h
 have hcc:sub (codeOf Tryz.f75) [false,false,true,false,true,true,true,true]=c:=Zaf hc
 obtain⟨f,s,h,hrep⟩:=Zh8 e a _ hr h
 obtain⟨J,μ,hj,hround⟩:=h
 refine Zad Zan Zag ih Zet Zc4 Zh8 hc f J μ (Kr:=fun e w=>Zfc e fun f1 t6 t7=>f1=f∧Q .ret [⟨6,.int .u64 t6,none⟩,⟨7,.int .i64 t7,none⟩] w) (Kx:=fun id e w=>match Nat.beq id 1 with | true=>(ZfS e fun f1=>f1=f∧Q (.exit 1) [⟨8,.int .u64 f.2.2.1,none⟩] w) | false=>False) ?_ ?_ ?_ s w a hj hrep
 ·intro e a w hr h0
  unfold Zfc at h0
  obtain⟨hx_1,g0,h1⟩:=Zar h0
  obtain⟨vars_1,g2,h2⟩:=Zit h1
  obtain⟨wx,g8,h3⟩:=Zab h2
  obtain⟨t55P,t55N,t55C,g55,h4⟩:=Zae h3
  obtain⟨t56,g56,h5⟩:=Zab h4
  obtain⟨t6,g6,h6⟩:=Zab h5
  obtain⟨t7,g7,h7⟩:=Zab h6
  obtain⟨hf,hq⟩:=h7
  subst hf
  exact⟨_,Zac hr (by simp [g6,g7]),hq⟩
 ·intro id e a w hr h0
  (try dsimp only at h0)
  split at h0
  ·rename_i hid
   obtain rfl:=Nat.eq_of_beq_eq_true hid
   unfold ZfS at h0
   obtain⟨hx_1,g0,h1⟩:=Zar h0
   obtain⟨vars_1,g2,h2⟩:=Zit h1
   obtain⟨wx,g8,h3⟩:=Zab h2
   obtain⟨t55P,t55N,t55C,g55,h4⟩:=Zae h3
   obtain⟨t56,g56,h5⟩:=Zab h4
   obtain⟨hf,hq⟩:=h5
   subst hf
   exact⟨_,Zac hr (by simp [g8]),hq⟩
  ·exact h0.elim
 ·intro s w hj
  have hb:=hround s w hj
  rw[←hcc]
  have e1:=ZnD f s w (fun f1 s1 w1=>f1=f∧J s1 w1∧μ s1 w1<μ s w) (fun f1 w1=>f1=f∧Q (.exit 1) [⟨8,.int .u64 f.2.2.1,none⟩] w1) (fun f1 t6 t7 w1=>f1=f∧Q .ret [⟨6,.int .u64 t6,none⟩,⟨7,.int .i64 t7,none⟩] w1)
  simp only[true_and] at e1
  exact cast e1 hb
theorem Zov:LoopOk Tryz.prog Tryz.f75.ntmps ZkA (codeOf Tryz.f75):=Zal rfl ⟨Zol,trivial⟩
theorem ZbY.of {hx:Option Addr} {t0:Int} {t1:Int} {t2:ByteArray} {t3P:Option Addr} {t3N:Nat} {t3C:Nat} {vars:Option Nat} {w:World} {R:Int→Int→World→Prop} (h:Zkl hx t0 t1 t2 t3P t3N t3C vars w R):ZbY hx t0 t1 t2 t3P t3N t3C vars w R:=ofS5 (Fm:=Zkl hx t0 t1 t2 t3P t3N t3C vars w) Tryz.func75 (by kernel_rfl) Zov rfl (fun _=>by kernel_rfl) h
def Zhu (hx:Option Addr) (wx:Int) (w:World) (R:Bool→World→Prop):Prop:=
 Zaj hx w fun t9 w1=>
 If (!t9)
 (R false w1)
 (Zaz wx w1 fun t12 w1_1=>
 Zem wx w1_1 fun t14 w1_2=>
 If (t14==(1:Int))
 (Zbs hx t12 w1_2 fun t19 w1_3=>
 If t19
 (NN hx fun a=>
 ∃cellsP cellsN cellsC,w1_3.cell? (a.add 4)=some (.slice cellsP cellsN cellsC)∧
 0≤t12∧t12<(cellsN:Int)∧NN cellsP fun a_1=>
 ∃t27,w1_3.cell? (a_1.add (t12.toNat*1))=some (.int .u64 t27)∧
 Zdv t27 (5:Int) w1_3 fun t28 w1_4=>
 R (!t28) w1_4)
 (R false w1_3))
 (If (t14==(4:Int))
 (If (decide (t12≥(-9007199254740991)))
 (R (decide (t12≤(9007199254740991:Int))) w1_2)
 (R false w1_2))
 (If (t14==(3:Int))
 (NN hx fun a_2=>
 ∃atoms,w1_2.cell? (a_2.add 2)=some (.pointer atoms)∧
 ZaC atoms t12 w1_2 fun t470 t471 w1_5=>
 R (t471==(0:Int)) w1_5)
 (If (t14==(2:Int))
 (Zbs hx t12 w1_2 fun t56 w1_6=>
 If t56
 (NN hx fun a_3=>
 ∃cellsP_1 cellsN_1 cellsC_1,w1_6.cell? (a_3.add 4)=some (.slice cellsP_1 cellsN_1 cellsC_1)∧
 0≤t12∧t12<(cellsN_1:Int)∧NN cellsP_1 fun a_4=>
 ∃t64,w1_6.cell? (a_4.add (t12.toNat*1))=some (.int .u64 t64)∧
 Zdv t64 (5:Int) w1_6 fun t65 w1_7=>
 R t65 w1_7)
 (R false w1_6))
 (R false w1_2)))))
theorem Zaw.of {hx:Option Addr} {wx:Int} {w:World} {R:Bool→World→Prop} (h:Zhu hx wx w R):Zaw hx wx w R:=ofS2 (Fm:=Zhu hx wx w) Tryz.func76 (by kernel_rfl) (L0 Tryz.f76) rfl (fun _=>by kernel_rfl) h
structure Zba where
 i:Int
def ZgR (r_12:Option Addr) (wx_1:Int) (t4:Addr) (arity:Int) (t:Addr) (s:Zba) (w:World) (Kn:Zba→World→Prop) (Kx1:World→Prop):Prop:=
 If (decide (s.i≤arity))
 (NN r_12 fun a_6=>
 ∃parts_1,w.cell? (a_6.add 3)=some (.int .i64 parts_1)∧
 If (decide (parts_1≤(4096:Int)))
 (∃LP LN LC,(drw w).cell? (t.add 3)=some (.slice LP LN LC)∧
 Zel wx_1 s.i (drw w) fun t81 w1_28=>
 w1_28.cell? (t.add 3)=(drw w).cell? (t.add 3)∧
 Zc7 t81 w1_28 fun t82 w1_29=>
 w1_29.cell? (t.add 3)=(drw w).cell? (t.add 3)∧
 Za7 r_12 t82 w1_29 fun t830 t831 t832 t833P t833N t833C w1_30=>
 w1_30.cell? (t.add 3)=(drw w).cell? (t.add 3)∧
 BSl Tryz.prog 22 1 [(0,.agg #[.int .i64 t830,.int .i64 t831,.string t832,.slice t833P t833N t833C])] w1_30 fun t84P t84N t84C w1_31=>
 w1_31.cell? (t.add 3)=(drw w).cell? (t.add 3)∧
 App Tryz.prog #[22,22] 22 #[.slice LP LN LC,.slice t84P t84N t84C] w1_31 fun t85P t85N t85C w1_32=>
 St w1_32 ((t.add 3).add 0) (.slice t85P t85N t85C) fun w1_33=>
 Kn ⟨(IntKind.i64.wrap (s.i+(1:Int)))⟩ w1_33)
 (Kx1 w))
 (Kx1 w)
def Zhm (r_12:Option Addr) (wx_1:Int) (t4:Addr) (arity:Int) (t:Addr) (s:Zba) (w:World) (Kx1:World→Prop):Prop:=
 LoopS (fun s w Kn=>ZgR r_12 wx_1 t4 arity t s w Kn Kx1) s w
def Zjv (r:Option Addr) (wx:Int) (w:World) (R:Int→Int→ByteArray→Option Addr→Nat→Nat→World→Prop):Prop:=
 New w (.cells #[.int .i64 0,.int .i64 0,.string ⟨#[]⟩,.slice none 0 0] 31) fun r_1 w1=>
 NN r fun a=>
 ∃parts,w1.cell? (a.add 3)=some (.int .i64 parts)∧
 NN r fun a_1=>
 St w1 ((a_1.add 3).add 0) (.int .i64 (IntKind.i64.wrap (parts+(1:Int)))) fun w1_1=>
 NN r fun a_2=>
 ∃hx,w1_1.cell? (a_2.add 0)=some (.pointer hx)∧
 ZaD hx wx w1_1 fun t23 w1_2=>
 Zem t23 w1_2 fun t25 w1_3=>
 If (t25==(1:Int))
 (ZaT r t23 w1_3 fun t300 t301 t302 t303P t303N t303C w1_4=>
 St w1_4 (Addr.add ⟨r_1,0,none⟩ 0) (.int .i64 t300) fun w1_5=>
 St w1_5 (Addr.add ⟨r_1,0,none⟩ 1) (.int .i64 t301) fun w1_6=>
 St w1_6 (Addr.add ⟨r_1,0,none⟩ 2) (.string t302) fun w1_7=>
 St w1_7 (Addr.add ⟨r_1,0,none⟩ 3) (.slice t303P t303N t303C) fun w1_8=>
 ∃r_2,w1_8.cell? (Addr.add ⟨r_1,0,none⟩ 0)=some (.int .i64 r_2)∧
 ∃r_3,w1_8.cell? (Addr.add ⟨r_1,0,none⟩ 1)=some (.int .i64 r_3)∧
 ∃r_4,w1_8.cell? (Addr.add ⟨r_1,0,none⟩ 2)=some (.string r_4)∧
 ∃rP rN rC,w1_8.cell? (Addr.add ⟨r_1,0,none⟩ 3)=some (.slice rP rN rC)∧
 R r_2 r_3 r_4 rP rN rC w1_8)
 (If (t25==(4:Int))
 (Zaz t23 w1_3 fun t34 w1_9=>
 ZiX t34 w1_9 fun t350 t351 t352 t353P t353N t353C w1_10=>
 St w1_10 (Addr.add ⟨r_1,0,none⟩ 0) (.int .i64 t350) fun w1_11=>
 St w1_11 (Addr.add ⟨r_1,0,none⟩ 1) (.int .i64 t351) fun w1_12=>
 St w1_12 (Addr.add ⟨r_1,0,none⟩ 2) (.string t352) fun w1_13=>
 St w1_13 (Addr.add ⟨r_1,0,none⟩ 3) (.slice t353P t353N t353C) fun w1_14=>
 ∃r_5,w1_14.cell? (Addr.add ⟨r_1,0,none⟩ 0)=some (.int .i64 r_5)∧
 ∃r_6,w1_14.cell? (Addr.add ⟨r_1,0,none⟩ 1)=some (.int .i64 r_6)∧
 ∃r_7,w1_14.cell? (Addr.add ⟨r_1,0,none⟩ 2)=some (.string r_7)∧
 ∃rP_1 rN_1 rC_1,w1_14.cell? (Addr.add ⟨r_1,0,none⟩ 3)=some (.slice rP_1 rN_1 rC_1)∧
 R r_5 r_6 r_7 rP_1 rN_1 rC_1 w1_14)
 (If (t25==(3:Int))
 (NN r fun a_3=>
 ∃hx_1,(drw w1_3).cell? (a_3.add 0)=some (.pointer hx_1)∧
 NN hx_1 fun a_4=>
 ∃atoms,(drw w1_3).cell? (a_4.add 2)=some (.pointer atoms)∧
 Zaz t23 (drw w1_3) fun t47 w1_15=>
 w1_15.cell? (a_4.add 2)=(drw w1_3).cell? (a_4.add 2)∧
 w1_15.cell? (a_3.add 0)=(drw w1_3).cell? (a_3.add 0)∧
 ZaC atoms t47 w1_15 fun t480 t481 w1_16=>
 Zhj t480 w1_16 fun t520 t521 t522 t523P t523N t523C w1_17=>
 St w1_17 (Addr.add ⟨r_1,0,none⟩ 0) (.int .i64 t520) fun w1_18=>
 St w1_18 (Addr.add ⟨r_1,0,none⟩ 1) (.int .i64 t521) fun w1_19=>
 St w1_19 (Addr.add ⟨r_1,0,none⟩ 2) (.string t522) fun w1_20=>
 St w1_20 (Addr.add ⟨r_1,0,none⟩ 3) (.slice t523P t523N t523C) fun w1_21=>
 ∃r_8,w1_21.cell? (Addr.add ⟨r_1,0,none⟩ 0)=some (.int .i64 r_8)∧
 ∃r_9,w1_21.cell? (Addr.add ⟨r_1,0,none⟩ 1)=some (.int .i64 r_9)∧
 ∃r_10,w1_21.cell? (Addr.add ⟨r_1,0,none⟩ 2)=some (.string r_10)∧
 ∃rP_2 rN_2 rC_2,w1_21.cell? (Addr.add ⟨r_1,0,none⟩ 3)=some (.slice rP_2 rN_2 rC_2)∧
 R r_8 r_9 r_10 rP_2 rN_2 rC_2 w1_21)
 (NN r fun a_5=>
 ∃hx_2,w1_3.cell? (a_5.add 0)=some (.pointer hx_2)∧
 Zbp hx_2 t23 w1_3 fun t590 t591 w1_22=>
 New w1_22 (.cells #[.int .i64 0,.int .i64 0,.string ⟨#[]⟩,.slice none 0 0] 31) fun r_11 w1_23=>
 St w1_23 (Addr.add ⟨r_11,0,none⟩ 0) (.int .i64 4) fun w1_24=>
 St w1_24 (Addr.add ⟨r_11,0,none⟩ 1) (.int .i64 0) fun w1_25=>
 St w1_25 (Addr.add ⟨r_11,0,none⟩ 2) (.string t590) fun w1_26=>
 St w1_26 (Addr.add ⟨r_11,0,none⟩ 3) (.slice none 0 0) fun w1_27=>
 Zhm r t23 ⟨r_1,0,none⟩ t591 ⟨r_11,0,none⟩ ⟨(1:Int)⟩ w1_27
 (fun w1_34=>
 ∃t870,w1_34.cell? (Addr.add ⟨r_11,0,none⟩ 0)=some (.int .i64 t870)∧
 ∃t871,w1_34.cell? (Addr.add ⟨r_11,0,none⟩ 1)=some (.int .i64 t871)∧
 ∃t872,w1_34.cell? (Addr.add ⟨r_11,0,none⟩ 2)=some (.string t872)∧
 ∃t873P t873N t873C,w1_34.cell? (Addr.add ⟨r_11,0,none⟩ 3)=some (.slice t873P t873N t873C)∧
 St w1_34 (Addr.add ⟨r_1,0,none⟩ 0) (.int .i64 t870) fun w1_35=>
 St w1_35 (Addr.add ⟨r_1,0,none⟩ 1) (.int .i64 t871) fun w1_36=>
 St w1_36 (Addr.add ⟨r_1,0,none⟩ 2) (.string t872) fun w1_37=>
 St w1_37 (Addr.add ⟨r_1,0,none⟩ 3) (.slice t873P t873N t873C) fun w1_38=>
 ∃r_13,w1_38.cell? (Addr.add ⟨r_1,0,none⟩ 0)=some (.int .i64 r_13)∧
 ∃r_14,w1_38.cell? (Addr.add ⟨r_1,0,none⟩ 1)=some (.int .i64 r_14)∧
 ∃r_15,w1_38.cell? (Addr.add ⟨r_1,0,none⟩ 2)=some (.string r_15)∧
 ∃rP_3 rN_3 rC_3,w1_38.cell? (Addr.add ⟨r_1,0,none⟩ 3)=some (.slice rP_3 rN_3 rC_3)∧
 R r_13 r_14 r_15 rP_3 rN_3 rC_3 w1_38))))
def Zd5 (f:(Option Addr)×Int×Addr×Int×Addr) (s:Zba):Env:=[⟨0,.pointer f.1,none⟩,⟨1,.int .u64 f.2.1,none⟩,⟨4,.pointer (some f.2.2.1),none⟩,⟨8,.int .i64 f.2.2.2.1,none⟩,⟨9,.pointer (some f.2.2.2.2),none⟩,⟨10,.int .i64 s.i,none⟩]
def Zcv (e:Env) (K:((Option Addr)×Int×Addr×Int×Addr)→Zba→Prop):Prop:=
 oP e 0 fun r_12=>
 oI e 1 .u64 fun wx_1=>
 oA e 4 fun t4=>
 oI e 8 .i64 fun arity=>
 oA e 9 fun t=>
 oI e 10 .i64 fun i=>
  K (r_12,wx_1,t4,arity,t) ⟨i⟩
theorem ZhA {N:Nat} (e:Env) (a:Act) (K:((Option Addr)×Int×Addr×Int×Addr)→Zba→Prop) (hr:Rep N a e) (h0:Zcv e K):∃f s,K f s∧Rep N a (Zd5 f s):=by
 unfold Zcv at h0
 obtain⟨r_12,g0,h1⟩:=Zar h0
 obtain⟨wx_1,g1,h2⟩:=Zab h1
 obtain⟨t4,g4,h3⟩:=Zap h2
 obtain⟨arity,g8,h4⟩:=Zab h3
 obtain⟨t,g9,h5⟩:=Zap h4
 obtain⟨i,g10,h6⟩:=Zab h5
 exact⟨_,_,h6,Zac hr (by simp [Zd5,g0,g1,g4,g8,g9,g10])⟩
def Zi4 (Q:Post) (e:Env) (w:World):Prop:=
 Zcv e fun f s=>Zhm f.1 f.2.1 f.2.2.1 f.2.2.2.1 f.2.2.2.2 s w (fun w1=>Q (.exit 1) [⟨4,.pointer (some f.2.2.1),none⟩,⟨9,.pointer (some f.2.2.2.2),none⟩] w1)
def Zj7:Gen where
 loop:=lookL [([false,true,false,true,true,true,true,true,true],Zi4)]
 plan:=fun id=>
  bif Nat.beq id 9 then some ([0,1,3,7,15,31,63,0,128,511,1023,2047,2047,4095,16383],.take 0 (.take 1 (.take 2 (.take 3 (.take 4 (.take 5 (.take 6 (.take 7 (.take 8 (.take 9 (.take 10 (.take 11 (.take 12 (.take 13 (.take 14 .done))))))))))))))) else
  bif Nat.beq id 16 then some ([0,1,0,0,0,24,56,124,252,511,1023,2047],.take 0 (.take 1 (.take 2 (.take 3 (.take 4 (.take 5 (.take 6 (.take 7 (.take 8 (.take 9 (.take 10 (.take 11 .done)))))))))))) else none
def Zfs (e:Env) (K:((Option Addr)×Int×Addr×Int×Addr)→Prop):Prop:=
 oP e 0 fun r_12=>
 oI e 1 .u64 fun wx_1=>
 oA e 4 fun t4=>
 oI e 8 .i64 fun arity=>
 oA e 9 fun t=>
  K (r_12,wx_1,t4,arity,t)
theorem Znh (f:(Option Addr)×Int×Addr×Int×Addr) (s:Zba) (w:World) (Kn:((Option Addr)×Int×Addr×Int×Addr)→Zba→World→Prop) (Kx1:((Option Addr)×Int×Addr×Int×Addr)→World→Prop) :
  ZgR f.1 f.2.1 f.2.2.1 f.2.2.2.1 f.2.2.2.2 s w (fun s1 w1=>Kn f s1 w1) (fun w1=>Kx1 f w1) =
  den Tryz.prog Tryz.f77.ntmps Zj7 (sub (codeOf Tryz.f77) [false,false,true,false,true,true,true,true,true,true]) [false,false,true,false,true,true,true,true,true,true] (roundQ (fun e w=>Zcv e fun f s=>Kn f s w) (fun e w=>False) (fun id e w=>match Nat.beq id 1 with | true=>Zfs e fun f=>Kx1 f w | false=>False)) (Zd5 f s) w:=by kernel_rfl
theorem Zn5:OneOk Tryz.prog Tryz.f77.ntmps Zj7 (codeOf Tryz.f77) [false,true,false,true,true,true,true,true,true] Zi4:=by
 intro c hc ih Q e w a hr h
 have hcc:sub (codeOf Tryz.f77) [false,false,true,false,true,true,true,true,true,true]=c:=Zaf hc
 obtain⟨f,s,h,hrep⟩:=ZhA e a _ hr h
 obtain⟨J,μ,hj,hround⟩:=h
 refine Zad Zan Zag ih Zd5 Zcv ZhA hc f J μ (Kr:=fun e w=>False) (Kx:=fun id e w=>match Nat.beq id 1 with | true=>(Zfs e fun f1=>f1=f∧Q (.exit 1) [⟨4,.pointer (some f.2.2.1),none⟩,⟨9,.pointer (some f.2.2.2.2),none⟩] w) | false=>False) ?_ ?_ ?_ s w a hj hrep
 ·intro e a w hr h
  exact h.elim
 ·intro id e a w hr h0
  (try dsimp only at h0)
  split at h0
  ·rename_i hid
   obtain rfl:=Nat.eq_of_beq_eq_true hid
   unfold Zfs at h0
   obtain⟨r_12,g0,h1⟩:=Zar h0
   obtain⟨wx_1,g1,h2⟩:=Zab h1
   obtain⟨t4,g4,h3⟩:=Zap h2
   obtain⟨arity,g8,h4⟩:=Zab h3
   obtain⟨t,g9,h5⟩:=Zap h4
   obtain⟨hf,hq⟩:=h5
   subst hf
   exact⟨_,Zac hr (by simp [g4,g9]),hq⟩
  ·exact h0.elim
 ·intro s w hj
  have hb:=hround s w hj
  rw[←hcc]
  have e1:=Znh f s w (fun f1 s1 w1=>f1=f∧J s1 w1∧μ s1 w1<μ s w) (fun f1 w1=>f1=f∧Q (.exit 1) [⟨4,.pointer (some f.2.2.1),none⟩,⟨9,.pointer (some f.2.2.2.2),none⟩] w1)
  simp only[true_and] at e1
  exact cast e1 hb
theorem ZnW:LoopOk Tryz.prog Tryz.f77.ntmps Zj7 (codeOf Tryz.f77):=Zal rfl ⟨Zn5,trivial⟩
theorem Za7.of {r:Option Addr} {wx:Int} {w:World} {R:Int→Int→ByteArray→Option Addr→Nat→Nat→World→Prop} (h:Zjv r wx w R):Za7 r wx w R:=ofS10 (Fm:=Zjv r wx w) Tryz.func77 (by kernel_rfl) ZnW rfl (fun _=>by kernel_rfl) h
structure ZbR where
 i:Int
structure ZbL where
 i_1:Int
def Zif (lP_1:Option Addr) (lN_1:Nat) (lC_1:Nat) (t:Addr) (t4:Addr) (s:ZbR) (w:World) (Kn:ZbR→World→Prop) (Kx0:World→Prop) (Kr:World→Prop):Prop:=
 If (decide (s.i<(lN_1:Int)))
 (0≤s.i∧s.i<(lN_1:Int)∧NN lP_1 fun a=>
 ∃t20,(drw w).cell? (a.add (s.i.toNat*1))=some (.int .i64 t20)∧
 ∃N,(drw w).cell? (t.add 1)=some (.int .i64 N)∧
 If (t20==N)
 (ZdM s.i (drw w) fun t250 t251 t252 t253P t253N t253C w1_2=>
 St w1_2 (t4.add 0) (.int .i64 t250) fun w1_3=>
 St w1_3 (t4.add 1) (.int .i64 t251) fun w1_4=>
 St w1_4 (t4.add 2) (.string t252) fun w1_5=>
 St w1_5 (t4.add 3) (.slice t253P t253N t253C) fun w1_6=>
 Kr w1_6)
 (Kn ⟨(IntKind.i64.wrap (s.i+(1:Int)))⟩ (drw w)))
 (Kx0 w)
def Zil (lP_1:Option Addr) (lN_1:Nat) (lC_1:Nat) (t:Addr) (t4:Addr) (s:ZbR) (w:World) (Kx0:World→Prop) (Kr:World→Prop):Prop:=
 LoopS (fun s w Kn=>Zif lP_1 lN_1 lC_1 t t4 s w Kn Kx0 Kr) s w
def ZiP (lP_2:Option Addr) (lN_2:Nat) (lC_2:Nat) (t_1:Addr) (t4_1:Addr) (out:Addr) (s:ZbL) (w:World) (Kn:ZbL→World→Prop) (Kx2:World→Prop):Prop:=
 ∃LP LN LC,w.cell? (t_1.add 3)=some (.slice LP LN LC)∧
 If (decide (s.i_1<(LN:Int)))
 (∃LP_1 LN_1 LC_1,(drw w).cell? (out.add 3)=some (.slice LP_1 LN_1 LC_1)∧
 ∃LP_2 LN_2 LC_2,(drw w).cell? (t_1.add 3)=some (.slice LP_2 LN_2 LC_2)∧
 0≤s.i_1∧s.i_1<(LN_2:Int)∧NN LP_2 fun a_1=>
 ∃t460,(drw w).cell? ((a_1.add (s.i_1.toNat*4)).add 0)=some (.int .i64 t460)∧
 ∃t461,(drw w).cell? ((a_1.add (s.i_1.toNat*4)).add 1)=some (.int .i64 t461)∧
 ∃t462,(drw w).cell? ((a_1.add (s.i_1.toNat*4)).add 2)=some (.string t462)∧
 ∃t463P t463N t463C,(drw w).cell? ((a_1.add (s.i_1.toNat*4)).add 3)=some (.slice t463P t463N t463C)∧
 ZbW t460 t461 t462 t463P t463N t463C lP_2 lN_2 lC_2 (drw w) fun t480 t481 t482 t483P t483N t483C w1_15=>
 w1_15.cell? (out.add 3)=(drw w).cell? (out.add 3)∧
 BSl Tryz.prog 22 1 [(0,.agg #[.int .i64 t480,.int .i64 t481,.string t482,.slice t483P t483N t483C])] w1_15 fun t49P t49N t49C w1_16=>
 w1_16.cell? (out.add 3)=(drw w).cell? (out.add 3)∧
 App Tryz.prog #[22,22] 22 #[.slice LP_1 LN_1 LC_1,.slice t49P t49N t49C] w1_16 fun t50P t50N t50C w1_17=>
 St w1_17 ((out.add 3).add 0) (.slice t50P t50N t50C) fun w1_18=>
 Kn ⟨(IntKind.i64.wrap (s.i_1+(1:Int)))⟩ w1_18)
 (Kx2 w)
def ZiE (lP_2:Option Addr) (lN_2:Nat) (lC_2:Nat) (t_1:Addr) (t4_1:Addr) (out:Addr) (s:ZbL) (w:World) (Kx2:World→Prop):Prop:=
 LoopS (fun s w Kn=>ZiP lP_2 lN_2 lC_2 t_1 t4_1 out s w Kn Kx2) s w
def ZiK (lP:Option Addr) (lN:Nat) (lC:Nat) (R:Int→Int→ByteArray→Option Addr→Nat→Nat→World→Prop) (r:Nat) (r_1:Nat) (w1_9:World):Prop:=
 ∃Kind_1,w1_9.cell? (Addr.add ⟨r,0,none⟩ 0)=some (.int .i64 Kind_1)∧
 ∃N_1,w1_9.cell? (Addr.add ⟨r,0,none⟩ 1)=some (.int .i64 N_1)∧
 ∃S,w1_9.cell? (Addr.add ⟨r,0,none⟩ 2)=some (.string S)∧
 New w1_9 (.cells #[.int .i64 0,.int .i64 0,.string ⟨#[]⟩,.slice none 0 0] 31) fun r_5 w1_10=>
 St w1_10 (Addr.add ⟨r_5,0,none⟩ 0) (.int .i64 Kind_1) fun w1_11=>
 St w1_11 (Addr.add ⟨r_5,0,none⟩ 1) (.int .i64 N_1) fun w1_12=>
 St w1_12 (Addr.add ⟨r_5,0,none⟩ 2) (.string S) fun w1_13=>
 St w1_13 (Addr.add ⟨r_5,0,none⟩ 3) (.slice none 0 0) fun w1_14=>
 ZiE lP lN lC ⟨r,0,none⟩ ⟨r_1,0,none⟩ ⟨r_5,0,none⟩ ⟨(0:Int)⟩ w1_14
 (fun w1_19=>
 ∃t520,w1_19.cell? (Addr.add ⟨r_5,0,none⟩ 0)=some (.int .i64 t520)∧
 ∃t521,w1_19.cell? (Addr.add ⟨r_5,0,none⟩ 1)=some (.int .i64 t521)∧
 ∃t522,w1_19.cell? (Addr.add ⟨r_5,0,none⟩ 2)=some (.string t522)∧
 ∃t523P t523N t523C,w1_19.cell? (Addr.add ⟨r_5,0,none⟩ 3)=some (.slice t523P t523N t523C)∧
 St w1_19 (Addr.add ⟨r_1,0,none⟩ 0) (.int .i64 t520) fun w1_20=>
 St w1_20 (Addr.add ⟨r_1,0,none⟩ 1) (.int .i64 t521) fun w1_21=>
 St w1_21 (Addr.add ⟨r_1,0,none⟩ 2) (.string t522) fun w1_22=>
 St w1_22 (Addr.add ⟨r_1,0,none⟩ 3) (.slice t523P t523N t523C) fun w1_23=>
 ∃r_6,w1_23.cell? (Addr.add ⟨r_1,0,none⟩ 0)=some (.int .i64 r_6)∧
 ∃r_7,w1_23.cell? (Addr.add ⟨r_1,0,none⟩ 1)=some (.int .i64 r_7)∧
 ∃r_8,w1_23.cell? (Addr.add ⟨r_1,0,none⟩ 2)=some (.string r_8)∧
 ∃rP_1 rN_1 rC_1,w1_23.cell? (Addr.add ⟨r_1,0,none⟩ 3)=some (.slice rP_1 rN_1 rC_1)∧
 R r_6 r_7 r_8 rP_1 rN_1 rC_1 w1_23)
def Zlk (t0:Int) (t1:Int) (t2:ByteArray) (t3P:Option Addr) (t3N:Nat) (t3C:Nat) (lP:Option Addr) (lN:Nat) (lC:Nat) (w:World) (R:Int→Int→ByteArray→Option Addr→Nat→Nat→World→Prop):Prop:=
 New w (.cells #[.int .i64 t0,.int .i64 t1,.string t2,.slice t3P t3N t3C] 31) fun r w1=>
 New w1 (.cells #[.int .i64 0,.int .i64 0,.string ⟨#[]⟩,.slice none 0 0] 31) fun r_1 w1_1=>
 ∃Kind,w1_1.cell? (Addr.add ⟨r,0,none⟩ 0)=some (.int .i64 Kind)∧
 If (Kind==(1:Int))
 (Zil lP lN lC ⟨r,0,none⟩ ⟨r_1,0,none⟩ ⟨(0:Int)⟩ w1_1
 (fun w1_7=>
 ZiK lP lN lC R r r_1 w1_7)
 (fun w1_8=>
 ∃r_2,w1_8.cell? (Addr.add ⟨r_1,0,none⟩ 0)=some (.int .i64 r_2)∧
 ∃r_3,w1_8.cell? (Addr.add ⟨r_1,0,none⟩ 1)=some (.int .i64 r_3)∧
 ∃r_4,w1_8.cell? (Addr.add ⟨r_1,0,none⟩ 2)=some (.string r_4)∧
 ∃rP rN rC,w1_8.cell? (Addr.add ⟨r_1,0,none⟩ 3)=some (.slice rP rN rC)∧
 R r_2 r_3 r_4 rP rN rC w1_8))
 (ZiK lP lN lC R r r_1 w1_1)
def ZeP (f:(Option Addr)×Nat×Nat×Addr×Addr) (s:ZbR):Env:=[⟨1,.slice f.1 f.2.1 f.2.2.1,none⟩,⟨2,.pointer (some f.2.2.2.1),none⟩,⟨4,.pointer (some f.2.2.2.2),none⟩,⟨5,.int .i64 s.i,none⟩]
def Zdo (e:Env) (K:((Option Addr)×Nat×Nat×Addr×Addr)→ZbR→Prop):Prop:=
 oS e 1 fun lP_1 lN_1 lC_1=>
 oA e 2 fun t=>
 oA e 4 fun t4=>
 oI e 5 .i64 fun i=>
  K (lP_1,lN_1,lC_1,t,t4) ⟨i⟩
theorem Zi9 {N:Nat} (e:Env) (a:Act) (K:((Option Addr)×Nat×Nat×Addr×Addr)→ZbR→Prop) (hr:Rep N a e) (h0:Zdo e K):∃f s,K f s∧Rep N a (ZeP f s):=by
 unfold Zdo at h0
 obtain⟨lP_1,lN_1,lC_1,g1,h1⟩:=Zae h0
 obtain⟨t,g2,h2⟩:=Zap h1
 obtain⟨t4,g4,h3⟩:=Zap h2
 obtain⟨i,g5,h4⟩:=Zab h3
 exact⟨_,_,h4,Zac hr (by simp [ZeP,g1,g2,g4,g5])⟩
def Zkb (Q:Post) (e:Env) (w:World):Prop:=
 Zdo e fun f s=>Zil f.1 f.2.1 f.2.2.1 f.2.2.2.1 f.2.2.2.2 s w (fun w1=>Q (.exit 0) [⟨1,.slice f.1 f.2.1 f.2.2.1,none⟩,⟨2,.pointer (some f.2.2.2.1),none⟩,⟨4,.pointer (some f.2.2.2.2),none⟩] w1) (fun w1=>Q .ret [⟨4,.pointer (some f.2.2.2.2),none⟩] w1)
def ZeZ (f:(Option Addr)×Nat×Nat×Addr×Addr×Addr) (s:ZbL):Env:=[⟨1,.slice f.1 f.2.1 f.2.2.1,none⟩,⟨2,.pointer (some f.2.2.2.1),none⟩,⟨4,.pointer (some f.2.2.2.2.1),none⟩,⟨6,.pointer (some f.2.2.2.2.2),none⟩,⟨7,.int .i64 s.i_1,none⟩]
def Zdp (e:Env) (K:((Option Addr)×Nat×Nat×Addr×Addr×Addr)→ZbL→Prop):Prop:=
 oS e 1 fun lP_2 lN_2 lC_2=>
 oA e 2 fun t_1=>
 oA e 4 fun t4_1=>
 oA e 6 fun out=>
 oI e 7 .i64 fun i_1=>
  K (lP_2,lN_2,lC_2,t_1,t4_1,out) ⟨i_1⟩
theorem Zi5 {N:Nat} (e:Env) (a:Act) (K:((Option Addr)×Nat×Nat×Addr×Addr×Addr)→ZbL→Prop) (hr:Rep N a e) (h0:Zdp e K):∃f s,K f s∧Rep N a (ZeZ f s):=by
 unfold Zdp at h0
 obtain⟨lP_2,lN_2,lC_2,g1,h1⟩:=Zae h0
 obtain⟨t_1,g2,h2⟩:=Zap h1
 obtain⟨t4_1,g4,h3⟩:=Zap h2
 obtain⟨out,g6,h4⟩:=Zap h3
 obtain⟨i_1,g7,h5⟩:=Zab h4
 exact⟨_,_,h5,Zac hr (by simp [ZeZ,g1,g2,g4,g6,g7])⟩
def Zkc (Q:Post) (e:Env) (w:World):Prop:=
 Zdp e fun f s=>ZiE f.1 f.2.1 f.2.2.1 f.2.2.2.1 f.2.2.2.2.1 f.2.2.2.2.2 s w (fun w1=>Q (.exit 2) [⟨4,.pointer (some f.2.2.2.2.1),none⟩,⟨6,.pointer (some f.2.2.2.2.2),none⟩] w1)
def Zf2:Gen where
 loop:=lookL [([false,true,false,true,false,true],Zkb),([false,true,false,true,true,true],Zkc)]
 plan:=fun id=>
  bif Nat.beq id 5 then some ([0,0,3,7,0,16,63],.take 0 (.take 1 (.take 2 (.take 3 (.take 4 (.take 5 (.take 6 .done))))))) else
  bif Nat.beq id 11 then some ([0,1,0,4,0,28,60,0,252,508,1023,2047,4095],.take 0 (.take 1 (.take 2 (.take 3 (.take 4 (.take 5 (.take 6 (.take 7 (.take 8 (.take 9 (.take 10 (.take 11 (.take 12 .done))))))))))))) else none
def Zf9 (e:Env) (K:((Option Addr)×Nat×Nat×Addr×Addr)→Prop):Prop:=
 oS e 1 fun lP_1 lN_1 lC_1=>
 oA e 2 fun t=>
 oA e 4 fun t4=>
  K (lP_1,lN_1,lC_1,t,t4)
def ZfA (e:Env) (K:((Option Addr)×Nat×Nat×Addr×Addr)→Prop):Prop:=
 oS e 1 fun lP_1 lN_1 lC_1=>
 oA e 2 fun t=>
 oA e 4 fun t4=>
  K (lP_1,lN_1,lC_1,t,t4)
theorem ZnZ (f:(Option Addr)×Nat×Nat×Addr×Addr) (s:ZbR) (w:World) (Kn:((Option Addr)×Nat×Nat×Addr×Addr)→ZbR→World→Prop) (Kx0:((Option Addr)×Nat×Nat×Addr×Addr)→World→Prop) (Kr:((Option Addr)×Nat×Nat×Addr×Addr)→World→Prop) :
  Zif f.1 f.2.1 f.2.2.1 f.2.2.2.1 f.2.2.2.2 s w (fun s1 w1=>Kn f s1 w1) (fun w1=>Kx0 f w1) (fun w1=>Kr f w1) =
  den Tryz.prog Tryz.f78.ntmps Zf2 (sub (codeOf Tryz.f78) [false,false,true,false,true,false,true]) [false,false,true,false,true,false,true] (roundQ (fun e w=>Zdo e fun f s=>Kn f s w) (fun e w=>ZfA e fun f=>Kr f w) (fun id e w=>match Nat.beq id 0 with | true=>Zf9 e fun f=>Kx0 f w | false=>False)) (ZeP f s) w:=by kernel_rfl
def Zgv (e:Env) (K:((Option Addr)×Nat×Nat×Addr×Addr×Addr)→Prop):Prop:=
 oS e 1 fun lP_2 lN_2 lC_2=>
 oA e 2 fun t_1=>
 oA e 4 fun t4_1=>
 oA e 6 fun out=>
  K (lP_2,lN_2,lC_2,t_1,t4_1,out)
theorem Zn1 (f:(Option Addr)×Nat×Nat×Addr×Addr×Addr) (s:ZbL) (w:World) (Kn:((Option Addr)×Nat×Nat×Addr×Addr×Addr)→ZbL→World→Prop) (Kx2:((Option Addr)×Nat×Nat×Addr×Addr×Addr)→World→Prop) :
  ZiP f.1 f.2.1 f.2.2.1 f.2.2.2.1 f.2.2.2.2.1 f.2.2.2.2.2 s w (fun s1 w1=>Kn f s1 w1) (fun w1=>Kx2 f w1) =
  den Tryz.prog Tryz.f78.ntmps Zf2 (sub (codeOf Tryz.f78) [false,false,true,false,true,true,true]) [false,false,true,false,true,true,true] (roundQ (fun e w=>Zdp e fun f s=>Kn f s w) (fun e w=>False) (fun id e w=>match Nat.beq id 2 with | true=>Zgv e fun f=>Kx2 f w | false=>False)) (ZeZ f s) w:=by kernel_rfl
theorem Zo6:OneOk Tryz.prog Tryz.f78.ntmps Zf2 (codeOf Tryz.f78) [false,true,false,true,false,true] Zkb:=by
 intro c hc ih Q e w a hr h
 have hcc:sub (codeOf Tryz.f78) [false,false,true,false,true,false,true]=c:=Zaf hc
 obtain⟨f,s,h,hrep⟩:=Zi9 e a _ hr h
 obtain⟨J,μ,hj,hround⟩:=h
 refine Zad Zan Zag ih ZeP Zdo Zi9 hc f J μ (Kr:=fun e w=>ZfA e fun f1=>f1=f∧Q .ret [⟨4,.pointer (some f.2.2.2.2),none⟩] w) (Kx:=fun id e w=>match Nat.beq id 0 with | true=>(Zf9 e fun f1=>f1=f∧Q (.exit 0) [⟨1,.slice f.1 f.2.1 f.2.2.1,none⟩,⟨2,.pointer (some f.2.2.2.1),none⟩,⟨4,.pointer (some f.2.2.2.2),none⟩] w) | false=>False) ?_ ?_ ?_ s w a hj hrep
 ·intro e a w hr h0
  unfold ZfA at h0
  obtain⟨lP_1,lN_1,lC_1,g1,h1⟩:=Zae h0
  obtain⟨t,g2,h2⟩:=Zap h1
  obtain⟨t4,g4,h3⟩:=Zap h2
  obtain⟨hf,hq⟩:=h3
  subst hf
  exact⟨_,Zac hr (by simp [g4]),hq⟩
 ·intro id e a w hr h0
  (try dsimp only at h0)
  split at h0
  ·rename_i hid
   obtain rfl:=Nat.eq_of_beq_eq_true hid
   unfold Zf9 at h0
   obtain⟨lP_1,lN_1,lC_1,g1,h1⟩:=Zae h0
   obtain⟨t,g2,h2⟩:=Zap h1
   obtain⟨t4,g4,h3⟩:=Zap h2
   obtain⟨hf,hq⟩:=h3
   subst hf
   exact⟨_,Zac hr (by simp [g1,g2,g4]),hq⟩
  ·exact h0.elim
 ·intro s w hj
  have hb:=hround s w hj
  rw[←hcc]
  have e1:=ZnZ f s w (fun f1 s1 w1=>f1=f∧J s1 w1∧μ s1 w1<μ s w) (fun f1 w1=>f1=f∧Q (.exit 0) [⟨1,.slice f.1 f.2.1 f.2.2.1,none⟩,⟨2,.pointer (some f.2.2.2.1),none⟩,⟨4,.pointer (some f.2.2.2.2),none⟩] w1) (fun f1 w1=>f1=f∧Q .ret [⟨4,.pointer (some f.2.2.2.2),none⟩] w1)
  simp only[true_and] at e1
  exact cast e1 hb
theorem Zo3:OneOk Tryz.prog Tryz.f78.ntmps Zf2 (codeOf Tryz.f78) [false,true,false,true,true,true] Zkc:=by
 intro c hc ih Q e w a hr h
 have hcc:sub (codeOf Tryz.f78) [false,false,true,false,true,true,true]=c:=Zaf hc
 obtain⟨f,s,h,hrep⟩:=Zi5 e a _ hr h
 obtain⟨J,μ,hj,hround⟩:=h
 refine Zad Zan Zag ih ZeZ Zdp Zi5 hc f J μ (Kr:=fun e w=>False) (Kx:=fun id e w=>match Nat.beq id 2 with | true=>(Zgv e fun f1=>f1=f∧Q (.exit 2) [⟨4,.pointer (some f.2.2.2.2.1),none⟩,⟨6,.pointer (some f.2.2.2.2.2),none⟩] w) | false=>False) ?_ ?_ ?_ s w a hj hrep
 ·intro e a w hr h
  exact h.elim
 ·intro id e a w hr h0
  (try dsimp only at h0)
  split at h0
  ·rename_i hid
   obtain rfl:=Nat.eq_of_beq_eq_true hid
   unfold Zgv at h0
   obtain⟨lP_2,lN_2,lC_2,g1,h1⟩:=Zae h0
   obtain⟨t_1,g2,h2⟩:=Zap h1
   obtain⟨t4_1,g4,h3⟩:=Zap h2
   obtain⟨out,g6,h4⟩:=Zap h3
   obtain⟨hf,hq⟩:=h4
   subst hf
   exact⟨_,Zac hr (by simp [g4,g6]),hq⟩
  ·exact h0.elim
 ·intro s w hj
  have hb:=hround s w hj
  rw[←hcc]
  have e1:=Zn1 f s w (fun f1 s1 w1=>f1=f∧J s1 w1∧μ s1 w1<μ s w) (fun f1 w1=>f1=f∧Q (.exit 2) [⟨4,.pointer (some f.2.2.2.2.1),none⟩,⟨6,.pointer (some f.2.2.2.2.2),none⟩] w1)
  simp only[true_and] at e1
  exact cast e1 hb
theorem Zo1:LoopOk Tryz.prog Tryz.f78.ntmps Zf2 (codeOf Tryz.f78):=Zal rfl ⟨Zo6,⟨Zo3,trivial⟩⟩
theorem ZbW.of {t0:Int} {t1:Int} {t2:ByteArray} {t3P:Option Addr} {t3N:Nat} {t3C:Nat} {lP:Option Addr} {lN:Nat} {lC:Nat} {w:World} {R:Int→Int→ByteArray→Option Addr→Nat→Nat→World→Prop} (h:Zlk t0 t1 t2 t3P t3N t3C lP lN lC w R):ZbW t0 t1 t2 t3P t3N t3C lP lN lC w R:=ofS10 (Fm:=Zlk t0 t1 t2 t3P t3N t3C lP lN lC w) Tryz.func78 (by kernel_rfl) Zo1 rfl (fun _=>by kernel_rfl) h
end Go.Proofs.YtdaenijbokialaaGreat
