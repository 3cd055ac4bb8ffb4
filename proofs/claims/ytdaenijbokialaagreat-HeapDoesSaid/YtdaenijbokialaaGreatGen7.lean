import Derived.Test.YtdaenijbokialaaGreatGenC
set_option maxRecDepth 100000
set_option linter.unusedVariables false
namespace Go.Proofs.YtdaenijbokialaaGreat
open Go Go.D Go.Proofs
def ZqF (wx:Int) (w:World) (R:Int→World→Prop):Prop:=
 R (IntKind.i64.wrap (andI .u64 wx (7:Int))) w
theorem Zem.of {wx:Int} {w:World} {R:Int→World→Prop} (h:ZqF wx w R):Zem wx w R:=ofS4 (Fm:=ZqF wx w) Tryz.func79 (by kernel_rfl) (L0 Tryz.f79) rfl (fun _=>by kernel_rfl) h
def ZnJ (wx:Int) (w:World) (R:Int→World→Prop):Prop:=
 Zem wx w fun t4 w1=>
 If (t4==(0:Int))
 (R (0:Int) w1)
 (0≤(3:Int)∧
 R (shrI .i64 (IntKind.i64.wrap wx) (3:Int)) w1)
theorem Zaz.of {wx:Int} {w:World} {R:Int→World→Prop} (h:ZnJ wx w R):Zaz wx w R:=ofS4 (Fm:=ZnJ wx w) Tryz.func80 (by kernel_rfl) (L0 Tryz.f80) rfl (fun _=>by kernel_rfl) h
def Zky (t:Option Addr) (idx:Int) (w:World) (R:ByteArray→Int→World→Prop):Prop:=
 ZcR t idx w fun t9 w1=>
 If (t9 != (0:Int))
 (R ⟨#[]⟩ t9 w1)
 (NN t fun a=>
 ∃lP lN lC,w1.cell? (a.add 5)=some (.slice lP lN lC)∧
 0≤idx∧idx<(lN:Int)∧NN lP fun a_1=>
 ∃namex,w1.cell? ((a_1.add (idx.toNat*3)).add 0)=some (.string namex)∧
 R namex (0:Int) w1)
theorem ZaC.of {t:Option Addr} {idx:Int} {w:World} {R:ByteArray→Int→World→Prop} (h:Zky t idx w R):ZaC t idx w R:=ofS15 (Fm:=Zky t idx w) Tryz.func81 (by kernel_rfl) (L0 Tryz.f81) rfl (fun _=>by kernel_rfl) h
def ZlW (hx:Option Addr) (wx:Int) (w:World) (R:ByteArray→Int→World→Prop):Prop:=
 NN hx fun a=>
 ∃funs,(drw w).cell? (a.add 3)=some (.pointer funs)∧
 NN hx fun a_1=>
 ∃cellsP cellsN cellsC,(drw w).cell? (a_1.add 4)=some (.slice cellsP cellsN cellsC)∧
 Zaz wx (drw w) fun t19 w1=>
 w1.cell? (a_1.add 4)=(drw w).cell? (a_1.add 4)∧
 w1.cell? (a.add 3)=(drw w).cell? (a.add 3)∧
 0≤t19∧t19<(cellsN:Int)∧NN cellsP fun a_2=>
 ∃t21,w1.cell? (a_2.add (t19.toNat*1))=some (.int .u64 t21)∧
 Zaz t21 w1 fun t22 w1_1=>
 w1_1.cell? (a.add 3)=(drw w).cell? (a.add 3)∧
 ZbK funs t22 w1_1 fun t230 t231 t232 w1_2=>
 R t230 t231 w1_2
def Zro:Gen where
 loop:=lookL []
 plan:=fun id=>
  bif Nat.beq id 1 then some ([0,1,3,7,0,16,48,112,0,256,1008,2032,4080,8191,16383,32767,32767,32767,65535,393215,1048575],.take 0 (.take 1 (.take 2 (.take 3 (.take 4 (.take 5 (.take 6 (.take 7 (.take 8 (.take 9 (.take 10 (.take 11 (.take 12 (.take 13 (.take 14 (.take 15 (.take 16 (.take 17 (.take 18 (.take 19 (.take 20 .done))))))))))))))))))))) else none
theorem Zbp.of {hx:Option Addr} {wx:Int} {w:World} {R:ByteArray→Int→World→Prop} (h:ZlW hx wx w R):Zbp hx wx w R:=ofS15 (Fm:=ZlW hx wx w) Tryz.func82 (by kernel_rfl) (L1 Zro Tryz.f82 fun _=>rfl) rfl (fun _=>by kernel_rfl) h
structure Zbv where
 wx_1:Int
def ZhW (hx_1:Option Addr) (s:Zbv) (w:World) (Kn:Zbv→World→Prop) (Kx0:Int→World→Prop):Prop:=
 Zdv s.wx_1 (1:Int) w fun t7 w1=>
 If t7
 (NN hx_1 fun a=>
 ∃cellsP cellsN cellsC,(drw w1).cell? (a.add 4)=some (.slice cellsP cellsN cellsC)∧
 Zaz s.wx_1 (drw w1) fun t13 w1_1=>
 w1_1.cell? (a.add 4)=(drw w1).cell? (a.add 4)∧
 0≤t13∧t13<(cellsN:Int)∧NN cellsP fun a_1=>
 ∃t15,w1_1.cell? (a_1.add (t13.toNat*1))=some (.int .u64 t15)∧
 If (t15==s.wx_1)
 (Kx0 s.wx_1 w1_1)
 (Kn ⟨t15⟩ w1_1))
 (Kx0 s.wx_1 w1)
def ZhZ (hx_1:Option Addr) (s:Zbv) (w:World) (Kx0:Int→World→Prop):Prop:=
 LoopS (fun s w Kn=>ZhW hx_1 s w Kn Kx0) s w
def Zkt (hx:Option Addr) (wx:Int) (w:World) (R:Int→World→Prop):Prop:=
 ZhZ hx ⟨wx⟩ w
 (fun wx_3 w1_2=>
 R wx_3 w1_2)
def Zey (f:(Option Addr)) (s:Zbv):Env:=[⟨0,.pointer f,none⟩,⟨1,.int .u64 s.wx_1,none⟩]
def Zc5 (e:Env) (K:(Option Addr)→Zbv→Prop):Prop:=
 oP e 0 fun hx_1=>
 oI e 1 .u64 fun wx_1=>
  K (hx_1) ⟨wx_1⟩
theorem Zib {N:Nat} (e:Env) (a:Act) (K:(Option Addr)→Zbv→Prop) (hr:Rep N a e) (h0:Zc5 e K):∃f s,K f s∧Rep N a (Zey f s):=by
 unfold Zc5 at h0
 obtain⟨hx_1,g0,h1⟩:=Zar h0
 obtain⟨wx_1,g1,h2⟩:=Zab h1
 exact⟨_,_,h2,Zac hr (by simp [Zey,g0,g1])⟩
def Zjo (Q:Post) (e:Env) (w:World):Prop:=
 Zc5 e fun f s=>ZhZ f s w (fun wx_2 w1=>Q (.exit 0) [⟨1,.int .u64 wx_2,none⟩] w1)
def Zkw:Gen where
 loop:=lookL [([false,false,true],Zjo)]
 plan:=fun id=>
  bif Nat.beq id 2 then some ([0,1,3,7,0,16,63,127,255],.take 0 (.take 1 (.take 2 (.take 3 (.take 4 (.take 5 (.take 6 (.take 7 (.take 8 .done))))))))) else none
def ZfW (e:Env) (K:(Option Addr)→Int→Prop):Prop:=
 oP e 0 fun hx_1=>
 oI e 1 .u64 fun wx_2=>
  K (hx_1) wx_2
theorem ZnQ (f:(Option Addr)) (s:Zbv) (w:World) (Kn:(Option Addr)→Zbv→World→Prop) (Kx0:(Option Addr)→Int→World→Prop) :
  ZhW f s w (fun s1 w1=>Kn f s1 w1) (fun wx_2 w1=>Kx0 f wx_2 w1) =
  den Tryz.prog Tryz.f83.ntmps Zkw (sub (codeOf Tryz.f83) [false,false,false,true]) [false,false,false,true] (roundQ (fun e w=>Zc5 e fun f s=>Kn f s w) (fun e w=>False) (fun id e w=>match Nat.beq id 0 with | true=>ZfW e fun f wx_2=>Kx0 f wx_2 w | false=>False)) (Zey f s) w:=by kernel_rfl
theorem ZoG:OneOk Tryz.prog Tryz.f83.ntmps Zkw (codeOf Tryz.f83) [false,false,true] Zjo:=by
 intro c hc ih Q e w a hr h
 have hcc:sub (codeOf Tryz.f83) [false,false,false,true]=c:=Zaf hc
 obtain⟨f,s,h,hrep⟩:=Zib e a _ hr h
 obtain⟨J,μ,hj,hround⟩:=h
 refine Zad Zan Zag ih Zey Zc5 Zib hc f J μ (Kr:=fun e w=>False) (Kx:=fun id e w=>match Nat.beq id 0 with | true=>(ZfW e fun f1 wx_2=>f1=f∧Q (.exit 0) [⟨1,.int .u64 wx_2,none⟩] w) | false=>False) ?_ ?_ ?_ s w a hj hrep
 ·intro e a w hr h
  exact h.elim
 ·intro id e a w hr h0
  (try dsimp only at h0)
  split at h0
  ·rename_i hid
   obtain rfl:=Nat.eq_of_beq_eq_true hid
   unfold ZfW at h0
   obtain⟨hx_1,g0,h1⟩:=Zar h0
   obtain⟨wx_2,g1,h2⟩:=Zab h1
   obtain⟨hf,hq⟩:=h2
   subst hf
   exact⟨_,Zac hr (by simp [g1]),hq⟩
  ·exact h0.elim
 ·intro s w hj
  have hb:=hround s w hj
  rw[←hcc]
  have e1:=ZnQ f s w (fun f1 s1 w1=>f1=f∧J s1 w1∧μ s1 w1<μ s w) (fun f1 wx_2 w1=>f1=f∧Q (.exit 0) [⟨1,.int .u64 wx_2,none⟩] w1)
  simp only[true_and] at e1
  exact cast e1 hb
theorem Zoq:LoopOk Tryz.prog Tryz.f83.ntmps Zkw (codeOf Tryz.f83):=Zal rfl ⟨ZoG,trivial⟩
theorem ZaD.of {hx:Option Addr} {wx:Int} {w:World} {R:Int→World→Prop} (h:Zkt hx wx w R):ZaD hx wx w R:=ofS9 (Fm:=Zkt hx wx w) Tryz.func83 (by kernel_rfl) Zoq rfl (fun _=>by kernel_rfl) h
def ZqS (sx:ByteArray) (w:World) (R:Int→Int→ByteArray→Option Addr→Nat→Nat→World→Prop):Prop:=
 New w (.cells #[.int .i64 0,.int .i64 0,.string ⟨#[]⟩,.slice none 0 0] 31) fun r w1=>
 St w1 (Addr.add ⟨r,0,none⟩ 0) (.int .i64 3) fun w1_1=>
 St w1_1 (Addr.add ⟨r,0,none⟩ 1) (.int .i64 0) fun w1_2=>
 St w1_2 (Addr.add ⟨r,0,none⟩ 2) (.string sx) fun w1_3=>
 St w1_3 (Addr.add ⟨r,0,none⟩ 3) (.slice none 0 0) fun w1_4=>
 ∃r_1,w1_4.cell? (Addr.add ⟨r,0,none⟩ 0)=some (.int .i64 r_1)∧
 ∃r_2,w1_4.cell? (Addr.add ⟨r,0,none⟩ 1)=some (.int .i64 r_2)∧
 ∃r_3,w1_4.cell? (Addr.add ⟨r,0,none⟩ 2)=some (.string r_3)∧
 ∃rP rN rC,w1_4.cell? (Addr.add ⟨r,0,none⟩ 3)=some (.slice rP rN rC)∧
 R r_1 r_2 r_3 rP rN rC w1_4
theorem Zi1.of {sx:ByteArray} {w:World} {R:Int→Int→ByteArray→Option Addr→Nat→Nat→World→Prop} (h:ZqS sx w R):Zi1 sx w R:=ofS10 (Fm:=ZqS sx w) Tryz.func84 (by kernel_rfl) (L0 Tryz.f84) rfl (fun _=>by kernel_rfl) h
def ZiV (t:Option Addr) (namex:ByteArray) (arity:Int) (w:World) (R:Int→Int→World→Prop):Prop:=
 ZaY t w fun t15 w1=>
 If (!t15)
 (R (0:Int) (6:Int) w1)
 (If (decide (arity<(1:Int)))
 (R (0:Int) (1:Int) w1)
 (If (decide (arity>(16:Int)))
 (R (0:Int) (1:Int) w1)
 (NN t fun a=>
 ∃atoms,w1.cell? (a.add 0)=some (.pointer atoms)∧
 ZaE atoms namex w1 fun t300 t301 w1_1=>
 If (t301 != (0:Int))
 (R (0:Int) t301 w1_1)
 (New w1_1 (.cells #[.int .i64 0,.int .i64 0] 204) fun r w1_2=>
 St w1_2 (Addr.add ⟨r,0,none⟩ 0) (.int .i64 t300) fun w1_3=>
 St w1_3 (Addr.add ⟨r,0,none⟩ 1) (.int .i64 arity) fun w1_4=>
 NN t fun a_1=>
 ∃ids,(drw w1_4).cell? (a_1.add 3)=some (.map ids)∧
 ∃t440,(drw w1_4).cell? (Addr.add ⟨r,0,none⟩ 0)=some (.int .i64 t440)∧
 ∃t441,(drw w1_4).cell? (Addr.add ⟨r,0,none⟩ 1)=some (.int .i64 t441)∧
 Run Tryz.prog (Instr.lookup 191 (.map ids) (.agg #[.int .i64 t440,.int .i64 t441]) true) (drw w1_4) fun v w1_5=>∃t450:Int,∃t451:Bool,v=(.tuple #[.int .i64 t450,.bool t451])∧
 If t451
 (R t450 (0:Int) w1_5)
 (∃t510,w1_5.cell? (Addr.add ⟨r,0,none⟩ 0)=some (.int .i64 t510)∧
 ∃t511,w1_5.cell? (Addr.add ⟨r,0,none⟩ 1)=some (.int .i64 t511)∧
 ZbM t t510 t511 w1_5 fun t520 t521 w1_6=>
 R t520 t521 w1_6)))))
def Zps:Gen where
 loop:=lookL []
 plan:=fun id=>
  bif Nat.beq id 9 then some ([0,1,3,7,0,31,63,127,127,255,1023],.take 0 (.take 1 (.take 2 (.take 3 (.take 4 (.take 5 (.take 6 (.take 7 (.take 8 (.take 9 (.take 10 .done))))))))))) else none
theorem ZbJ.of {t:Option Addr} {namex:ByteArray} {arity:Int} {w:World} {R:Int→Int→World→Prop} (h:ZiV t namex arity w R):ZbJ t namex arity w R:=ofS12 (Fm:=ZiV t namex arity w) Tryz.func85 (by kernel_rfl) (L1 Zps Tryz.f85 fun _=>rfl) rfl (fun _=>by kernel_rfl) h
structure ZbQ where
 mk ::
structure ZbT where
 i:Int
def ZiO (hx_1:Option Addr) (n_1:Int) (atx:Int) (s:ZbQ) (w:World) (Kn:ZbQ→World→Prop) (Kx0:World→Prop):Prop:=
 NN hx_1 fun a_1=>
 ∃cellsP cellsN cellsC,(drw w).cell? (a_1.add 4)=some (.slice cellsP cellsN cellsC)∧
 NN hx_1 fun a_2=>
 ∃pool_1,(drw w).cell? (a_2.add 0)=some (.pointer pool_1)∧
 ZbI pool_1 (drw w) fun t30 w1_1=>
 w1_1.cell? (a_1.add 4)=(drw w).cell? (a_1.add 4)∧
 If (decide ((cellsN:Int)<t30))
 (NN hx_1 fun a_3=>
 ∃cellsP_1 cellsN_1 cellsC_1,w1_1.cell? (a_3.add 4)=some (.slice cellsP_1 cellsN_1 cellsC_1)∧
 BSl Tryz.prog 36 1 [(0,.int .u64 0)] w1_1 fun t37P t37N t37C w1_2=>
 App Tryz.prog #[36,36] 36 #[.slice cellsP_1 cellsN_1 cellsC_1,.slice t37P t37N t37C] w1_2 fun t38P t38N t38C w1_3=>
 NN hx_1 fun a_4=>
 St w1_3 ((a_4.add 4).add 0) (.slice t38P t38N t38C) fun w1_4=>
 Kn ⟨⟩ w1_4)
 (Kx0 w1_1)
def Zix (hx_1:Option Addr) (n_1:Int) (atx:Int) (s:ZbQ) (w:World) (Kx0:World→Prop):Prop:=
 LoopS (fun s w Kn=>ZiO hx_1 n_1 atx s w Kn Kx0) s w
def ZiQ (hx_2:Option Addr) (n_2:Int) (atx_1:Int) (s:ZbT) (w:World) (Kn:ZbT→World→Prop) (Kx2:World→Prop):Prop:=
 If (decide (s.i<(IntKind.i64.wrap (atx_1+n_2))))
 (NN hx_2 fun a_5=>
 ∃cellsP_2 cellsN_2 cellsC_2,(drw w).cell? (a_5.add 4)=some (.slice cellsP_2 cellsN_2 cellsC_2)∧
 Zc7 s.i (drw w) fun t55 w1_6=>
 w1_6.cell? (a_5.add 4)=(drw w).cell? (a_5.add 4)∧
 0≤s.i∧s.i<(cellsN_2:Int)∧NN cellsP_2 fun a_6=>
 St w1_6 ((a_6.add (s.i.toNat*1)).add 0) (.int .u64 t55) fun w1_7=>
 Kn ⟨(IntKind.i64.wrap (s.i+(1:Int)))⟩ w1_7)
 (Kx2 w)
def ZiH (hx_2:Option Addr) (n_2:Int) (atx_1:Int) (s:ZbT) (w:World) (Kx2:World→Prop):Prop:=
 LoopS (fun s w Kn=>ZiQ hx_2 n_2 atx_1 s w Kn Kx2) s w
def Zk5 (hx:Option Addr) (n:Int) (w:World) (R:Int→Int→World→Prop):Prop:=
 NN hx fun a=>
 ∃pool,w.cell? (a.add 0)=some (.pointer pool)∧
 Zcf pool n w fun t150 t151 w1=>
 If (t151 != (0:Int))
 (R (0:Int) t151 w1)
 (Zix hx n t150 ⟨⟩ w1
 (fun w1_5=>
 ZiH hx n t150 ⟨t150⟩ w1_5
 (fun w1_8=>
 R t150 (0:Int) w1_8)))
def ZeM (f:(Option Addr)×Int×Int) (s:ZbQ):Env:=[⟨0,.pointer f.1,none⟩,⟨1,.int .i64 f.2.1,none⟩,⟨6,.int .i64 f.2.2,none⟩]
def Zds (e:Env) (K:((Option Addr)×Int×Int)→ZbQ→Prop):Prop:=
 oP e 0 fun hx_1=>
 oI e 1 .i64 fun n_1=>
 oI e 6 .i64 fun atx=>
  K (hx_1,n_1,atx) ⟨⟩
theorem Zi8 {N:Nat} (e:Env) (a:Act) (K:((Option Addr)×Int×Int)→ZbQ→Prop) (hr:Rep N a e) (h0:Zds e K):∃f s,K f s∧Rep N a (ZeM f s):=by
 unfold Zds at h0
 obtain⟨hx_1,g0,h1⟩:=Zar h0
 obtain⟨n_1,g1,h2⟩:=Zab h1
 obtain⟨atx,g6,h3⟩:=Zab h2
 exact⟨_,_,h3,Zac hr (by simp [ZeM,g0,g1,g6])⟩
def Zka (Q:Post) (e:Env) (w:World):Prop:=
 Zds e fun f s=>Zix f.1 f.2.1 f.2.2 s w (fun w1=>Q (.exit 0) [⟨0,.pointer f.1,none⟩,⟨1,.int .i64 f.2.1,none⟩,⟨6,.int .i64 f.2.2,none⟩] w1)
def ZeS (f:(Option Addr)×Int×Int) (s:ZbT):Env:=[⟨0,.pointer f.1,none⟩,⟨1,.int .i64 f.2.1,none⟩,⟨6,.int .i64 f.2.2,none⟩,⟨8,.int .i64 s.i,none⟩]
def Zdw (e:Env) (K:((Option Addr)×Int×Int)→ZbT→Prop):Prop:=
 oP e 0 fun hx_2=>
 oI e 1 .i64 fun n_2=>
 oI e 6 .i64 fun atx_1=>
 oI e 8 .i64 fun i=>
  K (hx_2,n_2,atx_1) ⟨i⟩
theorem Zjb {N:Nat} (e:Env) (a:Act) (K:((Option Addr)×Int×Int)→ZbT→Prop) (hr:Rep N a e) (h0:Zdw e K):∃f s,K f s∧Rep N a (ZeS f s):=by
 unfold Zdw at h0
 obtain⟨hx_2,g0,h1⟩:=Zar h0
 obtain⟨n_2,g1,h2⟩:=Zab h1
 obtain⟨atx_1,g6,h3⟩:=Zab h2
 obtain⟨i,g8,h4⟩:=Zab h3
 exact⟨_,_,h4,Zac hr (by simp [ZeS,g0,g1,g6,g8])⟩
def Zkd (Q:Post) (e:Env) (w:World):Prop:=
 Zdw e fun f s=>ZiH f.1 f.2.1 f.2.2 s w (fun w1=>Q (.exit 2) [⟨6,.int .i64 f.2.2,none⟩] w1)
def Zf6:Gen where
 loop:=lookL [([false,false,true,true,true],Zka),([false,true,false,true,true,true,true],Zkd)]
 plan:=fun id=>
  bif Nat.beq id 4 then some ([0,1,3,7,15,0,32,96,224,480,1023],.take 0 (.take 1 (.take 2 (.take 3 (.take 4 (.take 5 (.take 6 (.take 7 (.take 8 (.take 9 (.take 10 .done))))))))))) else
  bif Nat.beq id 9 then some ([0,1,3,7,0,0,32,127,255],.take 0 (.take 1 (.take 2 (.take 3 (.take 4 (.take 5 (.take 6 (.take 7 (.take 8 .done))))))))) else none
def Zgi (e:Env) (K:((Option Addr)×Int×Int)→Prop):Prop:=
 oP e 0 fun hx_1=>
 oI e 1 .i64 fun n_1=>
 oI e 6 .i64 fun atx=>
  K (hx_1,n_1,atx)
theorem Zn2 (f:(Option Addr)×Int×Int) (s:ZbQ) (w:World) (Kn:((Option Addr)×Int×Int)→ZbQ→World→Prop) (Kx0:((Option Addr)×Int×Int)→World→Prop) :
  ZiO f.1 f.2.1 f.2.2 s w (fun s1 w1=>Kn f s1 w1) (fun w1=>Kx0 f w1) =
  den Tryz.prog Tryz.f86.ntmps Zf6 (sub (codeOf Tryz.f86) [false,false,false,true,true,true]) [false,false,false,true,true,true] (roundQ (fun e w=>Zds e fun f s=>Kn f s w) (fun e w=>False) (fun id e w=>match Nat.beq id 0 with | true=>Zgi e fun f=>Kx0 f w | false=>False)) (ZeM f s) w:=by kernel_rfl
def Zgd (e:Env) (K:((Option Addr)×Int×Int)→Prop):Prop:=
 oP e 0 fun hx_2=>
 oI e 1 .i64 fun n_2=>
 oI e 6 .i64 fun atx_1=>
  K (hx_2,n_2,atx_1)
theorem Zn7 (f:(Option Addr)×Int×Int) (s:ZbT) (w:World) (Kn:((Option Addr)×Int×Int)→ZbT→World→Prop) (Kx2:((Option Addr)×Int×Int)→World→Prop) :
  ZiQ f.1 f.2.1 f.2.2 s w (fun s1 w1=>Kn f s1 w1) (fun w1=>Kx2 f w1) =
  den Tryz.prog Tryz.f86.ntmps Zf6 (sub (codeOf Tryz.f86) [false,false,true,false,true,true,true,true]) [false,false,true,false,true,true,true,true] (roundQ (fun e w=>Zdw e fun f s=>Kn f s w) (fun e w=>False) (fun id e w=>match Nat.beq id 2 with | true=>Zgd e fun f=>Kx2 f w | false=>False)) (ZeS f s) w:=by kernel_rfl
theorem Zo0:OneOk Tryz.prog Tryz.f86.ntmps Zf6 (codeOf Tryz.f86) [false,false,true,true,true] Zka:=by
 intro c hc ih Q e w a hr h
 have hcc:sub (codeOf Tryz.f86) [false,false,false,true,true,true]=c:=Zaf hc
 obtain⟨f,s,h,hrep⟩:=Zi8 e a _ hr h
 obtain⟨J,μ,hj,hround⟩:=h
 refine Zad Zan Zag ih ZeM Zds Zi8 hc f J μ (Kr:=fun e w=>False) (Kx:=fun id e w=>match Nat.beq id 0 with | true=>(Zgi e fun f1=>f1=f∧Q (.exit 0) [⟨0,.pointer f.1,none⟩,⟨1,.int .i64 f.2.1,none⟩,⟨6,.int .i64 f.2.2,none⟩] w) | false=>False) ?_ ?_ ?_ s w a hj hrep
 ·intro e a w hr h
  exact h.elim
 ·intro id e a w hr h0
  (try dsimp only at h0)
  split at h0
  ·rename_i hid
   obtain rfl:=Nat.eq_of_beq_eq_true hid
   unfold Zgi at h0
   obtain⟨hx_1,g0,h1⟩:=Zar h0
   obtain⟨n_1,g1,h2⟩:=Zab h1
   obtain⟨atx,g6,h3⟩:=Zab h2
   obtain⟨hf,hq⟩:=h3
   subst hf
   exact⟨_,Zac hr (by simp [g0,g1,g6]),hq⟩
  ·exact h0.elim
 ·intro s w hj
  have hb:=hround s w hj
  rw[←hcc]
  have e1:=Zn2 f s w (fun f1 s1 w1=>f1=f∧J s1 w1∧μ s1 w1<μ s w) (fun f1 w1=>f1=f∧Q (.exit 0) [⟨0,.pointer f.1,none⟩,⟨1,.int .i64 f.2.1,none⟩,⟨6,.int .i64 f.2.2,none⟩] w1)
  simp only[true_and] at e1
  exact cast e1 hb
theorem Zo9:OneOk Tryz.prog Tryz.f86.ntmps Zf6 (codeOf Tryz.f86) [false,true,false,true,true,true,true] Zkd:=by
 intro c hc ih Q e w a hr h
 have hcc:sub (codeOf Tryz.f86) [false,false,true,false,true,true,true,true]=c:=Zaf hc
 obtain⟨f,s,h,hrep⟩:=Zjb e a _ hr h
 obtain⟨J,μ,hj,hround⟩:=h
 refine Zad Zan Zag ih ZeS Zdw Zjb hc f J μ (Kr:=fun e w=>False) (Kx:=fun id e w=>match Nat.beq id 2 with | true=>(Zgd e fun f1=>f1=f∧Q (.exit 2) [⟨6,.int .i64 f.2.2,none⟩] w) | false=>False) ?_ ?_ ?_ s w a hj hrep
 ·intro e a w hr h
  exact h.elim
 ·intro id e a w hr h0
  (try dsimp only at h0)
  split at h0
  ·rename_i hid
   obtain rfl:=Nat.eq_of_beq_eq_true hid
   unfold Zgd at h0
   obtain⟨hx_2,g0,h1⟩:=Zar h0
   obtain⟨n_2,g1,h2⟩:=Zab h1
   obtain⟨atx_1,g6,h3⟩:=Zab h2
   obtain⟨hf,hq⟩:=h3
   subst hf
   exact⟨_,Zac hr (by simp [g6]),hq⟩
  ·exact h0.elim
 ·intro s w hj
  have hb:=hround s w hj
  rw[←hcc]
  have e1:=Zn7 f s w (fun f1 s1 w1=>f1=f∧J s1 w1∧μ s1 w1<μ s w) (fun f1 w1=>f1=f∧Q (.exit 2) [⟨6,.int .i64 f.2.2,none⟩] w1)
  simp only[true_and] at e1
  exact cast e1 hb
theorem ZoZ:LoopOk Tryz.prog Tryz.f86.ntmps Zf6 (codeOf Tryz.f86):=Zal rfl ⟨Zo0,⟨Zo9,trivial⟩⟩
theorem Zce.of {hx:Option Addr} {n:Int} {w:World} {R:Int→Int→World→Prop} (h:Zk5 hx n w R):Zce hx n w R:=ofS12 (Fm:=Zk5 hx n w) Tryz.func86 (by kernel_rfl) ZoZ rfl (fun _=>by kernel_rfl) h
def Zpj (tag:Int) (n:Int) (w:World) (R:Int→World→Prop):Prop:=
 Zhe tag n w fun t100 t101 w1=>
 R t100 w1
theorem ZdJ.of {tag:Int} {n:Int} {w:World} {R:Int→World→Prop} (h:Zpj tag n w R):ZdJ tag n w R:=ofS9 (Fm:=Zpj tag n w) Tryz.func87 (by kernel_rfl) (L0 Tryz.f87) rfl (fun _=>by kernel_rfl) h
def ZhS (hx:Option Addr) (wx:Int) (i:Int) (w:World) (R:Int→Bool→World→Prop):Prop:=
 Zbr hx wx w fun t12 w1=>
 Zdv t12 (2:Int) w1 fun t14 w1_1=>
 If (!t14)
 (R (0:Int) false w1_1)
 (Zbp hx t12 w1_1 fun t190 t191 w1_2=>
 If (decide (i≥(1:Int)))
 (R t12 (decide (i≤t191)) w1_2)
 (R t12 false w1_2))
theorem Zbz.of {hx:Option Addr} {wx:Int} {i:Int} {w:World} {R:Int→Bool→World→Prop} (h:ZhS hx wx i w R):Zbz hx wx i w R:=ofS16 (Fm:=ZhS hx wx i w) Tryz.func88 (by kernel_rfl) (L0 Tryz.f88) rfl (fun _=>by kernel_rfl) h
def Zqi (atx:Int) (w:World) (R:Int→World→Prop):Prop:=
 ZdJ (1:Int) atx w fun t4 w1=>
 R t4 w1
theorem Zc7.of {atx:Int} {w:World} {R:Int→World→Prop} (h:Zqi atx w R):Zc7 atx w R:=ofS9 (Fm:=Zqi atx w) Tryz.func89 (by kernel_rfl) (L0 Tryz.f89) rfl (fun _=>by kernel_rfl) h
def ZqN (wx:Int) (i:Int) (w:World) (R:Int→World→Prop):Prop:=
 Zaz wx w fun t6 w1=>
 R (IntKind.i64.wrap (t6+i)) w1
theorem Zel.of {wx:Int} {i:Int} {w:World} {R:Int→World→Prop} (h:ZqN wx i w R):Zel wx i w R:=ofS4 (Fm:=ZqN wx i w) Tryz.func90 (by kernel_rfl) (L0 Tryz.f90) rfl (fun _=>by kernel_rfl) h
structure ZcZ where
 i:Int
def Zla (R:Bool→World→Prop) (w1_2:World):Prop:=
 R true w1_2
def Zlx (depth_1:Int) (n_1:Option Addr) (t:Addr) (s:ZcZ) (w:World) (Kn:ZcZ→World→Prop) (Kx0:World→Prop) (Kr:Bool→World→Prop):Prop:=
 ∃LP_1 LN_1 LC_1,w.cell? (t.add 3)=some (.slice LP_1 LN_1 LC_1)∧
 If (decide (s.i<(LN_1:Int)))
 (∃LP_2 LN_2 LC_2,w.cell? (t.add 3)=some (.slice LP_2 LN_2 LC_2)∧
 0≤s.i∧s.i<(LN_2:Int)∧NN LP_2 fun a_3=>
 ∃t440,w.cell? ((a_3.add (s.i.toNat*4)).add 0)=some (.int .i64 t440)∧
 ∃t441,w.cell? ((a_3.add (s.i.toNat*4)).add 1)=some (.int .i64 t441)∧
 ∃t442,w.cell? ((a_3.add (s.i.toNat*4)).add 2)=some (.string t442)∧
 ∃t443P t443N t443C,w.cell? ((a_3.add (s.i.toNat*4)).add 3)=some (.slice t443P t443N t443C)∧
 Zd1 t440 t441 t442 t443P t443N t443C (IntKind.i64.wrap (depth_1+(1:Int))) n_1 w fun t48 w1_3=>
 If t48
 (Kr true w1_3)
 (Kn ⟨(IntKind.i64.wrap (s.i+(1:Int)))⟩ w1_3))
 (Kx0 w)
def Zld (depth_1:Int) (n_1:Option Addr) (t:Addr) (s:ZcZ) (w:World) (Kx0:World→Prop) (Kr:Bool→World→Prop):Prop:=
 LoopS (fun s w Kn=>Zlx depth_1 n_1 t s w Kn Kx0 Kr) s w
def Zni (t0:Int) (t1:Int) (t2:ByteArray) (t3P:Option Addr) (t3N:Nat) (t3C:Nat) (depth:Int) (n:Option Addr) (w:World) (R:Bool→World→Prop):Prop:=
 New w (.cells #[.int .i64 t0,.int .i64 t1,.string t2,.slice t3P t3N t3C] 31) fun r w1=>
 NN n fun a=>
 ∃t11,(drw w1).cell? a=some (.int .i64 t11)∧
 ∃S,(drw w1).cell? (Addr.add ⟨r,0,none⟩ 2)=some (.string S)∧
 (16:Int)≠0∧
 NN n fun a_1=>
 St (drw w1) (a_1.add 0) (.int .i64 (IntKind.i64.wrap ((IntKind.i64.wrap (t11+(1:Int)))+(IntKind.i64.wrap ((S.size:Int).tdiv (16:Int)))))) fun w1_1=>
 NN n fun a_2=>
 ∃t21,w1_1.cell? a_2=some (.int .i64 t21)∧
 If (decide (t21>(6000:Int)))
 (Zla R w1_1)
 (If (decide (depth>(300:Int)))
 (Zla R w1_1)
 (∃LP LN LC,w1_1.cell? (Addr.add ⟨r,0,none⟩ 3)=some (.slice LP LN LC)∧
 If (decide ((LN:Int)>(100:Int)))
 (R true w1_1)
 (Zld depth n ⟨r,0,none⟩ ⟨(0:Int)⟩ w1_1
 (fun w1_4=>
 R false w1_4)
 (fun t6_1 w1_5=>
 R t6_1 w1_5))))
def ZgF (f:Int×(Option Addr)×Addr) (s:ZcZ):Env:=[⟨1,.int .i64 f.1,none⟩,⟨2,.pointer f.2.1,none⟩,⟨3,.pointer (some f.2.2),none⟩,⟨7,.int .i64 s.i,none⟩]
def Ze0 (e:Env) (K:(Int×(Option Addr)×Addr)→ZcZ→Prop):Prop:=
 oI e 1 .i64 fun depth_1=>
 oP e 2 fun n_1=>
 oA e 3 fun t=>
 oI e 7 .i64 fun i=>
  K (depth_1,n_1,t) ⟨i⟩
theorem ZkE {N:Nat} (e:Env) (a:Act) (K:(Int×(Option Addr)×Addr)→ZcZ→Prop) (hr:Rep N a e) (h0:Ze0 e K):∃f s,K f s∧Rep N a (ZgF f s):=by
 unfold Ze0 at h0
 obtain⟨depth_1,g1,h1⟩:=Zab h0
 obtain⟨n_1,g2,h2⟩:=Zar h1
 obtain⟨t,g3,h3⟩:=Zap h2
 obtain⟨i,g7,h4⟩:=Zab h3
 exact⟨_,_,h4,Zac hr (by simp [ZgF,g1,g2,g3,g7])⟩
def ZlO (Q:Post) (e:Env) (w:World):Prop:=
 Ze0 e fun f s=>Zld f.1 f.2.1 f.2.2 s w (fun w1=>Q (.exit 0) [] w1) (fun t6 w1=>Q .ret [⟨6,.bool t6,none⟩] w1)
def Znl:Gen where
 loop:=lookL [([false,true,false,true,true,true],ZlO)]
 plan:=fun id=>
  bif Nat.beq id 1 then some ([0,0,2,6,14,0,32,96,224,510,1023,2047],.take 0 (.take 1 (.take 2 (.take 3 (.take 4 (.take 5 (.take 6 (.take 7 (.take 8 (.take 9 (.take 10 (.take 11 .done)))))))))))) else none
def Zik (e:Env) (K:(Int×(Option Addr)×Addr)→Prop):Prop:=
 oI e 1 .i64 fun depth_1=>
 oP e 2 fun n_1=>
 oA e 3 fun t=>
  K (depth_1,n_1,t)
def Zhg (e:Env) (K:(Int×(Option Addr)×Addr)→Bool→Prop):Prop:=
 oI e 1 .i64 fun depth_1=>
 oP e 2 fun n_1=>
 oA e 3 fun t=>
 oB e 6 fun t6=>
  K (depth_1,n_1,t) t6
theorem Zpk (f:Int×(Option Addr)×Addr) (s:ZcZ) (w:World) (Kn:(Int×(Option Addr)×Addr)→ZcZ→World→Prop) (Kx0:(Int×(Option Addr)×Addr)→World→Prop) (Kr:(Int×(Option Addr)×Addr)→Bool→World→Prop) :
  Zlx f.1 f.2.1 f.2.2 s w (fun s1 w1=>Kn f s1 w1) (fun w1=>Kx0 f w1) (fun t6 w1=>Kr f t6 w1) =
  den Tryz.prog Tryz.f91.ntmps Znl (sub (codeOf Tryz.f91) [false,false,true,false,true,true,true]) [false,false,true,false,true,true,true] (roundQ (fun e w=>Ze0 e fun f s=>Kn f s w) (fun e w=>Zhg e fun f t6=>Kr f t6 w) (fun id e w=>match Nat.beq id 0 with | true=>Zik e fun f=>Kx0 f w | false=>False)) (ZgF f s) w:=by kernel_rfl
theorem Zqm:OneOk Tryz.prog Tryz.f91.ntmps Znl (codeOf Tryz.f91) [false,true,false,true,true,true] ZlO:=by
 intro c hc ih Q e w a hr h
 have hcc:sub (codeOf Tryz.f91) [false,false,true,false,true,true,true]=c:=Zaf hc
 obtain⟨f,s,h,hrep⟩:=ZkE e a _ hr h
 obtain⟨J,μ,hj,hround⟩:=h
 refine Zad Zan Zag ih ZgF Ze0 ZkE hc f J μ (Kr:=fun e w=>Zhg e fun f1 t6=>f1=f∧Q .ret [⟨6,.bool t6,none⟩] w) (Kx:=fun id e w=>match Nat.beq id 0 with | true=>(Zik e fun f1=>f1=f∧Q (.exit 0) [] w) | false=>False) ?_ ?_ ?_ s w a hj hrep
 ·intro e a w hr h0
  unfold Zhg at h0
  obtain⟨depth_1,g1,h1⟩:=Zab h0
  obtain⟨n_1,g2,h2⟩:=Zar h1
  obtain⟨t,g3,h3⟩:=Zap h2
  obtain⟨t6,g6,h4⟩:=Zjx h3
  obtain⟨hf,hq⟩:=h4
  subst hf
  exact⟨_,Zac hr (by simp [g6]),hq⟩
 ·intro id e a w hr h0
  (try dsimp only at h0)
  split at h0
  ·rename_i hid
   obtain rfl:=Nat.eq_of_beq_eq_true hid
   unfold Zik at h0
   obtain⟨depth_1,g1,h1⟩:=Zab h0
   obtain⟨n_1,g2,h2⟩:=Zar h1
   obtain⟨t,g3,h3⟩:=Zap h2
   obtain⟨hf,hq⟩:=h3
   subst hf
   exact⟨_,Zac hr (by simp),hq⟩
  ·exact h0.elim
 ·intro s w hj
  have hb:=hround s w hj
  rw[←hcc]
  have e1:=Zpk f s w (fun f1 s1 w1=>f1=f∧J s1 w1∧μ s1 w1<μ s w) (fun f1 w1=>f1=f∧Q (.exit 0) [] w1) (fun f1 t6 w1=>f1=f∧Q .ret [⟨6,.bool t6,none⟩] w1)
  simp only[true_and] at e1
  exact cast e1 hb
theorem Zqo:LoopOk Tryz.prog Tryz.f91.ntmps Znl (codeOf Tryz.f91):=Zal rfl ⟨Zqm,trivial⟩
theorem Zd1.of {t0:Int} {t1:Int} {t2:ByteArray} {t3P:Option Addr} {t3N:Nat} {t3C:Nat} {depth:Int} {n:Option Addr} {w:World} {R:Bool→World→Prop} (h:Zni t0 t1 t2 t3P t3N t3C depth n w R):Zd1 t0 t1 t2 t3P t3N t3C depth n w R:=ofS2 (Fm:=Zni t0 t1 t2 t3P t3N t3C depth n w) Tryz.func91 (by kernel_rfl) Zqo rfl (fun _=>by kernel_rfl) h
structure ZdB where
 i:Int
structure Zdx where
 outP_2:Option Addr
 outN_2:Nat
 outC_2:Nat
 i_1:Int
def ZlS (outP_1:Option Addr) (outN_1:Nat) (outC_1:Nat) (t:Addr) (s:ZdB) (w:World) (Kn:ZdB→World→Prop) (Kx0:World→Prop) (Kr:Option Addr→Nat→Nat→World→Prop):Prop:=
 If (decide (s.i<(outN_1:Int)))
 (0≤s.i∧s.i<(outN_1:Int)∧NN outP_1 fun a=>
 ∃t19,(drw w).cell? (a.add (s.i.toNat*1))=some (.int .i64 t19)∧
 ∃N,(drw w).cell? (t.add 1)=some (.int .i64 N)∧
 If (t19==N)
 (Kr outP_1 outN_1 outC_1 (drw w))
 (Kn ⟨(IntKind.i64.wrap (s.i+(1:Int)))⟩ (drw w)))
 (Kx0 w)
def Zl1 (outP_1:Option Addr) (outN_1:Nat) (outC_1:Nat) (t:Addr) (s:ZdB) (w:World) (Kx0:World→Prop) (Kr:Option Addr→Nat→Nat→World→Prop):Prop:=
 LoopS (fun s w Kn=>ZlS outP_1 outN_1 outC_1 t s w Kn Kx0 Kr) s w
def ZlY (t_1:Addr) (s:Zdx) (w:World) (Kn:Zdx→World→Prop) (Kx2:Option Addr→Nat→Nat→World→Prop):Prop:=
 ∃LP LN LC,w.cell? (t_1.add 3)=some (.slice LP LN LC)∧
 If (decide (s.i_1<(LN:Int)))
 (∃LP_1 LN_1 LC_1,w.cell? (t_1.add 3)=some (.slice LP_1 LN_1 LC_1)∧
 0≤s.i_1∧s.i_1<(LN_1:Int)∧NN LP_1 fun a_1=>
 ∃t400,w.cell? ((a_1.add (s.i_1.toNat*4)).add 0)=some (.int .i64 t400)∧
 ∃t401,w.cell? ((a_1.add (s.i_1.toNat*4)).add 1)=some (.int .i64 t401)∧
 ∃t402,w.cell? ((a_1.add (s.i_1.toNat*4)).add 2)=some (.string t402)∧
 ∃t403P t403N t403C,w.cell? ((a_1.add (s.i_1.toNat*4)).add 3)=some (.slice t403P t403N t403C)∧
 Zed t400 t401 t402 t403P t403N t403C s.outP_2 s.outN_2 s.outC_2 w fun t42P t42N t42C w1_5=>
 Kn ⟨t42P,t42N,t42C,(IntKind.i64.wrap (s.i_1+(1:Int)))⟩ w1_5)
 (Kx2 s.outP_2 s.outN_2 s.outC_2 w)
def Zl3 (t_1:Addr) (s:Zdx) (w:World) (Kx2:Option Addr→Nat→Nat→World→Prop):Prop:=
 LoopS (fun s w Kn=>ZlY t_1 s w Kn Kx2) s w
def ZoJ (t0:Int) (t1:Int) (t2:ByteArray) (t3P:Option Addr) (t3N:Nat) (t3C:Nat) (outP:Option Addr) (outN:Nat) (outC:Nat) (w:World) (R:Option Addr→Nat→Nat→World→Prop):Prop:=
 New w (.cells #[.int .i64 t0,.int .i64 t1,.string t2,.slice t3P t3N t3C] 31) fun r w1=>
 ∃Kind,w1.cell? (Addr.add ⟨r,0,none⟩ 0)=some (.int .i64 Kind)∧
 If (Kind==(1:Int))
 (Zl1 outP outN outC ⟨r,0,none⟩ ⟨(0:Int)⟩ w1
 (fun w1_1=>
 ∃N_1,w1_1.cell? (Addr.add ⟨r,0,none⟩ 1)=some (.int .i64 N_1)∧
 BSl Tryz.prog 55 1 [(0,.int .i64 N_1)] w1_1 fun t27P t27N t27C w1_3=>
 App Tryz.prog #[55,55] 55 #[.slice outP outN outC,.slice t27P t27N t27C] w1_3 fun t28P t28N t28C w1_4=>
 R t28P t28N t28C w1_4)
 (fun t4P_1 t4N_1 t4C_1 w1_2=>
 R t4P_1 t4N_1 t4C_1 w1_2))
 (Zl3 ⟨r,0,none⟩ ⟨outP,outN,outC,(0:Int)⟩ w1
 (fun outP_4 outN_4 outC_4 w1_6=>
 R outP_4 outN_4 outC_4 w1_6))
def Zhr (f:(Option Addr)×Nat×Nat×Addr) (s:ZdB):Env:=[⟨1,.slice f.1 f.2.1 f.2.2.1,none⟩,⟨2,.pointer (some f.2.2.2),none⟩,⟨5,.int .i64 s.i,none⟩]
def Zfp (e:Env) (K:((Option Addr)×Nat×Nat×Addr)→ZdB→Prop):Prop:=
 oS e 1 fun outP_1 outN_1 outC_1=>
 oA e 2 fun t=>
 oI e 5 .i64 fun i=>
  K (outP_1,outN_1,outC_1,t) ⟨i⟩
theorem ZlD {N:Nat} (e:Env) (a:Act) (K:((Option Addr)×Nat×Nat×Addr)→ZdB→Prop) (hr:Rep N a e) (h0:Zfp e K):∃f s,K f s∧Rep N a (Zhr f s):=by
 unfold Zfp at h0
 obtain⟨outP_1,outN_1,outC_1,g1,h1⟩:=Zae h0
 obtain⟨t,g2,h2⟩:=Zap h1
 obtain⟨i,g5,h3⟩:=Zab h2
 exact⟨_,_,h3,Zac hr (by simp [Zhr,g1,g2,g5])⟩
def Zmz (Q:Post) (e:Env) (w:World):Prop:=
 Zfp e fun f s=>Zl1 f.1 f.2.1 f.2.2.1 f.2.2.2 s w (fun w1=>Q (.exit 0) [⟨1,.slice f.1 f.2.1 f.2.2.1,none⟩,⟨2,.pointer (some f.2.2.2),none⟩] w1) (fun t4P t4N t4C w1=>Q .ret [⟨4,.slice t4P t4N t4C,none⟩] w1)
def Zhw (f:Addr) (s:Zdx):Env:=[⟨2,.pointer (some f),none⟩,⟨1,.slice s.outP_2 s.outN_2 s.outC_2,none⟩,⟨6,.int .i64 s.i_1,none⟩]
def Zft (e:Env) (K:Addr→Zdx→Prop):Prop:=
 oA e 2 fun t_1=>
 oS e 1 fun outP_2 outN_2 outC_2=>
 oI e 6 .i64 fun i_1=>
  K (t_1) ⟨outP_2,outN_2,outC_2,i_1⟩
theorem ZlF {N:Nat} (e:Env) (a:Act) (K:Addr→Zdx→Prop) (hr:Rep N a e) (h0:Zft e K):∃f s,K f s∧Rep N a (Zhw f s):=by
 unfold Zft at h0
 obtain⟨t_1,g2,h1⟩:=Zap h0
 obtain⟨outP_2,outN_2,outC_2,g1,h2⟩:=Zae h1
 obtain⟨i_1,g6,h3⟩:=Zab h2
 exact⟨_,_,h3,Zac hr (by simp [Zhw,g2,g1,g6])⟩
def Zmw (Q:Post) (e:Env) (w:World):Prop:=
 Zft e fun f s=>Zl3 f s w (fun outP_3 outN_3 outC_3 w1=>Q (.exit 2) [⟨1,.slice outP_3 outN_3 outC_3,none⟩] w1)
def ZkR:Gen where
 loop:=lookL [([false,true,false,false,true,false,true],Zmz),([false,true,false,true,true],Zmw)]
 plan:=fun id=>
  bif Nat.beq id 5 then some ([0,0,3,7,0,16,63],.take 0 (.take 1 (.take 2 (.take 3 (.take 4 (.take 5 (.take 6 .done))))))) else none
def Zji (e:Env) (K:((Option Addr)×Nat×Nat×Addr)→Prop):Prop:=
 oS e 1 fun outP_1 outN_1 outC_1=>
 oA e 2 fun t=>
  K (outP_1,outN_1,outC_1,t)
def ZhO (e:Env) (K:((Option Addr)×Nat×Nat×Addr)→Option Addr→Nat→Nat→Prop):Prop:=
 oS e 1 fun outP_1 outN_1 outC_1=>
 oA e 2 fun t=>
 oS e 4 fun t4P t4N t4C=>
  K (outP_1,outN_1,outC_1,t) t4P t4N t4C
theorem ZpV (f:(Option Addr)×Nat×Nat×Addr) (s:ZdB) (w:World) (Kn:((Option Addr)×Nat×Nat×Addr)→ZdB→World→Prop) (Kx0:((Option Addr)×Nat×Nat×Addr)→World→Prop) (Kr:((Option Addr)×Nat×Nat×Addr)→Option Addr→Nat→Nat→World→Prop) :
  ZlS f.1 f.2.1 f.2.2.1 f.2.2.2 s w (fun s1 w1=>Kn f s1 w1) (fun w1=>Kx0 f w1) (fun t4P t4N t4C w1=>Kr f t4P t4N t4C w1) =
  den Tryz.prog Tryz.f92.ntmps ZkR (sub (codeOf Tryz.f92) [false,false,true,false,false,true,false,true]) [false,false,true,false,false,true,false,true] (roundQ (fun e w=>Zfp e fun f s=>Kn f s w) (fun e w=>ZhO e fun f t4P t4N t4C=>Kr f t4P t4N t4C w) (fun id e w=>match Nat.beq id 0 with | true=>Zji e fun f=>Kx0 f w | false=>False)) (Zhr f s) w:=by kernel_rfl
def ZjP (e:Env) (K:Addr→Option Addr→Nat→Nat→Prop):Prop:=
 oA e 2 fun t_1=>
 oS e 1 fun outP_3 outN_3 outC_3=>
  K (t_1) outP_3 outN_3 outC_3
theorem Zp0 (f:Addr) (s:Zdx) (w:World) (Kn:Addr→Zdx→World→Prop) (Kx2:Addr→Option Addr→Nat→Nat→World→Prop) :
  ZlY f s w (fun s1 w1=>Kn f s1 w1) (fun outP_3 outN_3 outC_3 w1=>Kx2 f outP_3 outN_3 outC_3 w1) =
  den Tryz.prog Tryz.f92.ntmps ZkR (sub (codeOf Tryz.f92) [false,false,true,false,true,true]) [false,false,true,false,true,true] (roundQ (fun e w=>Zft e fun f s=>Kn f s w) (fun e w=>False) (fun id e w=>match Nat.beq id 2 with | true=>ZjP e fun f outP_3 outN_3 outC_3=>Kx2 f outP_3 outN_3 outC_3 w | false=>False)) (Zhw f s) w:=by kernel_rfl
theorem Zq6:OneOk Tryz.prog Tryz.f92.ntmps ZkR (codeOf Tryz.f92) [false,true,false,false,true,false,true] Zmz:=by
 intro c hc ih Q e w a hr h
 have hcc:sub (codeOf Tryz.f92) [false,false,true,false,false,true,false,true]=c:=Zaf hc
 obtain⟨f,s,h,hrep⟩:=ZlD e a _ hr h
 obtain⟨J,μ,hj,hround⟩:=h
 refine Zad Zan Zag ih Zhr Zfp ZlD hc f J μ (Kr:=fun e w=>ZhO e fun f1 t4P t4N t4C=>f1=f∧Q .ret [⟨4,.slice t4P t4N t4C,none⟩] w) (Kx:=fun id e w=>match Nat.beq id 0 with | true=>(Zji e fun f1=>f1=f∧Q (.exit 0) [⟨1,.slice f.1 f.2.1 f.2.2.1,none⟩,⟨2,.pointer (some f.2.2.2),none⟩] w) | false=>False) ?_ ?_ ?_ s w a hj hrep
 ·intro e a w hr h0
  unfold ZhO at h0
  obtain⟨outP_1,outN_1,outC_1,g1,h1⟩:=Zae h0
  obtain⟨t,g2,h2⟩:=Zap h1
  obtain⟨t4P,t4N,t4C,g4,h3⟩:=Zae h2
  obtain⟨hf,hq⟩:=h3
  subst hf
  exact⟨_,Zac hr (by simp [g4]),hq⟩
 ·intro id e a w hr h0
  (try dsimp only at h0)
  split at h0
  ·rename_i hid
   obtain rfl:=Nat.eq_of_beq_eq_true hid
   unfold Zji at h0
   obtain⟨outP_1,outN_1,outC_1,g1,h1⟩:=Zae h0
   obtain⟨t,g2,h2⟩:=Zap h1
   obtain⟨hf,hq⟩:=h2
   subst hf
   exact⟨_,Zac hr (by simp [g1,g2]),hq⟩
  ·exact h0.elim
 ·intro s w hj
  have hb:=hround s w hj
  rw[←hcc]
  have e1:=ZpV f s w (fun f1 s1 w1=>f1=f∧J s1 w1∧μ s1 w1<μ s w) (fun f1 w1=>f1=f∧Q (.exit 0) [⟨1,.slice f.1 f.2.1 f.2.2.1,none⟩,⟨2,.pointer (some f.2.2.2),none⟩] w1) (fun f1 t4P t4N t4C w1=>f1=f∧Q .ret [⟨4,.slice t4P t4N t4C,none⟩] w1)
  simp only[true_and] at e1
  exact cast e1 hb
theorem ZqX:OneOk Tryz.prog Tryz.f92.ntmps ZkR (codeOf Tryz.f92) [false,true,false,true,true] Zmw:=by
 intro c hc ih Q e w a hr h
 have hcc:sub (codeOf Tryz.f92) [false,false,true,false,true,true]=c:=Zaf hc
 obtain⟨f,s,h,hrep⟩:=ZlF e a _ hr h
 obtain⟨J,μ,hj,hround⟩:=h
 refine Zad Zan Zag ih Zhw Zft ZlF hc f J μ (Kr:=fun e w=>False) (Kx:=fun id e w=>match Nat.beq id 2 with | true=>(ZjP e fun f1 outP_3 outN_3 outC_3=>f1=f∧Q (.exit 2) [⟨1,.slice outP_3 outN_3 outC_3,none⟩] w) | false=>False) ?_ ?_ ?_ s w a hj hrep
 ·intro e a w hr h
  exact h.elim
 ·intro id e a w hr h0
  (try dsimp only at h0)
  split at h0
  ·rename_i hid
   obtain rfl:=Nat.eq_of_beq_eq_true hid
   unfold ZjP at h0
   obtain⟨t_1,g2,h1⟩:=Zap h0
   obtain⟨outP_3,outN_3,outC_3,g1,h2⟩:=Zae h1
   obtain⟨hf,hq⟩:=h2
   subst hf
   exact⟨_,Zac hr (by simp [g1]),hq⟩
  ·exact h0.elim
 ·intro s w hj
  have hb:=hround s w hj
  rw[←hcc]
  have e1:=Zp0 f s w (fun f1 s1 w1=>f1=f∧J s1 w1∧μ s1 w1<μ s w) (fun f1 outP_3 outN_3 outC_3 w1=>f1=f∧Q (.exit 2) [⟨1,.slice outP_3 outN_3 outC_3,none⟩] w1)
  simp only[true_and] at e1
  exact cast e1 hb
theorem Zq5:LoopOk Tryz.prog Tryz.f92.ntmps ZkR (codeOf Tryz.f92):=Zal rfl ⟨Zq6,⟨ZqX,trivial⟩⟩
theorem Zed.of {t0:Int} {t1:Int} {t2:ByteArray} {t3P:Option Addr} {t3N:Nat} {t3C:Nat} {outP:Option Addr} {outN:Nat} {outC:Nat} {w:World} {R:Option Addr→Nat→Nat→World→Prop} (h:ZoJ t0 t1 t2 t3P t3N t3C outP outN outC w R):Zed t0 t1 t2 t3P t3N t3C outP outN outC w R:=ofS6 (Fm:=ZoJ t0 t1 t2 t3P t3N t3C outP outN outC w) Tryz.func92 (by kernel_rfl) Zq5 rfl (fun _=>by kernel_rfl) h
def ZrJ (wx:Int) (tag:Int) (w:World) (R:Bool→World→Prop):Prop:=
 If (decide (tag>(0:Int)))
 (Zem wx w fun t9 w1=>
 R (t9==tag) w1)
 (R false w)
theorem Zdv.of {wx:Int} {tag:Int} {w:World} {R:Bool→World→Prop} (h:ZrJ wx tag w R):Zdv wx tag w R:=ofS2 (Fm:=ZrJ wx tag w) Tryz.func93 (by kernel_rfl) (L0 Tryz.f93) rfl (fun _=>by kernel_rfl) h
structure Zby where
 i:Int
def ZhM (hx_1:Option Addr) (wx_1:Int) (x_1:Int) (seen_1:Option Nat) (arity:Int) (s:Zby) (w:World) (Kn:Zby→World→Prop) (Kx1:World→Prop) (Kr:Bool→World→Prop):Prop:=
 If (decide (s.i≤arity))
 (Zel x_1 s.i w fun t45 w1_5=>
 Zc7 t45 w1_5 fun t46 w1_6=>
 Zbt hx_1 wx_1 t46 seen_1 w1_6 fun t48 w1_7=>
 If t48
 (Kr true w1_7)
 (Kn ⟨(IntKind.i64.wrap (s.i+(1:Int)))⟩ w1_7))
 (Kx1 w)
def ZhV (hx_1:Option Addr) (wx_1:Int) (x_1:Int) (seen_1:Option Nat) (arity:Int) (s:Zby) (w:World) (Kx1:World→Prop) (Kr:Bool→World→Prop):Prop:=
 LoopS (fun s w Kn=>ZhM hx_1 wx_1 x_1 seen_1 arity s w Kn Kx1 Kr) s w
def Zku (hx:Option Addr) (wx:Int) (x:Int) (seen:Option Nat) (w:World) (R:Bool→World→Prop):Prop:=
 ZaD hx x w fun t14 w1=>
 If (t14==wx)
 (R true w1)
 (Zdv t14 (2:Int) w1 fun t21 w1_1=>
 If (!t21)
 (R false w1_1)
 (Run Tryz.prog (Instr.lookup 139 (.map seen) (.int .u64 t14) false) w1_1 fun v w1_2=>∃t26:Bool,v=(.bool t26)∧
 If t26
 (R false w1_2)
 (MUp Tryz.prog 139 (.map seen) (.int .u64 t14) (.bool true) w1_2 fun w1_3=>
 Zbp hx t14 w1_3 fun t330 t331 w1_4=>
 ZhV hx wx t14 seen t331 ⟨(1:Int)⟩ w1_4
 (fun w1_8=>
 R false w1_8)
 (fun t8_1 w1_9=>
 R t8_1 w1_9))))
def Zex (f:(Option Addr)×Int×Int×(Option Nat)×Int) (s:Zby):Env:=[⟨0,.pointer f.1,none⟩,⟨1,.int .u64 f.2.1,none⟩,⟨2,.int .u64 f.2.2.1,none⟩,⟨3,.map f.2.2.2.1,none⟩,⟨10,.int .i64 f.2.2.2.2,none⟩,⟨11,.int .i64 s.i,none⟩]
def Zc6 (e:Env) (K:((Option Addr)×Int×Int×(Option Nat)×Int)→Zby→Prop):Prop:=
 oP e 0 fun hx_1=>
 oI e 1 .u64 fun wx_1=>
 oI e 2 .u64 fun x_1=>
 oM e 3 fun seen_1=>
 oI e 10 .i64 fun arity=>
 oI e 11 .i64 fun i=>
  K (hx_1,wx_1,x_1,seen_1,arity) ⟨i⟩
theorem Zh7 {N:Nat} (e:Env) (a:Act) (K:((Option Addr)×Int×Int×(Option Nat)×Int)→Zby→Prop) (hr:Rep N a e) (h0:Zc6 e K):∃f s,K f s∧Rep N a (Zex f s):=by
 unfold Zc6 at h0
 obtain⟨hx_1,g0,h1⟩:=Zar h0
 obtain⟨wx_1,g1,h2⟩:=Zab h1
 obtain⟨x_1,g2,h3⟩:=Zab h2
 obtain⟨seen_1,g3,h4⟩:=Zit h3
 obtain⟨arity,g10,h5⟩:=Zab h4
 obtain⟨i,g11,h6⟩:=Zab h5
 exact⟨_,_,h6,Zac hr (by simp [Zex,g0,g1,g2,g3,g10,g11])⟩
def ZjN (Q:Post) (e:Env) (w:World):Prop:=
 Zc6 e fun f s=>ZhV f.1 f.2.1 f.2.2.1 f.2.2.2.1 f.2.2.2.2 s w (fun w1=>Q (.exit 1) [] w1) (fun t8 w1=>Q .ret [⟨8,.bool t8,none⟩] w1)
def Zkr:Gen where
 loop:=lookL [([false,true,false,true,true,true,true,true],ZjN)]
 plan:=fun _=>none
def ZfY (e:Env) (K:((Option Addr)×Int×Int×(Option Nat)×Int)→Prop):Prop:=
 oP e 0 fun hx_1=>
 oI e 1 .u64 fun wx_1=>
 oI e 2 .u64 fun x_1=>
 oM e 3 fun seen_1=>
 oI e 10 .i64 fun arity=>
  K (hx_1,wx_1,x_1,seen_1,arity)
def Zfb (e:Env) (K:((Option Addr)×Int×Int×(Option Nat)×Int)→Bool→Prop):Prop:=
 oP e 0 fun hx_1=>
 oI e 1 .u64 fun wx_1=>
 oI e 2 .u64 fun x_1=>
 oM e 3 fun seen_1=>
 oI e 10 .i64 fun arity=>
 oB e 8 fun t8=>
  K (hx_1,wx_1,x_1,seen_1,arity) t8
theorem Znm (f:(Option Addr)×Int×Int×(Option Nat)×Int) (s:Zby) (w:World) (Kn:((Option Addr)×Int×Int×(Option Nat)×Int)→Zby→World→Prop) (Kx1:((Option Addr)×Int×Int×(Option Nat)×Int)→World→Prop) (Kr:((Option Addr)×Int×Int×(Option Nat)×Int)→Bool→World→Prop) :
  ZhM f.1 f.2.1 f.2.2.1 f.2.2.2.1 f.2.2.2.2 s w (fun s1 w1=>Kn f s1 w1) (fun w1=>Kx1 f w1) (fun t8 w1=>Kr f t8 w1) =
  den Tryz.prog Tryz.f94.ntmps Zkr (sub (codeOf Tryz.f94) [false,false,true,false,true,true,true,true,true]) [false,false,true,false,true,true,true,true,true] (roundQ (fun e w=>Zc6 e fun f s=>Kn f s w) (fun e w=>Zfb e fun f t8=>Kr f t8 w) (fun id e w=>match Nat.beq id 1 with | true=>ZfY e fun f=>Kx1 f w | false=>False)) (Zex f s) w:=by kernel_rfl
theorem ZoB:OneOk Tryz.prog Tryz.f94.ntmps Zkr (codeOf Tryz.f94) [false,true,false,true,true,true,true,true] ZjN:=by
 intro c hc ih Q e w a hr h
 have hcc:sub (codeOf Tryz.f94) [false,false,true,false,true,true,true,true,true]=c:=Zaf hc
 obtain⟨f,s,h,hrep⟩:=Zh7 e a _ hr h
 obtain⟨J,μ,hj,hround⟩:=h
 refine Zad Zan Zag ih Zex Zc6 Zh7 hc f J μ (Kr:=fun e w=>Zfb e fun f1 t8=>f1=f∧Q .ret [⟨8,.bool t8,none⟩] w) (Kx:=fun id e w=>match Nat.beq id 1 with | true=>(ZfY e fun f1=>f1=f∧Q (.exit 1) [] w) | false=>False) ?_ ?_ ?_ s w a hj hrep
 ·intro e a w hr h0
  unfold Zfb at h0
  obtain⟨hx_1,g0,h1⟩:=Zar h0
  obtain⟨wx_1,g1,h2⟩:=Zab h1
  obtain⟨x_1,g2,h3⟩:=Zab h2
  obtain⟨seen_1,g3,h4⟩:=Zit h3
  obtain⟨arity,g10,h5⟩:=Zab h4
  obtain⟨t8,g8,h6⟩:=Zjx h5
  obtain⟨hf,hq⟩:=h6
  subst hf
  exact⟨_,Zac hr (by simp [g8]),hq⟩
 ·intro id e a w hr h0
  (try dsimp only at h0)
  split at h0
  ·rename_i hid
   obtain rfl:=Nat.eq_of_beq_eq_true hid
   unfold ZfY at h0
   obtain⟨hx_1,g0,h1⟩:=Zar h0
   obtain⟨wx_1,g1,h2⟩:=Zab h1
   obtain⟨x_1,g2,h3⟩:=Zab h2
   obtain⟨seen_1,g3,h4⟩:=Zit h3
   obtain⟨arity,g10,h5⟩:=Zab h4
   obtain⟨hf,hq⟩:=h5
   subst hf
   exact⟨_,Zac hr (by simp),hq⟩
  ·exact h0.elim
 ·intro s w hj
  have hb:=hround s w hj
  rw[←hcc]
  have e1:=Znm f s w (fun f1 s1 w1=>f1=f∧J s1 w1∧μ s1 w1<μ s w) (fun f1 w1=>f1=f∧Q (.exit 1) [] w1) (fun f1 t8 w1=>f1=f∧Q .ret [⟨8,.bool t8,none⟩] w1)
  simp only[true_and] at e1
  exact cast e1 hb
theorem Zoh:LoopOk Tryz.prog Tryz.f94.ntmps Zkr (codeOf Tryz.f94):=Zal rfl ⟨ZoB,trivial⟩
theorem Zbt.of {hx:Option Addr} {wx:Int} {x:Int} {seen:Option Nat} {w:World} {R:Bool→World→Prop} (h:Zku hx wx x seen w R):Zbt hx wx x seen w R:=ofS2 (Fm:=Zku hx wx x seen w) Tryz.func94 (by kernel_rfl) Zoh rfl (fun _=>by kernel_rfl) h
def ZmG (wx:Int) (w:World) (R:Bool→World→Prop):Prop:=
 Zdv wx (1:Int) w fun t4 w1=>
 R t4 w1
theorem Zdd.of {wx:Int} {w:World} {R:Bool→World→Prop} (h:ZmG wx w R):Zdd wx w R:=ofS2 (Fm:=ZmG wx w) Tryz.func95 (by kernel_rfl) (L0 Tryz.f95) rfl (fun _=>by kernel_rfl) h
def ZfZ (hx:Option Addr) (x:Int) (R:Bool→Int→World→Prop) (t23:Int) (w1_6:World):Prop:=
 NN hx fun a_4=>
 ∃cellsP cellsN cellsC,w1_6.cell? (a_4.add 4)=some (.slice cellsP cellsN cellsC)∧
 0≤t23∧t23<(cellsN:Int)∧NN cellsP fun a_5=>
 St w1_6 ((a_5.add (t23.toNat*1)).add 0) (.int .u64 x) fun w1_7=>
 R true (0:Int) w1_7
def ZfT (hx:Option Addr) (wx:Int) (x:Int) (R:Bool→Int→World→Prop) (w1_3:World):Prop:=
 Zaz wx w1_3 fun t23 w1_4=>
 NN hx fun a=>
 ∃startsP startsN startsC,(drw w1_4).cell? (a.add 5)=some (.slice startsP startsN startsC)∧
 NN hx fun a_1=>
 ∃startsP_1 startsN_1 startsC_1,(drw w1_4).cell? (a_1.add 5)=some (.slice startsP_1 startsN_1 startsC_1)∧
 0≤(IntKind.i64.wrap ((startsN_1:Int)-(1:Int)))∧(IntKind.i64.wrap ((startsN_1:Int)-(1:Int)))<(startsN:Int)∧NN startsP fun a_2=>
 ∃t36,(drw w1_4).cell? (a_2.add ((IntKind.i64.wrap ((startsN_1:Int)-(1:Int))).toNat*1))=some (.int .i64 t36)∧
 If (decide (t23<t36))
 (NN hx fun a_3=>
 ∃trail,(drw w1_4).cell? (a_3.add 1)=some (.pointer trail)∧
 ZcO trail (IntKind.u64.wrap t23) (drw w1_4) fun t44 w1_5=>
 If (t44 != (0:Int))
 (R false t44 w1_5)
 (ZfZ hx x R t23 w1_5))
 (ZfZ hx x R t23 (drw w1_4))
def ZkV (hx:Option Addr) (wx:Int) (x:Int) (w:World) (R:Bool→Int→World→Prop):Prop:=
 If (wx==x)
 (R true (0:Int) w)
 (Zdv x (2:Int) w fun t14 w1=>
 If t14
 (New w1 (.map #[] 0) fun r w1_1=>
 Zbt hx wx x (some r) w1_1 fun t20 w1_2=>
 If t20
 (R false (0:Int) w1_2)
 (ZfT hx wx x R w1_2))
 (ZfT hx wx x R w1))
def Zrg:Gen where
 loop:=lookL []
 plan:=fun id=>
  bif Nat.beq id 6 then some ([0,0,2,6,14,0,32,96,224,480,992,2046,4094,8191],.take 0 (.take 1 (.take 2 (.take 3 (.take 4 (.take 5 (.take 6 (.take 7 (.take 8 (.take 9 (.take 10 (.take 11 (.take 12 (.take 13 .done)))))))))))))) else none
theorem ZcT.of {hx:Option Addr} {wx:Int} {x:Int} {w:World} {R:Bool→Int→World→Prop} (h:ZkV hx wx x w R):ZcT hx wx x w R:=ofS11 (Fm:=ZkV hx wx x w) Tryz.func96 (by kernel_rfl) (L1 Zrg Tryz.f96 fun _=>rfl) rfl (fun _=>by kernel_rfl) h
structure ZaP where
 i:Int
def Zjy (R:Bool→World→Prop) (w1_10:World):Prop:=
 R false w1_10
def Zf0 (m_1:Option Addr) (a_12:Int) (b_1:Int) (arity:Int) (s:ZaP) (w:World) (Kn:ZaP→World→Prop) (Kx1:World→Prop) (Kr:Bool→World→Prop):Prop:=
 If (decide (s.i≤arity))
 (Zel a_12 s.i w fun t106 w1_17=>
 Zc7 t106 w1_17 fun t107 w1_18=>
 Zel b_1 s.i w1_18 fun t110 w1_19=>
 Zc7 t110 w1_19 fun t111 w1_20=>
 ZaZ m_1 t107 t111 w1_20 fun t112 w1_21=>
 If (!t112)
 (Kr false w1_21)
 (Kn ⟨(IntKind.i64.wrap (s.i+(1:Int)))⟩ w1_21))
 (Kx1 w)
def ZfP (m_1:Option Addr) (a_12:Int) (b_1:Int) (arity:Int) (s:ZaP) (w:World) (Kx1:World→Prop) (Kr:Bool→World→Prop):Prop:=
 LoopS (fun s w Kn=>Zf0 m_1 a_12 b_1 arity s w Kn Kx1 Kr) s w
def ZhL (m:Option Addr) (a:Int) (b:Int) (w:World) (R:Bool→World→Prop):Prop:=
 NN m fun a_1=>
 ∃hx,(drw w).cell? (a_1.add 0)=some (.pointer hx)∧
 NN m fun a_2=>
 ∃hx_1,(drw w).cell? (a_2.add 0)=some (.pointer hx_1)∧
 ZaD hx a (drw w) fun t16 w1=>
 w1.cell? (a_2.add 0)=(drw w).cell? (a_2.add 0)∧
 ZaD hx_1 b w1 fun t22 w1_1=>
 If (t16==t22)
 (R true w1_1)
 (Zdd t16 w1_1 fun t29 w1_2=>
 If t29
 (ZaQ m t16 t22 w1_2 fun t33 w1_3=>
 R t33 w1_3)
 (Zdd t22 w1_2 fun t36 w1_4=>
 If t36
 (ZaQ m t22 t16 w1_4 fun t40 w1_5=>
 R t40 w1_5)
 (Zdv t16 (2:Int) (drw w1_4) fun t43 w1_6=>
 If (!t43)
 (Zjy R w1_6)
 (Zdv t22 (2:Int) w1_6 fun t47 w1_7=>
 If (!t47)
 (Zjy R w1_7)
 (NN m fun a_3=>
 ∃hx_2,w1_7.cell? (a_3.add 0)=some (.pointer hx_2)∧
 NN hx_2 fun a_4=>
 ∃cellsP cellsN cellsC,w1_7.cell? (a_4.add 4)=some (.slice cellsP cellsN cellsC)∧
 NN m fun a_5=>
 ∃hx_3,w1_7.cell? (a_5.add 0)=some (.pointer hx_3)∧
 NN hx_3 fun a_6=>
 ∃cellsP_1 cellsN_1 cellsC_1,w1_7.cell? (a_6.add 4)=some (.slice cellsP_1 cellsN_1 cellsC_1)∧
 Zaz t16 w1_7 fun t59 w1_8=>
 w1_8.cell? (a_6.add 4)=w1_7.cell? (a_6.add 4)∧
 w1_8.cell? (a_5.add 0)=w1_7.cell? (a_5.add 0)∧
 w1_8.cell? (a_4.add 4)=w1_7.cell? (a_4.add 4)∧
 w1_8.cell? (a_3.add 0)=w1_7.cell? (a_3.add 0)∧
 0≤t59∧t59<(cellsN:Int)∧NN cellsP fun a_7=>
 ∃t61,w1_8.cell? (a_7.add (t59.toNat*1))=some (.int .u64 t61)∧
 Zaz t22 w1_8 fun t70 w1_9=>
 w1_9.cell? (a_7.add (t59.toNat*1))=w1_8.cell? (a_7.add (t59.toNat*1))∧
 w1_9.cell? (a_6.add 4)=w1_7.cell? (a_6.add 4)∧
 w1_9.cell? (a_5.add 0)=w1_7.cell? (a_5.add 0)∧
 w1_9.cell? (a_4.add 4)=w1_7.cell? (a_4.add 4)∧
 w1_9.cell? (a_3.add 0)=w1_7.cell? (a_3.add 0)∧
 0≤t70∧t70<(cellsN_1:Int)∧NN cellsP_1 fun a_8=>
 ∃t72,w1_9.cell? (a_8.add (t70.toNat*1))=some (.int .u64 t72)∧
 If (t61 != t72)
 (R false w1_9)
 (New w1_9 (.cells #[.int .u64 0,.int .u64 0] 208) fun r w1_11=>
 St w1_11 (Addr.add ⟨r,0,none⟩ 0) (.int .u64 t16) fun w1_12=>
 St w1_12 (Addr.add ⟨r,0,none⟩ 1) (.int .u64 t22) fun w1_13=>
 NN m fun a_9=>
 ∃seen,(drw w1_13).cell? (a_9.add 1)=some (.map seen)∧
 ∃t820,(drw w1_13).cell? (Addr.add ⟨r,0,none⟩ 0)=some (.int .u64 t820)∧
 ∃t821,(drw w1_13).cell? (Addr.add ⟨r,0,none⟩ 1)=some (.int .u64 t821)∧
 Run Tryz.prog (Instr.lookup 141 (.map seen) (.agg #[.int .u64 t820,.int .u64 t821]) false) (drw w1_13) fun v w1_14=>∃t83:Bool,v=(.bool t83)∧
 If t83
 (R true w1_14)
 (NN m fun a_10=>
 ∃seen_1,(drw w1_14).cell? (a_10.add 1)=some (.map seen_1)∧
 ∃t880,(drw w1_14).cell? (Addr.add ⟨r,0,none⟩ 0)=some (.int .u64 t880)∧
 ∃t881,(drw w1_14).cell? (Addr.add ⟨r,0,none⟩ 1)=some (.int .u64 t881)∧
 MUp Tryz.prog 141 (.map seen_1) (.agg #[.int .u64 t880,.int .u64 t881]) (.bool true) (drw w1_14) fun w1_15=>
 NN m fun a_11=>
 ∃hx_4,w1_15.cell? (a_11.add 0)=some (.pointer hx_4)∧
 Zbp hx_4 t16 w1_15 fun t950 t951 w1_16=>
 ZfP m t16 t22 t951 ⟨(1:Int)⟩ w1_16
 (fun w1_22=>
 R true w1_22)
 (fun t6_1 w1_23=>
 R t6_1 w1_23))))))))
def Zdg (f:(Option Addr)×Int×Int×Int) (s:ZaP):Env:=[⟨0,.pointer f.1,none⟩,⟨1,.int .u64 f.2.1,none⟩,⟨2,.int .u64 f.2.2.1,none⟩,⟨9,.int .i64 f.2.2.2,none⟩,⟨10,.int .i64 s.i,none⟩]
def Zcc (e:Env) (K:((Option Addr)×Int×Int×Int)→ZaP→Prop):Prop:=
 oP e 0 fun m_1=>
 oI e 1 .u64 fun a_12=>
 oI e 2 .u64 fun b_1=>
 oI e 9 .i64 fun arity=>
 oI e 10 .i64 fun i=>
  K (m_1,a_12,b_1,arity) ⟨i⟩
theorem ZgG {N:Nat} (e:Env) (a:Act) (K:((Option Addr)×Int×Int×Int)→ZaP→Prop) (hr:Rep N a e) (h0:Zcc e K):∃f s,K f s∧Rep N a (Zdg f s):=by
 unfold Zcc at h0
 obtain⟨m_1,g0,h1⟩:=Zar h0
 obtain⟨a_12,g1,h2⟩:=Zab h1
 obtain⟨b_1,g2,h3⟩:=Zab h2
 obtain⟨arity,g9,h4⟩:=Zab h3
 obtain⟨i,g10,h5⟩:=Zab h4
 exact⟨_,_,h5,Zac hr (by simp [Zdg,g0,g1,g2,g9,g10])⟩
def Zhz (Q:Post) (e:Env) (w:World):Prop:=
 Zcc e fun f s=>ZfP f.1 f.2.1 f.2.2.1 f.2.2.2 s w (fun w1=>Q (.exit 1) [] w1) (fun t6 w1=>Q .ret [⟨6,.bool t6,none⟩] w1)
def ZhI:Gen where
 loop:=lookL [([false,true,false,true,true,true,true,true,true,true],Zhz)]
 plan:=fun id=>
  bif Nat.beq id 1 then some ([0,1,3,7,0,31,0,64,192,448,0,2047,4095,8191],.take 0 (.take 1 (.take 2 (.take 3 (.take 4 (.take 6 (.take 7 (.take 8 (.take 9 (.take 10 (.take 5 (.take 11 (.take 12 (.take 13 .done)))))))))))))) else
  bif Nat.beq id 8 then some ([0,1,3,7,15,31,63,127,255,511,1023,2047,4095,8191,16383,32767,511,66047,262143,524287,511,1049087,3146239,7340543,15729151,32506367,66060799,511,134414847,536019455,1072890367,2147483647,4294967295,8589934591],.take 0 (.take 1 (.take 2 (.take 3 (.take 4 (.take 5 (.take 6 (.take 7 (.take 8 (.take 9 (.take 10 (.take 11 (.take 12 (.take 13 (.take 14 (.take 15 (.take 16 (.take 20 (.take 21 (.take 22 (.take 23 (.take 24 (.take 25 (.take 26 (.take 27 (.take 17 (.take 18 (.take 19 (.take 28 (.take 29 (.take 30 (.take 31 (.take 32 (.take 33 .done)))))))))))))))))))))))))))))))))) else
  bif Nat.beq id 11||Nat.beq id 13 then some ([0,1,3,7,0,31],.take 0 (.take 1 (.take 2 (.take 3 (.take 4 (.take 5 .done)))))) else none
def ZeE (e:Env) (K:((Option Addr)×Int×Int×Int)→Prop):Prop:=
 oP e 0 fun m_1=>
 oI e 1 .u64 fun a_12=>
 oI e 2 .u64 fun b_1=>
 oI e 9 .i64 fun arity=>
  K (m_1,a_12,b_1,arity)
def Zd8 (e:Env) (K:((Option Addr)×Int×Int×Int)→Bool→Prop):Prop:=
 oP e 0 fun m_1=>
 oI e 1 .u64 fun a_12=>
 oI e 2 .u64 fun b_1=>
 oI e 9 .i64 fun arity=>
 oB e 6 fun t6=>
  K (m_1,a_12,b_1,arity) t6
theorem Zmt (f:(Option Addr)×Int×Int×Int) (s:ZaP) (w:World) (Kn:((Option Addr)×Int×Int×Int)→ZaP→World→Prop) (Kx1:((Option Addr)×Int×Int×Int)→World→Prop) (Kr:((Option Addr)×Int×Int×Int)→Bool→World→Prop) :
  Zf0 f.1 f.2.1 f.2.2.1 f.2.2.2 s w (fun s1 w1=>Kn f s1 w1) (fun w1=>Kx1 f w1) (fun t6 w1=>Kr f t6 w1) =
  den Tryz.prog Tryz.f97.ntmps ZhI (sub (codeOf Tryz.f97) [false,false,true,false,true,true,true,true,true,true,true]) [false,false,true,false,true,true,true,true,true,true,true] (roundQ (fun e w=>Zcc e fun f s=>Kn f s w) (fun e w=>Zd8 e fun f t6=>Kr f t6 w) (fun id e w=>match Nat.beq id 1 with | true=>ZeE e fun f=>Kx1 f w | false=>False)) (Zdg f s) w:=by kernel_rfl
theorem ZmZ:OneOk Tryz.prog Tryz.f97.ntmps ZhI (codeOf Tryz.f97) [false,true,false,true,true,true,true,true,true,true] Zhz:=by
 intro c hc ih Q e w a hr h
 have hcc:sub (codeOf Tryz.f97) [false,false,true,false,true,true,true,true,true,true,true]=c:=Zaf hc
 obtain⟨f,s,h,hrep⟩:=ZgG e a _ hr h
 obtain⟨J,μ,hj,hround⟩:=h
 refine Zad Zan Zag ih Zdg Zcc ZgG hc f J μ (Kr:=fun e w=>Zd8 e fun f1 t6=>f1=f∧Q .ret [⟨6,.bool t6,none⟩] w) (Kx:=fun id e w=>match Nat.beq id 1 with | true=>(ZeE e fun f1=>f1=f∧Q (.exit 1) [] w) | false=>False) ?_ ?_ ?_ s w a hj hrep
 ·intro e a w hr h0
  unfold Zd8 at h0
  obtain⟨m_1,g0,h1⟩:=Zar h0
  obtain⟨a_12,g1,h2⟩:=Zab h1
  obtain⟨b_1,g2,h3⟩:=Zab h2
  obtain⟨arity,g9,h4⟩:=Zab h3
  obtain⟨t6,g6,h5⟩:=Zjx h4
  obtain⟨hf,hq⟩:=h5
  subst hf
  exact⟨_,Zac hr (by simp [g6]),hq⟩
 ·intro id e a w hr h0
  (try dsimp only at h0)
  split at h0
  ·rename_i hid
   obtain rfl:=Nat.eq_of_beq_eq_true hid
   unfold ZeE at h0
   obtain⟨m_1,g0,h1⟩:=Zar h0
   obtain⟨a_12,g1,h2⟩:=Zab h1
   obtain⟨b_1,g2,h3⟩:=Zab h2
   obtain⟨arity,g9,h4⟩:=Zab h3
   obtain⟨hf,hq⟩:=h4
   subst hf
   exact⟨_,Zac hr (by simp),hq⟩
  ·exact h0.elim
 ·intro s w hj
  have hb:=hround s w hj
  rw[←hcc]
  have e1:=Zmt f s w (fun f1 s1 w1=>f1=f∧J s1 w1∧μ s1 w1<μ s w) (fun f1 w1=>f1=f∧Q (.exit 1) [] w1) (fun f1 t6 w1=>f1=f∧Q .ret [⟨6,.bool t6,none⟩] w1)
  simp only[true_and] at e1
  exact cast e1 hb
theorem Znc:LoopOk Tryz.prog Tryz.f97.ntmps ZhI (codeOf Tryz.f97):=Zal rfl ⟨ZmZ,trivial⟩
theorem ZaZ.of {m:Option Addr} {a:Int} {b:Int} {w:World} {R:Bool→World→Prop} (h:ZhL m a b w R):ZaZ m a b w R:=ofS2 (Fm:=ZhL m a b w) Tryz.func97 (by kernel_rfl) Znc rfl (fun _=>by kernel_rfl) h
end Go.Proofs.YtdaenijbokialaaGreat
