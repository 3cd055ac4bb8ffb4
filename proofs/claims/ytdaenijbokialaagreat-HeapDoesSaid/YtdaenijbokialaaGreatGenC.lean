import Derived.Test.YtdaenijbokialaaGreatDen6
import Derived.Test.YtdaenijbokialaaGreatProg
namespace Go.Proofs.YtdaenijbokialaaGreat
open Go Go.D Go.Proofs
theorem Zan:AllCallable Tryz.prog:=Zsb (by kernel_rfl)
theorem Zag:Tryz.prog.follows .mixedOrders=true:=by kernel_rfl
def ZdK (lP:Option Addr) (lN:Nat) (lC:Nat) (w:World) (R:Bool→World→Prop):Prop:=
 Calls Tryz.prog 9 #[.slice lP lN lC] w fun en w1=>∃(r:Bool),en=.returned (.bool r)∧R r w1
theorem ZdK.mono {lP:Option Addr} {lN:Nat} {lC:Nat} {w:World} {R R':Bool→World→Prop} (h:ZdK lP lN lC w R) (hr:∀r w1,R r w1→R' r w1):ZdK lP lN lC w R':=
 Calls.mono h fun _ _ ⟨r,he,h⟩=>⟨r,he,hr r _ h⟩
def ZeY (lP:Option Addr) (lN:Nat) (lC:Nat) (w:World) (R:Bool→World→Prop):Prop:=
 Calls Tryz.prog 12 #[.slice lP lN lC] w fun en w1=>∃(r:Bool),en=.returned (.bool r)∧R r w1
theorem ZeY.mono {lP:Option Addr} {lN:Nat} {lC:Nat} {w:World} {R R':Bool→World→Prop} (h:ZeY lP lN lC w R) (hr:∀r w1,R r w1→R' r w1):ZeY lP lN lC w R':=
 Calls.mono h fun _ _ ⟨r,he,h⟩=>⟨r,he,hr r _ h⟩
def Zcx  (w:World) (R:Bool→World→Prop):Prop:=
 Calls Tryz.prog 13 #[] w fun en w1=>∃(r:Bool),en=.returned (.bool r)∧R r w1
theorem Zcx.mono {w:World} {R R':Bool→World→Prop} (h:Zcx  w R) (hr:∀r w1,R r w1→R' r w1):Zcx  w R':=
 Calls.mono h fun _ _ ⟨r,he,h⟩=>⟨r,he,hr r _ h⟩
def ZeG (cells:Int) (trail:Int) (w:World) (R:Option Addr→Int→World→Prop):Prop:=
 Calls Tryz.prog 14 #[.int .i64 cells,.int .i64 trail] w fun en w1=>∃(r0:Option Addr) (r1:Int),en=.returned (.tuple #[.pointer r0,.int .i64 r1])∧R r0 r1 w1
theorem ZeG.mono {cells:Int} {trail:Int} {w:World} {R R':Option Addr→Int→World→Prop} (h:ZeG cells trail w R) (hr:∀r0 r1 w1,R r0 r1 w1→R' r0 r1 w1):ZeG cells trail w R':=
 Calls.mono h fun _ _ ⟨r0,r1,he,h⟩=>⟨r0,r1,he,hr r0 r1 _ h⟩
def ZeN (t0:Int) (t1:Int) (t2:ByteArray) (t3P:Option Addr) (t3N:Nat) (t3C:Nat) (w:World) (R:Int→World→Prop):Prop:=
 Calls Tryz.prog 15 #[.agg #[.int .i64 t0,.int .i64 t1,.string t2,.slice t3P t3N t3C]] w fun en w1=>∃(r:Int),en=.returned (.int .i64 r)∧R r w1
theorem ZeN.mono {t0:Int} {t1:Int} {t2:ByteArray} {t3P:Option Addr} {t3N:Nat} {t3C:Nat} {w:World} {R R':Int→World→Prop} (h:ZeN t0 t1 t2 t3P t3N t3C w R) (hr:∀r w1,R r w1→R' r w1):ZeN t0 t1 t2 t3P t3N t3C w R':=
 Calls.mono h fun _ _ ⟨r,he,h⟩=>⟨r,he,hr r _ h⟩
def Za9 (hx:Option Addr) (t0:Int) (t1:Int) (t2:ByteArray) (t3P:Option Addr) (t3N:Nat) (t3C:Nat) (vars:Option Nat) (w:World) (R:Int→Int→World→Prop):Prop:=
 Calls Tryz.prog 16 #[.pointer hx,.agg #[.int .i64 t0,.int .i64 t1,.string t2,.slice t3P t3N t3C],.map vars] w fun en w1=>∃(r0:Int) (r1:Int),en=.returned (.tuple #[.int .u64 r0,.int .i64 r1])∧R r0 r1 w1
theorem Za9.mono {hx:Option Addr} {t0:Int} {t1:Int} {t2:ByteArray} {t3P:Option Addr} {t3N:Nat} {t3C:Nat} {vars:Option Nat} {w:World} {R R':Int→Int→World→Prop} (h:Za9 hx t0 t1 t2 t3P t3N t3C vars w R) (hr:∀r0 r1 w1,R r0 r1 w1→R' r0 r1 w1):Za9 hx t0 t1 t2 t3P t3N t3C vars w R':=
 Calls.mono h fun _ _ ⟨r0,r1,he,h⟩=>⟨r0,r1,he,hr r0 r1 _ h⟩
def Zef (hx:Option Addr) (lP:Option Addr) (lN:Nat) (lC:Nat) (vars:Option Nat) (w:World) (R:Option Addr→Nat→Nat→World→Prop):Prop:=
 Calls Tryz.prog 17 #[.pointer hx,.slice lP lN lC,.map vars] w fun en w1=>∃(rP:Option Addr) (rN:Nat) (rC:Nat),en=.returned (.slice rP rN rC)∧R rP rN rC w1
theorem Zef.mono {hx:Option Addr} {lP:Option Addr} {lN:Nat} {lC:Nat} {vars:Option Nat} {w:World} {R R':Option Addr→Nat→Nat→World→Prop} (h:Zef hx lP lN lC vars w R) (hr:∀rP rN rC w1,R rP rN rC w1→R' rP rN rC w1):Zef hx lP lN lC vars w R':=
 Calls.mono h fun _ _ ⟨rP,rN,rC,he,h⟩=>⟨rP,rN,rC,he,hr rP rN rC _ h⟩
def Za5 (hx:Option Addr) (lP:Option Addr) (lN:Nat) (lC:Nat) (w:World) (R:Option Addr→Nat→Nat→Option Addr→Nat→Nat→Int→World→Prop):Prop:=
 Calls Tryz.prog 18 #[.pointer hx,.slice lP lN lC] w fun en w1=>∃(r0P:Option Addr) (r0N:Nat) (r0C:Nat) (r1P:Option Addr) (r1N:Nat) (r1C:Nat) (r2:Int),en=.returned (.tuple #[.slice r0P r0N r0C,.slice r1P r1N r1C,.int .i64 r2])∧R r0P r0N r0C r1P r1N r1C r2 w1
theorem Za5.mono {hx:Option Addr} {lP:Option Addr} {lN:Nat} {lC:Nat} {w:World} {R R':Option Addr→Nat→Nat→Option Addr→Nat→Nat→Int→World→Prop} (h:Za5 hx lP lN lC w R) (hr:∀r0P r0N r0C r1P r1N r1C r2 w1,R r0P r0N r0C r1P r1N r1C r2 w1→R' r0P r0N r0C r1P r1N r1C r2 w1):Za5 hx lP lN lC w R':=
 Calls.mono h fun _ _ ⟨r0P,r0N,r0C,r1P,r1N,r1C,r2,he,h⟩=>⟨r0P,r0N,r0C,r1P,r1N,r1C,r2,he,hr r0P r0N r0C r1P r1N r1C r2 _ h⟩
def Zdq (lP:Option Addr) (lN:Nat) (lC:Nat) (w:World) (R:Option Addr→Nat→Nat→World→Prop):Prop:=
 Calls Tryz.prog 19 #[.slice lP lN lC] w fun en w1=>∃(rP:Option Addr) (rN:Nat) (rC:Nat),en=.returned (.slice rP rN rC)∧R rP rN rC w1
theorem Zdq.mono {lP:Option Addr} {lN:Nat} {lC:Nat} {w:World} {R R':Option Addr→Nat→Nat→World→Prop} (h:Zdq lP lN lC w R) (hr:∀rP rN rC w1,R rP rN rC w1→R' rP rN rC w1):Zdq lP lN lC w R':=
 Calls.mono h fun _ _ ⟨rP,rN,rC,he,h⟩=>⟨rP,rN,rC,he,hr rP rN rC _ h⟩
def ZfI (aP:Option Addr) (aN:Nat) (aC:Nat) (bP:Option Addr) (bN:Nat) (bC:Nat) (w:World) (R:Bool→World→Prop):Prop:=
 Calls Tryz.prog 20 #[.slice aP aN aC,.slice bP bN bC] w fun en w1=>∃(r:Bool),en=.returned (.bool r)∧R r w1
theorem ZfI.mono {aP:Option Addr} {aN:Nat} {aC:Nat} {bP:Option Addr} {bN:Nat} {bC:Nat} {w:World} {R R':Bool→World→Prop} (h:ZfI aP aN aC bP bN bC w R) (hr:∀r w1,R r w1→R' r w1):ZfI aP aN aC bP bN bC w R':=
 Calls.mono h fun _ _ ⟨r,he,h⟩=>⟨r,he,hr r _ h⟩
def Zej (hx:Option Addr) (wx:Int) (namex:ByteArray) (arity:Int) (w:World) (R:Bool→World→Prop):Prop:=
 Calls Tryz.prog 23 #[.pointer hx,.int .u64 wx,.string namex,.int .i64 arity] w fun en w1=>∃(r:Bool),en=.returned (.bool r)∧R r w1
theorem Zej.mono {hx:Option Addr} {wx:Int} {namex:ByteArray} {arity:Int} {w:World} {R R':Bool→World→Prop} (h:Zej hx wx namex arity w R) (hr:∀r w1,R r w1→R' r w1):Zej hx wx namex arity w R':=
 Calls.mono h fun _ _ ⟨r,he,h⟩=>⟨r,he,hr r _ h⟩
def Zbr (hx:Option Addr) (wx:Int) (w:World) (R:Int→World→Prop):Prop:=
 Calls Tryz.prog 24 #[.pointer hx,.int .u64 wx] w fun en w1=>∃(r:Int),en=.returned (.int .u64 r)∧R r w1
theorem Zbr.mono {hx:Option Addr} {wx:Int} {w:World} {R R':Int→World→Prop} (h:Zbr hx wx w R) (hr:∀r w1,R r w1→R' r w1):Zbr hx wx w R':=
 Calls.mono h fun _ _ ⟨r,he,h⟩=>⟨r,he,hr r _ h⟩
def Zhf (lP:Option Addr) (lN:Nat) (lC:Nat) (w:World) (R:Bool→World→Prop):Prop:=
 Calls Tryz.prog 25 #[.slice lP lN lC] w fun en w1=>∃(r:Bool),en=.returned (.bool r)∧R r w1
theorem Zhf.mono {lP:Option Addr} {lN:Nat} {lC:Nat} {w:World} {R R':Bool→World→Prop} (h:Zhf lP lN lC w R) (hr:∀r w1,R r w1→R' r w1):Zhf lP lN lC w R':=
 Calls.mono h fun _ _ ⟨r,he,h⟩=>⟨r,he,hr r _ h⟩
def Zee (sx:ByteArray) (lP:Option Addr) (lN:Nat) (lC:Nat) (w:World) (R:Int→Int→ByteArray→Option Addr→Nat→Nat→World→Prop):Prop:=
 Calls Tryz.prog 26 #[.string sx,.slice lP lN lC] w fun en w1=>∃(r0:Int) (r1:Int) (r2:ByteArray) (r3P:Option Addr) (r3N:Nat) (r3C:Nat),en=.returned (.agg #[.int .i64 r0,.int .i64 r1,.string r2,.slice r3P r3N r3C])∧R r0 r1 r2 r3P r3N r3C w1
theorem Zee.mono {sx:ByteArray} {lP:Option Addr} {lN:Nat} {lC:Nat} {w:World} {R R':Int→Int→ByteArray→Option Addr→Nat→Nat→World→Prop} (h:Zee sx lP lN lC w R) (hr:∀r0 r1 r2 r3P r3N r3C w1,R r0 r1 r2 r3P r3N r3C w1→R' r0 r1 r2 r3P r3N r3C w1):Zee sx lP lN lC w R':=
 Calls.mono h fun _ _ ⟨r0,r1,r2,r3P,r3N,r3C,he,h⟩=>⟨r0,r1,r2,r3P,r3N,r3C,he,hr r0 r1 r2 r3P r3N r3C _ h⟩
def ZbE (hx:Option Addr) (namex:ByteArray) (arity:Int) (w:World) (R:Int→Int→World→Prop):Prop:=
 Calls Tryz.prog 27 #[.pointer hx,.string namex,.int .i64 arity] w fun en w1=>∃(r0:Int) (r1:Int),en=.returned (.tuple #[.int .u64 r0,.int .i64 r1])∧R r0 r1 w1
theorem ZbE.mono {hx:Option Addr} {namex:ByteArray} {arity:Int} {w:World} {R R':Int→Int→World→Prop} (h:ZbE hx namex arity w R) (hr:∀r0 r1 w1,R r0 r1 w1→R' r0 r1 w1):ZbE hx namex arity w R':=
 Calls.mono h fun _ _ ⟨r0,r1,he,h⟩=>⟨r0,r1,he,hr r0 r1 _ h⟩
def Zdt (hx:Option Addr) (wx:Int) (i:Int) (w:World) (R:Int→Int→World→Prop):Prop:=
 Calls Tryz.prog 28 #[.pointer hx,.int .u64 wx,.int .i64 i] w fun en w1=>∃(r0:Int) (r1:Int),en=.returned (.tuple #[.int .u64 r0,.int .i64 r1])∧R r0 r1 w1
theorem Zdt.mono {hx:Option Addr} {wx:Int} {i:Int} {w:World} {R R':Int→Int→World→Prop} (h:Zdt hx wx i w R) (hr:∀r0 r1 w1,R r0 r1 w1→R' r0 r1 w1):Zdt hx wx i w R':=
 Calls.mono h fun _ _ ⟨r0,r1,he,h⟩=>⟨r0,r1,he,hr r0 r1 _ h⟩
def ZeK (t0:Int) (t1:Int) (t2:ByteArray) (t3P:Option Addr) (t3N:Nat) (t3C:Nat) (w:World) (R:Bool→World→Prop):Prop:=
 Calls Tryz.prog 30 #[.agg #[.int .i64 t0,.int .i64 t1,.string t2,.slice t3P t3N t3C]] w fun en w1=>∃(r:Bool),en=.returned (.bool r)∧R r w1
theorem ZeK.mono {t0:Int} {t1:Int} {t2:ByteArray} {t3P:Option Addr} {t3N:Nat} {t3C:Nat} {w:World} {R R':Bool→World→Prop} (h:ZeK t0 t1 t2 t3P t3N t3C w R) (hr:∀r w1,R r w1→R' r w1):ZeK t0 t1 t2 t3P t3N t3C w R':=
 Calls.mono h fun _ _ ⟨r,he,h⟩=>⟨r,he,hr r _ h⟩
def ZdM (n:Int) (w:World) (R:Int→Int→ByteArray→Option Addr→Nat→Nat→World→Prop):Prop:=
 Calls Tryz.prog 31 #[.int .i64 n] w fun en w1=>∃(r0:Int) (r1:Int) (r2:ByteArray) (r3P:Option Addr) (r3N:Nat) (r3C:Nat),en=.returned (.agg #[.int .i64 r0,.int .i64 r1,.string r2,.slice r3P r3N r3C])∧R r0 r1 r2 r3P r3N r3C w1
theorem ZdM.mono {n:Int} {w:World} {R R':Int→Int→ByteArray→Option Addr→Nat→Nat→World→Prop} (h:ZdM n w R) (hr:∀r0 r1 r2 r3P r3N r3C w1,R r0 r1 r2 r3P r3N r3C w1→R' r0 r1 r2 r3P r3N r3C w1):ZdM n w R':=
 Calls.mono h fun _ _ ⟨r0,r1,r2,r3P,r3N,r3C,he,h⟩=>⟨r0,r1,r2,r3P,r3N,r3C,he,hr r0 r1 r2 r3P r3N r3C _ h⟩
def ZfH (t0:Int) (t1:Int) (t2:ByteArray) (t3P:Option Addr) (t3N:Nat) (t3C:Nat) (w:World) (R:Option Addr→Nat→Nat→World→Prop):Prop:=
 Calls Tryz.prog 32 #[.agg #[.int .i64 t0,.int .i64 t1,.string t2,.slice t3P t3N t3C]] w fun en w1=>∃(rP:Option Addr) (rN:Nat) (rC:Nat),en=.returned (.slice rP rN rC)∧R rP rN rC w1
theorem ZfH.mono {t0:Int} {t1:Int} {t2:ByteArray} {t3P:Option Addr} {t3N:Nat} {t3C:Nat} {w:World} {R R':Option Addr→Nat→Nat→World→Prop} (h:ZfH t0 t1 t2 t3P t3N t3C w R) (hr:∀rP rN rC w1,R rP rN rC w1→R' rP rN rC w1):ZfH t0 t1 t2 t3P t3N t3C w R':=
 Calls.mono h fun _ _ ⟨rP,rN,rC,he,h⟩=>⟨rP,rN,rC,he,hr rP rN rC _ h⟩
def ZaB (hx:Option Addr) (a:Int) (b:Int) (w:World) (R:Bool→Int→World→Prop):Prop:=
 Calls Tryz.prog 35 #[.pointer hx,.int .u64 a,.int .u64 b] w fun en w1=>∃(r0:Bool) (r1:Int),en=.returned (.tuple #[.bool r0,.int .i64 r1])∧R r0 r1 w1
theorem ZaB.mono {hx:Option Addr} {a:Int} {b:Int} {w:World} {R R':Bool→Int→World→Prop} (h:ZaB hx a b w R) (hr:∀r0 r1 w1,R r0 r1 w1→R' r0 r1 w1):ZaB hx a b w R':=
 Calls.mono h fun _ _ ⟨r0,r1,he,h⟩=>⟨r0,r1,he,hr r0 r1 _ h⟩
def ZcP (hx:Option Addr) (atx:Int) (w:World) (R:Int→World→Prop):Prop:=
 Calls Tryz.prog 36 #[.pointer hx,.int .i64 atx] w fun en w1=>∃(r:Int),en=.returned (.int .u64 r)∧R r w1
theorem ZcP.mono {hx:Option Addr} {atx:Int} {w:World} {R R':Int→World→Prop} (h:ZcP hx atx w R) (hr:∀r w1,R r w1→R' r w1):ZcP hx atx w R':=
 Calls.mono h fun _ _ ⟨r,he,h⟩=>⟨r,he,hr r _ h⟩
def Zbq (hx:Option Addr) (w:World) (R:Int→Int→World→Prop):Prop:=
 Calls Tryz.prog 37 #[.pointer hx] w fun en w1=>∃(r0:Int) (r1:Int),en=.returned (.tuple #[.int .i64 r0,.int .i64 r1])∧R r0 r1 w1
theorem Zbq.mono {hx:Option Addr} {w:World} {R R':Int→Int→World→Prop} (h:Zbq hx w R) (hr:∀r0 r1 w1,R r0 r1 w1→R' r0 r1 w1):Zbq hx w R':=
 Calls.mono h fun _ _ ⟨r0,r1,he,h⟩=>⟨r0,r1,he,hr r0 r1 _ h⟩
def ZbU (hx:Option Addr) (w:World) (R:Int→World→Prop):Prop:=
 Calls Tryz.prog 39 #[.pointer hx] w fun en w1=>∃(r:Int),en=.returned (.int .i64 r)∧R r w1
theorem ZbU.mono {hx:Option Addr} {w:World} {R R':Int→World→Prop} (h:ZbU hx w R) (hr:∀r w1,R r w1→R' r w1):ZbU hx w R':=
 Calls.mono h fun _ _ ⟨r,he,h⟩=>⟨r,he,hr r _ h⟩
def ZcQ (hx:Option Addr) (w:World) (R:Option Addr→World→Prop):Prop:=
 Calls Tryz.prog 40 #[.pointer hx] w fun en w1=>∃(r:Option Addr),en=.returned (.pointer r)∧R r w1
theorem ZcQ.mono {hx:Option Addr} {w:World} {R R':Option Addr→World→Prop} (h:ZcQ hx w R) (hr:∀r w1,R r w1→R' r w1):ZcQ hx w R':=
 Calls.mono h fun _ _ ⟨r,he,h⟩=>⟨r,he,hr r _ h⟩
def ZbI (p:Option Addr) (w:World) (R:Int→World→Prop):Prop:=
 Calls Tryz.prog 41 #[.pointer p] w fun en w1=>∃(r:Int),en=.returned (.int .i64 r)∧R r w1
theorem ZbI.mono {p:Option Addr} {w:World} {R R':Int→World→Prop} (h:ZbI p w R) (hr:∀r w1,R r w1→R' r w1):ZbI p w R':=
 Calls.mono h fun _ _ ⟨r,he,h⟩=>⟨r,he,hr r _ h⟩
def Zdh (hx:Option Addr) (w:World) (R:Int→Int→World→Prop):Prop:=
 Calls Tryz.prog 42 #[.pointer hx] w fun en w1=>∃(r0:Int) (r1:Int),en=.returned (.tuple #[.int .u64 r0,.int .i64 r1])∧R r0 r1 w1
theorem Zdh.mono {hx:Option Addr} {w:World} {R R':Int→Int→World→Prop} (h:Zdh hx w R) (hr:∀r0 r1 w1,R r0 r1 w1→R' r0 r1 w1):Zdh hx w R':=
 Calls.mono h fun _ _ ⟨r0,r1,he,h⟩=>⟨r0,r1,he,hr r0 r1 _ h⟩
def Zdf (lP:Option Addr) (lN:Nat) (lC:Nat) (w:World) (R:Option Addr→Nat→Nat→World→Prop):Prop:=
 Calls Tryz.prog 43 #[.slice lP lN lC] w fun en w1=>∃(rP:Option Addr) (rN:Nat) (rC:Nat),en=.returned (.slice rP rN rC)∧R rP rN rC w1
theorem Zdf.mono {lP:Option Addr} {lN:Nat} {lC:Nat} {w:World} {R R':Option Addr→Nat→Nat→World→Prop} (h:Zdf lP lN lC w R) (hr:∀rP rN rC w1,R rP rN rC w1→R' rP rN rC w1):Zdf lP lN lC w R':=
 Calls.mono h fun _ _ ⟨rP,rN,rC,he,h⟩=>⟨rP,rN,rC,he,hr rP rN rC _ h⟩
def ZgI  (w:World) (R:Option Addr→World→Prop):Prop:=
 Calls Tryz.prog 44 #[] w fun en w1=>∃(r:Option Addr),en=.returned (.pointer r)∧R r w1
theorem ZgI.mono {w:World} {R R':Option Addr→World→Prop} (h:ZgI  w R) (hr:∀r w1,R r w1→R' r w1):ZgI  w R':=
 Calls.mono h fun _ _ ⟨r,he,h⟩=>⟨r,he,hr r _ h⟩
def ZbD (wx:Option Addr) (w:World) (R:World→Prop):Prop:=
 Calls Tryz.prog 45 #[.pointer wx] w fun en w1=>en=.returned (.tuple #[])∧R w1
theorem ZbD.mono {wx:Option Addr} {w:World} {R R':World→Prop} (h:ZbD wx w R) (hr:∀w1,R w1→R' w1):ZbD wx w R':=
 Calls.mono h fun _ _ ⟨he,h⟩=>⟨he,hr _ h⟩
def Za4 (hx:Option Addr) (w:World) (R:Int→World→Prop):Prop:=
 Calls Tryz.prog 46 #[.pointer hx] w fun en w1=>∃(r:Int),en=.returned (.int .i64 r)∧R r w1
theorem Za4.mono {hx:Option Addr} {w:World} {R R':Int→World→Prop} (h:Za4 hx w R) (hr:∀r w1,R r w1→R' r w1):Za4 hx w R':=
 Calls.mono h fun _ _ ⟨r,he,h⟩=>⟨r,he,hr r _ h⟩
def ZaR (sx:Option Addr) (a0:Int) (a1:Int) (a2:ByteArray) (a3P:Option Addr) (a3N:Nat) (a3C:Nat) (b0:Int) (b1:Int) (b2:ByteArray) (b3P:Option Addr) (b3N:Nat) (b3C:Nat) (w:World) (R:Bool→World→Prop):Prop:=
 Calls Tryz.prog 47 #[.pointer sx,.agg #[.int .i64 a0,.int .i64 a1,.string a2,.slice a3P a3N a3C],.agg #[.int .i64 b0,.int .i64 b1,.string b2,.slice b3P b3N b3C]] w fun en w1=>∃(r:Bool),en=.returned (.bool r)∧R r w1
theorem ZaR.mono {sx:Option Addr} {a0:Int} {a1:Int} {a2:ByteArray} {a3P:Option Addr} {a3N:Nat} {a3C:Nat} {b0:Int} {b1:Int} {b2:ByteArray} {b3P:Option Addr} {b3N:Nat} {b3C:Nat} {w:World} {R R':Bool→World→Prop} (h:ZaR sx a0 a1 a2 a3P a3N a3C b0 b1 b2 b3P b3N b3C w R) (hr:∀r w1,R r w1→R' r w1):ZaR sx a0 a1 a2 a3P a3N a3C b0 b1 b2 b3P b3N b3C w R':=
 Calls.mono h fun _ _ ⟨r,he,h⟩=>⟨r,he,hr r _ h⟩
def Zb6 (wx:Option Addr) (w:World) (R:World→Prop):Prop:=
 Calls Tryz.prog 48 #[.pointer wx] w fun en w1=>en=.returned (.tuple #[])∧R w1
theorem Zb6.mono {wx:Option Addr} {w:World} {R R':World→Prop} (h:Zb6 wx w R) (hr:∀w1,R w1→R' w1):Zb6 wx w R':=
 Calls.mono h fun _ _ ⟨he,h⟩=>⟨he,hr _ h⟩
def ZbH (wx:Option Addr) (w:World) (R:Bool→World→Prop):Prop:=
 Calls Tryz.prog 49 #[.pointer wx] w fun en w1=>∃(r:Bool),en=.returned (.bool r)∧R r w1
theorem ZbH.mono {wx:Option Addr} {w:World} {R R':Bool→World→Prop} (h:ZbH wx w R) (hr:∀r w1,R r w1→R' r w1):ZbH wx w R':=
 Calls.mono h fun _ _ ⟨r,he,h⟩=>⟨r,he,hr r _ h⟩
def Zb4 (wx:Option Addr) (lP:Option Addr) (lN:Nat) (lC:Nat) (w:World) (R:Option Addr→Nat→Nat→Int→World→Prop):Prop:=
 Calls Tryz.prog 50 #[.pointer wx,.slice lP lN lC] w fun en w1=>∃(r0P:Option Addr) (r0N:Nat) (r0C:Nat) (r1:Int),en=.returned (.tuple #[.slice r0P r0N r0C,.int .i64 r1])∧R r0P r0N r0C r1 w1
theorem Zb4.mono {wx:Option Addr} {lP:Option Addr} {lN:Nat} {lC:Nat} {w:World} {R R':Option Addr→Nat→Nat→Int→World→Prop} (h:Zb4 wx lP lN lC w R) (hr:∀r0P r0N r0C r1 w1,R r0P r0N r0C r1 w1→R' r0P r0N r0C r1 w1):Zb4 wx lP lN lC w R':=
 Calls.mono h fun _ _ ⟨r0P,r0N,r0C,r1,he,h⟩=>⟨r0P,r0N,r0C,r1,he,hr r0P r0N r0C r1 _ h⟩
def ZcN (hx:Option Addr) (namex:ByteArray) (w:World) (R:Int→Int→World→Prop):Prop:=
 Calls Tryz.prog 51 #[.pointer hx,.string namex] w fun en w1=>∃(r0:Int) (r1:Int),en=.returned (.tuple #[.int .u64 r0,.int .i64 r1])∧R r0 r1 w1
theorem ZcN.mono {hx:Option Addr} {namex:ByteArray} {w:World} {R R':Int→Int→World→Prop} (h:ZcN hx namex w R) (hr:∀r0 r1 w1,R r0 r1 w1→R' r0 r1 w1):ZcN hx namex w R':=
 Calls.mono h fun _ _ ⟨r0,r1,he,h⟩=>⟨r0,r1,he,hr r0 r1 _ h⟩
def Zdj (hx:Option Addr) (n:Int) (w:World) (R:Int→Int→World→Prop):Prop:=
 Calls Tryz.prog 52 #[.pointer hx,.int .i64 n] w fun en w1=>∃(r0:Int) (r1:Int),en=.returned (.tuple #[.int .u64 r0,.int .i64 r1])∧R r0 r1 w1
theorem Zdj.mono {hx:Option Addr} {n:Int} {w:World} {R R':Int→Int→World→Prop} (h:Zdj hx n w R) (hr:∀r0 r1 w1,R r0 r1 w1→R' r0 r1 w1):Zdj hx n w R':=
 Calls.mono h fun _ _ ⟨r0,r1,he,h⟩=>⟨r0,r1,he,hr r0 r1 _ h⟩
def ZcU (hx:Option Addr) (mark:Int) (w:World) (R:Int→World→Prop):Prop:=
 Calls Tryz.prog 53 #[.pointer hx,.int .i64 mark] w fun en w1=>∃(r:Int),en=.returned (.int .i64 r)∧R r w1
theorem ZcU.mono {hx:Option Addr} {mark:Int} {w:World} {R R':Int→World→Prop} (h:ZcU hx mark w R) (hr:∀r w1,R r w1→R' r w1):ZcU hx mark w R':=
 Calls.mono h fun _ _ ⟨r,he,h⟩=>⟨r,he,hr r _ h⟩
def Zcr (hx:Option Addr) (w:World) (R:Option Addr→World→Prop):Prop:=
 Calls Tryz.prog 54 #[.pointer hx] w fun en w1=>∃(r:Option Addr),en=.returned (.pointer r)∧R r w1
theorem Zcr.mono {hx:Option Addr} {w:World} {R R':Option Addr→World→Prop} (h:Zcr hx w R) (hr:∀r w1,R r w1→R' r w1):Zcr hx w R':=
 Calls.mono h fun _ _ ⟨r,he,h⟩=>⟨r,he,hr r _ h⟩
def Zcl (hx:Option Addr) (w:World) (R:Option Addr→World→Prop):Prop:=
 Calls Tryz.prog 55 #[.pointer hx] w fun en w1=>∃(r:Option Addr),en=.returned (.pointer r)∧R r w1
theorem Zcl.mono {hx:Option Addr} {w:World} {R R':Option Addr→World→Prop} (h:Zcl hx w R) (hr:∀r w1,R r w1→R' r w1):Zcl hx w R':=
 Calls.mono h fun _ _ ⟨r,he,h⟩=>⟨r,he,hr r _ h⟩
def Zbu (hx:Option Addr) (w:World) (R:Option Addr→World→Prop):Prop:=
 Calls Tryz.prog 56 #[.pointer hx] w fun en w1=>∃(r:Option Addr),en=.returned (.pointer r)∧R r w1
theorem Zbu.mono {hx:Option Addr} {w:World} {R R':Option Addr→World→Prop} (h:Zbu hx w R) (hr:∀r w1,R r w1→R' r w1):Zbu hx w R':=
 Calls.mono h fun _ _ ⟨r,he,h⟩=>⟨r,he,hr r _ h⟩
def ZgN (aP:Option Addr) (aN:Nat) (aC:Nat) (bP:Option Addr) (bN:Nat) (bC:Nat) (w:World) (R:Bool→World→Prop):Prop:=
 Calls Tryz.prog 61 #[.slice aP aN aC,.slice bP bN bC] w fun en w1=>∃(r:Bool),en=.returned (.bool r)∧R r w1
theorem ZgN.mono {aP:Option Addr} {aN:Nat} {aC:Nat} {bP:Option Addr} {bN:Nat} {bC:Nat} {w:World} {R R':Bool→World→Prop} (h:ZgN aP aN aC bP bN bC w R) (hr:∀r w1,R r w1→R' r w1):ZgN aP aN aC bP bN bC w R':=
 Calls.mono h fun _ _ ⟨r,he,h⟩=>⟨r,he,hr r _ h⟩
def ZeQ (lP:Option Addr) (lN:Nat) (lC:Nat) (w:World) (R:Bool→World→Prop):Prop:=
 Calls Tryz.prog 63 #[.slice lP lN lC] w fun en w1=>∃(r:Bool),en=.returned (.bool r)∧R r w1
theorem ZeQ.mono {lP:Option Addr} {lN:Nat} {lC:Nat} {w:World} {R R':Bool→World→Prop} (h:ZeQ lP lN lC w R) (hr:∀r w1,R r w1→R' r w1):ZeQ lP lN lC w R':=
 Calls.mono h fun _ _ ⟨r,he,h⟩=>⟨r,he,hr r _ h⟩
def ZdA (t0:Int) (t1:Int) (t2:ByteArray) (t3P:Option Addr) (t3N:Nat) (t3C:Nat) (w:World) (R:Int→World→Prop):Prop:=
 Calls Tryz.prog 64 #[.agg #[.int .i64 t0,.int .i64 t1,.string t2,.slice t3P t3N t3C]] w fun en w1=>∃(r:Int),en=.returned (.int .i64 r)∧R r w1
theorem ZdA.mono {t0:Int} {t1:Int} {t2:ByteArray} {t3P:Option Addr} {t3N:Nat} {t3C:Nat} {w:World} {R R':Int→World→Prop} (h:ZdA t0 t1 t2 t3P t3N t3C w R) (hr:∀r w1,R r w1→R' r w1):ZdA t0 t1 t2 t3P t3N t3C w R':=
 Calls.mono h fun _ _ ⟨r,he,h⟩=>⟨r,he,hr r _ h⟩
def ZfX (n:Int) (w:World) (R:Int→Int→ByteArray→Option Addr→Nat→Nat→World→Prop):Prop:=
 Calls Tryz.prog 65 #[.int .i64 n] w fun en w1=>∃(r0:Int) (r1:Int) (r2:ByteArray) (r3P:Option Addr) (r3N:Nat) (r3C:Nat),en=.returned (.agg #[.int .i64 r0,.int .i64 r1,.string r2,.slice r3P r3N r3C])∧R r0 r1 r2 r3P r3N r3C w1
theorem ZfX.mono {n:Int} {w:World} {R R':Int→Int→ByteArray→Option Addr→Nat→Nat→World→Prop} (h:ZfX n w R) (hr:∀r0 r1 r2 r3P r3N r3C w1,R r0 r1 r2 r3P r3N r3C w1→R' r0 r1 r2 r3P r3N r3C w1):ZfX n w R':=
 Calls.mono h fun _ _ ⟨r0,r1,r2,r3P,r3N,r3C,he,h⟩=>⟨r0,r1,r2,r3P,r3N,r3C,he,hr r0 r1 r2 r3P r3N r3C _ h⟩
def Zct (a0:Int) (a1:Int) (a2:ByteArray) (a3P:Option Addr) (a3N:Nat) (a3C:Nat) (b0:Int) (b1:Int) (b2:ByteArray) (b3P:Option Addr) (b3N:Nat) (b3C:Nat) (w:World) (R:Bool→World→Prop):Prop:=
 Calls Tryz.prog 66 #[.agg #[.int .i64 a0,.int .i64 a1,.string a2,.slice a3P a3N a3C],.agg #[.int .i64 b0,.int .i64 b1,.string b2,.slice b3P b3N b3C]] w fun en w1=>∃(r:Bool),en=.returned (.bool r)∧R r w1
theorem Zct.mono {a0:Int} {a1:Int} {a2:ByteArray} {a3P:Option Addr} {a3N:Nat} {a3C:Nat} {b0:Int} {b1:Int} {b2:ByteArray} {b3P:Option Addr} {b3N:Nat} {b3C:Nat} {w:World} {R R':Bool→World→Prop} (h:Zct a0 a1 a2 a3P a3N a3C b0 b1 b2 b3P b3N b3C w R) (hr:∀r w1,R r w1→R' r w1):Zct a0 a1 a2 a3P a3N a3C b0 b1 b2 b3P b3N b3C w R':=
 Calls.mono h fun _ _ ⟨r,he,h⟩=>⟨r,he,hr r _ h⟩
def Zf8 (limitx:Int) (w:World) (R:Option Addr→Int→World→Prop):Prop:=
 Calls Tryz.prog 67 #[.int .i64 limitx] w fun en w1=>∃(r0:Option Addr) (r1:Int),en=.returned (.tuple #[.pointer r0,.int .i64 r1])∧R r0 r1 w1
theorem Zf8.mono {limitx:Int} {w:World} {R R':Option Addr→Int→World→Prop} (h:Zf8 limitx w R) (hr:∀r0 r1 w1,R r0 r1 w1→R' r0 r1 w1):Zf8 limitx w R':=
 Calls.mono h fun _ _ ⟨r0,r1,he,h⟩=>⟨r0,r1,he,hr r0 r1 _ h⟩
def Zf7 (limitx:Int) (w:World) (R:Option Addr→Int→World→Prop):Prop:=
 Calls Tryz.prog 68 #[.int .i64 limitx] w fun en w1=>∃(r0:Option Addr) (r1:Int),en=.returned (.tuple #[.pointer r0,.int .i64 r1])∧R r0 r1 w1
theorem Zf7.mono {limitx:Int} {w:World} {R R':Option Addr→Int→World→Prop} (h:Zf7 limitx w R) (hr:∀r0 r1 w1,R r0 r1 w1→R' r0 r1 w1):Zf7 limitx w R':=
 Calls.mono h fun _ _ ⟨r0,r1,he,h⟩=>⟨r0,r1,he,hr r0 r1 _ h⟩
def Zfm (limitx:Int) (w:World) (R:Option Addr→Int→World→Prop):Prop:=
 Calls Tryz.prog 69 #[.int .i64 limitx] w fun en w1=>∃(r0:Option Addr) (r1:Int),en=.returned (.tuple #[.pointer r0,.int .i64 r1])∧R r0 r1 w1
theorem Zfm.mono {limitx:Int} {w:World} {R R':Option Addr→Int→World→Prop} (h:Zfm limitx w R) (hr:∀r0 r1 w1,R r0 r1 w1→R' r0 r1 w1):Zfm limitx w R':=
 Calls.mono h fun _ _ ⟨r0,r1,he,h⟩=>⟨r0,r1,he,hr r0 r1 _ h⟩
def ZcD (limitx:Int) (atoms:Option Addr) (w:World) (R:Option Addr→Int→World→Prop):Prop:=
 Calls Tryz.prog 70 #[.int .i64 limitx,.pointer atoms] w fun en w1=>∃(r0:Option Addr) (r1:Int),en=.returned (.tuple #[.pointer r0,.int .i64 r1])∧R r0 r1 w1
theorem ZcD.mono {limitx:Int} {atoms:Option Addr} {w:World} {R R':Option Addr→Int→World→Prop} (h:ZcD limitx atoms w R) (hr:∀r0 r1 w1,R r0 r1 w1→R' r0 r1 w1):ZcD limitx atoms w R':=
 Calls.mono h fun _ _ ⟨r0,r1,he,h⟩=>⟨r0,r1,he,hr r0 r1 _ h⟩
def Zd2 (t0:Int) (t1:Int) (t2:ByteArray) (t3P:Option Addr) (t3N:Nat) (t3C:Nat) (w:World) (R:Bool→World→Prop):Prop:=
 Calls Tryz.prog 71 #[.agg #[.int .i64 t0,.int .i64 t1,.string t2,.slice t3P t3N t3C]] w fun en w1=>∃(r:Bool),en=.returned (.bool r)∧R r w1
theorem Zd2.mono {t0:Int} {t1:Int} {t2:ByteArray} {t3P:Option Addr} {t3N:Nat} {t3C:Nat} {w:World} {R R':Bool→World→Prop} (h:Zd2 t0 t1 t2 t3P t3N t3C w R) (hr:∀r w1,R r w1→R' r w1):Zd2 t0 t1 t2 t3P t3N t3C w R':=
 Calls.mono h fun _ _ ⟨r,he,h⟩=>⟨r,he,hr r _ h⟩
def Zdb (t0:Int) (t1:Int) (t2:ByteArray) (t3P:Option Addr) (t3N:Nat) (t3C:Nat) (w:World) (R:Int→World→Prop):Prop:=
 Calls Tryz.prog 72 #[.agg #[.int .i64 t0,.int .i64 t1,.string t2,.slice t3P t3N t3C]] w fun en w1=>∃(r:Int),en=.returned (.int .i64 r)∧R r w1
theorem Zdb.mono {t0:Int} {t1:Int} {t2:ByteArray} {t3P:Option Addr} {t3N:Nat} {t3C:Nat} {w:World} {R R':Int→World→Prop} (h:Zdb t0 t1 t2 t3P t3N t3C w R) (hr:∀r w1,R r w1→R' r w1):Zdb t0 t1 t2 t3P t3N t3C w R':=
 Calls.mono h fun _ _ ⟨r,he,h⟩=>⟨r,he,hr r _ h⟩
def Zaj (hx:Option Addr) (w:World) (R:Bool→World→Prop):Prop:=
 Calls Tryz.prog 73 #[.pointer hx] w fun en w1=>∃(r:Bool),en=.returned (.bool r)∧R r w1
theorem Zaj.mono {hx:Option Addr} {w:World} {R R':Bool→World→Prop} (h:Zaj hx w R) (hr:∀r w1,R r w1→R' r w1):Zaj hx w R':=
 Calls.mono h fun _ _ ⟨r,he,h⟩=>⟨r,he,hr r _ h⟩
def ZeR (t0:Int) (t1:Int) (t2:ByteArray) (t3P:Option Addr) (t3N:Nat) (t3C:Nat) (w:World) (R:Int→World→Prop):Prop:=
 Calls Tryz.prog 74 #[.agg #[.int .i64 t0,.int .i64 t1,.string t2,.slice t3P t3N t3C]] w fun en w1=>∃(r:Int),en=.returned (.int .i64 r)∧R r w1
theorem ZeR.mono {t0:Int} {t1:Int} {t2:ByteArray} {t3P:Option Addr} {t3N:Nat} {t3C:Nat} {w:World} {R R':Int→World→Prop} (h:ZeR t0 t1 t2 t3P t3N t3C w R) (hr:∀r w1,R r w1→R' r w1):ZeR t0 t1 t2 t3P t3N t3C w R':=
 Calls.mono h fun _ _ ⟨r,he,h⟩=>⟨r,he,hr r _ h⟩
def ZbY (hx:Option Addr) (t0:Int) (t1:Int) (t2:ByteArray) (t3P:Option Addr) (t3N:Nat) (t3C:Nat) (vars:Option Nat) (w:World) (R:Int→Int→World→Prop):Prop:=
 Calls Tryz.prog 75 #[.pointer hx,.agg #[.int .i64 t0,.int .i64 t1,.string t2,.slice t3P t3N t3C],.map vars] w fun en w1=>∃(r0:Int) (r1:Int),en=.returned (.tuple #[.int .u64 r0,.int .i64 r1])∧R r0 r1 w1
theorem ZbY.mono {hx:Option Addr} {t0:Int} {t1:Int} {t2:ByteArray} {t3P:Option Addr} {t3N:Nat} {t3C:Nat} {vars:Option Nat} {w:World} {R R':Int→Int→World→Prop} (h:ZbY hx t0 t1 t2 t3P t3N t3C vars w R) (hr:∀r0 r1 w1,R r0 r1 w1→R' r0 r1 w1):ZbY hx t0 t1 t2 t3P t3N t3C vars w R':=
 Calls.mono h fun _ _ ⟨r0,r1,he,h⟩=>⟨r0,r1,he,hr r0 r1 _ h⟩
def Zaw (hx:Option Addr) (wx:Int) (w:World) (R:Bool→World→Prop):Prop:=
 Calls Tryz.prog 76 #[.pointer hx,.int .u64 wx] w fun en w1=>∃(r:Bool),en=.returned (.bool r)∧R r w1
theorem Zaw.mono {hx:Option Addr} {wx:Int} {w:World} {R R':Bool→World→Prop} (h:Zaw hx wx w R) (hr:∀r w1,R r w1→R' r w1):Zaw hx wx w R':=
 Calls.mono h fun _ _ ⟨r,he,h⟩=>⟨r,he,hr r _ h⟩
def Za7 (r:Option Addr) (wx:Int) (w:World) (R:Int→Int→ByteArray→Option Addr→Nat→Nat→World→Prop):Prop:=
 Calls Tryz.prog 77 #[.pointer r,.int .u64 wx] w fun en w1=>∃(r0:Int) (r1:Int) (r2:ByteArray) (r3P:Option Addr) (r3N:Nat) (r3C:Nat),en=.returned (.agg #[.int .i64 r0,.int .i64 r1,.string r2,.slice r3P r3N r3C])∧R r0 r1 r2 r3P r3N r3C w1
theorem Za7.mono {r:Option Addr} {wx:Int} {w:World} {R R':Int→Int→ByteArray→Option Addr→Nat→Nat→World→Prop} (h:Za7 r wx w R) (hr:∀r0 r1 r2 r3P r3N r3C w1,R r0 r1 r2 r3P r3N r3C w1→R' r0 r1 r2 r3P r3N r3C w1):Za7 r wx w R':=
 Calls.mono h fun _ _ ⟨r0,r1,r2,r3P,r3N,r3C,he,h⟩=>⟨r0,r1,r2,r3P,r3N,r3C,he,hr r0 r1 r2 r3P r3N r3C _ h⟩
def ZbW (t0:Int) (t1:Int) (t2:ByteArray) (t3P:Option Addr) (t3N:Nat) (t3C:Nat) (lP:Option Addr) (lN:Nat) (lC:Nat) (w:World) (R:Int→Int→ByteArray→Option Addr→Nat→Nat→World→Prop):Prop:=
 Calls Tryz.prog 78 #[.agg #[.int .i64 t0,.int .i64 t1,.string t2,.slice t3P t3N t3C],.slice lP lN lC] w fun en w1=>∃(r0:Int) (r1:Int) (r2:ByteArray) (r3P:Option Addr) (r3N:Nat) (r3C:Nat),en=.returned (.agg #[.int .i64 r0,.int .i64 r1,.string r2,.slice r3P r3N r3C])∧R r0 r1 r2 r3P r3N r3C w1
theorem ZbW.mono {t0:Int} {t1:Int} {t2:ByteArray} {t3P:Option Addr} {t3N:Nat} {t3C:Nat} {lP:Option Addr} {lN:Nat} {lC:Nat} {w:World} {R R':Int→Int→ByteArray→Option Addr→Nat→Nat→World→Prop} (h:ZbW t0 t1 t2 t3P t3N t3C lP lN lC w R) (hr:∀r0 r1 r2 r3P r3N r3C w1,R r0 r1 r2 r3P r3N r3C w1→R' r0 r1 r2 r3P r3N r3C w1):ZbW t0 t1 t2 t3P t3N t3C lP lN lC w R':=
 Calls.mono h fun _ _ ⟨r0,r1,r2,r3P,r3N,r3C,he,h⟩=>⟨r0,r1,r2,r3P,r3N,r3C,he,hr r0 r1 r2 r3P r3N r3C _ h⟩
def Zem (wx:Int) (w:World) (R:Int→World→Prop):Prop:=
 Calls Tryz.prog 79 #[.int .u64 wx] w fun en w1=>∃(r:Int),en=.returned (.int .i64 r)∧R r w1
theorem Zem.mono {wx:Int} {w:World} {R R':Int→World→Prop} (h:Zem wx w R) (hr:∀r w1,R r w1→R' r w1):Zem wx w R':=
 Calls.mono h fun _ _ ⟨r,he,h⟩=>⟨r,he,hr r _ h⟩
def Zaz (wx:Int) (w:World) (R:Int→World→Prop):Prop:=
 Calls Tryz.prog 80 #[.int .u64 wx] w fun en w1=>∃(r:Int),en=.returned (.int .i64 r)∧R r w1
theorem Zaz.mono {wx:Int} {w:World} {R R':Int→World→Prop} (h:Zaz wx w R) (hr:∀r w1,R r w1→R' r w1):Zaz wx w R':=
 Calls.mono h fun _ _ ⟨r,he,h⟩=>⟨r,he,hr r _ h⟩
def ZaC (t:Option Addr) (idx:Int) (w:World) (R:ByteArray→Int→World→Prop):Prop:=
 Calls Tryz.prog 81 #[.pointer t,.int .i64 idx] w fun en w1=>∃(r0:ByteArray) (r1:Int),en=.returned (.tuple #[.string r0,.int .i64 r1])∧R r0 r1 w1
theorem ZaC.mono {t:Option Addr} {idx:Int} {w:World} {R R':ByteArray→Int→World→Prop} (h:ZaC t idx w R) (hr:∀r0 r1 w1,R r0 r1 w1→R' r0 r1 w1):ZaC t idx w R':=
 Calls.mono h fun _ _ ⟨r0,r1,he,h⟩=>⟨r0,r1,he,hr r0 r1 _ h⟩
def Zbp (hx:Option Addr) (wx:Int) (w:World) (R:ByteArray→Int→World→Prop):Prop:=
 Calls Tryz.prog 82 #[.pointer hx,.int .u64 wx] w fun en w1=>∃(r0:ByteArray) (r1:Int),en=.returned (.tuple #[.string r0,.int .i64 r1])∧R r0 r1 w1
theorem Zbp.mono {hx:Option Addr} {wx:Int} {w:World} {R R':ByteArray→Int→World→Prop} (h:Zbp hx wx w R) (hr:∀r0 r1 w1,R r0 r1 w1→R' r0 r1 w1):Zbp hx wx w R':=
 Calls.mono h fun _ _ ⟨r0,r1,he,h⟩=>⟨r0,r1,he,hr r0 r1 _ h⟩
def ZaD (hx:Option Addr) (wx:Int) (w:World) (R:Int→World→Prop):Prop:=
 Calls Tryz.prog 83 #[.pointer hx,.int .u64 wx] w fun en w1=>∃(r:Int),en=.returned (.int .u64 r)∧R r w1
theorem ZaD.mono {hx:Option Addr} {wx:Int} {w:World} {R R':Int→World→Prop} (h:ZaD hx wx w R) (hr:∀r w1,R r w1→R' r w1):ZaD hx wx w R':=
 Calls.mono h fun _ _ ⟨r,he,h⟩=>⟨r,he,hr r _ h⟩
def Zi1 (sx:ByteArray) (w:World) (R:Int→Int→ByteArray→Option Addr→Nat→Nat→World→Prop):Prop:=
 Calls Tryz.prog 84 #[.string sx] w fun en w1=>∃(r0:Int) (r1:Int) (r2:ByteArray) (r3P:Option Addr) (r3N:Nat) (r3C:Nat),en=.returned (.agg #[.int .i64 r0,.int .i64 r1,.string r2,.slice r3P r3N r3C])∧R r0 r1 r2 r3P r3N r3C w1
theorem Zi1.mono {sx:ByteArray} {w:World} {R R':Int→Int→ByteArray→Option Addr→Nat→Nat→World→Prop} (h:Zi1 sx w R) (hr:∀r0 r1 r2 r3P r3N r3C w1,R r0 r1 r2 r3P r3N r3C w1→R' r0 r1 r2 r3P r3N r3C w1):Zi1 sx w R':=
 Calls.mono h fun _ _ ⟨r0,r1,r2,r3P,r3N,r3C,he,h⟩=>⟨r0,r1,r2,r3P,r3N,r3C,he,hr r0 r1 r2 r3P r3N r3C _ h⟩
def ZbJ (t:Option Addr) (namex:ByteArray) (arity:Int) (w:World) (R:Int→Int→World→Prop):Prop:=
 Calls Tryz.prog 85 #[.pointer t,.string namex,.int .i64 arity] w fun en w1=>∃(r0:Int) (r1:Int),en=.returned (.tuple #[.int .i64 r0,.int .i64 r1])∧R r0 r1 w1
theorem ZbJ.mono {t:Option Addr} {namex:ByteArray} {arity:Int} {w:World} {R R':Int→Int→World→Prop} (h:ZbJ t namex arity w R) (hr:∀r0 r1 w1,R r0 r1 w1→R' r0 r1 w1):ZbJ t namex arity w R':=
 Calls.mono h fun _ _ ⟨r0,r1,he,h⟩=>⟨r0,r1,he,hr r0 r1 _ h⟩
def Zce (hx:Option Addr) (n:Int) (w:World) (R:Int→Int→World→Prop):Prop:=
 Calls Tryz.prog 86 #[.pointer hx,.int .i64 n] w fun en w1=>∃(r0:Int) (r1:Int),en=.returned (.tuple #[.int .i64 r0,.int .i64 r1])∧R r0 r1 w1
theorem Zce.mono {hx:Option Addr} {n:Int} {w:World} {R R':Int→Int→World→Prop} (h:Zce hx n w R) (hr:∀r0 r1 w1,R r0 r1 w1→R' r0 r1 w1):Zce hx n w R':=
 Calls.mono h fun _ _ ⟨r0,r1,he,h⟩=>⟨r0,r1,he,hr r0 r1 _ h⟩
def ZdJ (tag:Int) (n:Int) (w:World) (R:Int→World→Prop):Prop:=
 Calls Tryz.prog 87 #[.int .i64 tag,.int .i64 n] w fun en w1=>∃(r:Int),en=.returned (.int .u64 r)∧R r w1
theorem ZdJ.mono {tag:Int} {n:Int} {w:World} {R R':Int→World→Prop} (h:ZdJ tag n w R) (hr:∀r w1,R r w1→R' r w1):ZdJ tag n w R':=
 Calls.mono h fun _ _ ⟨r,he,h⟩=>⟨r,he,hr r _ h⟩
def Zbz (hx:Option Addr) (wx:Int) (i:Int) (w:World) (R:Int→Bool→World→Prop):Prop:=
 Calls Tryz.prog 88 #[.pointer hx,.int .u64 wx,.int .i64 i] w fun en w1=>∃(r0:Int) (r1:Bool),en=.returned (.tuple #[.int .u64 r0,.bool r1])∧R r0 r1 w1
theorem Zbz.mono {hx:Option Addr} {wx:Int} {i:Int} {w:World} {R R':Int→Bool→World→Prop} (h:Zbz hx wx i w R) (hr:∀r0 r1 w1,R r0 r1 w1→R' r0 r1 w1):Zbz hx wx i w R':=
 Calls.mono h fun _ _ ⟨r0,r1,he,h⟩=>⟨r0,r1,he,hr r0 r1 _ h⟩
def Zc7 (atx:Int) (w:World) (R:Int→World→Prop):Prop:=
 Calls Tryz.prog 89 #[.int .i64 atx] w fun en w1=>∃(r:Int),en=.returned (.int .u64 r)∧R r w1
theorem Zc7.mono {atx:Int} {w:World} {R R':Int→World→Prop} (h:Zc7 atx w R) (hr:∀r w1,R r w1→R' r w1):Zc7 atx w R':=
 Calls.mono h fun _ _ ⟨r,he,h⟩=>⟨r,he,hr r _ h⟩
def Zel (wx:Int) (i:Int) (w:World) (R:Int→World→Prop):Prop:=
 Calls Tryz.prog 90 #[.int .u64 wx,.int .i64 i] w fun en w1=>∃(r:Int),en=.returned (.int .i64 r)∧R r w1
theorem Zel.mono {wx:Int} {i:Int} {w:World} {R R':Int→World→Prop} (h:Zel wx i w R) (hr:∀r w1,R r w1→R' r w1):Zel wx i w R':=
 Calls.mono h fun _ _ ⟨r,he,h⟩=>⟨r,he,hr r _ h⟩
def Zd1 (t0:Int) (t1:Int) (t2:ByteArray) (t3P:Option Addr) (t3N:Nat) (t3C:Nat) (depth:Int) (n:Option Addr) (w:World) (R:Bool→World→Prop):Prop:=
 Calls Tryz.prog 91 #[.agg #[.int .i64 t0,.int .i64 t1,.string t2,.slice t3P t3N t3C],.int .i64 depth,.pointer n] w fun en w1=>∃(r:Bool),en=.returned (.bool r)∧R r w1
theorem Zd1.mono {t0:Int} {t1:Int} {t2:ByteArray} {t3P:Option Addr} {t3N:Nat} {t3C:Nat} {depth:Int} {n:Option Addr} {w:World} {R R':Bool→World→Prop} (h:Zd1 t0 t1 t2 t3P t3N t3C depth n w R) (hr:∀r w1,R r w1→R' r w1):Zd1 t0 t1 t2 t3P t3N t3C depth n w R':=
 Calls.mono h fun _ _ ⟨r,he,h⟩=>⟨r,he,hr r _ h⟩
def Zed (t0:Int) (t1:Int) (t2:ByteArray) (t3P:Option Addr) (t3N:Nat) (t3C:Nat) (outP:Option Addr) (outN:Nat) (outC:Nat) (w:World) (R:Option Addr→Nat→Nat→World→Prop):Prop:=
 Calls Tryz.prog 92 #[.agg #[.int .i64 t0,.int .i64 t1,.string t2,.slice t3P t3N t3C],.slice outP outN outC] w fun en w1=>∃(rP:Option Addr) (rN:Nat) (rC:Nat),en=.returned (.slice rP rN rC)∧R rP rN rC w1
theorem Zed.mono {t0:Int} {t1:Int} {t2:ByteArray} {t3P:Option Addr} {t3N:Nat} {t3C:Nat} {outP:Option Addr} {outN:Nat} {outC:Nat} {w:World} {R R':Option Addr→Nat→Nat→World→Prop} (h:Zed t0 t1 t2 t3P t3N t3C outP outN outC w R) (hr:∀rP rN rC w1,R rP rN rC w1→R' rP rN rC w1):Zed t0 t1 t2 t3P t3N t3C outP outN outC w R':=
 Calls.mono h fun _ _ ⟨rP,rN,rC,he,h⟩=>⟨rP,rN,rC,he,hr rP rN rC _ h⟩
def Zdv (wx:Int) (tag:Int) (w:World) (R:Bool→World→Prop):Prop:=
 Calls Tryz.prog 93 #[.int .u64 wx,.int .i64 tag] w fun en w1=>∃(r:Bool),en=.returned (.bool r)∧R r w1
theorem Zdv.mono {wx:Int} {tag:Int} {w:World} {R R':Bool→World→Prop} (h:Zdv wx tag w R) (hr:∀r w1,R r w1→R' r w1):Zdv wx tag w R':=
 Calls.mono h fun _ _ ⟨r,he,h⟩=>⟨r,he,hr r _ h⟩
def Zbt (hx:Option Addr) (wx:Int) (x:Int) (seen:Option Nat) (w:World) (R:Bool→World→Prop):Prop:=
 Calls Tryz.prog 94 #[.pointer hx,.int .u64 wx,.int .u64 x,.map seen] w fun en w1=>∃(r:Bool),en=.returned (.bool r)∧R r w1
theorem Zbt.mono {hx:Option Addr} {wx:Int} {x:Int} {seen:Option Nat} {w:World} {R R':Bool→World→Prop} (h:Zbt hx wx x seen w R) (hr:∀r w1,R r w1→R' r w1):Zbt hx wx x seen w R':=
 Calls.mono h fun _ _ ⟨r,he,h⟩=>⟨r,he,hr r _ h⟩
def Zdd (wx:Int) (w:World) (R:Bool→World→Prop):Prop:=
 Calls Tryz.prog 95 #[.int .u64 wx] w fun en w1=>∃(r:Bool),en=.returned (.bool r)∧R r w1
theorem Zdd.mono {wx:Int} {w:World} {R R':Bool→World→Prop} (h:Zdd wx w R) (hr:∀r w1,R r w1→R' r w1):Zdd wx w R':=
 Calls.mono h fun _ _ ⟨r,he,h⟩=>⟨r,he,hr r _ h⟩
def ZcT (hx:Option Addr) (wx:Int) (x:Int) (w:World) (R:Bool→Int→World→Prop):Prop:=
 Calls Tryz.prog 96 #[.pointer hx,.int .u64 wx,.int .u64 x] w fun en w1=>∃(r0:Bool) (r1:Int),en=.returned (.tuple #[.bool r0,.int .i64 r1])∧R r0 r1 w1
theorem ZcT.mono {hx:Option Addr} {wx:Int} {x:Int} {w:World} {R R':Bool→Int→World→Prop} (h:ZcT hx wx x w R) (hr:∀r0 r1 w1,R r0 r1 w1→R' r0 r1 w1):ZcT hx wx x w R':=
 Calls.mono h fun _ _ ⟨r0,r1,he,h⟩=>⟨r0,r1,he,hr r0 r1 _ h⟩
def ZaZ (m:Option Addr) (a:Int) (b:Int) (w:World) (R:Bool→World→Prop):Prop:=
 Calls Tryz.prog 97 #[.pointer m,.int .u64 a,.int .u64 b] w fun en w1=>∃(r:Bool),en=.returned (.bool r)∧R r w1
theorem ZaZ.mono {m:Option Addr} {a:Int} {b:Int} {w:World} {R R':Bool→World→Prop} (h:ZaZ m a b w R) (hr:∀r w1,R r w1→R' r w1):ZaZ m a b w R':=
 Calls.mono h fun _ _ ⟨r,he,h⟩=>⟨r,he,hr r _ h⟩
def Zbs (hx:Option Addr) (atx:Int) (w:World) (R:Bool→World→Prop):Prop:=
 Calls Tryz.prog 98 #[.pointer hx,.int .i64 atx] w fun en w1=>∃(r:Bool),en=.returned (.bool r)∧R r w1
theorem Zbs.mono {hx:Option Addr} {atx:Int} {w:World} {R R':Bool→World→Prop} (h:Zbs hx atx w R) (hr:∀r w1,R r w1→R' r w1):Zbs hx atx w R':=
 Calls.mono h fun _ _ ⟨r,he,h⟩=>⟨r,he,hr r _ h⟩
def Zcd (p:Option Addr) (w:World) (R:Int→World→Prop):Prop:=
 Calls Tryz.prog 99 #[.pointer p] w fun en w1=>∃(r:Int),en=.returned (.int .i64 r)∧R r w1
theorem Zcd.mono {p:Option Addr} {w:World} {R R':Int→World→Prop} (h:Zcd p w R) (hr:∀r w1,R r w1→R' r w1):Zcd p w R':=
 Calls.mono h fun _ _ ⟨r,he,h⟩=>⟨r,he,hr r _ h⟩
def Za1 (m:Option Addr) (w:World) (R:Int→World→Prop):Prop:=
 Calls Tryz.prog 100 #[.pointer m] w fun en w1=>∃(r:Int),en=.returned (.int .i64 r)∧R r w1
theorem Za1.mono {m:Option Addr} {w:World} {R R':Int→World→Prop} (h:Za1 m w R) (hr:∀r w1,R r w1→R' r w1):Za1 m w R':=
 Calls.mono h fun _ _ ⟨r,he,h⟩=>⟨r,he,hr r _ h⟩
def Zcg (p:Option Addr) (w:World) (R:Int→World→Prop):Prop:=
 Calls Tryz.prog 101 #[.pointer p] w fun en w1=>∃(r:Int),en=.returned (.int .i64 r)∧R r w1
theorem Zcg.mono {p:Option Addr} {w:World} {R R':Int→World→Prop} (h:Zcg p w R) (hr:∀r w1,R r w1→R' r w1):Zcg p w R':=
 Calls.mono h fun _ _ ⟨r,he,h⟩=>⟨r,he,hr r _ h⟩
def ZaI (p:Option Addr) (w:World) (R:Bool→World→Prop):Prop:=
 Calls Tryz.prog 102 #[.pointer p] w fun en w1=>∃(r:Bool),en=.returned (.bool r)∧R r w1
theorem ZaI.mono {p:Option Addr} {w:World} {R R':Bool→World→Prop} (h:ZaI p w R) (hr:∀r w1,R r w1→R' r w1):ZaI p w R':=
 Calls.mono h fun _ _ ⟨r,he,h⟩=>⟨r,he,hr r _ h⟩
def Ziu  (w:World) (R:Option Addr→World→Prop):Prop:=
 Calls Tryz.prog 103 #[] w fun en w1=>∃(r:Option Addr),en=.returned (.pointer r)∧R r w1
theorem Ziu.mono {w:World} {R R':Option Addr→World→Prop} (h:Ziu  w R) (hr:∀r w1,R r w1→R' r w1):Ziu  w R':=
 Calls.mono h fun _ _ ⟨r,he,h⟩=>⟨r,he,hr r _ h⟩
def ZbX (p:Option Addr) (w:World) (R:Int→World→Prop):Prop:=
 Calls Tryz.prog 104 #[.pointer p] w fun en w1=>∃(r:Int),en=.returned (.int .i64 r)∧R r w1
theorem ZbX.mono {p:Option Addr} {w:World} {R R':Int→World→Prop} (h:ZbX p w R) (hr:∀r w1,R r w1→R' r w1):ZbX p w R':=
 Calls.mono h fun _ _ ⟨r,he,h⟩=>⟨r,he,hr r _ h⟩
def Zbo (sx:Option Addr) (a0:Int) (a1:Int) (a2:ByteArray) (a3P:Option Addr) (a3N:Nat) (a3C:Nat) (b0:Int) (b1:Int) (b2:ByteArray) (b3P:Option Addr) (b3N:Nat) (b3C:Nat) (seen:Option Nat) (w:World) (R:Bool→World→Prop):Prop:=
 Calls Tryz.prog 105 #[.pointer sx,.agg #[.int .i64 a0,.int .i64 a1,.string a2,.slice a3P a3N a3C],.agg #[.int .i64 b0,.int .i64 b1,.string b2,.slice b3P b3N b3C],.map seen] w fun en w1=>∃(r:Bool),en=.returned (.bool r)∧R r w1
theorem Zbo.mono {sx:Option Addr} {a0:Int} {a1:Int} {a2:ByteArray} {a3P:Option Addr} {a3N:Nat} {a3C:Nat} {b0:Int} {b1:Int} {b2:ByteArray} {b3P:Option Addr} {b3N:Nat} {b3C:Nat} {seen:Option Nat} {w:World} {R R':Bool→World→Prop} (h:Zbo sx a0 a1 a2 a3P a3N a3C b0 b1 b2 b3P b3N b3C seen w R) (hr:∀r w1,R r w1→R' r w1):Zbo sx a0 a1 a2 a3P a3N a3C b0 b1 b2 b3P b3N b3C seen w R':=
 Calls.mono h fun _ _ ⟨r,he,h⟩=>⟨r,he,hr r _ h⟩
def Za6 (sx:Option Addr) (n:Int) (w:World) (R:World→Prop):Prop:=
 Calls Tryz.prog 106 #[.pointer sx,.int .i64 n] w fun en w1=>en=.returned (.tuple #[])∧R w1
theorem Za6.mono {sx:Option Addr} {n:Int} {w:World} {R R':World→Prop} (h:Za6 sx n w R) (hr:∀w1,R w1→R' w1):Za6 sx n w R':=
 Calls.mono h fun _ _ ⟨he,h⟩=>⟨he,hr _ h⟩
def Zbj (sx:Option Addr) (t0:Int) (t1:Int) (t2:ByteArray) (t3P:Option Addr) (t3N:Nat) (t3C:Nat) (w:World) (R:Int→Int→ByteArray→Option Addr→Nat→Nat→Int→World→Prop):Prop:=
 Calls Tryz.prog 107 #[.pointer sx,.agg #[.int .i64 t0,.int .i64 t1,.string t2,.slice t3P t3N t3C]] w fun en w1=>∃(r00:Int) (r01:Int) (r02:ByteArray) (r03P:Option Addr) (r03N:Nat) (r03C:Nat) (r1:Int),en=.returned (.tuple #[.agg #[.int .i64 r00,.int .i64 r01,.string r02,.slice r03P r03N r03C],.int .i64 r1])∧R r00 r01 r02 r03P r03N r03C r1 w1
theorem Zbj.mono {sx:Option Addr} {t0:Int} {t1:Int} {t2:ByteArray} {t3P:Option Addr} {t3N:Nat} {t3C:Nat} {w:World} {R R':Int→Int→ByteArray→Option Addr→Nat→Nat→Int→World→Prop} (h:Zbj sx t0 t1 t2 t3P t3N t3C w R) (hr:∀r00 r01 r02 r03P r03N r03C r1 w1,R r00 r01 r02 r03P r03N r03C r1 w1→R' r00 r01 r02 r03P r03N r03C r1 w1):Zbj sx t0 t1 t2 t3P t3N t3C w R':=
 Calls.mono h fun _ _ ⟨r00,r01,r02,r03P,r03N,r03C,r1,he,h⟩=>⟨r00,r01,r02,r03P,r03N,r03C,r1,he,hr r00 r01 r02 r03P r03N r03C r1 _ h⟩
def ZaE (t:Option Addr) (namex:ByteArray) (w:World) (R:Int→Int→World→Prop):Prop:=
 Calls Tryz.prog 108 #[.pointer t,.string namex] w fun en w1=>∃(r0:Int) (r1:Int),en=.returned (.tuple #[.int .i64 r0,.int .i64 r1])∧R r0 r1 w1
theorem ZaE.mono {t:Option Addr} {namex:ByteArray} {w:World} {R R':Int→Int→World→Prop} (h:ZaE t namex w R) (hr:∀r0 r1 w1,R r0 r1 w1→R' r0 r1 w1):ZaE t namex w R':=
 Calls.mono h fun _ _ ⟨r0,r1,he,h⟩=>⟨r0,r1,he,hr r0 r1 _ h⟩
def Zdy (m:Option Addr) (w:World) (R:Int→Int→World→Prop):Prop:=
 Calls Tryz.prog 109 #[.pointer m] w fun en w1=>∃(r0:Int) (r1:Int),en=.returned (.tuple #[.int .u64 r0,.int .i64 r1])∧R r0 r1 w1
theorem Zdy.mono {m:Option Addr} {w:World} {R R':Int→Int→World→Prop} (h:Zdy m w R) (hr:∀r0 r1 w1,R r0 r1 w1→R' r0 r1 w1):Zdy m w R':=
 Calls.mono h fun _ _ ⟨r0,r1,he,h⟩=>⟨r0,r1,he,hr r0 r1 _ h⟩
def ZbO (xP:Option Addr) (xN:Nat) (xC:Nat) (target:Int) (w:World) (R:Int→Bool→World→Prop):Prop:=
 Calls Tryz.prog 114 #[.slice xP xN xC,.int .i64 target] w fun en w1=>∃(r0:Int) (r1:Bool),en=.returned (.tuple #[.int .i64 r0,.bool r1])∧R r0 r1 w1
theorem ZbO.mono {xP:Option Addr} {xN:Nat} {xC:Nat} {target:Int} {w:World} {R R':Int→Bool→World→Prop} (h:ZbO xP xN xC target w R) (hr:∀r0 r1 w1,R r0 r1 w1→R' r0 r1 w1):ZbO xP xN xC target w R':=
 Calls.mono h fun _ _ ⟨r0,r1,he,h⟩=>⟨r0,r1,he,hr r0 r1 _ h⟩
def ZcI  (w:World) (R:Option Addr→Nat→Nat→World→Prop):Prop:=
 Calls Tryz.prog 115 #[] w fun en w1=>∃(rP:Option Addr) (rN:Nat) (rC:Nat),en=.returned (.slice rP rN rC)∧R rP rN rC w1
theorem ZcI.mono {w:World} {R R':Option Addr→Nat→Nat→World→Prop} (h:ZcI  w R) (hr:∀rP rN rC w1,R rP rN rC w1→R' rP rN rC w1):ZcI  w R':=
 Calls.mono h fun _ _ ⟨rP,rN,rC,he,h⟩=>⟨rP,rN,rC,he,hr rP rN rC _ h⟩
def ZfG (t0:Int) (t1:Int) (t2:ByteArray) (t3P:Option Addr) (t3N:Nat) (t3C:Nat) (w:World) (R:Bool→World→Prop):Prop:=
 Calls Tryz.prog 116 #[.agg #[.int .i64 t0,.int .i64 t1,.string t2,.slice t3P t3N t3C]] w fun en w1=>∃(r:Bool),en=.returned (.bool r)∧R r w1
theorem ZfG.mono {t0:Int} {t1:Int} {t2:ByteArray} {t3P:Option Addr} {t3N:Nat} {t3C:Nat} {w:World} {R R':Bool→World→Prop} (h:ZfG t0 t1 t2 t3P t3N t3C w R) (hr:∀r w1,R r w1→R' r w1):ZfG t0 t1 t2 t3P t3N t3C w R':=
 Calls.mono h fun _ _ ⟨r,he,h⟩=>⟨r,he,hr r _ h⟩
def Zeh (t0:Int) (t1:Int) (t2:ByteArray) (t3P:Option Addr) (t3N:Nat) (t3C:Nat) (w:World) (R:Int→Int→Bool→World→Prop):Prop:=
 Calls Tryz.prog 117 #[.agg #[.int .i64 t0,.int .i64 t1,.string t2,.slice t3P t3N t3C]] w fun en w1=>∃(r0:Int) (r1:Int) (r2:Bool),en=.returned (.agg #[.int .i64 r0,.int .i64 r1,.bool r2])∧R r0 r1 r2 w1
theorem Zeh.mono {t0:Int} {t1:Int} {t2:ByteArray} {t3P:Option Addr} {t3N:Nat} {t3C:Nat} {w:World} {R R':Int→Int→Bool→World→Prop} (h:Zeh t0 t1 t2 t3P t3N t3C w R) (hr:∀r0 r1 r2 w1,R r0 r1 r2 w1→R' r0 r1 r2 w1):Zeh t0 t1 t2 t3P t3N t3C w R':=
 Calls.mono h fun _ _ ⟨r0,r1,r2,he,h⟩=>⟨r0,r1,r2,he,hr r0 r1 r2 _ h⟩
def Zbw (hx:Option Addr) (n:Int) (vars:Option Nat) (w:World) (R:Int→Int→World→Prop):Prop:=
 Calls Tryz.prog 118 #[.pointer hx,.int .i64 n,.map vars] w fun en w1=>∃(r0:Int) (r1:Int),en=.returned (.tuple #[.int .u64 r0,.int .i64 r1])∧R r0 r1 w1
theorem Zbw.mono {hx:Option Addr} {n:Int} {vars:Option Nat} {w:World} {R R':Int→Int→World→Prop} (h:Zbw hx n vars w R) (hr:∀r0 r1 w1,R r0 r1 w1→R' r0 r1 w1):Zbw hx n vars w R':=
 Calls.mono h fun _ _ ⟨r0,r1,he,h⟩=>⟨r0,r1,he,hr r0 r1 _ h⟩
def ZaT (r:Option Addr) (wx:Int) (w:World) (R:Int→Int→ByteArray→Option Addr→Nat→Nat→World→Prop):Prop:=
 Calls Tryz.prog 119 #[.pointer r,.int .u64 wx] w fun en w1=>∃(r0:Int) (r1:Int) (r2:ByteArray) (r3P:Option Addr) (r3N:Nat) (r3C:Nat),en=.returned (.agg #[.int .i64 r0,.int .i64 r1,.string r2,.slice r3P r3N r3C])∧R r0 r1 r2 r3P r3N r3C w1
theorem ZaT.mono {r:Option Addr} {wx:Int} {w:World} {R R':Int→Int→ByteArray→Option Addr→Nat→Nat→World→Prop} (h:ZaT r wx w R) (hr:∀r0 r1 r2 r3P r3N r3C w1,R r0 r1 r2 r3P r3N r3C w1→R' r0 r1 r2 r3P r3N r3C w1):ZaT r wx w R':=
 Calls.mono h fun _ _ ⟨r0,r1,r2,r3P,r3N,r3C,he,h⟩=>⟨r0,r1,r2,r3P,r3N,r3C,he,hr r0 r1 r2 r3P r3N r3C _ h⟩
def ZiX (n:Int) (w:World) (R:Int→Int→ByteArray→Option Addr→Nat→Nat→World→Prop):Prop:=
 Calls Tryz.prog 120 #[.int .i64 n] w fun en w1=>∃(r0:Int) (r1:Int) (r2:ByteArray) (r3P:Option Addr) (r3N:Nat) (r3C:Nat),en=.returned (.agg #[.int .i64 r0,.int .i64 r1,.string r2,.slice r3P r3N r3C])∧R r0 r1 r2 r3P r3N r3C w1
theorem ZiX.mono {n:Int} {w:World} {R R':Int→Int→ByteArray→Option Addr→Nat→Nat→World→Prop} (h:ZiX n w R) (hr:∀r0 r1 r2 r3P r3N r3C w1,R r0 r1 r2 r3P r3N r3C w1→R' r0 r1 r2 r3P r3N r3C w1):ZiX n w R':=
 Calls.mono h fun _ _ ⟨r0,r1,r2,r3P,r3N,r3C,he,h⟩=>⟨r0,r1,r2,r3P,r3N,r3C,he,hr r0 r1 r2 r3P r3N r3C _ h⟩
def Zhj (sx:ByteArray) (w:World) (R:Int→Int→ByteArray→Option Addr→Nat→Nat→World→Prop):Prop:=
 Calls Tryz.prog 121 #[.string sx] w fun en w1=>∃(r0:Int) (r1:Int) (r2:ByteArray) (r3P:Option Addr) (r3N:Nat) (r3C:Nat),en=.returned (.agg #[.int .i64 r0,.int .i64 r1,.string r2,.slice r3P r3N r3C])∧R r0 r1 r2 r3P r3N r3C w1
theorem Zhj.mono {sx:ByteArray} {w:World} {R R':Int→Int→ByteArray→Option Addr→Nat→Nat→World→Prop} (h:Zhj sx w R) (hr:∀r0 r1 r2 r3P r3N r3C w1,R r0 r1 r2 r3P r3N r3C w1→R' r0 r1 r2 r3P r3N r3C w1):Zhj sx w R':=
 Calls.mono h fun _ _ ⟨r0,r1,r2,r3P,r3N,r3C,he,h⟩=>⟨r0,r1,r2,r3P,r3N,r3C,he,hr r0 r1 r2 r3P r3N r3C _ h⟩
def ZcR (t:Option Addr) (idx:Int) (w:World) (R:Int→World→Prop):Prop:=
 Calls Tryz.prog 122 #[.pointer t,.int .i64 idx] w fun en w1=>∃(r:Int),en=.returned (.int .i64 r)∧R r w1
theorem ZcR.mono {t:Option Addr} {idx:Int} {w:World} {R R':Int→World→Prop} (h:ZcR t idx w R) (hr:∀r w1,R r w1→R' r w1):ZcR t idx w R':=
 Calls.mono h fun _ _ ⟨r,he,h⟩=>⟨r,he,hr r _ h⟩
def ZbK (t:Option Addr) (idx:Int) (w:World) (R:ByteArray→Int→Int→World→Prop):Prop:=
 Calls Tryz.prog 123 #[.pointer t,.int .i64 idx] w fun en w1=>∃(r0:ByteArray) (r1:Int) (r2:Int),en=.returned (.tuple #[.string r0,.int .i64 r1,.int .i64 r2])∧R r0 r1 r2 w1
theorem ZbK.mono {t:Option Addr} {idx:Int} {w:World} {R R':ByteArray→Int→Int→World→Prop} (h:ZbK t idx w R) (hr:∀r0 r1 r2 w1,R r0 r1 r2 w1→R' r0 r1 r2 w1):ZbK t idx w R':=
 Calls.mono h fun _ _ ⟨r0,r1,r2,he,h⟩=>⟨r0,r1,r2,he,hr r0 r1 r2 _ h⟩
def ZaY (t:Option Addr) (w:World) (R:Bool→World→Prop):Prop:=
 Calls Tryz.prog 124 #[.pointer t] w fun en w1=>∃(r:Bool),en=.returned (.bool r)∧R r w1
theorem ZaY.mono {t:Option Addr} {w:World} {R R':Bool→World→Prop} (h:ZaY t w R) (hr:∀r w1,R r w1→R' r w1):ZaY t w R':=
 Calls.mono h fun _ _ ⟨r,he,h⟩=>⟨r,he,hr r _ h⟩
def ZbM (t:Option Addr) (f0:Int) (f1:Int) (w:World) (R:Int→Int→World→Prop):Prop:=
 Calls Tryz.prog 125 #[.pointer t,.agg #[.int .i64 f0,.int .i64 f1]] w fun en w1=>∃(r0:Int) (r1:Int),en=.returned (.tuple #[.int .i64 r0,.int .i64 r1])∧R r0 r1 w1
theorem ZbM.mono {t:Option Addr} {f0:Int} {f1:Int} {w:World} {R R':Int→Int→World→Prop} (h:ZbM t f0 f1 w R) (hr:∀r0 r1 w1,R r0 r1 w1→R' r0 r1 w1):ZbM t f0 f1 w R':=
 Calls.mono h fun _ _ ⟨r0,r1,he,h⟩=>⟨r0,r1,he,hr r0 r1 _ h⟩
def Zcf (p:Option Addr) (n:Int) (w:World) (R:Int→Int→World→Prop):Prop:=
 Calls Tryz.prog 126 #[.pointer p,.int .i64 n] w fun en w1=>∃(r0:Int) (r1:Int),en=.returned (.tuple #[.int .i64 r0,.int .i64 r1])∧R r0 r1 w1
theorem Zcf.mono {p:Option Addr} {n:Int} {w:World} {R R':Int→Int→World→Prop} (h:Zcf p n w R) (hr:∀r0 r1 w1,R r0 r1 w1→R' r0 r1 w1):Zcf p n w R':=
 Calls.mono h fun _ _ ⟨r0,r1,he,h⟩=>⟨r0,r1,he,hr r0 r1 _ h⟩
def Zhe (tag:Int) (n:Int) (w:World) (R:Int→Int→World→Prop):Prop:=
 Calls Tryz.prog 127 #[.int .i64 tag,.int .i64 n] w fun en w1=>∃(r0:Int) (r1:Int),en=.returned (.tuple #[.int .u64 r0,.int .i64 r1])∧R r0 r1 w1
theorem Zhe.mono {tag:Int} {n:Int} {w:World} {R R':Int→Int→World→Prop} (h:Zhe tag n w R) (hr:∀r0 r1 w1,R r0 r1 w1→R' r0 r1 w1):Zhe tag n w R':=
 Calls.mono h fun _ _ ⟨r0,r1,he,h⟩=>⟨r0,r1,he,hr r0 r1 _ h⟩
def ZcO (m:Option Addr) (wx:Int) (w:World) (R:Int→World→Prop):Prop:=
 Calls Tryz.prog 128 #[.pointer m,.int .u64 wx] w fun en w1=>∃(r:Int),en=.returned (.int .i64 r)∧R r w1
theorem ZcO.mono {m:Option Addr} {wx:Int} {w:World} {R R':Int→World→Prop} (h:ZcO m wx w R) (hr:∀r w1,R r w1→R' r w1):ZcO m wx w R':=
 Calls.mono h fun _ _ ⟨r,he,h⟩=>⟨r,he,hr r _ h⟩
def ZaQ (m:Option Addr) (wx:Int) (x:Int) (w:World) (R:Bool→World→Prop):Prop:=
 Calls Tryz.prog 129 #[.pointer m,.int .u64 wx,.int .u64 x] w fun en w1=>∃(r:Bool),en=.returned (.bool r)∧R r w1
theorem ZaQ.mono {m:Option Addr} {wx:Int} {x:Int} {w:World} {R R':Bool→World→Prop} (h:ZaQ m wx x w R) (hr:∀r w1,R r w1→R' r w1):ZaQ m wx x w R':=
 Calls.mono h fun _ _ ⟨r,he,h⟩=>⟨r,he,hr r _ h⟩
def ZcX (p:Option Addr) (atx:Int) (w:World) (R:Bool→World→Prop):Prop:=
 Calls Tryz.prog 130 #[.pointer p,.int .i64 atx] w fun en w1=>∃(r:Bool),en=.returned (.bool r)∧R r w1
theorem ZcX.mono {p:Option Addr} {atx:Int} {w:World} {R R':Bool→World→Prop} (h:ZcX p atx w R) (hr:∀r w1,R r w1→R' r w1):ZcX p atx w R':=
 Calls.mono h fun _ _ ⟨r,he,h⟩=>⟨r,he,hr r _ h⟩
def Za0 (p:Option Addr) (w:World) (R:Option Addr→World→Prop):Prop:=
 Calls Tryz.prog 131 #[.pointer p] w fun en w1=>∃(r:Option Addr),en=.returned (.pointer r)∧R r w1
theorem Za0.mono {p:Option Addr} {w:World} {R R':Option Addr→World→Prop} (h:Za0 p w R) (hr:∀r w1,R r w1→R' r w1):Za0 p w R':=
 Calls.mono h fun _ _ ⟨r,he,h⟩=>⟨r,he,hr r _ h⟩
def Zbk (sx:Option Addr) (i:Int) (w:World) (R:World→Prop):Prop:=
 Calls Tryz.prog 132 #[.pointer sx,.int .i64 i] w fun en w1=>en=.returned (.tuple #[])∧R w1
theorem Zbk.mono {sx:Option Addr} {i:Int} {w:World} {R R':World→Prop} (h:Zbk sx i w R) (hr:∀w1,R w1→R' w1):Zbk sx i w R':=
 Calls.mono h fun _ _ ⟨he,h⟩=>⟨he,hr _ h⟩
def Zax (sx:Option Addr) (n:Int) (w:World) (R:Int→Int→ByteArray→Option Addr→Nat→Nat→Bool→World→Prop):Prop:=
 Calls Tryz.prog 133 #[.pointer sx,.int .i64 n] w fun en w1=>∃(r00:Int) (r01:Int) (r02:ByteArray) (r03P:Option Addr) (r03N:Nat) (r03C:Nat) (r1:Bool),en=.returned (.tuple #[.agg #[.int .i64 r00,.int .i64 r01,.string r02,.slice r03P r03N r03C],.bool r1])∧R r00 r01 r02 r03P r03N r03C r1 w1
theorem Zax.mono {sx:Option Addr} {n:Int} {w:World} {R R':Int→Int→ByteArray→Option Addr→Nat→Nat→Bool→World→Prop} (h:Zax sx n w R) (hr:∀r00 r01 r02 r03P r03N r03C r1 w1,R r00 r01 r02 r03P r03N r03C r1 w1→R' r00 r01 r02 r03P r03N r03C r1 w1):Zax sx n w R':=
 Calls.mono h fun _ _ ⟨r00,r01,r02,r03P,r03N,r03C,r1,he,h⟩=>⟨r00,r01,r02,r03P,r03N,r03C,r1,he,hr r00 r01 r02 r03P r03N r03C r1 _ h⟩
def ZaL (sx:Option Addr) (t0:Int) (t1:Int) (t2:ByteArray) (t3P:Option Addr) (t3N:Nat) (t3C:Nat) (w:World) (R:Int→Int→ByteArray→Option Addr→Nat→Nat→World→Prop):Prop:=
 Calls Tryz.prog 134 #[.pointer sx,.agg #[.int .i64 t0,.int .i64 t1,.string t2,.slice t3P t3N t3C]] w fun en w1=>∃(r0:Int) (r1:Int) (r2:ByteArray) (r3P:Option Addr) (r3N:Nat) (r3C:Nat),en=.returned (.agg #[.int .i64 r0,.int .i64 r1,.string r2,.slice r3P r3N r3C])∧R r0 r1 r2 r3P r3N r3C w1
theorem ZaL.mono {sx:Option Addr} {t0:Int} {t1:Int} {t2:ByteArray} {t3P:Option Addr} {t3N:Nat} {t3C:Nat} {w:World} {R R':Int→Int→ByteArray→Option Addr→Nat→Nat→World→Prop} (h:ZaL sx t0 t1 t2 t3P t3N t3C w R) (hr:∀r0 r1 r2 r3P r3N r3C w1,R r0 r1 r2 r3P r3N r3C w1→R' r0 r1 r2 r3P r3N r3C w1):ZaL sx t0 t1 t2 t3P t3N t3C w R':=
 Calls.mono h fun _ _ ⟨r0,r1,r2,r3P,r3N,r3C,he,h⟩=>⟨r0,r1,r2,r3P,r3N,r3C,he,hr r0 r1 r2 r3P r3N r3C _ h⟩
def Zat (sx:Option Addr) (n:Int) (t0:Int) (t1:Int) (t2:ByteArray) (t3P:Option Addr) (t3N:Nat) (t3C:Nat) (w:World) (R:Bool→World→Prop):Prop:=
 Calls Tryz.prog 135 #[.pointer sx,.int .i64 n,.agg #[.int .i64 t0,.int .i64 t1,.string t2,.slice t3P t3N t3C]] w fun en w1=>∃(r:Bool),en=.returned (.bool r)∧R r w1
theorem Zat.mono {sx:Option Addr} {n:Int} {t0:Int} {t1:Int} {t2:ByteArray} {t3P:Option Addr} {t3N:Nat} {t3C:Nat} {w:World} {R R':Bool→World→Prop} (h:Zat sx n t0 t1 t2 t3P t3N t3C w R) (hr:∀r w1,R r w1→R' r w1):Zat sx n t0 t1 t2 t3P t3N t3C w R':=
 Calls.mono h fun _ _ ⟨r,he,h⟩=>⟨r,he,hr r _ h⟩
def Zbl (sx:Option Addr) (t0:Int) (t1:Int) (t2:ByteArray) (t3P:Option Addr) (t3N:Nat) (t3C:Nat) (n:Int) (w:World) (R:Int→World→Prop):Prop:=
 Calls Tryz.prog 136 #[.pointer sx,.agg #[.int .i64 t0,.int .i64 t1,.string t2,.slice t3P t3N t3C],.int .i64 n] w fun en w1=>∃(r:Int),en=.returned (.int .i64 r)∧R r w1
theorem Zbl.mono {sx:Option Addr} {t0:Int} {t1:Int} {t2:ByteArray} {t3P:Option Addr} {t3N:Nat} {t3C:Nat} {n:Int} {w:World} {R R':Int→World→Prop} (h:Zbl sx t0 t1 t2 t3P t3N t3C n w R) (hr:∀r w1,R r w1→R' r w1):Zbl sx t0 t1 t2 t3P t3N t3C n w R':=
 Calls.mono h fun _ _ ⟨r,he,h⟩=>⟨r,he,hr r _ h⟩
def Zbn (sx:Option Addr) (t0:Int) (t1:Int) (t2:ByteArray) (t3P:Option Addr) (t3N:Nat) (t3C:Nat) (w:World) (R:Int→Int→ByteArray→Option Addr→Nat→Nat→World→Prop):Prop:=
 Calls Tryz.prog 137 #[.pointer sx,.agg #[.int .i64 t0,.int .i64 t1,.string t2,.slice t3P t3N t3C]] w fun en w1=>∃(r0:Int) (r1:Int) (r2:ByteArray) (r3P:Option Addr) (r3N:Nat) (r3C:Nat),en=.returned (.agg #[.int .i64 r0,.int .i64 r1,.string r2,.slice r3P r3N r3C])∧R r0 r1 r2 r3P r3N r3C w1
theorem Zbn.mono {sx:Option Addr} {t0:Int} {t1:Int} {t2:ByteArray} {t3P:Option Addr} {t3N:Nat} {t3C:Nat} {w:World} {R R':Int→Int→ByteArray→Option Addr→Nat→Nat→World→Prop} (h:Zbn sx t0 t1 t2 t3P t3N t3C w R) (hr:∀r0 r1 r2 r3P r3N r3C w1,R r0 r1 r2 r3P r3N r3C w1→R' r0 r1 r2 r3P r3N r3C w1):Zbn sx t0 t1 t2 t3P t3N t3C w R':=
 Calls.mono h fun _ _ ⟨r0,r1,r2,r3P,r3N,r3C,he,h⟩=>⟨r0,r1,r2,r3P,r3N,r3C,he,hr r0 r1 r2 r3P r3N r3C _ h⟩
def ZaJ (t:Option Addr) (w:World) (R:Bool→World→Prop):Prop:=
 Calls Tryz.prog 138 #[.pointer t] w fun en w1=>∃(r:Bool),en=.returned (.bool r)∧R r w1
theorem ZaJ.mono {t:Option Addr} {w:World} {R R':Bool→World→Prop} (h:ZaJ t w R) (hr:∀r w1,R r w1→R' r w1):ZaJ t w R':=
 Calls.mono h fun _ _ ⟨r,he,h⟩=>⟨r,he,hr r _ h⟩
def ZaK (x:Option Addr) (delta:Int) (w:World) (R:Int→World→Prop):Prop:=
 Calls Tryz.prog 139 #[.pointer x,.int .i64 delta] w fun en w1=>∃(r:Int),en=.returned (.int .i64 r)∧R r w1
theorem ZaK.mono {x:Option Addr} {delta:Int} {w:World} {R R':Int→World→Prop} (h:ZaK x delta w R) (hr:∀r w1,R r w1→R' r w1):ZaK x delta w R':=
 Calls.mono h fun _ _ ⟨r,he,h⟩=>⟨r,he,hr r _ h⟩
def Zdm (m:Option Addr) (i:Int) (w:World) (R:Int→Int→World→Prop):Prop:=
 Calls Tryz.prog 140 #[.pointer m,.int .i64 i] w fun en w1=>∃(r0:Int) (r1:Int),en=.returned (.tuple #[.int .u64 r0,.int .i64 r1])∧R r0 r1 w1
theorem Zdm.mono {m:Option Addr} {i:Int} {w:World} {R R':Int→Int→World→Prop} (h:Zdm m i w R) (hr:∀r0 r1 w1,R r0 r1 w1→R' r0 r1 w1):Zdm m i w R':=
 Calls.mono h fun _ _ ⟨r0,r1,he,h⟩=>⟨r0,r1,he,hr r0 r1 _ h⟩
def Zi3 (x:Int) (y:Int) (w:World) (R:Bool→World→Prop):Prop:=
 Calls Tryz.prog 143 #[.int .i64 x,.int .i64 y] w fun en w1=>∃(r:Bool),en=.returned (.bool r)∧R r w1
theorem Zi3.mono {x:Int} {y:Int} {w:World} {R R':Bool→World→Prop} (h:Zi3 x y w R) (hr:∀r w1,R r w1→R' r w1):Zi3 x y w R':=
 Calls.mono h fun _ _ ⟨r,he,h⟩=>⟨r,he,hr r _ h⟩
def Zec (x:Int) (w:World) (R:Bool→World→Prop):Prop:=
 Calls Tryz.prog 144 #[.int .i64 x] w fun en w1=>∃(r:Bool),en=.returned (.bool r)∧R r w1
theorem Zec.mono {x:Int} {w:World} {R R':Bool→World→Prop} (h:Zec x w R) (hr:∀r w1,R r w1→R' r w1):Zec x w R':=
 Calls.mono h fun _ _ ⟨r,he,h⟩=>⟨r,he,hr r _ h⟩
def ZcA (cx:Option Addr) (t0:Int) (t1:Int) (t2:ByteArray) (t3P:Option Addr) (t3N:Nat) (t3C:Nat) (depth:Int) (w:World) (R:World→Prop):Prop:=
 Calls Tryz.prog 145 #[.pointer cx,.agg #[.int .i64 t0,.int .i64 t1,.string t2,.slice t3P t3N t3C],.int .i64 depth] w fun en w1=>en=.returned (.tuple #[])∧R w1
theorem ZcA.mono {cx:Option Addr} {t0:Int} {t1:Int} {t2:ByteArray} {t3P:Option Addr} {t3N:Nat} {t3C:Nat} {depth:Int} {w:World} {R R':World→Prop} (h:ZcA cx t0 t1 t2 t3P t3N t3C depth w R) (hr:∀w1,R w1→R' w1):ZcA cx t0 t1 t2 t3P t3N t3C depth w R':=
 Calls.mono h fun _ _ ⟨he,h⟩=>⟨he,hr _ h⟩
def Zi0 (n:Int) (w:World) (R:Int→Int→ByteArray→Option Addr→Nat→Nat→World→Prop):Prop:=
 Calls Tryz.prog 146 #[.int .i64 n] w fun en w1=>∃(r0:Int) (r1:Int) (r2:ByteArray) (r3P:Option Addr) (r3N:Nat) (r3C:Nat),en=.returned (.agg #[.int .i64 r0,.int .i64 r1,.string r2,.slice r3P r3N r3C])∧R r0 r1 r2 r3P r3N r3C w1
theorem Zi0.mono {n:Int} {w:World} {R R':Int→Int→ByteArray→Option Addr→Nat→Nat→World→Prop} (h:Zi0 n w R) (hr:∀r0 r1 r2 r3P r3N r3C w1,R r0 r1 r2 r3P r3N r3C w1→R' r0 r1 r2 r3P r3N r3C w1):Zi0 n w R':=
 Calls.mono h fun _ _ ⟨r0,r1,r2,r3P,r3N,r3C,he,h⟩=>⟨r0,r1,r2,r3P,r3N,r3C,he,hr r0 r1 r2 r3P r3N r3C _ h⟩
def Zc0 (t:Option Addr) (idx:Int) (w:World) (R:Bool→World→Prop):Prop:=
 Calls Tryz.prog 147 #[.pointer t,.int .i64 idx] w fun en w1=>∃(r:Bool),en=.returned (.bool r)∧R r w1
theorem Zc0.mono {t:Option Addr} {idx:Int} {w:World} {R R':Bool→World→Prop} (h:Zc0 t idx w R) (hr:∀r w1,R r w1→R' r w1):Zc0 t idx w R':=
 Calls.mono h fun _ _ ⟨r,he,h⟩=>⟨r,he,hr r _ h⟩
def ZbP (t:Option Addr) (idx:Int) (w:World) (R:Int→World→Prop):Prop:=
 Calls Tryz.prog 148 #[.pointer t,.int .i64 idx] w fun en w1=>∃(r:Int),en=.returned (.int .i64 r)∧R r w1
theorem ZbP.mono {t:Option Addr} {idx:Int} {w:World} {R R':Int→World→Prop} (h:ZbP t idx w R) (hr:∀r w1,R r w1→R' r w1):ZbP t idx w R':=
 Calls.mono h fun _ _ ⟨r,he,h⟩=>⟨r,he,hr r _ h⟩
def Zb3 (sP:Option Addr) (sN:Nat) (sC:Nat) (fx:Value) (w:World) (R:Int→World→Prop):Prop:=
 Calls Tryz.prog 149 #[.slice sP sN sC,fx] w fun en w1=>∃(r:Int),en=.returned (.int .i64 r)∧R r w1
theorem Zb3.mono {sP:Option Addr} {sN:Nat} {sC:Nat} {fx:Value} {w:World} {R R':Int→World→Prop} (h:Zb3 sP sN sC fx w R) (hr:∀r w1,R r w1→R' r w1):Zb3 sP sN sC fx w R':=
 Calls.mono h fun _ _ ⟨r,he,h⟩=>⟨r,he,hr r _ h⟩
def ZdH (r0:Int) (r1:Int) (c0:Addr) (w:World) (R:Bool→World→Prop):Prop:=
 Calls Tryz.prog 150 #[.agg #[.int .i64 r0,.int .i64 r1],.pointer (some c0)] w fun en w1=>∃(r:Bool),en=.returned (.bool r)∧R r w1
theorem ZdH.mono {r0:Int} {r1:Int} {c0:Addr} {w:World} {R R':Bool→World→Prop} (h:ZdH r0 r1 c0 w R) (hr:∀r w1,R r w1→R' r w1):ZdH r0 r1 c0 w R':=
 Calls.mono h fun _ _ ⟨r,he,h⟩=>⟨r,he,hr r _ h⟩
def ZcJ (sP:Option Addr) (sN:Nat) (sC:Nat) (i:Int) (j:Int) (w:World) (R:Option Addr→Nat→Nat→World→Prop):Prop:=
 Calls Tryz.prog 151 #[.slice sP sN sC,.int .i64 i,.int .i64 j] w fun en w1=>∃(rP:Option Addr) (rN:Nat) (rC:Nat),en=.returned (.slice rP rN rC)∧R rP rN rC w1
theorem ZcJ.mono {sP:Option Addr} {sN:Nat} {sC:Nat} {i:Int} {j:Int} {w:World} {R R':Option Addr→Nat→Nat→World→Prop} (h:ZcJ sP sN sC i j w R) (hr:∀rP rN rC w1,R rP rN rC w1→R' rP rN rC w1):ZcJ sP sN sC i j w R':=
 Calls.mono h fun _ _ ⟨rP,rN,rC,he,h⟩=>⟨rP,rN,rC,he,hr rP rN rC _ h⟩
def ZcM (m:Option Addr) (w:World) (R:World→Prop):Prop:=
 Calls Tryz.prog 152 #[.pointer m] w fun en w1=>en=.returned (.tuple #[])∧R w1
theorem ZcM.mono {m:Option Addr} {w:World} {R R':World→Prop} (h:ZcM m w R) (hr:∀w1,R w1→R' w1):ZcM m w R':=
 Calls.mono h fun _ _ ⟨he,h⟩=>⟨he,hr _ h⟩
def ZaS (p:Option Addr) (atx:Int) (w:World) (R:Int→World→Prop):Prop:=
 Calls Tryz.prog 153 #[.pointer p,.int .i64 atx] w fun en w1=>∃(r:Int),en=.returned (.int .i64 r)∧R r w1
theorem ZaS.mono {p:Option Addr} {atx:Int} {w:World} {R R':Int→World→Prop} (h:ZaS p atx w R) (hr:∀r w1,R r w1→R' r w1):ZaS p atx w R':=
 Calls.mono h fun _ _ ⟨r,he,h⟩=>⟨r,he,hr r _ h⟩
def ZbA (sx:Option Addr) (atx:Int) (n:Int) (w:World) (R:Bool→World→Prop):Prop:=
 Calls Tryz.prog 154 #[.pointer sx,.int .i64 atx,.int .i64 n] w fun en w1=>∃(r:Bool),en=.returned (.bool r)∧R r w1
theorem ZbA.mono {sx:Option Addr} {atx:Int} {n:Int} {w:World} {R R':Bool→World→Prop} (h:ZbA sx atx n w R) (hr:∀r w1,R r w1→R' r w1):ZbA sx atx n w R':=
 Calls.mono h fun _ _ ⟨r,he,h⟩=>⟨r,he,hr r _ h⟩
def Zay (sx:Option Addr) (n:Int) (t0:Int) (t1:Int) (t2:ByteArray) (t3P:Option Addr) (t3N:Nat) (t3C:Nat) (seen:Option Nat) (w:World) (R:Bool→World→Prop):Prop:=
 Calls Tryz.prog 155 #[.pointer sx,.int .i64 n,.agg #[.int .i64 t0,.int .i64 t1,.string t2,.slice t3P t3N t3C],.map seen] w fun en w1=>∃(r:Bool),en=.returned (.bool r)∧R r w1
theorem Zay.mono {sx:Option Addr} {n:Int} {t0:Int} {t1:Int} {t2:ByteArray} {t3P:Option Addr} {t3N:Nat} {t3C:Nat} {seen:Option Nat} {w:World} {R R':Bool→World→Prop} (h:Zay sx n t0 t1 t2 t3P t3N t3C seen w R) (hr:∀r w1,R r w1→R' r w1):Zay sx n t0 t1 t2 t3P t3N t3C seen w R':=
 Calls.mono h fun _ _ ⟨r,he,h⟩=>⟨r,he,hr r _ h⟩
def Zei (o:Option Addr) (fx:Value) (w:World) (R:World→Prop):Prop:=
 Calls Tryz.prog 156 #[.pointer o,fx] w fun en w1=>en=.returned (.tuple #[])∧R w1
theorem Zei.mono {o:Option Addr} {fx:Value} {w:World} {R R':World→Prop} (h:Zei o fx w R) (hr:∀w1,R w1→R' w1):Zei o fx w R':=
 Calls.mono h fun _ _ ⟨he,h⟩=>⟨he,hr _ h⟩
def ZcE (t:Option Addr) (w:World) (R:World→Prop):Prop:=
 Calls Tryz.prog 157 #[.pointer t] w fun en w1=>en=.returned (.tuple #[])∧R w1
theorem ZcE.mono {t:Option Addr} {w:World} {R R':World→Prop} (h:ZcE t w R) (hr:∀w1,R w1→R' w1):ZcE t w R':=
 Calls.mono h fun _ _ ⟨he,h⟩=>⟨he,hr _ h⟩
def Zdu (m:Option Addr) (i:Int) (w:World) (R:Int→World→Prop):Prop:=
 Calls Tryz.prog 159 #[.pointer m,.int .i64 i] w fun en w1=>∃(r:Int),en=.returned (.int .i64 r)∧R r w1
theorem Zdu.mono {m:Option Addr} {i:Int} {w:World} {R R':Int→World→Prop} (h:Zdu m i w R) (hr:∀r w1,R r w1→R' r w1):Zdu m i w R':=
 Calls.mono h fun _ _ ⟨r,he,h⟩=>⟨r,he,hr r _ h⟩
def ZbS (sP:Option Addr) (sN:Nat) (sC:Nat) (fx:Value) (w:World) (R:Int→World→Prop):Prop:=
 Calls Tryz.prog 160 #[.slice sP sN sC,fx] w fun en w1=>∃(r:Int),en=.returned (.int .i64 r)∧R r w1
theorem ZbS.mono {sP:Option Addr} {sN:Nat} {sC:Nat} {fx:Value} {w:World} {R R':Int→World→Prop} (h:ZbS sP sN sC fx w R) (hr:∀r w1,R r w1→R' r w1):ZbS sP sN sC fx w R':=
 Calls.mono h fun _ _ ⟨r,he,h⟩=>⟨r,he,hr r _ h⟩
def ZdI (x:Int) (w:World) (R:Bool→World→Prop):Prop:=
 Calls Tryz.prog 161 #[.int .i64 x] w fun en w1=>∃(r:Bool),en=.returned (.bool r)∧R r w1
theorem ZdI.mono {x:Int} {w:World} {R R':Bool→World→Prop} (h:ZdI x w R) (hr:∀r w1,R r w1→R' r w1):ZdI x w R':=
 Calls.mono h fun _ _ ⟨r,he,h⟩=>⟨r,he,hr r _ h⟩
def ZgV (t0:Int) (t1:Int) (t2:ByteArray) (t3P:Option Addr) (t3N:Nat) (t3C:Nat) (w:World) (R:Bool→World→Prop):Prop:=
 Calls Tryz.prog 162 #[.agg #[.int .i64 t0,.int .i64 t1,.string t2,.slice t3P t3N t3C]] w fun en w1=>∃(r:Bool),en=.returned (.bool r)∧R r w1
theorem ZgV.mono {t0:Int} {t1:Int} {t2:ByteArray} {t3P:Option Addr} {t3N:Nat} {t3C:Nat} {w:World} {R R':Bool→World→Prop} (h:ZgV t0 t1 t2 t3P t3N t3C w R) (hr:∀r w1,R r w1→R' r w1):ZgV t0 t1 t2 t3P t3N t3C w R':=
 Calls.mono h fun _ _ ⟨r,he,h⟩=>⟨r,he,hr r _ h⟩
def ZaA (xP:Option Addr) (xN:Nat) (xC:Nat) (target:Int) (cmp:Value) (w:World) (R:Int→Bool→World→Prop):Prop:=
 Calls Tryz.prog 163 #[.slice xP xN xC,.int .i64 target,cmp] w fun en w1=>∃(r0:Int) (r1:Bool),en=.returned (.tuple #[.int .i64 r0,.bool r1])∧R r0 r1 w1
theorem ZaA.mono {xP:Option Addr} {xN:Nat} {xC:Nat} {target:Int} {cmp:Value} {w:World} {R R':Int→Bool→World→Prop} (h:ZaA xP xN xC target cmp w R) (hr:∀r0 r1 w1,R r0 r1 w1→R' r0 r1 w1):ZaA xP xN xC target cmp w R':=
 Calls.mono h fun _ _ ⟨r0,r1,he,h⟩=>⟨r0,r1,he,hr r0 r1 _ h⟩
def Zcq (s0x:Int) (s1P:Option Addr) (s1N:Nat) (s1C:Nat) (atx:Int) (w:World) (R:Int→World→Prop):Prop:=
 Calls Tryz.prog 164 #[.agg #[.int .i64 s0x,.slice s1P s1N s1C],.int .i64 atx] w fun en w1=>∃(r:Int),en=.returned (.int .i64 r)∧R r w1
theorem Zcq.mono {s0x:Int} {s1P:Option Addr} {s1N:Nat} {s1C:Nat} {atx:Int} {w:World} {R R':Int→World→Prop} (h:Zcq s0x s1P s1N s1C atx w R) (hr:∀r w1,R r w1→R' r w1):Zcq s0x s1P s1N s1C atx w R':=
 Calls.mono h fun _ _ ⟨r,he,h⟩=>⟨r,he,hr r _ h⟩
def Zd4 (x:Int) (y:Int) (w:World) (R:Int→World→Prop):Prop:=
 Calls Tryz.prog 165 #[.int .i64 x,.int .i64 y] w fun en w1=>∃(r:Int),en=.returned (.int .i64 r)∧R r w1
theorem Zd4.mono {x:Int} {y:Int} {w:World} {R R':Int→World→Prop} (h:Zd4 x y w R) (hr:∀r w1,R r w1→R' r w1):Zd4 x y w R':=
 Calls.mono h fun _ _ ⟨r,he,h⟩=>⟨r,he,hr r _ h⟩
def Zbx (sx:Option Addr) (atx:Int) (w:World) (R:Int→World→Prop):Prop:=
 Calls Tryz.prog 166 #[.pointer sx,.int .i64 atx] w fun en w1=>∃(r:Int),en=.returned (.int .i64 r)∧R r w1
theorem Zbx.mono {sx:Option Addr} {atx:Int} {w:World} {R R':Int→World→Prop} (h:Zbx sx atx w R) (hr:∀r w1,R r w1→R' r w1):Zbx sx atx w R':=
 Calls.mono h fun _ _ ⟨r,he,h⟩=>⟨r,he,hr r _ h⟩
def ZaM (x:Option Addr) (w:World) (R:Bool→World→Prop):Prop:=
 Calls Tryz.prog 167 #[.pointer x] w fun en w1=>∃(r:Bool),en=.returned (.bool r)∧R r w1
theorem ZaM.mono {x:Option Addr} {w:World} {R R':Bool→World→Prop} (h:ZaM x w R) (hr:∀r w1,R r w1→R' r w1):ZaM x w R':=
 Calls.mono h fun _ _ ⟨r,he,h⟩=>⟨r,he,hr r _ h⟩
def Zgw (o:Option Addr) (fx:Value) (w:World) (R:World→Prop):Prop:=
 Calls Tryz.prog 168 #[.pointer o,fx] w fun en w1=>en=.returned (.tuple #[])∧R w1
theorem Zgw.mono {o:Option Addr} {fx:Value} {w:World} {R R':World→Prop} (h:Zgw o fx w R) (hr:∀w1,R w1→R' w1):Zgw o fx w R':=
 Calls.mono h fun _ _ ⟨he,h⟩=>⟨he,hr _ h⟩
def Zeo (t0:Int) (t1:Int) (t2:ByteArray) (t3P:Option Addr) (t3N:Nat) (t3C:Nat) (w:World) (R:Bool→World→Prop):Prop:=
 Calls Tryz.prog 169 #[.agg #[.int .i64 t0,.int .i64 t1,.string t2,.slice t3P t3N t3C]] w fun en w1=>∃(r:Bool),en=.returned (.bool r)∧R r w1
theorem Zeo.mono {t0:Int} {t1:Int} {t2:ByteArray} {t3P:Option Addr} {t3N:Nat} {t3C:Nat} {w:World} {R R':Bool→World→Prop} (h:Zeo t0 t1 t2 t3P t3N t3C w R) (hr:∀r w1,R r w1→R' r w1):Zeo t0 t1 t2 t3P t3N t3C w R':=
 Calls.mono h fun _ _ ⟨r,he,h⟩=>⟨r,he,hr r _ h⟩
def Zau (xP:Option Addr) (xN:Nat) (xC:Nat) (target:Int) (cmp:Value) (w:World) (R:Int→Bool→World→Prop):Prop:=
 Calls Tryz.prog 170 #[.slice xP xN xC,.int .i64 target,cmp] w fun en w1=>∃(r0:Int) (r1:Bool),en=.returned (.tuple #[.int .i64 r0,.bool r1])∧R r0 r1 w1
theorem Zau.mono {xP:Option Addr} {xN:Nat} {xC:Nat} {target:Int} {cmp:Value} {w:World} {R R':Int→Bool→World→Prop} (h:Zau xP xN xC target cmp w R) (hr:∀r0 r1 w1,R r0 r1 w1→R' r0 r1 w1):Zau xP xN xC target cmp w R':=
 Calls.mono h fun _ _ ⟨r0,r1,he,h⟩=>⟨r0,r1,he,hr r0 r1 _ h⟩
def Zb9 (r0:Int) (r1:Int) (atx:Int) (w:World) (R:Int→World→Prop):Prop:=
 Calls Tryz.prog 171 #[.agg #[.int .i64 r0,.int .i64 r1],.int .i64 atx] w fun en w1=>∃(r:Int),en=.returned (.int .i64 r)∧R r w1
theorem Zb9.mono {r0:Int} {r1:Int} {atx:Int} {w:World} {R R':Int→World→Prop} (h:Zb9 r0 r1 atx w R) (hr:∀r w1,R r w1→R' r w1):Zb9 r0 r1 atx w R':=
 Calls.mono h fun _ _ ⟨r,he,h⟩=>⟨r,he,hr r _ h⟩
theorem ofS1 {f:FuncId} {fn:Func} {c:Code} (hf:Tryz.prog.funcs[f]?=some fn) (hb:fn.body=some c) {G:Gen} (hL:LoopOk Tryz.prog fn.ntmps G c) {args:List Value} (hn:Nat.ble args.length fn.ntmps=true) {w:World} {Fm:(World→Prop)→Prop}
  (hF:∀R:Value→World→Prop,Fm (fun w1=>R (.tuple #[]) w1)=den Tryz.prog fn.ntmps G c [] (postD Tryz.prog fn.results.toList R) (entry args 0) w) {R:World→Prop} (h:Fm R):Calls Tryz.prog f args.toArray w fun e w1=>e=.returned (.tuple #[])∧R w1:=by
 refine(ZaF Zan Zag hf hb hL (args:=args) hn (R:=fun v w1=>v=(.tuple #[]:Value)∧R w1) ?_).mono ?_
 ·rw[←hF]
  simpa using h
 ·rintro en w1 ⟨v,he,rfl,h⟩
  exact⟨he,h⟩
theorem ofS2 {f:FuncId} {fn:Func} {c:Code} (hf:Tryz.prog.funcs[f]?=some fn) (hb:fn.body=some c) {G:Gen} (hL:LoopOk Tryz.prog fn.ntmps G c) {args:List Value} (hn:Nat.ble args.length fn.ntmps=true) {w:World} {Fm:(Bool→World→Prop)→Prop}
  (hF:∀R:Value→World→Prop,Fm (fun q0 w1=>R (.bool q0) w1)=den Tryz.prog fn.ntmps G c [] (postD Tryz.prog fn.results.toList R) (entry args 0) w) {R:Bool→World→Prop} (h:Fm R):Calls Tryz.prog f args.toArray w fun e w1=>∃(q0:Bool),e=.returned (.bool q0)∧R q0 w1:=by
 refine(ZaF Zan Zag hf hb hL (args:=args) hn (R:=fun v w1=>∃(q0:Bool),v=(.bool q0:Value)∧R q0 w1) ?_).mono ?_
 ·rw[←hF]
  have e:(fun q0 w1=>∃(q0':Bool),(.bool q0:Value)=(.bool q0':Value)∧R q0' w1)=R:=by
   funext q0 w1
   exact propext ⟨fun ⟨q0',he,h⟩=>by first | (simp at he;simp_all) | (cases he;exact h),fun h=>⟨_,rfl,h⟩⟩
  simpa only[e] using h
 ·rintro en w1 ⟨v,he,q0,rfl,h⟩
  exact⟨_,he,h⟩
theorem ofS3 {f:FuncId} {fn:Func} {c:Code} (hf:Tryz.prog.funcs[f]?=some fn) (hb:fn.body=some c) {G:Gen} (hL:LoopOk Tryz.prog fn.ntmps G c) {args:List Value} (hn:Nat.ble args.length fn.ntmps=true) {w:World} {Fm:(Option Addr→Int→World→Prop)→Prop}
  (hF:∀R:Value→World→Prop,Fm (fun q0 q1 w1=>R (.tuple #[.pointer q0,.int .i64 q1]) w1)=den Tryz.prog fn.ntmps G c [] (postD Tryz.prog fn.results.toList R) (entry args 0) w) {R:Option Addr→Int→World→Prop} (h:Fm R):Calls Tryz.prog f args.toArray w fun e w1=>∃(q0:Option Addr) (q1:Int),e=.returned (.tuple #[.pointer q0,.int .i64 q1])∧R q0 q1 w1:=by
 refine(ZaF Zan Zag hf hb hL (args:=args) hn (R:=fun v w1=>∃(q0:Option Addr) (q1:Int),v=(.tuple #[.pointer q0,.int .i64 q1]:Value)∧R q0 q1 w1) ?_).mono ?_
 ·rw[←hF]
  have e:(fun q0 q1 w1=>∃(q0':Option Addr) (q1':Int),(.tuple #[.pointer q0,.int .i64 q1]:Value)=(.tuple #[.pointer q0',.int .i64 q1']:Value)∧R q0' q1' w1)=R:=by
   funext q0 q1 w1
   exact propext ⟨fun ⟨q0',q1',he,h⟩=>by first | (simp at he;simp_all) | (cases he;exact h),fun h=>⟨_,_,rfl,h⟩⟩
  simpa only[e] using h
 ·rintro en w1 ⟨v,he,q0,q1,rfl,h⟩
  exact⟨_,_,he,h⟩
theorem ofS4 {f:FuncId} {fn:Func} {c:Code} (hf:Tryz.prog.funcs[f]?=some fn) (hb:fn.body=some c) {G:Gen} (hL:LoopOk Tryz.prog fn.ntmps G c) {args:List Value} (hn:Nat.ble args.length fn.ntmps=true) {w:World} {Fm:(Int→World→Prop)→Prop}
  (hF:∀R:Value→World→Prop,Fm (fun q0 w1=>R (.int .i64 q0) w1)=den Tryz.prog fn.ntmps G c [] (postD Tryz.prog fn.results.toList R) (entry args 0) w) {R:Int→World→Prop} (h:Fm R):Calls Tryz.prog f args.toArray w fun e w1=>∃(q0:Int),e=.returned (.int .i64 q0)∧R q0 w1:=by
 refine(ZaF Zan Zag hf hb hL (args:=args) hn (R:=fun v w1=>∃(q0:Int),v=(.int .i64 q0:Value)∧R q0 w1) ?_).mono ?_
 ·rw[←hF]
  have e:(fun q0 w1=>∃(q0':Int),(.int .i64 q0:Value)=(.int .i64 q0':Value)∧R q0' w1)=R:=by
   funext q0 w1
   exact propext ⟨fun ⟨q0',he,h⟩=>by first | (simp at he;simp_all) | (cases he;exact h),fun h=>⟨_,rfl,h⟩⟩
  simpa only[e] using h
 ·rintro en w1 ⟨v,he,q0,rfl,h⟩
  exact⟨_,he,h⟩
theorem ofS5 {f:FuncId} {fn:Func} {c:Code} (hf:Tryz.prog.funcs[f]?=some fn) (hb:fn.body=some c) {G:Gen} (hL:LoopOk Tryz.prog fn.ntmps G c) {args:List Value} (hn:Nat.ble args.length fn.ntmps=true) {w:World} {Fm:(Int→Int→World→Prop)→Prop}
  (hF:∀R:Value→World→Prop,Fm (fun q0 q1 w1=>R (.tuple #[.int .u64 q0,.int .i64 q1]) w1)=den Tryz.prog fn.ntmps G c [] (postD Tryz.prog fn.results.toList R) (entry args 0) w) {R:Int→Int→World→Prop} (h:Fm R):Calls Tryz.prog f args.toArray w fun e w1=>∃(q0:Int) (q1:Int),e=.returned (.tuple #[.int .u64 q0,.int .i64 q1])∧R q0 q1 w1:=by
 refine(ZaF Zan Zag hf hb hL (args:=args) hn (R:=fun v w1=>∃(q0:Int) (q1:Int),v=(.tuple #[.int .u64 q0,.int .i64 q1]:Value)∧R q0 q1 w1) ?_).mono ?_
 ·rw[←hF]
  have e:(fun q0 q1 w1=>∃(q0':Int) (q1':Int),(.tuple #[.int .u64 q0,.int .i64 q1]:Value)=(.tuple #[.int .u64 q0',.int .i64 q1']:Value)∧R q0' q1' w1)=R:=by
   funext q0 q1 w1
   exact propext ⟨fun ⟨q0',q1',he,h⟩=>by first | (simp at he;simp_all) | (cases he;exact h),fun h=>⟨_,_,rfl,h⟩⟩
  simpa only[e] using h
 ·rintro en w1 ⟨v,he,q0,q1,rfl,h⟩
  exact⟨_,_,he,h⟩
theorem ofS6 {f:FuncId} {fn:Func} {c:Code} (hf:Tryz.prog.funcs[f]?=some fn) (hb:fn.body=some c) {G:Gen} (hL:LoopOk Tryz.prog fn.ntmps G c) {args:List Value} (hn:Nat.ble args.length fn.ntmps=true) {w:World} {Fm:(Option Addr→Nat→Nat→World→Prop)→Prop}
  (hF:∀R:Value→World→Prop,Fm (fun q0 q1 q2 w1=>R (.slice q0 q1 q2) w1)=den Tryz.prog fn.ntmps G c [] (postD Tryz.prog fn.results.toList R) (entry args 0) w) {R:Option Addr→Nat→Nat→World→Prop} (h:Fm R):Calls Tryz.prog f args.toArray w fun e w1=>∃(q0:Option Addr) (q1:Nat) (q2:Nat),e=.returned (.slice q0 q1 q2)∧R q0 q1 q2 w1:=by
 refine(ZaF Zan Zag hf hb hL (args:=args) hn (R:=fun v w1=>∃(q0:Option Addr) (q1:Nat) (q2:Nat),v=(.slice q0 q1 q2:Value)∧R q0 q1 q2 w1) ?_).mono ?_
 ·rw[←hF]
  have e:(fun q0 q1 q2 w1=>∃(q0':Option Addr) (q1':Nat) (q2':Nat),(.slice q0 q1 q2:Value)=(.slice q0' q1' q2':Value)∧R q0' q1' q2' w1)=R:=by
   funext q0 q1 q2 w1
   exact propext ⟨fun ⟨q0',q1',q2',he,h⟩=>by first | (simp at he;simp_all) | (cases he;exact h),fun h=>⟨_,_,_,rfl,h⟩⟩
  simpa only[e] using h
 ·rintro en w1 ⟨v,he,q0,q1,q2,rfl,h⟩
  exact⟨_,_,_,he,h⟩
theorem ofS7 {f:FuncId} {fn:Func} {c:Code} (hf:Tryz.prog.funcs[f]?=some fn) (hb:fn.body=some c) {G:Gen} (hL:LoopOk Tryz.prog fn.ntmps G c) {args:List Value} (hn:Nat.ble args.length fn.ntmps=true) {w:World} {Fm:(Option Addr→Nat→Nat→Option Addr→Nat→Nat→Int→World→Prop)→Prop}
  (hF:∀R:Value→World→Prop,Fm (fun q0 q1 q2 q3 q4 q5 q6 w1=>R (.tuple #[.slice q0 q1 q2,.slice q3 q4 q5,.int .i64 q6]) w1)=den Tryz.prog fn.ntmps G c [] (postD Tryz.prog fn.results.toList R) (entry args 0) w) {R:Option Addr→Nat→Nat→Option Addr→Nat→Nat→Int→World→Prop} (h:Fm R):Calls Tryz.prog f args.toArray w fun e w1=>∃(q0:Option Addr) (q1:Nat) (q2:Nat) (q3:Option Addr) (q4:Nat) (q5:Nat) (q6:Int),e=.returned (.tuple #[.slice q0 q1 q2,.slice q3 q4 q5,.int .i64 q6])∧R q0 q1 q2 q3 q4 q5 q6 w1:=by
 refine(ZaF Zan Zag hf hb hL (args:=args) hn (R:=fun v w1=>∃(q0:Option Addr) (q1:Nat) (q2:Nat) (q3:Option Addr) (q4:Nat) (q5:Nat) (q6:Int),v=(.tuple #[.slice q0 q1 q2,.slice q3 q4 q5,.int .i64 q6]:Value)∧R q0 q1 q2 q3 q4 q5 q6 w1) ?_).mono ?_
 ·rw[←hF]
  have e:(fun q0 q1 q2 q3 q4 q5 q6 w1=>∃(q0':Option Addr) (q1':Nat) (q2':Nat) (q3':Option Addr) (q4':Nat) (q5':Nat) (q6':Int),(.tuple #[.slice q0 q1 q2,.slice q3 q4 q5,.int .i64 q6]:Value)=(.tuple #[.slice q0' q1' q2',.slice q3' q4' q5',.int .i64 q6']:Value)∧R q0' q1' q2' q3' q4' q5' q6' w1)=R:=by
   funext q0 q1 q2 q3 q4 q5 q6 w1
   exact propext ⟨fun ⟨q0',q1',q2',q3',q4',q5',q6',he,h⟩=>by first | (simp at he;simp_all) | (cases he;exact h),fun h=>⟨_,_,_,_,_,_,_,rfl,h⟩⟩
  simpa only[e] using h
 ·rintro en w1 ⟨v,he,q0,q1,q2,q3,q4,q5,q6,rfl,h⟩
  exact⟨_,_,_,_,_,_,_,he,h⟩
theorem ofS9 {f:FuncId} {fn:Func} {c:Code} (hf:Tryz.prog.funcs[f]?=some fn) (hb:fn.body=some c) {G:Gen} (hL:LoopOk Tryz.prog fn.ntmps G c) {args:List Value} (hn:Nat.ble args.length fn.ntmps=true) {w:World} {Fm:(Int→World→Prop)→Prop}
  (hF:∀R:Value→World→Prop,Fm (fun q0 w1=>R (.int .u64 q0) w1)=den Tryz.prog fn.ntmps G c [] (postD Tryz.prog fn.results.toList R) (entry args 0) w) {R:Int→World→Prop} (h:Fm R):Calls Tryz.prog f args.toArray w fun e w1=>∃(q0:Int),e=.returned (.int .u64 q0)∧R q0 w1:=by
 refine(ZaF Zan Zag hf hb hL (args:=args) hn (R:=fun v w1=>∃(q0:Int),v=(.int .u64 q0:Value)∧R q0 w1) ?_).mono ?_
 ·rw[←hF]
  have e:(fun q0 w1=>∃(q0':Int),(.int .u64 q0:Value)=(.int .u64 q0':Value)∧R q0' w1)=R:=by
   funext q0 w1
   exact propext ⟨fun ⟨q0',he,h⟩=>by first | (simp at he;simp_all) | (cases he;exact h),fun h=>⟨_,rfl,h⟩⟩
  simpa only[e] using h
 ·rintro en w1 ⟨v,he,q0,rfl,h⟩
  exact⟨_,he,h⟩
theorem ofS10 {f:FuncId} {fn:Func} {c:Code} (hf:Tryz.prog.funcs[f]?=some fn) (hb:fn.body=some c) {G:Gen} (hL:LoopOk Tryz.prog fn.ntmps G c) {args:List Value} (hn:Nat.ble args.length fn.ntmps=true) {w:World} {Fm:(Int→Int→ByteArray→Option Addr→Nat→Nat→World→Prop)→Prop}
  (hF:∀R:Value→World→Prop,Fm (fun q0 q1 q2 q3 q4 q5 w1=>R (.agg #[.int .i64 q0,.int .i64 q1,.string q2,.slice q3 q4 q5]) w1)=den Tryz.prog fn.ntmps G c [] (postD Tryz.prog fn.results.toList R) (entry args 0) w) {R:Int→Int→ByteArray→Option Addr→Nat→Nat→World→Prop} (h:Fm R):Calls Tryz.prog f args.toArray w fun e w1=>∃(q0:Int) (q1:Int) (q2:ByteArray) (q3:Option Addr) (q4:Nat) (q5:Nat),e=.returned (.agg #[.int .i64 q0,.int .i64 q1,.string q2,.slice q3 q4 q5])∧R q0 q1 q2 q3 q4 q5 w1:=by
 refine(ZaF Zan Zag hf hb hL (args:=args) hn (R:=fun v w1=>∃(q0:Int) (q1:Int) (q2:ByteArray) (q3:Option Addr) (q4:Nat) (q5:Nat),v=(.agg #[.int .i64 q0,.int .i64 q1,.string q2,.slice q3 q4 q5]:Value)∧R q0 q1 q2 q3 q4 q5 w1) ?_).mono ?_
 ·rw[←hF]
  have e:(fun q0 q1 q2 q3 q4 q5 w1=>∃(q0':Int) (q1':Int) (q2':ByteArray) (q3':Option Addr) (q4':Nat) (q5':Nat),(.agg #[.int .i64 q0,.int .i64 q1,.string q2,.slice q3 q4 q5]:Value)=(.agg #[.int .i64 q0',.int .i64 q1',.string q2',.slice q3' q4' q5']:Value)∧R q0' q1' q2' q3' q4' q5' w1)=R:=by
   funext q0 q1 q2 q3 q4 q5 w1
   exact propext ⟨fun ⟨q0',q1',q2',q3',q4',q5',he,h⟩=>by first | (simp at he;simp_all) | (cases he;exact h),fun h=>⟨_,_,_,_,_,_,rfl,h⟩⟩
  simpa only[e] using h
 ·rintro en w1 ⟨v,he,q0,q1,q2,q3,q4,q5,rfl,h⟩
  exact⟨_,_,_,_,_,_,he,h⟩
theorem ofS11 {f:FuncId} {fn:Func} {c:Code} (hf:Tryz.prog.funcs[f]?=some fn) (hb:fn.body=some c) {G:Gen} (hL:LoopOk Tryz.prog fn.ntmps G c) {args:List Value} (hn:Nat.ble args.length fn.ntmps=true) {w:World} {Fm:(Bool→Int→World→Prop)→Prop}
  (hF:∀R:Value→World→Prop,Fm (fun q0 q1 w1=>R (.tuple #[.bool q0,.int .i64 q1]) w1)=den Tryz.prog fn.ntmps G c [] (postD Tryz.prog fn.results.toList R) (entry args 0) w) {R:Bool→Int→World→Prop} (h:Fm R):Calls Tryz.prog f args.toArray w fun e w1=>∃(q0:Bool) (q1:Int),e=.returned (.tuple #[.bool q0,.int .i64 q1])∧R q0 q1 w1:=by
 refine(ZaF Zan Zag hf hb hL (args:=args) hn (R:=fun v w1=>∃(q0:Bool) (q1:Int),v=(.tuple #[.bool q0,.int .i64 q1]:Value)∧R q0 q1 w1) ?_).mono ?_
 ·rw[←hF]
  have e:(fun q0 q1 w1=>∃(q0':Bool) (q1':Int),(.tuple #[.bool q0,.int .i64 q1]:Value)=(.tuple #[.bool q0',.int .i64 q1']:Value)∧R q0' q1' w1)=R:=by
   funext q0 q1 w1
   exact propext ⟨fun ⟨q0',q1',he,h⟩=>by first | (simp at he;simp_all) | (cases he;exact h),fun h=>⟨_,_,rfl,h⟩⟩
  simpa only[e] using h
 ·rintro en w1 ⟨v,he,q0,q1,rfl,h⟩
  exact⟨_,_,he,h⟩
theorem ofS12 {f:FuncId} {fn:Func} {c:Code} (hf:Tryz.prog.funcs[f]?=some fn) (hb:fn.body=some c) {G:Gen} (hL:LoopOk Tryz.prog fn.ntmps G c) {args:List Value} (hn:Nat.ble args.length fn.ntmps=true) {w:World} {Fm:(Int→Int→World→Prop)→Prop}
  (hF:∀R:Value→World→Prop,Fm (fun q0 q1 w1=>R (.tuple #[.int .i64 q0,.int .i64 q1]) w1)=den Tryz.prog fn.ntmps G c [] (postD Tryz.prog fn.results.toList R) (entry args 0) w) {R:Int→Int→World→Prop} (h:Fm R):Calls Tryz.prog f args.toArray w fun e w1=>∃(q0:Int) (q1:Int),e=.returned (.tuple #[.int .i64 q0,.int .i64 q1])∧R q0 q1 w1:=by
 refine(ZaF Zan Zag hf hb hL (args:=args) hn (R:=fun v w1=>∃(q0:Int) (q1:Int),v=(.tuple #[.int .i64 q0,.int .i64 q1]:Value)∧R q0 q1 w1) ?_).mono ?_
 ·rw[←hF]
  have e:(fun q0 q1 w1=>∃(q0':Int) (q1':Int),(.tuple #[.int .i64 q0,.int .i64 q1]:Value)=(.tuple #[.int .i64 q0',.int .i64 q1']:Value)∧R q0' q1' w1)=R:=by
   funext q0 q1 w1
   exact propext ⟨fun ⟨q0',q1',he,h⟩=>by first | (simp at he;simp_all) | (cases he;exact h),fun h=>⟨_,_,rfl,h⟩⟩
  simpa only[e] using h
 ·rintro en w1 ⟨v,he,q0,q1,rfl,h⟩
  exact⟨_,_,he,h⟩
theorem ofS13 {f:FuncId} {fn:Func} {c:Code} (hf:Tryz.prog.funcs[f]?=some fn) (hb:fn.body=some c) {G:Gen} (hL:LoopOk Tryz.prog fn.ntmps G c) {args:List Value} (hn:Nat.ble args.length fn.ntmps=true) {w:World} {Fm:(Option Addr→World→Prop)→Prop}
  (hF:∀R:Value→World→Prop,Fm (fun q0 w1=>R (.pointer q0) w1)=den Tryz.prog fn.ntmps G c [] (postD Tryz.prog fn.results.toList R) (entry args 0) w) {R:Option Addr→World→Prop} (h:Fm R):Calls Tryz.prog f args.toArray w fun e w1=>∃(q0:Option Addr),e=.returned (.pointer q0)∧R q0 w1:=by
 refine(ZaF Zan Zag hf hb hL (args:=args) hn (R:=fun v w1=>∃(q0:Option Addr),v=(.pointer q0:Value)∧R q0 w1) ?_).mono ?_
 ·rw[←hF]
  have e:(fun q0 w1=>∃(q0':Option Addr),(.pointer q0:Value)=(.pointer q0':Value)∧R q0' w1)=R:=by
   funext q0 w1
   exact propext ⟨fun ⟨q0',he,h⟩=>by first | (simp at he;simp_all) | (cases he;exact h),fun h=>⟨_,rfl,h⟩⟩
  simpa only[e] using h
 ·rintro en w1 ⟨v,he,q0,rfl,h⟩
  exact⟨_,he,h⟩
theorem ofS14 {f:FuncId} {fn:Func} {c:Code} (hf:Tryz.prog.funcs[f]?=some fn) (hb:fn.body=some c) {G:Gen} (hL:LoopOk Tryz.prog fn.ntmps G c) {args:List Value} (hn:Nat.ble args.length fn.ntmps=true) {w:World} {Fm:(Option Addr→Nat→Nat→Int→World→Prop)→Prop}
  (hF:∀R:Value→World→Prop,Fm (fun q0 q1 q2 q3 w1=>R (.tuple #[.slice q0 q1 q2,.int .i64 q3]) w1)=den Tryz.prog fn.ntmps G c [] (postD Tryz.prog fn.results.toList R) (entry args 0) w) {R:Option Addr→Nat→Nat→Int→World→Prop} (h:Fm R):Calls Tryz.prog f args.toArray w fun e w1=>∃(q0:Option Addr) (q1:Nat) (q2:Nat) (q3:Int),e=.returned (.tuple #[.slice q0 q1 q2,.int .i64 q3])∧R q0 q1 q2 q3 w1:=by
 refine(ZaF Zan Zag hf hb hL (args:=args) hn (R:=fun v w1=>∃(q0:Option Addr) (q1:Nat) (q2:Nat) (q3:Int),v=(.tuple #[.slice q0 q1 q2,.int .i64 q3]:Value)∧R q0 q1 q2 q3 w1) ?_).mono ?_
 ·rw[←hF]
  have e:(fun q0 q1 q2 q3 w1=>∃(q0':Option Addr) (q1':Nat) (q2':Nat) (q3':Int),(.tuple #[.slice q0 q1 q2,.int .i64 q3]:Value)=(.tuple #[.slice q0' q1' q2',.int .i64 q3']:Value)∧R q0' q1' q2' q3' w1)=R:=by
   funext q0 q1 q2 q3 w1
   exact propext ⟨fun ⟨q0',q1',q2',q3',he,h⟩=>by first | (simp at he;simp_all) | (cases he;exact h),fun h=>⟨_,_,_,_,rfl,h⟩⟩
  simpa only[e] using h
 ·rintro en w1 ⟨v,he,q0,q1,q2,q3,rfl,h⟩
  exact⟨_,_,_,_,he,h⟩
theorem ofS15 {f:FuncId} {fn:Func} {c:Code} (hf:Tryz.prog.funcs[f]?=some fn) (hb:fn.body=some c) {G:Gen} (hL:LoopOk Tryz.prog fn.ntmps G c) {args:List Value} (hn:Nat.ble args.length fn.ntmps=true) {w:World} {Fm:(ByteArray→Int→World→Prop)→Prop}
  (hF:∀R:Value→World→Prop,Fm (fun q0 q1 w1=>R (.tuple #[.string q0,.int .i64 q1]) w1)=den Tryz.prog fn.ntmps G c [] (postD Tryz.prog fn.results.toList R) (entry args 0) w) {R:ByteArray→Int→World→Prop} (h:Fm R):Calls Tryz.prog f args.toArray w fun e w1=>∃(q0:ByteArray) (q1:Int),e=.returned (.tuple #[.string q0,.int .i64 q1])∧R q0 q1 w1:=by
 refine(ZaF Zan Zag hf hb hL (args:=args) hn (R:=fun v w1=>∃(q0:ByteArray) (q1:Int),v=(.tuple #[.string q0,.int .i64 q1]:Value)∧R q0 q1 w1) ?_).mono ?_
 ·rw[←hF]
  have e:(fun q0 q1 w1=>∃(q0':ByteArray) (q1':Int),(.tuple #[.string q0,.int .i64 q1]:Value)=(.tuple #[.string q0',.int .i64 q1']:Value)∧R q0' q1' w1)=R:=by
   funext q0 q1 w1
   exact propext ⟨fun ⟨q0',q1',he,h⟩=>by first | (simp at he;simp_all) | (cases he;exact h),fun h=>⟨_,_,rfl,h⟩⟩
  simpa only[e] using h
 ·rintro en w1 ⟨v,he,q0,q1,rfl,h⟩
  exact⟨_,_,he,h⟩
theorem ofS16 {f:FuncId} {fn:Func} {c:Code} (hf:Tryz.prog.funcs[f]?=some fn) (hb:fn.body=some c) {G:Gen} (hL:LoopOk Tryz.prog fn.ntmps G c) {args:List Value} (hn:Nat.ble args.length fn.ntmps=true) {w:World} {Fm:(Int→Bool→World→Prop)→Prop}
  (hF:∀R:Value→World→Prop,Fm (fun q0 q1 w1=>R (.tuple #[.int .u64 q0,.bool q1]) w1)=den Tryz.prog fn.ntmps G c [] (postD Tryz.prog fn.results.toList R) (entry args 0) w) {R:Int→Bool→World→Prop} (h:Fm R):Calls Tryz.prog f args.toArray w fun e w1=>∃(q0:Int) (q1:Bool),e=.returned (.tuple #[.int .u64 q0,.bool q1])∧R q0 q1 w1:=by
 refine(ZaF Zan Zag hf hb hL (args:=args) hn (R:=fun v w1=>∃(q0:Int) (q1:Bool),v=(.tuple #[.int .u64 q0,.bool q1]:Value)∧R q0 q1 w1) ?_).mono ?_
 ·rw[←hF]
  have e:(fun q0 q1 w1=>∃(q0':Int) (q1':Bool),(.tuple #[.int .u64 q0,.bool q1]:Value)=(.tuple #[.int .u64 q0',.bool q1']:Value)∧R q0' q1' w1)=R:=by
   funext q0 q1 w1
   exact propext ⟨fun ⟨q0',q1',he,h⟩=>by first | (simp at he;simp_all) | (cases he;exact h),fun h=>⟨_,_,rfl,h⟩⟩
  simpa only[e] using h
 ·rintro en w1 ⟨v,he,q0,q1,rfl,h⟩
  exact⟨_,_,he,h⟩
theorem ofS17 {f:FuncId} {fn:Func} {c:Code} (hf:Tryz.prog.funcs[f]?=some fn) (hb:fn.body=some c) {G:Gen} (hL:LoopOk Tryz.prog fn.ntmps G c) {args:List Value} (hn:Nat.ble args.length fn.ntmps=true) {w:World} {Fm:(Int→Int→ByteArray→Option Addr→Nat→Nat→Int→World→Prop)→Prop}
  (hF:∀R:Value→World→Prop,Fm (fun q0 q1 q2 q3 q4 q5 q6 w1=>R (.tuple #[.agg #[.int .i64 q0,.int .i64 q1,.string q2,.slice q3 q4 q5],.int .i64 q6]) w1)=den Tryz.prog fn.ntmps G c [] (postD Tryz.prog fn.results.toList R) (entry args 0) w) {R:Int→Int→ByteArray→Option Addr→Nat→Nat→Int→World→Prop} (h:Fm R):Calls Tryz.prog f args.toArray w fun e w1=>∃(q0:Int) (q1:Int) (q2:ByteArray) (q3:Option Addr) (q4:Nat) (q5:Nat) (q6:Int),e=.returned (.tuple #[.agg #[.int .i64 q0,.int .i64 q1,.string q2,.slice q3 q4 q5],.int .i64 q6])∧R q0 q1 q2 q3 q4 q5 q6 w1:=by
 refine(ZaF Zan Zag hf hb hL (args:=args) hn (R:=fun v w1=>∃(q0:Int) (q1:Int) (q2:ByteArray) (q3:Option Addr) (q4:Nat) (q5:Nat) (q6:Int),v=(.tuple #[.agg #[.int .i64 q0,.int .i64 q1,.string q2,.slice q3 q4 q5],.int .i64 q6]:Value)∧R q0 q1 q2 q3 q4 q5 q6 w1) ?_).mono ?_
 ·rw[←hF]
  have e:(fun q0 q1 q2 q3 q4 q5 q6 w1=>∃(q0':Int) (q1':Int) (q2':ByteArray) (q3':Option Addr) (q4':Nat) (q5':Nat) (q6':Int),(.tuple #[.agg #[.int .i64 q0,.int .i64 q1,.string q2,.slice q3 q4 q5],.int .i64 q6]:Value)=(.tuple #[.agg #[.int .i64 q0',.int .i64 q1',.string q2',.slice q3' q4' q5'],.int .i64 q6']:Value)∧R q0' q1' q2' q3' q4' q5' q6' w1)=R:=by
   funext q0 q1 q2 q3 q4 q5 q6 w1
   exact propext ⟨fun ⟨q0',q1',q2',q3',q4',q5',q6',he,h⟩=>by first | (simp at he;simp_all) | (cases he;exact h),fun h=>⟨_,_,_,_,_,_,_,rfl,h⟩⟩
  simpa only[e] using h
 ·rintro en w1 ⟨v,he,q0,q1,q2,q3,q4,q5,q6,rfl,h⟩
  exact⟨_,_,_,_,_,_,_,he,h⟩
theorem ofS18 {f:FuncId} {fn:Func} {c:Code} (hf:Tryz.prog.funcs[f]?=some fn) (hb:fn.body=some c) {G:Gen} (hL:LoopOk Tryz.prog fn.ntmps G c) {args:List Value} (hn:Nat.ble args.length fn.ntmps=true) {w:World} {Fm:(Int→Bool→World→Prop)→Prop}
  (hF:∀R:Value→World→Prop,Fm (fun q0 q1 w1=>R (.tuple #[.int .i64 q0,.bool q1]) w1)=den Tryz.prog fn.ntmps G c [] (postD Tryz.prog fn.results.toList R) (entry args 0) w) {R:Int→Bool→World→Prop} (h:Fm R):Calls Tryz.prog f args.toArray w fun e w1=>∃(q0:Int) (q1:Bool),e=.returned (.tuple #[.int .i64 q0,.bool q1])∧R q0 q1 w1:=by
 refine(ZaF Zan Zag hf hb hL (args:=args) hn (R:=fun v w1=>∃(q0:Int) (q1:Bool),v=(.tuple #[.int .i64 q0,.bool q1]:Value)∧R q0 q1 w1) ?_).mono ?_
 ·rw[←hF]
  have e:(fun q0 q1 w1=>∃(q0':Int) (q1':Bool),(.tuple #[.int .i64 q0,.bool q1]:Value)=(.tuple #[.int .i64 q0',.bool q1']:Value)∧R q0' q1' w1)=R:=by
   funext q0 q1 w1
   exact propext ⟨fun ⟨q0',q1',he,h⟩=>by first | (simp at he;simp_all) | (cases he;exact h),fun h=>⟨_,_,rfl,h⟩⟩
  simpa only[e] using h
 ·rintro en w1 ⟨v,he,q0,q1,rfl,h⟩
  exact⟨_,_,he,h⟩
theorem ofS19 {f:FuncId} {fn:Func} {c:Code} (hf:Tryz.prog.funcs[f]?=some fn) (hb:fn.body=some c) {G:Gen} (hL:LoopOk Tryz.prog fn.ntmps G c) {args:List Value} (hn:Nat.ble args.length fn.ntmps=true) {w:World} {Fm:(Int→Int→Bool→World→Prop)→Prop}
  (hF:∀R:Value→World→Prop,Fm (fun q0 q1 q2 w1=>R (.agg #[.int .i64 q0,.int .i64 q1,.bool q2]) w1)=den Tryz.prog fn.ntmps G c [] (postD Tryz.prog fn.results.toList R) (entry args 0) w) {R:Int→Int→Bool→World→Prop} (h:Fm R):Calls Tryz.prog f args.toArray w fun e w1=>∃(q0:Int) (q1:Int) (q2:Bool),e=.returned (.agg #[.int .i64 q0,.int .i64 q1,.bool q2])∧R q0 q1 q2 w1:=by
 refine(ZaF Zan Zag hf hb hL (args:=args) hn (R:=fun v w1=>∃(q0:Int) (q1:Int) (q2:Bool),v=(.agg #[.int .i64 q0,.int .i64 q1,.bool q2]:Value)∧R q0 q1 q2 w1) ?_).mono ?_
 ·rw[←hF]
  have e:(fun q0 q1 q2 w1=>∃(q0':Int) (q1':Int) (q2':Bool),(.agg #[.int .i64 q0,.int .i64 q1,.bool q2]:Value)=(.agg #[.int .i64 q0',.int .i64 q1',.bool q2']:Value)∧R q0' q1' q2' w1)=R:=by
   funext q0 q1 q2 w1
   exact propext ⟨fun ⟨q0',q1',q2',he,h⟩=>by first | (simp at he;simp_all) | (cases he;exact h),fun h=>⟨_,_,_,rfl,h⟩⟩
  simpa only[e] using h
 ·rintro en w1 ⟨v,he,q0,q1,q2,rfl,h⟩
  exact⟨_,_,_,he,h⟩
theorem ofS20 {f:FuncId} {fn:Func} {c:Code} (hf:Tryz.prog.funcs[f]?=some fn) (hb:fn.body=some c) {G:Gen} (hL:LoopOk Tryz.prog fn.ntmps G c) {args:List Value} (hn:Nat.ble args.length fn.ntmps=true) {w:World} {Fm:(ByteArray→Int→Int→World→Prop)→Prop}
  (hF:∀R:Value→World→Prop,Fm (fun q0 q1 q2 w1=>R (.tuple #[.string q0,.int .i64 q1,.int .i64 q2]) w1)=den Tryz.prog fn.ntmps G c [] (postD Tryz.prog fn.results.toList R) (entry args 0) w) {R:ByteArray→Int→Int→World→Prop} (h:Fm R):Calls Tryz.prog f args.toArray w fun e w1=>∃(q0:ByteArray) (q1:Int) (q2:Int),e=.returned (.tuple #[.string q0,.int .i64 q1,.int .i64 q2])∧R q0 q1 q2 w1:=by
 refine(ZaF Zan Zag hf hb hL (args:=args) hn (R:=fun v w1=>∃(q0:ByteArray) (q1:Int) (q2:Int),v=(.tuple #[.string q0,.int .i64 q1,.int .i64 q2]:Value)∧R q0 q1 q2 w1) ?_).mono ?_
 ·rw[←hF]
  have e:(fun q0 q1 q2 w1=>∃(q0':ByteArray) (q1':Int) (q2':Int),(.tuple #[.string q0,.int .i64 q1,.int .i64 q2]:Value)=(.tuple #[.string q0',.int .i64 q1',.int .i64 q2']:Value)∧R q0' q1' q2' w1)=R:=by
   funext q0 q1 q2 w1
   exact propext ⟨fun ⟨q0',q1',q2',he,h⟩=>by first | (simp at he;simp_all) | (cases he;exact h),fun h=>⟨_,_,_,rfl,h⟩⟩
  simpa only[e] using h
 ·rintro en w1 ⟨v,he,q0,q1,q2,rfl,h⟩
  exact⟨_,_,_,he,h⟩
theorem ofS21 {f:FuncId} {fn:Func} {c:Code} (hf:Tryz.prog.funcs[f]?=some fn) (hb:fn.body=some c) {G:Gen} (hL:LoopOk Tryz.prog fn.ntmps G c) {args:List Value} (hn:Nat.ble args.length fn.ntmps=true) {w:World} {Fm:(Int→Int→ByteArray→Option Addr→Nat→Nat→Bool→World→Prop)→Prop}
  (hF:∀R:Value→World→Prop,Fm (fun q0 q1 q2 q3 q4 q5 q6 w1=>R (.tuple #[.agg #[.int .i64 q0,.int .i64 q1,.string q2,.slice q3 q4 q5],.bool q6]) w1)=den Tryz.prog fn.ntmps G c [] (postD Tryz.prog fn.results.toList R) (entry args 0) w) {R:Int→Int→ByteArray→Option Addr→Nat→Nat→Bool→World→Prop} (h:Fm R):Calls Tryz.prog f args.toArray w fun e w1=>∃(q0:Int) (q1:Int) (q2:ByteArray) (q3:Option Addr) (q4:Nat) (q5:Nat) (q6:Bool),e=.returned (.tuple #[.agg #[.int .i64 q0,.int .i64 q1,.string q2,.slice q3 q4 q5],.bool q6])∧R q0 q1 q2 q3 q4 q5 q6 w1:=by
 refine(ZaF Zan Zag hf hb hL (args:=args) hn (R:=fun v w1=>∃(q0:Int) (q1:Int) (q2:ByteArray) (q3:Option Addr) (q4:Nat) (q5:Nat) (q6:Bool),v=(.tuple #[.agg #[.int .i64 q0,.int .i64 q1,.string q2,.slice q3 q4 q5],.bool q6]:Value)∧R q0 q1 q2 q3 q4 q5 q6 w1) ?_).mono ?_
 ·rw[←hF]
  have e:(fun q0 q1 q2 q3 q4 q5 q6 w1=>∃(q0':Int) (q1':Int) (q2':ByteArray) (q3':Option Addr) (q4':Nat) (q5':Nat) (q6':Bool),(.tuple #[.agg #[.int .i64 q0,.int .i64 q1,.string q2,.slice q3 q4 q5],.bool q6]:Value)=(.tuple #[.agg #[.int .i64 q0',.int .i64 q1',.string q2',.slice q3' q4' q5'],.bool q6']:Value)∧R q0' q1' q2' q3' q4' q5' q6' w1)=R:=by
   funext q0 q1 q2 q3 q4 q5 q6 w1
   exact propext ⟨fun ⟨q0',q1',q2',q3',q4',q5',q6',he,h⟩=>by first | (simp at he;simp_all) | (cases he;exact h),fun h=>⟨_,_,_,_,_,_,_,rfl,h⟩⟩
  simpa only[e] using h
 ·rintro en w1 ⟨v,he,q0,q1,q2,q3,q4,q5,q6,rfl,h⟩
  exact⟨_,_,_,_,_,_,_,he,h⟩
def G0:Gen where
 loop:=lookL []
 plan:=fun _=>none
theorem L1 (G:Gen) (f:Func) (h:∀p,G.loop p=none) {P:Program} {n:Nat}:LoopOk P n G (codeOf f):=ZtP h
theorem L0 (f:Func) {P:Program} {n:Nat}:LoopOk P n G0 (codeOf f):=L1 G0 f fun _=>rfl
end Go.Proofs.YtdaenijbokialaaGreat