import Derived.Test.YtdaenijbokialaaGreatDen6
import Derived.Test.YtdaenijbokialaaGreatProg
namespace Go.Proofs.YtdaenijbokialaaGreat
open Go Go.D Go.Proofs
theorem seat_ok : AllCallable Tryz.prog := allCallable_of (by kernel_rfl)
theorem seat_mixed : Tryz.prog.follows .mixedOrders = true := by kernel_rfl
def C_law20_HeapForgets (lP : Option Addr) (lN : Nat) (lC : Nat) (n : Int) (atx : Int) (w : World) (R : Bool → World → Prop) : Prop :=
 Calls Tryz.prog 11 #[.slice lP lN lC, .int .i64 n, .int .i64 atx] w fun en w1 => ∃ (r : Bool), en = .returned (.bool r) ∧ R r w1
theorem C_law20_HeapForgets.mono {lP : Option Addr} {lN : Nat} {lC : Nat} {n : Int} {atx : Int} {w : World} {R R' : Bool → World → Prop} (h : C_law20_HeapForgets lP lN lC n atx w R) (hr : ∀ r w1, R r w1 → R' r w1) : C_law20_HeapForgets lP lN lC n atx w R' :=
 Calls.mono h fun _ _ ⟨r, he, h⟩ => ⟨r, he, hr r _ h⟩
def C_law20_large (lP : Option Addr) (lN : Nat) (lC : Nat) (w : World) (R : Bool → World → Prop) : Prop :=
 Calls Tryz.prog 12 #[.slice lP lN lC] w fun en w1 => ∃ (r : Bool), en = .returned (.bool r) ∧ R r w1
theorem C_law20_large.mono {lP : Option Addr} {lN : Nat} {lC : Nat} {w : World} {R R' : Bool → World → Prop} (h : C_law20_large lP lN lC w R) (hr : ∀ r w1, R r w1 → R' r w1) : C_law20_large lP lN lC w R' :=
 Calls.mono h fun _ _ ⟨r, he, h⟩ => ⟨r, he, hr r _ h⟩
def C_law20_lives  (w : World) (R : Bool → World → Prop) : Prop :=
 Calls Tryz.prog 13 #[] w fun en w1 => ∃ (r : Bool), en = .returned (.bool r) ∧ R r w1
theorem C_law20_lives.mono {w : World} {R R' : Bool → World → Prop} (h : C_law20_lives  w R) (hr : ∀ r w1, R r w1 → R' r w1) : C_law20_lives  w R' :=
 Calls.mono h fun _ _ ⟨r, he, h⟩ => ⟨r, he, hr r _ h⟩
def C_heap_New (cells : Int) (trail : Int) (w : World) (R : Option Addr → Int → World → Prop) : Prop :=
 Calls Tryz.prog 14 #[.int .i64 cells, .int .i64 trail] w fun en w1 => ∃ (r0 : Option Addr) (r1 : Int), en = .returned (.tuple #[.pointer r0, .int .i64 r1]) ∧ R r0 r1 w1
theorem C_heap_New.mono {cells : Int} {trail : Int} {w : World} {R R' : Option Addr → Int → World → Prop} (h : C_heap_New cells trail w R) (hr : ∀ r0 r1 w1, R r0 r1 w1 → R' r0 r1 w1) : C_heap_New cells trail w R' :=
 Calls.mono h fun _ _ ⟨r0, r1, he, h⟩ => ⟨r0, r1, he, hr r0 r1 _ h⟩
def C_ref06_Check (t0 : Int) (t1 : Int) (t2 : ByteArray) (t3P : Option Addr) (t3N : Nat) (t3C : Nat) (w : World) (R : Int → World → Prop) : Prop :=
 Calls Tryz.prog 15 #[.agg #[.int .i64 t0, .int .i64 t1, .string t2, .slice t3P t3N t3C]] w fun en w1 => ∃ (r : Int), en = .returned (.int .i64 r) ∧ R r w1
theorem C_ref06_Check.mono {t0 : Int} {t1 : Int} {t2 : ByteArray} {t3P : Option Addr} {t3N : Nat} {t3C : Nat} {w : World} {R R' : Int → World → Prop} (h : C_ref06_Check t0 t1 t2 t3P t3N t3C w R) (hr : ∀ r w1, R r w1 → R' r w1) : C_ref06_Check t0 t1 t2 t3P t3N t3C w R' :=
 Calls.mono h fun _ _ ⟨r, he, h⟩ => ⟨r, he, hr r _ h⟩
def C_heap_Heap_Encode (hx : Option Addr) (t0 : Int) (t1 : Int) (t2 : ByteArray) (t3P : Option Addr) (t3N : Nat) (t3C : Nat) (vars : Option Nat) (w : World) (R : Int → Int → World → Prop) : Prop :=
 Calls Tryz.prog 16 #[.pointer hx, .agg #[.int .i64 t0, .int .i64 t1, .string t2, .slice t3P t3N t3C], .map vars] w fun en w1 => ∃ (r0 : Int) (r1 : Int), en = .returned (.tuple #[.int .u64 r0, .int .i64 r1]) ∧ R r0 r1 w1
theorem C_heap_Heap_Encode.mono {hx : Option Addr} {t0 : Int} {t1 : Int} {t2 : ByteArray} {t3P : Option Addr} {t3N : Nat} {t3C : Nat} {vars : Option Nat} {w : World} {R R' : Int → Int → World → Prop} (h : C_heap_Heap_Encode hx t0 t1 t2 t3P t3N t3C vars w R) (hr : ∀ r0 r1 w1, R r0 r1 w1 → R' r0 r1 w1) : C_heap_Heap_Encode hx t0 t1 t2 t3P t3N t3C vars w R' :=
 Calls.mono h fun _ _ ⟨r0, r1, he, h⟩ => ⟨r0, r1, he, hr r0 r1 _ h⟩
def C_law20_encode (hx : Option Addr) (lP : Option Addr) (lN : Nat) (lC : Nat) (vars : Option Nat) (w : World) (R : Option Addr → Nat → Nat → World → Prop) : Prop :=
 Calls Tryz.prog 17 #[.pointer hx, .slice lP lN lC, .map vars] w fun en w1 => ∃ (rP : Option Addr) (rN : Nat) (rC : Nat), en = .returned (.slice rP rN rC) ∧ R rP rN rC w1
theorem C_law20_encode.mono {hx : Option Addr} {lP : Option Addr} {lN : Nat} {lC : Nat} {vars : Option Nat} {w : World} {R R' : Option Addr → Nat → Nat → World → Prop} (h : C_law20_encode hx lP lN lC vars w R) (hr : ∀ rP rN rC w1, R rP rN rC w1 → R' rP rN rC w1) : C_law20_encode hx lP lN lC vars w R' :=
 Calls.mono h fun _ _ ⟨rP, rN, rC, he, h⟩ => ⟨rP, rN, rC, he, hr rP rN rC _ h⟩
def C_heap_Heap_Decode (hx : Option Addr) (lP : Option Addr) (lN : Nat) (lC : Nat) (w : World) (R : Option Addr → Nat → Nat → Option Addr → Nat → Nat → Int → World → Prop) : Prop :=
 Calls Tryz.prog 18 #[.pointer hx, .slice lP lN lC] w fun en w1 => ∃ (r0P : Option Addr) (r0N : Nat) (r0C : Nat) (r1P : Option Addr) (r1N : Nat) (r1C : Nat) (r2 : Int), en = .returned (.tuple #[.slice r0P r0N r0C, .slice r1P r1N r1C, .int .i64 r2]) ∧ R r0P r0N r0C r1P r1N r1C r2 w1
theorem C_heap_Heap_Decode.mono {hx : Option Addr} {lP : Option Addr} {lN : Nat} {lC : Nat} {w : World} {R R' : Option Addr → Nat → Nat → Option Addr → Nat → Nat → Int → World → Prop} (h : C_heap_Heap_Decode hx lP lN lC w R) (hr : ∀ r0P r0N r0C r1P r1N r1C r2 w1, R r0P r0N r0C r1P r1N r1C r2 w1 → R' r0P r0N r0C r1P r1N r1C r2 w1) : C_heap_Heap_Decode hx lP lN lC w R' :=
 Calls.mono h fun _ _ ⟨r0P, r0N, r0C, r1P, r1N, r1C, r2, he, h⟩ => ⟨r0P, r0N, r0C, r1P, r1N, r1C, r2, he, hr r0P r0N r0C r1P r1N r1C r2 _ h⟩
def C_ref07_Same (aP : Option Addr) (aN : Nat) (aC : Nat) (bP : Option Addr) (bN : Nat) (bC : Nat) (w : World) (R : Bool → World → Prop) : Prop :=
 Calls Tryz.prog 20 #[.slice aP aN aC, .slice bP bN bC] w fun en w1 => ∃ (r : Bool), en = .returned (.bool r) ∧ R r w1
theorem C_ref07_Same.mono {aP : Option Addr} {aN : Nat} {aC : Nat} {bP : Option Addr} {bN : Nat} {bC : Nat} {w : World} {R R' : Bool → World → Prop} (h : C_ref07_Same aP aN aC bP bN bC w R) (hr : ∀ r w1, R r w1 → R' r w1) : C_ref07_Same aP aN aC bP bN bC w R' :=
 Calls.mono h fun _ _ ⟨r, he, h⟩ => ⟨r, he, hr r _ h⟩
def C_heap_Heap_Is (hx : Option Addr) (wx : Int) (namex : ByteArray) (arity : Int) (w : World) (R : Bool → World → Prop) : Prop :=
 Calls Tryz.prog 23 #[.pointer hx, .int .u64 wx, .string namex, .int .i64 arity] w fun en w1 => ∃ (r : Bool), en = .returned (.bool r) ∧ R r w1
theorem C_heap_Heap_Is.mono {hx : Option Addr} {wx : Int} {namex : ByteArray} {arity : Int} {w : World} {R R' : Bool → World → Prop} (h : C_heap_Heap_Is hx wx namex arity w R) (hr : ∀ r w1, R r w1 → R' r w1) : C_heap_Heap_Is hx wx namex arity w R' :=
 Calls.mono h fun _ _ ⟨r, he, h⟩ => ⟨r, he, hr r _ h⟩
def C_heap_Heap_Deref (hx : Option Addr) (wx : Int) (w : World) (R : Int → World → Prop) : Prop :=
 Calls Tryz.prog 24 #[.pointer hx, .int .u64 wx] w fun en w1 => ∃ (r : Int), en = .returned (.int .u64 r) ∧ R r w1
theorem C_heap_Heap_Deref.mono {hx : Option Addr} {wx : Int} {w : World} {R R' : Int → World → Prop} (h : C_heap_Heap_Deref hx wx w R) (hr : ∀ r w1, R r w1 → R' r w1) : C_heap_Heap_Deref hx wx w R' :=
 Calls.mono h fun _ _ ⟨r, he, h⟩ => ⟨r, he, hr r _ h⟩
def C_law20_may (lP : Option Addr) (lN : Nat) (lC : Nat) (w : World) (R : Bool → World → Prop) : Prop :=
 Calls Tryz.prog 25 #[.slice lP lN lC] w fun en w1 => ∃ (r : Bool), en = .returned (.bool r) ∧ R r w1
theorem C_law20_may.mono {lP : Option Addr} {lN : Nat} {lC : Nat} {w : World} {R R' : Bool → World → Prop} (h : C_law20_may lP lN lC w R) (hr : ∀ r w1, R r w1 → R' r w1) : C_law20_may lP lN lC w R' :=
 Calls.mono h fun _ _ ⟨r, he, h⟩ => ⟨r, he, hr r _ h⟩
def C_ref06_Comp (sx : ByteArray) (lP : Option Addr) (lN : Nat) (lC : Nat) (w : World) (R : Int → Int → ByteArray → Option Addr → Nat → Nat → World → Prop) : Prop :=
 Calls Tryz.prog 26 #[.string sx, .slice lP lN lC] w fun en w1 => ∃ (r0 : Int) (r1 : Int) (r2 : ByteArray) (r3P : Option Addr) (r3N : Nat) (r3C : Nat), en = .returned (.agg #[.int .i64 r0, .int .i64 r1, .string r2, .slice r3P r3N r3C]) ∧ R r0 r1 r2 r3P r3N r3C w1
theorem C_ref06_Comp.mono {sx : ByteArray} {lP : Option Addr} {lN : Nat} {lC : Nat} {w : World} {R R' : Int → Int → ByteArray → Option Addr → Nat → Nat → World → Prop} (h : C_ref06_Comp sx lP lN lC w R) (hr : ∀ r0 r1 r2 r3P r3N r3C w1, R r0 r1 r2 r3P r3N r3C w1 → R' r0 r1 r2 r3P r3N r3C w1) : C_ref06_Comp sx lP lN lC w R' :=
 Calls.mono h fun _ _ ⟨r0, r1, r2, r3P, r3N, r3C, he, h⟩ => ⟨r0, r1, r2, r3P, r3N, r3C, he, hr r0 r1 r2 r3P r3N r3C _ h⟩
def C_heap_Heap_Struct (hx : Option Addr) (namex : ByteArray) (arity : Int) (w : World) (R : Int → Int → World → Prop) : Prop :=
 Calls Tryz.prog 27 #[.pointer hx, .string namex, .int .i64 arity] w fun en w1 => ∃ (r0 : Int) (r1 : Int), en = .returned (.tuple #[.int .u64 r0, .int .i64 r1]) ∧ R r0 r1 w1
theorem C_heap_Heap_Struct.mono {hx : Option Addr} {namex : ByteArray} {arity : Int} {w : World} {R R' : Int → Int → World → Prop} (h : C_heap_Heap_Struct hx namex arity w R) (hr : ∀ r0 r1 w1, R r0 r1 w1 → R' r0 r1 w1) : C_heap_Heap_Struct hx namex arity w R' :=
 Calls.mono h fun _ _ ⟨r0, r1, he, h⟩ => ⟨r0, r1, he, hr r0 r1 _ h⟩
def C_heap_Heap_Arg (hx : Option Addr) (wx : Int) (i : Int) (w : World) (R : Int → Int → World → Prop) : Prop :=
 Calls Tryz.prog 28 #[.pointer hx, .int .u64 wx, .int .i64 i] w fun en w1 => ∃ (r0 : Int) (r1 : Int), en = .returned (.tuple #[.int .u64 r0, .int .i64 r1]) ∧ R r0 r1 w1
theorem C_heap_Heap_Arg.mono {hx : Option Addr} {wx : Int} {i : Int} {w : World} {R R' : Int → Int → World → Prop} (h : C_heap_Heap_Arg hx wx i w R) (hr : ∀ r0 r1 w1, R r0 r1 w1 → R' r0 r1 w1) : C_heap_Heap_Arg hx wx i w R' :=
 Calls.mono h fun _ _ ⟨r0, r1, he, h⟩ => ⟨r0, r1, he, hr r0 r1 _ h⟩
def C_ref06_Large (t0 : Int) (t1 : Int) (t2 : ByteArray) (t3P : Option Addr) (t3N : Nat) (t3C : Nat) (w : World) (R : Bool → World → Prop) : Prop :=
 Calls Tryz.prog 30 #[.agg #[.int .i64 t0, .int .i64 t1, .string t2, .slice t3P t3N t3C]] w fun en w1 => ∃ (r : Bool), en = .returned (.bool r) ∧ R r w1
theorem C_ref06_Large.mono {t0 : Int} {t1 : Int} {t2 : ByteArray} {t3P : Option Addr} {t3N : Nat} {t3C : Nat} {w : World} {R R' : Bool → World → Prop} (h : C_ref06_Large t0 t1 t2 t3P t3N t3C w R) (hr : ∀ r w1, R r w1 → R' r w1) : C_ref06_Large t0 t1 t2 t3P t3N t3C w R' :=
 Calls.mono h fun _ _ ⟨r, he, h⟩ => ⟨r, he, hr r _ h⟩
def C_ref06_Var (n : Int) (w : World) (R : Int → Int → ByteArray → Option Addr → Nat → Nat → World → Prop) : Prop :=
 Calls Tryz.prog 31 #[.int .i64 n] w fun en w1 => ∃ (r0 : Int) (r1 : Int) (r2 : ByteArray) (r3P : Option Addr) (r3N : Nat) (r3C : Nat), en = .returned (.agg #[.int .i64 r0, .int .i64 r1, .string r2, .slice r3P r3N r3C]) ∧ R r0 r1 r2 r3P r3N r3C w1
theorem C_ref06_Var.mono {n : Int} {w : World} {R R' : Int → Int → ByteArray → Option Addr → Nat → Nat → World → Prop} (h : C_ref06_Var n w R) (hr : ∀ r0 r1 r2 r3P r3N r3C w1, R r0 r1 r2 r3P r3N r3C w1 → R' r0 r1 r2 r3P r3N r3C w1) : C_ref06_Var n w R' :=
 Calls.mono h fun _ _ ⟨r0, r1, r2, r3P, r3N, r3C, he, h⟩ => ⟨r0, r1, r2, r3P, r3N, r3C, he, hr r0 r1 r2 r3P r3N r3C _ h⟩
def C_heap_Heap_Unify (hx : Option Addr) (a : Int) (b : Int) (w : World) (R : Bool → Int → World → Prop) : Prop :=
 Calls Tryz.prog 35 #[.pointer hx, .int .u64 a, .int .u64 b] w fun en w1 => ∃ (r0 : Bool) (r1 : Int), en = .returned (.tuple #[.bool r0, .int .i64 r1]) ∧ R r0 r1 w1
theorem C_heap_Heap_Unify.mono {hx : Option Addr} {a : Int} {b : Int} {w : World} {R R' : Bool → Int → World → Prop} (h : C_heap_Heap_Unify hx a b w R) (hr : ∀ r0 r1 w1, R r0 r1 w1 → R' r0 r1 w1) : C_heap_Heap_Unify hx a b w R' :=
 Calls.mono h fun _ _ ⟨r0, r1, he, h⟩ => ⟨r0, r1, he, hr r0 r1 _ h⟩
def C_heap_Heap_Cell (hx : Option Addr) (atx : Int) (w : World) (R : Int → World → Prop) : Prop :=
 Calls Tryz.prog 36 #[.pointer hx, .int .i64 atx] w fun en w1 => ∃ (r : Int), en = .returned (.int .u64 r) ∧ R r w1
theorem C_heap_Heap_Cell.mono {hx : Option Addr} {atx : Int} {w : World} {R R' : Int → World → Prop} (h : C_heap_Heap_Cell hx atx w R) (hr : ∀ r w1, R r w1 → R' r w1) : C_heap_Heap_Cell hx atx w R' :=
 Calls.mono h fun _ _ ⟨r, he, h⟩ => ⟨r, he, hr r _ h⟩
def C_heap_Heap_Open (hx : Option Addr) (w : World) (R : Int → Int → World → Prop) : Prop :=
 Calls Tryz.prog 37 #[.pointer hx] w fun en w1 => ∃ (r0 : Int) (r1 : Int), en = .returned (.tuple #[.int .i64 r0, .int .i64 r1]) ∧ R r0 r1 w1
theorem C_heap_Heap_Open.mono {hx : Option Addr} {w : World} {R R' : Int → Int → World → Prop} (h : C_heap_Heap_Open hx w R) (hr : ∀ r0 r1 w1, R r0 r1 w1 → R' r0 r1 w1) : C_heap_Heap_Open hx w R' :=
 Calls.mono h fun _ _ ⟨r0, r1, he, h⟩ => ⟨r0, r1, he, hr r0 r1 _ h⟩
def C_heap_Heap_Back (hx : Option Addr) (w : World) (R : Int → World → Prop) : Prop :=
 Calls Tryz.prog 39 #[.pointer hx] w fun en w1 => ∃ (r : Int), en = .returned (.int .i64 r) ∧ R r w1
theorem C_heap_Heap_Back.mono {hx : Option Addr} {w : World} {R R' : Int → World → Prop} (h : C_heap_Heap_Back hx w R) (hr : ∀ r w1, R r w1 → R' r w1) : C_heap_Heap_Back hx w R' :=
 Calls.mono h fun _ _ ⟨r, he, h⟩ => ⟨r, he, hr r _ h⟩
def C_heap_Heap_Pool (hx : Option Addr) (w : World) (R : Option Addr → World → Prop) : Prop :=
 Calls Tryz.prog 40 #[.pointer hx] w fun en w1 => ∃ (r : Option Addr), en = .returned (.pointer r) ∧ R r w1
theorem C_heap_Heap_Pool.mono {hx : Option Addr} {w : World} {R R' : Option Addr → World → Prop} (h : C_heap_Heap_Pool hx w R) (hr : ∀ r w1, R r w1 → R' r w1) : C_heap_Heap_Pool hx w R' :=
 Calls.mono h fun _ _ ⟨r, he, h⟩ => ⟨r, he, hr r _ h⟩
def C_pool_Pool_Top (p : Option Addr) (w : World) (R : Int → World → Prop) : Prop :=
 Calls Tryz.prog 41 #[.pointer p] w fun en w1 => ∃ (r : Int), en = .returned (.int .i64 r) ∧ R r w1
theorem C_pool_Pool_Top.mono {p : Option Addr} {w : World} {R R' : Int → World → Prop} (h : C_pool_Pool_Top p w R) (hr : ∀ r w1, R r w1 → R' r w1) : C_pool_Pool_Top p w R' :=
 Calls.mono h fun _ _ ⟨r, he, h⟩ => ⟨r, he, hr r _ h⟩
def C_heap_Heap_Var (hx : Option Addr) (w : World) (R : Int → Int → World → Prop) : Prop :=
 Calls Tryz.prog 42 #[.pointer hx] w fun en w1 => ∃ (r0 : Int) (r1 : Int), en = .returned (.tuple #[.int .u64 r0, .int .i64 r1]) ∧ R r0 r1 w1
theorem C_heap_Heap_Var.mono {hx : Option Addr} {w : World} {R R' : Int → Int → World → Prop} (h : C_heap_Heap_Var hx w R) (hr : ∀ r0 r1 w1, R r0 r1 w1 → R' r0 r1 w1) : C_heap_Heap_Var hx w R' :=
 Calls.mono h fun _ _ ⟨r0, r1, he, h⟩ => ⟨r0, r1, he, hr r0 r1 _ h⟩
def C_law20_terms (lP : Option Addr) (lN : Nat) (lC : Nat) (w : World) (R : Option Addr → Nat → Nat → World → Prop) : Prop :=
 Calls Tryz.prog 43 #[.slice lP lN lC] w fun en w1 => ∃ (rP : Option Addr) (rN : Nat) (rC : Nat), en = .returned (.slice rP rN rC) ∧ R rP rN rC w1
theorem C_law20_terms.mono {lP : Option Addr} {lN : Nat} {lC : Nat} {w : World} {R R' : Option Addr → Nat → Nat → World → Prop} (h : C_law20_terms lP lN lC w R) (hr : ∀ rP rN rC w1, R rP rN rC w1 → R' rP rN rC w1) : C_law20_terms lP lN lC w R' :=
 Calls.mono h fun _ _ ⟨rP, rN, rC, he, h⟩ => ⟨rP, rN, rC, he, hr rP rN rC _ h⟩
def C_heap_Heap_Atom (hx : Option Addr) (namex : ByteArray) (w : World) (R : Int → Int → World → Prop) : Prop :=
 Calls Tryz.prog 51 #[.pointer hx, .string namex] w fun en w1 => ∃ (r0 : Int) (r1 : Int), en = .returned (.tuple #[.int .u64 r0, .int .i64 r1]) ∧ R r0 r1 w1
theorem C_heap_Heap_Atom.mono {hx : Option Addr} {namex : ByteArray} {w : World} {R R' : Int → Int → World → Prop} (h : C_heap_Heap_Atom hx namex w R) (hr : ∀ r0 r1 w1, R r0 r1 w1 → R' r0 r1 w1) : C_heap_Heap_Atom hx namex w R' :=
 Calls.mono h fun _ _ ⟨r0, r1, he, h⟩ => ⟨r0, r1, he, hr r0 r1 _ h⟩
def C_heap_Heap_Int (hx : Option Addr) (n : Int) (w : World) (R : Int → Int → World → Prop) : Prop :=
 Calls Tryz.prog 52 #[.pointer hx, .int .i64 n] w fun en w1 => ∃ (r0 : Int) (r1 : Int), en = .returned (.tuple #[.int .u64 r0, .int .i64 r1]) ∧ R r0 r1 w1
theorem C_heap_Heap_Int.mono {hx : Option Addr} {n : Int} {w : World} {R R' : Int → Int → World → Prop} (h : C_heap_Heap_Int hx n w R) (hr : ∀ r0 r1 w1, R r0 r1 w1 → R' r0 r1 w1) : C_heap_Heap_Int hx n w R' :=
 Calls.mono h fun _ _ ⟨r0, r1, he, h⟩ => ⟨r0, r1, he, hr r0 r1 _ h⟩
def C_heap_Heap_Undo (hx : Option Addr) (mark : Int) (w : World) (R : Int → World → Prop) : Prop :=
 Calls Tryz.prog 53 #[.pointer hx, .int .i64 mark] w fun en w1 => ∃ (r : Int), en = .returned (.int .i64 r) ∧ R r w1
theorem C_heap_Heap_Undo.mono {hx : Option Addr} {mark : Int} {w : World} {R R' : Int → World → Prop} (h : C_heap_Heap_Undo hx mark w R) (hr : ∀ r w1, R r w1 → R' r w1) : C_heap_Heap_Undo hx mark w R' :=
 Calls.mono h fun _ _ ⟨r, he, h⟩ => ⟨r, he, hr r _ h⟩
def C_heap_Heap_Trail (hx : Option Addr) (w : World) (R : Option Addr → World → Prop) : Prop :=
 Calls Tryz.prog 54 #[.pointer hx] w fun en w1 => ∃ (r : Option Addr), en = .returned (.pointer r) ∧ R r w1
theorem C_heap_Heap_Trail.mono {hx : Option Addr} {w : World} {R R' : Option Addr → World → Prop} (h : C_heap_Heap_Trail hx w R) (hr : ∀ r w1, R r w1 → R' r w1) : C_heap_Heap_Trail hx w R' :=
 Calls.mono h fun _ _ ⟨r, he, h⟩ => ⟨r, he, hr r _ h⟩
def C_heap_Heap_Atoms (hx : Option Addr) (w : World) (R : Option Addr → World → Prop) : Prop :=
 Calls Tryz.prog 55 #[.pointer hx] w fun en w1 => ∃ (r : Option Addr), en = .returned (.pointer r) ∧ R r w1
theorem C_heap_Heap_Atoms.mono {hx : Option Addr} {w : World} {R R' : Option Addr → World → Prop} (h : C_heap_Heap_Atoms hx w R) (hr : ∀ r w1, R r w1 → R' r w1) : C_heap_Heap_Atoms hx w R' :=
 Calls.mono h fun _ _ ⟨r, he, h⟩ => ⟨r, he, hr r _ h⟩
def C_heap_Heap_Functors (hx : Option Addr) (w : World) (R : Option Addr → World → Prop) : Prop :=
 Calls Tryz.prog 56 #[.pointer hx] w fun en w1 => ∃ (r : Option Addr), en = .returned (.pointer r) ∧ R r w1
theorem C_heap_Heap_Functors.mono {hx : Option Addr} {w : World} {R R' : Option Addr → World → Prop} (h : C_heap_Heap_Functors hx w R) (hr : ∀ r w1, R r w1 → R' r w1) : C_heap_Heap_Functors hx w R' :=
 Calls.mono h fun _ _ ⟨r, he, h⟩ => ⟨r, he, hr r _ h⟩
def C_room_Room_Words (m : Option Addr) (w : World) (R : Option Addr → Nat → Nat → World → Prop) : Prop :=
 Calls Tryz.prog 57 #[.pointer m] w fun en w1 => ∃ (rP : Option Addr) (rN : Nat) (rC : Nat), en = .returned (.slice rP rN rC) ∧ R rP rN rC w1
theorem C_room_Room_Words.mono {m : Option Addr} {w : World} {R R' : Option Addr → Nat → Nat → World → Prop} (h : C_room_Room_Words m w R) (hr : ∀ rP rN rC w1, R rP rN rC w1 → R' rP rN rC w1) : C_room_Room_Words m w R' :=
 Calls.mono h fun _ _ ⟨rP, rN, rC, he, h⟩ => ⟨rP, rN, rC, he, hr rP rN rC _ h⟩
def C_heap_Heap_Marks (hx : Option Addr) (w : World) (R : Option Addr → Nat → Nat → World → Prop) : Prop :=
 Calls Tryz.prog 58 #[.pointer hx] w fun en w1 => ∃ (rP : Option Addr) (rN : Nat) (rC : Nat), en = .returned (.slice rP rN rC) ∧ R rP rN rC w1
theorem C_heap_Heap_Marks.mono {hx : Option Addr} {w : World} {R R' : Option Addr → Nat → Nat → World → Prop} (h : C_heap_Heap_Marks hx w R) (hr : ∀ rP rN rC w1, R rP rN rC w1 → R' rP rN rC w1) : C_heap_Heap_Marks hx w R' :=
 Calls.mono h fun _ _ ⟨rP, rN, rC, he, h⟩ => ⟨rP, rN, rC, he, hr rP rN rC _ h⟩
def C_heap_Heap_Forget (hx : Option Addr) (keepx : Value) (w : World) (R : Int → World → Prop) : Prop :=
 Calls Tryz.prog 59 #[.pointer hx, keepx] w fun en w1 => ∃ (r : Int), en = .returned (.int .i64 r) ∧ R r w1
theorem C_heap_Heap_Forget.mono {hx : Option Addr} {keepx : Value} {w : World} {R R' : Int → World → Prop} (h : C_heap_Heap_Forget hx keepx w R) (hr : ∀ r w1, R r w1 → R' r w1) : C_heap_Heap_Forget hx keepx w R' :=
 Calls.mono h fun _ _ ⟨r, he, h⟩ => ⟨r, he, hr r _ h⟩
def C_law20_keeper_keep (k : Option Addr) (i : Int) (atx : Int) (w : World) (R : Bool → World → Prop) : Prop :=
 Calls Tryz.prog 60 #[.pointer k, .int .i64 i, .int .i64 atx] w fun en w1 => ∃ (r : Bool), en = .returned (.bool r) ∧ R r w1
theorem C_law20_keeper_keep.mono {k : Option Addr} {i : Int} {atx : Int} {w : World} {R R' : Bool → World → Prop} (h : C_law20_keeper_keep k i atx w R) (hr : ∀ r w1, R r w1 → R' r w1) : C_law20_keeper_keep k i atx w R' :=
 Calls.mono h fun _ _ ⟨r, he, h⟩ => ⟨r, he, hr r _ h⟩
def C_ref02_Same (aP : Option Addr) (aN : Nat) (aC : Nat) (bP : Option Addr) (bN : Nat) (bC : Nat) (w : World) (R : Bool → World → Prop) : Prop :=
 Calls Tryz.prog 61 #[.slice aP aN aC, .slice bP bN bC] w fun en w1 => ∃ (r : Bool), en = .returned (.bool r) ∧ R r w1
theorem C_ref02_Same.mono {aP : Option Addr} {aN : Nat} {aC : Nat} {bP : Option Addr} {bN : Nat} {bC : Nat} {w : World} {R R' : Bool → World → Prop} (h : C_ref02_Same aP aN aC bP bN bC w R) (hr : ∀ r w1, R r w1 → R' r w1) : C_ref02_Same aP aN aC bP bN bC w R' :=
 Calls.mono h fun _ _ ⟨r, he, h⟩ => ⟨r, he, hr r _ h⟩
def C_heap_Heap_Loose (hx : Option Addr) (atx : Int) (w : World) (R : Int → World → Prop) : Prop :=
 Calls Tryz.prog 62 #[.pointer hx, .int .i64 atx] w fun en w1 => ∃ (r : Int), en = .returned (.int .i64 r) ∧ R r w1
theorem C_heap_Heap_Loose.mono {hx : Option Addr} {atx : Int} {w : World} {R R' : Int → World → Prop} (h : C_heap_Heap_Loose hx atx w R) (hr : ∀ r w1, R r w1 → R' r w1) : C_heap_Heap_Loose hx atx w R' :=
 Calls.mono h fun _ _ ⟨r, he, h⟩ => ⟨r, he, hr r _ h⟩
def C_ref07_Large (lP : Option Addr) (lN : Nat) (lC : Nat) (w : World) (R : Bool → World → Prop) : Prop :=
 Calls Tryz.prog 63 #[.slice lP lN lC] w fun en w1 => ∃ (r : Bool), en = .returned (.bool r) ∧ R r w1
theorem C_ref07_Large.mono {lP : Option Addr} {lN : Nat} {lC : Nat} {w : World} {R R' : Bool → World → Prop} (h : C_ref07_Large lP lN lC w R) (hr : ∀ r w1, R r w1 → R' r w1) : C_ref07_Large lP lN lC w R' :=
 Calls.mono h fun _ _ ⟨r, he, h⟩ => ⟨r, he, hr r _ h⟩
def C_ref06_Size (t0 : Int) (t1 : Int) (t2 : ByteArray) (t3P : Option Addr) (t3N : Nat) (t3C : Nat) (w : World) (R : Int → World → Prop) : Prop :=
 Calls Tryz.prog 64 #[.agg #[.int .i64 t0, .int .i64 t1, .string t2, .slice t3P t3N t3C]] w fun en w1 => ∃ (r : Int), en = .returned (.int .i64 r) ∧ R r w1
theorem C_ref06_Size.mono {t0 : Int} {t1 : Int} {t2 : ByteArray} {t3P : Option Addr} {t3N : Nat} {t3C : Nat} {w : World} {R R' : Int → World → Prop} (h : C_ref06_Size t0 t1 t2 t3P t3N t3C w R) (hr : ∀ r w1, R r w1 → R' r w1) : C_ref06_Size t0 t1 t2 t3P t3N t3C w R' :=
 Calls.mono h fun _ _ ⟨r, he, h⟩ => ⟨r, he, hr r _ h⟩
def C_ref06_Int (n : Int) (w : World) (R : Int → Int → ByteArray → Option Addr → Nat → Nat → World → Prop) : Prop :=
 Calls Tryz.prog 65 #[.int .i64 n] w fun en w1 => ∃ (r0 : Int) (r1 : Int) (r2 : ByteArray) (r3P : Option Addr) (r3N : Nat) (r3C : Nat), en = .returned (.agg #[.int .i64 r0, .int .i64 r1, .string r2, .slice r3P r3N r3C]) ∧ R r0 r1 r2 r3P r3N r3C w1
theorem C_ref06_Int.mono {n : Int} {w : World} {R R' : Int → Int → ByteArray → Option Addr → Nat → Nat → World → Prop} (h : C_ref06_Int n w R) (hr : ∀ r0 r1 r2 r3P r3N r3C w1, R r0 r1 r2 r3P r3N r3C w1 → R' r0 r1 r2 r3P r3N r3C w1) : C_ref06_Int n w R' :=
 Calls.mono h fun _ _ ⟨r0, r1, r2, r3P, r3N, r3C, he, h⟩ => ⟨r0, r1, r2, r3P, r3N, r3C, he, hr r0 r1 r2 r3P r3N r3C _ h⟩
def C_ref06_Exact (a0 : Int) (a1 : Int) (a2 : ByteArray) (a3P : Option Addr) (a3N : Nat) (a3C : Nat) (b0 : Int) (b1 : Int) (b2 : ByteArray) (b3P : Option Addr) (b3N : Nat) (b3C : Nat) (w : World) (R : Bool → World → Prop) : Prop :=
 Calls Tryz.prog 66 #[.agg #[.int .i64 a0, .int .i64 a1, .string a2, .slice a3P a3N a3C], .agg #[.int .i64 b0, .int .i64 b1, .string b2, .slice b3P b3N b3C]] w fun en w1 => ∃ (r : Bool), en = .returned (.bool r) ∧ R r w1
theorem C_ref06_Exact.mono {a0 : Int} {a1 : Int} {a2 : ByteArray} {a3P : Option Addr} {a3N : Nat} {a3C : Nat} {b0 : Int} {b1 : Int} {b2 : ByteArray} {b3P : Option Addr} {b3N : Nat} {b3C : Nat} {w : World} {R R' : Bool → World → Prop} (h : C_ref06_Exact a0 a1 a2 a3P a3N a3C b0 b1 b2 b3P b3N b3C w R) (hr : ∀ r w1, R r w1 → R' r w1) : C_ref06_Exact a0 a1 a2 a3P a3N a3C b0 b1 b2 b3P b3N b3C w R' :=
 Calls.mono h fun _ _ ⟨r, he, h⟩ => ⟨r, he, hr r _ h⟩
def C_pool_New (limitx : Int) (w : World) (R : Option Addr → Int → World → Prop) : Prop :=
 Calls Tryz.prog 67 #[.int .i64 limitx] w fun en w1 => ∃ (r0 : Option Addr) (r1 : Int), en = .returned (.tuple #[.pointer r0, .int .i64 r1]) ∧ R r0 r1 w1
theorem C_pool_New.mono {limitx : Int} {w : World} {R R' : Option Addr → Int → World → Prop} (h : C_pool_New limitx w R) (hr : ∀ r0 r1 w1, R r0 r1 w1 → R' r0 r1 w1) : C_pool_New limitx w R' :=
 Calls.mono h fun _ _ ⟨r0, r1, he, h⟩ => ⟨r0, r1, he, hr r0 r1 _ h⟩
def C_room_New (limitx : Int) (w : World) (R : Option Addr → Int → World → Prop) : Prop :=
 Calls Tryz.prog 68 #[.int .i64 limitx] w fun en w1 => ∃ (r0 : Option Addr) (r1 : Int), en = .returned (.tuple #[.pointer r0, .int .i64 r1]) ∧ R r0 r1 w1
theorem C_room_New.mono {limitx : Int} {w : World} {R R' : Option Addr → Int → World → Prop} (h : C_room_New limitx w R) (hr : ∀ r0 r1 w1, R r0 r1 w1 → R' r0 r1 w1) : C_room_New limitx w R' :=
 Calls.mono h fun _ _ ⟨r0, r1, he, h⟩ => ⟨r0, r1, he, hr r0 r1 _ h⟩
def C_atom_New (limitx : Int) (w : World) (R : Option Addr → Int → World → Prop) : Prop :=
 Calls Tryz.prog 69 #[.int .i64 limitx] w fun en w1 => ∃ (r0 : Option Addr) (r1 : Int), en = .returned (.tuple #[.pointer r0, .int .i64 r1]) ∧ R r0 r1 w1
theorem C_atom_New.mono {limitx : Int} {w : World} {R R' : Option Addr → Int → World → Prop} (h : C_atom_New limitx w R) (hr : ∀ r0 r1 w1, R r0 r1 w1 → R' r0 r1 w1) : C_atom_New limitx w R' :=
 Calls.mono h fun _ _ ⟨r0, r1, he, h⟩ => ⟨r0, r1, he, hr r0 r1 _ h⟩
def C_functor_New (limitx : Int) (atoms : Option Addr) (w : World) (R : Option Addr → Int → World → Prop) : Prop :=
 Calls Tryz.prog 70 #[.int .i64 limitx, .pointer atoms] w fun en w1 => ∃ (r0 : Option Addr) (r1 : Int), en = .returned (.tuple #[.pointer r0, .int .i64 r1]) ∧ R r0 r1 w1
theorem C_functor_New.mono {limitx : Int} {atoms : Option Addr} {w : World} {R R' : Option Addr → Int → World → Prop} (h : C_functor_New limitx atoms w R) (hr : ∀ r0 r1 w1, R r0 r1 w1 → R' r0 r1 w1) : C_functor_New limitx atoms w R' :=
 Calls.mono h fun _ _ ⟨r0, r1, he, h⟩ => ⟨r0, r1, he, hr r0 r1 _ h⟩
def C_ref06_right (t0 : Int) (t1 : Int) (t2 : ByteArray) (t3P : Option Addr) (t3N : Nat) (t3C : Nat) (w : World) (R : Bool → World → Prop) : Prop :=
 Calls Tryz.prog 71 #[.agg #[.int .i64 t0, .int .i64 t1, .string t2, .slice t3P t3N t3C]] w fun en w1 => ∃ (r : Bool), en = .returned (.bool r) ∧ R r w1
theorem C_ref06_right.mono {t0 : Int} {t1 : Int} {t2 : ByteArray} {t3P : Option Addr} {t3N : Nat} {t3C : Nat} {w : World} {R R' : Bool → World → Prop} (h : C_ref06_right t0 t1 t2 t3P t3N t3C w R) (hr : ∀ r w1, R r w1 → R' r w1) : C_ref06_right t0 t1 t2 t3P t3N t3C w R' :=
 Calls.mono h fun _ _ ⟨r, he, h⟩ => ⟨r, he, hr r _ h⟩
def C_ref06_Depth (t0 : Int) (t1 : Int) (t2 : ByteArray) (t3P : Option Addr) (t3N : Nat) (t3C : Nat) (w : World) (R : Int → World → Prop) : Prop :=
 Calls Tryz.prog 72 #[.agg #[.int .i64 t0, .int .i64 t1, .string t2, .slice t3P t3N t3C]] w fun en w1 => ∃ (r : Int), en = .returned (.int .i64 r) ∧ R r w1
theorem C_ref06_Depth.mono {t0 : Int} {t1 : Int} {t2 : ByteArray} {t3P : Option Addr} {t3N : Nat} {t3C : Nat} {w : World} {R R' : Int → World → Prop} (h : C_ref06_Depth t0 t1 t2 t3P t3N t3C w R) (hr : ∀ r w1, R r w1 → R' r w1) : C_ref06_Depth t0 t1 t2 t3P t3N t3C w R' :=
 Calls.mono h fun _ _ ⟨r, he, h⟩ => ⟨r, he, hr r _ h⟩
def C_heap_Heap_made (hx : Option Addr) (w : World) (R : Bool → World → Prop) : Prop :=
 Calls Tryz.prog 73 #[.pointer hx] w fun en w1 => ∃ (r : Bool), en = .returned (.bool r) ∧ R r w1
theorem C_heap_Heap_made.mono {hx : Option Addr} {w : World} {R R' : Bool → World → Prop} (h : C_heap_Heap_made hx w R) (hr : ∀ r w1, R r w1 → R' r w1) : C_heap_Heap_made hx w R' :=
 Calls.mono h fun _ _ ⟨r, he, h⟩ => ⟨r, he, hr r _ h⟩
def C_term_Check (t0 : Int) (t1 : Int) (t2 : ByteArray) (t3P : Option Addr) (t3N : Nat) (t3C : Nat) (w : World) (R : Int → World → Prop) : Prop :=
 Calls Tryz.prog 74 #[.agg #[.int .i64 t0, .int .i64 t1, .string t2, .slice t3P t3N t3C]] w fun en w1 => ∃ (r : Int), en = .returned (.int .i64 r) ∧ R r w1
theorem C_term_Check.mono {t0 : Int} {t1 : Int} {t2 : ByteArray} {t3P : Option Addr} {t3N : Nat} {t3C : Nat} {w : World} {R R' : Int → World → Prop} (h : C_term_Check t0 t1 t2 t3P t3N t3C w R) (hr : ∀ r w1, R r w1 → R' r w1) : C_term_Check t0 t1 t2 t3P t3N t3C w R' :=
 Calls.mono h fun _ _ ⟨r, he, h⟩ => ⟨r, he, hr r _ h⟩
def C_heap_Heap_build (hx : Option Addr) (t0 : Int) (t1 : Int) (t2 : ByteArray) (t3P : Option Addr) (t3N : Nat) (t3C : Nat) (vars : Option Nat) (w : World) (R : Int → Int → World → Prop) : Prop :=
 Calls Tryz.prog 75 #[.pointer hx, .agg #[.int .i64 t0, .int .i64 t1, .string t2, .slice t3P t3N t3C], .map vars] w fun en w1 => ∃ (r0 : Int) (r1 : Int), en = .returned (.tuple #[.int .u64 r0, .int .i64 r1]) ∧ R r0 r1 w1
theorem C_heap_Heap_build.mono {hx : Option Addr} {t0 : Int} {t1 : Int} {t2 : ByteArray} {t3P : Option Addr} {t3N : Nat} {t3C : Nat} {vars : Option Nat} {w : World} {R R' : Int → Int → World → Prop} (h : C_heap_Heap_build hx t0 t1 t2 t3P t3N t3C vars w R) (hr : ∀ r0 r1 w1, R r0 r1 w1 → R' r0 r1 w1) : C_heap_Heap_build hx t0 t1 t2 t3P t3N t3C vars w R' :=
 Calls.mono h fun _ _ ⟨r0, r1, he, h⟩ => ⟨r0, r1, he, hr r0 r1 _ h⟩
def C_heap_Heap_right (hx : Option Addr) (wx : Int) (w : World) (R : Bool → World → Prop) : Prop :=
 Calls Tryz.prog 76 #[.pointer hx, .int .u64 wx] w fun en w1 => ∃ (r : Bool), en = .returned (.bool r) ∧ R r w1
theorem C_heap_Heap_right.mono {hx : Option Addr} {wx : Int} {w : World} {R R' : Bool → World → Prop} (h : C_heap_Heap_right hx wx w R) (hr : ∀ r w1, R r w1 → R' r w1) : C_heap_Heap_right hx wx w R' :=
 Calls.mono h fun _ _ ⟨r, he, h⟩ => ⟨r, he, hr r _ h⟩
def C_heap_reader_read (r : Option Addr) (wx : Int) (w : World) (R : Int → Int → ByteArray → Option Addr → Nat → Nat → World → Prop) : Prop :=
 Calls Tryz.prog 77 #[.pointer r, .int .u64 wx] w fun en w1 => ∃ (r0 : Int) (r1 : Int) (r2 : ByteArray) (r3P : Option Addr) (r3N : Nat) (r3C : Nat), en = .returned (.agg #[.int .i64 r0, .int .i64 r1, .string r2, .slice r3P r3N r3C]) ∧ R r0 r1 r2 r3P r3N r3C w1
theorem C_heap_reader_read.mono {r : Option Addr} {wx : Int} {w : World} {R R' : Int → Int → ByteArray → Option Addr → Nat → Nat → World → Prop} (h : C_heap_reader_read r wx w R) (hr : ∀ r0 r1 r2 r3P r3N r3C w1, R r0 r1 r2 r3P r3N r3C w1 → R' r0 r1 r2 r3P r3N r3C w1) : C_heap_reader_read r wx w R' :=
 Calls.mono h fun _ _ ⟨r0, r1, r2, r3P, r3N, r3C, he, h⟩ => ⟨r0, r1, r2, r3P, r3N, r3C, he, hr r0 r1 r2 r3P r3N r3C _ h⟩
def C_cell_Tag (wx : Int) (w : World) (R : Int → World → Prop) : Prop :=
 Calls Tryz.prog 79 #[.int .u64 wx] w fun en w1 => ∃ (r : Int), en = .returned (.int .i64 r) ∧ R r w1
theorem C_cell_Tag.mono {wx : Int} {w : World} {R R' : Int → World → Prop} (h : C_cell_Tag wx w R) (hr : ∀ r w1, R r w1 → R' r w1) : C_cell_Tag wx w R' :=
 Calls.mono h fun _ _ ⟨r, he, h⟩ => ⟨r, he, hr r _ h⟩
def C_cell_Number (wx : Int) (w : World) (R : Int → World → Prop) : Prop :=
 Calls Tryz.prog 80 #[.int .u64 wx] w fun en w1 => ∃ (r : Int), en = .returned (.int .i64 r) ∧ R r w1
theorem C_cell_Number.mono {wx : Int} {w : World} {R R' : Int → World → Prop} (h : C_cell_Number wx w R) (hr : ∀ r w1, R r w1 → R' r w1) : C_cell_Number wx w R' :=
 Calls.mono h fun _ _ ⟨r, he, h⟩ => ⟨r, he, hr r _ h⟩
def C_atom_Table_Name (t : Option Addr) (idx : Int) (w : World) (R : ByteArray → Int → World → Prop) : Prop :=
 Calls Tryz.prog 81 #[.pointer t, .int .i64 idx] w fun en w1 => ∃ (r0 : ByteArray) (r1 : Int), en = .returned (.tuple #[.string r0, .int .i64 r1]) ∧ R r0 r1 w1
theorem C_atom_Table_Name.mono {t : Option Addr} {idx : Int} {w : World} {R R' : ByteArray → Int → World → Prop} (h : C_atom_Table_Name t idx w R) (hr : ∀ r0 r1 w1, R r0 r1 w1 → R' r0 r1 w1) : C_atom_Table_Name t idx w R' :=
 Calls.mono h fun _ _ ⟨r0, r1, he, h⟩ => ⟨r0, r1, he, hr r0 r1 _ h⟩
def C_heap_Heap_fun (hx : Option Addr) (wx : Int) (w : World) (R : ByteArray → Int → World → Prop) : Prop :=
 Calls Tryz.prog 82 #[.pointer hx, .int .u64 wx] w fun en w1 => ∃ (r0 : ByteArray) (r1 : Int), en = .returned (.tuple #[.string r0, .int .i64 r1]) ∧ R r0 r1 w1
theorem C_heap_Heap_fun.mono {hx : Option Addr} {wx : Int} {w : World} {R R' : ByteArray → Int → World → Prop} (h : C_heap_Heap_fun hx wx w R) (hr : ∀ r0 r1 w1, R r0 r1 w1 → R' r0 r1 w1) : C_heap_Heap_fun hx wx w R' :=
 Calls.mono h fun _ _ ⟨r0, r1, he, h⟩ => ⟨r0, r1, he, hr r0 r1 _ h⟩
def C_heap_Heap_deref (hx : Option Addr) (wx : Int) (w : World) (R : Int → World → Prop) : Prop :=
 Calls Tryz.prog 83 #[.pointer hx, .int .u64 wx] w fun en w1 => ∃ (r : Int), en = .returned (.int .u64 r) ∧ R r w1
theorem C_heap_Heap_deref.mono {hx : Option Addr} {wx : Int} {w : World} {R R' : Int → World → Prop} (h : C_heap_Heap_deref hx wx w R) (hr : ∀ r w1, R r w1 → R' r w1) : C_heap_Heap_deref hx wx w R' :=
 Calls.mono h fun _ _ ⟨r, he, h⟩ => ⟨r, he, hr r _ h⟩
def C_ref06_Atom (sx : ByteArray) (w : World) (R : Int → Int → ByteArray → Option Addr → Nat → Nat → World → Prop) : Prop :=
 Calls Tryz.prog 84 #[.string sx] w fun en w1 => ∃ (r0 : Int) (r1 : Int) (r2 : ByteArray) (r3P : Option Addr) (r3N : Nat) (r3C : Nat), en = .returned (.agg #[.int .i64 r0, .int .i64 r1, .string r2, .slice r3P r3N r3C]) ∧ R r0 r1 r2 r3P r3N r3C w1
theorem C_ref06_Atom.mono {sx : ByteArray} {w : World} {R R' : Int → Int → ByteArray → Option Addr → Nat → Nat → World → Prop} (h : C_ref06_Atom sx w R) (hr : ∀ r0 r1 r2 r3P r3N r3C w1, R r0 r1 r2 r3P r3N r3C w1 → R' r0 r1 r2 r3P r3N r3C w1) : C_ref06_Atom sx w R' :=
 Calls.mono h fun _ _ ⟨r0, r1, r2, r3P, r3N, r3C, he, h⟩ => ⟨r0, r1, r2, r3P, r3N, r3C, he, hr r0 r1 r2 r3P r3N r3C _ h⟩
def C_functor_Table_Put (t : Option Addr) (namex : ByteArray) (arity : Int) (w : World) (R : Int → Int → World → Prop) : Prop :=
 Calls Tryz.prog 85 #[.pointer t, .string namex, .int .i64 arity] w fun en w1 => ∃ (r0 : Int) (r1 : Int), en = .returned (.tuple #[.int .i64 r0, .int .i64 r1]) ∧ R r0 r1 w1
theorem C_functor_Table_Put.mono {t : Option Addr} {namex : ByteArray} {arity : Int} {w : World} {R R' : Int → Int → World → Prop} (h : C_functor_Table_Put t namex arity w R) (hr : ∀ r0 r1 w1, R r0 r1 w1 → R' r0 r1 w1) : C_functor_Table_Put t namex arity w R' :=
 Calls.mono h fun _ _ ⟨r0, r1, he, h⟩ => ⟨r0, r1, he, hr r0 r1 _ h⟩
def C_heap_Heap_take (hx : Option Addr) (n : Int) (w : World) (R : Int → Int → World → Prop) : Prop :=
 Calls Tryz.prog 86 #[.pointer hx, .int .i64 n] w fun en w1 => ∃ (r0 : Int) (r1 : Int), en = .returned (.tuple #[.int .i64 r0, .int .i64 r1]) ∧ R r0 r1 w1
theorem C_heap_Heap_take.mono {hx : Option Addr} {n : Int} {w : World} {R R' : Int → Int → World → Prop} (h : C_heap_Heap_take hx n w R) (hr : ∀ r0 r1 w1, R r0 r1 w1 → R' r0 r1 w1) : C_heap_Heap_take hx n w R' :=
 Calls.mono h fun _ _ ⟨r0, r1, he, h⟩ => ⟨r0, r1, he, hr r0 r1 _ h⟩
def C_heap_word (tag : Int) (n : Int) (w : World) (R : Int → World → Prop) : Prop :=
 Calls Tryz.prog 87 #[.int .i64 tag, .int .i64 n] w fun en w1 => ∃ (r : Int), en = .returned (.int .u64 r) ∧ R r w1
theorem C_heap_word.mono {tag : Int} {n : Int} {w : World} {R R' : Int → World → Prop} (h : C_heap_word tag n w R) (hr : ∀ r w1, R r w1 → R' r w1) : C_heap_word tag n w R' :=
 Calls.mono h fun _ _ ⟨r, he, h⟩ => ⟨r, he, hr r _ h⟩
def C_heap_Heap_compound (hx : Option Addr) (wx : Int) (i : Int) (w : World) (R : Int → Bool → World → Prop) : Prop :=
 Calls Tryz.prog 88 #[.pointer hx, .int .u64 wx, .int .i64 i] w fun en w1 => ∃ (r0 : Int) (r1 : Bool), en = .returned (.tuple #[.int .u64 r0, .bool r1]) ∧ R r0 r1 w1
theorem C_heap_Heap_compound.mono {hx : Option Addr} {wx : Int} {i : Int} {w : World} {R R' : Int → Bool → World → Prop} (h : C_heap_Heap_compound hx wx i w R) (hr : ∀ r0 r1 w1, R r0 r1 w1 → R' r0 r1 w1) : C_heap_Heap_compound hx wx i w R' :=
 Calls.mono h fun _ _ ⟨r0, r1, he, h⟩ => ⟨r0, r1, he, hr r0 r1 _ h⟩
def C_heap_ref (atx : Int) (w : World) (R : Int → World → Prop) : Prop :=
 Calls Tryz.prog 89 #[.int .i64 atx] w fun en w1 => ∃ (r : Int), en = .returned (.int .u64 r) ∧ R r w1
theorem C_heap_ref.mono {atx : Int} {w : World} {R R' : Int → World → Prop} (h : C_heap_ref atx w R) (hr : ∀ r w1, R r w1 → R' r w1) : C_heap_ref atx w R' :=
 Calls.mono h fun _ _ ⟨r, he, h⟩ => ⟨r, he, hr r _ h⟩
def C_heap_arg (wx : Int) (i : Int) (w : World) (R : Int → World → Prop) : Prop :=
 Calls Tryz.prog 90 #[.int .u64 wx, .int .i64 i] w fun en w1 => ∃ (r : Int), en = .returned (.int .i64 r) ∧ R r w1
theorem C_heap_arg.mono {wx : Int} {i : Int} {w : World} {R R' : Int → World → Prop} (h : C_heap_arg wx i w R) (hr : ∀ r w1, R r w1 → R' r w1) : C_heap_arg wx i w R' :=
 Calls.mono h fun _ _ ⟨r, he, h⟩ => ⟨r, he, hr r _ h⟩
def C_ref06_large (t0 : Int) (t1 : Int) (t2 : ByteArray) (t3P : Option Addr) (t3N : Nat) (t3C : Nat) (depth : Int) (n : Option Addr) (w : World) (R : Bool → World → Prop) : Prop :=
 Calls Tryz.prog 91 #[.agg #[.int .i64 t0, .int .i64 t1, .string t2, .slice t3P t3N t3C], .int .i64 depth, .pointer n] w fun en w1 => ∃ (r : Bool), en = .returned (.bool r) ∧ R r w1
theorem C_ref06_large.mono {t0 : Int} {t1 : Int} {t2 : ByteArray} {t3P : Option Addr} {t3N : Nat} {t3C : Nat} {depth : Int} {n : Option Addr} {w : World} {R R' : Bool → World → Prop} (h : C_ref06_large t0 t1 t2 t3P t3N t3C depth n w R) (hr : ∀ r w1, R r w1 → R' r w1) : C_ref06_large t0 t1 t2 t3P t3N t3C depth n w R' :=
 Calls.mono h fun _ _ ⟨r, he, h⟩ => ⟨r, he, hr r _ h⟩
def C_cell_Is (wx : Int) (tag : Int) (w : World) (R : Bool → World → Prop) : Prop :=
 Calls Tryz.prog 93 #[.int .u64 wx, .int .i64 tag] w fun en w1 => ∃ (r : Bool), en = .returned (.bool r) ∧ R r w1
theorem C_cell_Is.mono {wx : Int} {tag : Int} {w : World} {R R' : Bool → World → Prop} (h : C_cell_Is wx tag w R) (hr : ∀ r w1, R r w1 → R' r w1) : C_cell_Is wx tag w R' :=
 Calls.mono h fun _ _ ⟨r, he, h⟩ => ⟨r, he, hr r _ h⟩
def C_heap_Heap_reach (hx : Option Addr) (wx : Int) (x : Int) (seen : Option Nat) (w : World) (R : Bool → World → Prop) : Prop :=
 Calls Tryz.prog 94 #[.pointer hx, .int .u64 wx, .int .u64 x, .map seen] w fun en w1 => ∃ (r : Bool), en = .returned (.bool r) ∧ R r w1
theorem C_heap_Heap_reach.mono {hx : Option Addr} {wx : Int} {x : Int} {seen : Option Nat} {w : World} {R R' : Bool → World → Prop} (h : C_heap_Heap_reach hx wx x seen w R) (hr : ∀ r w1, R r w1 → R' r w1) : C_heap_Heap_reach hx wx x seen w R' :=
 Calls.mono h fun _ _ ⟨r, he, h⟩ => ⟨r, he, hr r _ h⟩
def C_heap_unbound (wx : Int) (w : World) (R : Bool → World → Prop) : Prop :=
 Calls Tryz.prog 95 #[.int .u64 wx] w fun en w1 => ∃ (r : Bool), en = .returned (.bool r) ∧ R r w1
theorem C_heap_unbound.mono {wx : Int} {w : World} {R R' : Bool → World → Prop} (h : C_heap_unbound wx w R) (hr : ∀ r w1, R r w1 → R' r w1) : C_heap_unbound wx w R' :=
 Calls.mono h fun _ _ ⟨r, he, h⟩ => ⟨r, he, hr r _ h⟩
def C_heap_Heap_bind (hx : Option Addr) (wx : Int) (x : Int) (w : World) (R : Bool → Int → World → Prop) : Prop :=
 Calls Tryz.prog 96 #[.pointer hx, .int .u64 wx, .int .u64 x] w fun en w1 => ∃ (r0 : Bool) (r1 : Int), en = .returned (.tuple #[.bool r0, .int .i64 r1]) ∧ R r0 r1 w1
theorem C_heap_Heap_bind.mono {hx : Option Addr} {wx : Int} {x : Int} {w : World} {R R' : Bool → Int → World → Prop} (h : C_heap_Heap_bind hx wx x w R) (hr : ∀ r0 r1 w1, R r0 r1 w1 → R' r0 r1 w1) : C_heap_Heap_bind hx wx x w R' :=
 Calls.mono h fun _ _ ⟨r0, r1, he, h⟩ => ⟨r0, r1, he, hr r0 r1 _ h⟩
def C_heap_matcher_unify (m : Option Addr) (a : Int) (b : Int) (w : World) (R : Bool → World → Prop) : Prop :=
 Calls Tryz.prog 97 #[.pointer m, .int .u64 a, .int .u64 b] w fun en w1 => ∃ (r : Bool), en = .returned (.bool r) ∧ R r w1
theorem C_heap_matcher_unify.mono {m : Option Addr} {a : Int} {b : Int} {w : World} {R R' : Bool → World → Prop} (h : C_heap_matcher_unify m a b w R) (hr : ∀ r w1, R r w1 → R' r w1) : C_heap_matcher_unify m a b w R' :=
 Calls.mono h fun _ _ ⟨r, he, h⟩ => ⟨r, he, hr r _ h⟩
def C_heap_Heap_taken (hx : Option Addr) (atx : Int) (w : World) (R : Bool → World → Prop) : Prop :=
 Calls Tryz.prog 98 #[.pointer hx, .int .i64 atx] w fun en w1 => ∃ (r : Bool), en = .returned (.bool r) ∧ R r w1
theorem C_heap_Heap_taken.mono {hx : Option Addr} {atx : Int} {w : World} {R R' : Bool → World → Prop} (h : C_heap_Heap_taken hx atx w R) (hr : ∀ r w1, R r w1 → R' r w1) : C_heap_Heap_taken hx atx w R' :=
 Calls.mono h fun _ _ ⟨r, he, h⟩ => ⟨r, he, hr r _ h⟩
def C_pool_Pool_Open (p : Option Addr) (w : World) (R : Int → World → Prop) : Prop :=
 Calls Tryz.prog 99 #[.pointer p] w fun en w1 => ∃ (r : Int), en = .returned (.int .i64 r) ∧ R r w1
theorem C_pool_Pool_Open.mono {p : Option Addr} {w : World} {R R' : Int → World → Prop} (h : C_pool_Pool_Open p w R) (hr : ∀ r w1, R r w1 → R' r w1) : C_pool_Pool_Open p w R' :=
 Calls.mono h fun _ _ ⟨r, he, h⟩ => ⟨r, he, hr r _ h⟩
def C_room_Room_Len (m : Option Addr) (w : World) (R : Int → World → Prop) : Prop :=
 Calls Tryz.prog 100 #[.pointer m] w fun en w1 => ∃ (r : Int), en = .returned (.int .i64 r) ∧ R r w1
theorem C_room_Room_Len.mono {m : Option Addr} {w : World} {R R' : Int → World → Prop} (h : C_room_Room_Len m w R) (hr : ∀ r w1, R r w1 → R' r w1) : C_room_Room_Len m w R' :=
 Calls.mono h fun _ _ ⟨r, he, h⟩ => ⟨r, he, hr r _ h⟩
def C_pool_Pool_Back (p : Option Addr) (w : World) (R : Int → World → Prop) : Prop :=
 Calls Tryz.prog 101 #[.pointer p] w fun en w1 => ∃ (r : Int), en = .returned (.int .i64 r) ∧ R r w1
theorem C_pool_Pool_Back.mono {p : Option Addr} {w : World} {R R' : Int → World → Prop} (h : C_pool_Pool_Back p w R) (hr : ∀ r w1, R r w1 → R' r w1) : C_pool_Pool_Back p w R' :=
 Calls.mono h fun _ _ ⟨r, he, h⟩ => ⟨r, he, hr r _ h⟩
def C_pool_Pool_made (p : Option Addr) (w : World) (R : Bool → World → Prop) : Prop :=
 Calls Tryz.prog 102 #[.pointer p] w fun en w1 => ∃ (r : Bool), en = .returned (.bool r) ∧ R r w1
theorem C_pool_Pool_made.mono {p : Option Addr} {w : World} {R R' : Bool → World → Prop} (h : C_pool_Pool_made p w R) (hr : ∀ r w1, R r w1 → R' r w1) : C_pool_Pool_made p w R' :=
 Calls.mono h fun _ _ ⟨r, he, h⟩ => ⟨r, he, hr r _ h⟩
def C_atom_Table_Intern (t : Option Addr) (namex : ByteArray) (w : World) (R : Int → Int → World → Prop) : Prop :=
 Calls Tryz.prog 108 #[.pointer t, .string namex] w fun en w1 => ∃ (r0 : Int) (r1 : Int), en = .returned (.tuple #[.int .i64 r0, .int .i64 r1]) ∧ R r0 r1 w1
theorem C_atom_Table_Intern.mono {t : Option Addr} {namex : ByteArray} {w : World} {R R' : Int → Int → World → Prop} (h : C_atom_Table_Intern t namex w R) (hr : ∀ r0 r1 w1, R r0 r1 w1 → R' r0 r1 w1) : C_atom_Table_Intern t namex w R' :=
 Calls.mono h fun _ _ ⟨r0, r1, he, h⟩ => ⟨r0, r1, he, hr r0 r1 _ h⟩
def C_room_Room_Pop (m : Option Addr) (w : World) (R : Int → Int → World → Prop) : Prop :=
 Calls Tryz.prog 109 #[.pointer m] w fun en w1 => ∃ (r0 : Int) (r1 : Int), en = .returned (.tuple #[.int .u64 r0, .int .i64 r1]) ∧ R r0 r1 w1
theorem C_room_Room_Pop.mono {m : Option Addr} {w : World} {R R' : Int → Int → World → Prop} (h : C_room_Room_Pop m w R) (hr : ∀ r0 r1 w1, R r0 r1 w1 → R' r0 r1 w1) : C_room_Room_Pop m w R' :=
 Calls.mono h fun _ _ ⟨r0, r1, he, h⟩ => ⟨r0, r1, he, hr r0 r1 _ h⟩
def C_slices_Clone (sP : Option Addr) (sN : Nat) (sC : Nat) (w : World) (R : Option Addr → Nat → Nat → World → Prop) : Prop :=
 Calls Tryz.prog 110 #[.slice sP sN sC] w fun en w1 => ∃ (rP : Option Addr) (rN : Nat) (rC : Nat), en = .returned (.slice rP rN rC) ∧ R rP rN rC w1
theorem C_slices_Clone.mono {sP : Option Addr} {sN : Nat} {sC : Nat} {w : World} {R R' : Option Addr → Nat → Nat → World → Prop} (h : C_slices_Clone sP sN sC w R) (hr : ∀ rP rN rC w1, R rP rN rC w1 → R' rP rN rC w1) : C_slices_Clone sP sN sC w R' :=
 Calls.mono h fun _ _ ⟨rP, rN, rC, he, h⟩ => ⟨rP, rN, rC, he, hr rP rN rC _ h⟩
def C_slices_Clone__2 (sP : Option Addr) (sN : Nat) (sC : Nat) (w : World) (R : Option Addr → Nat → Nat → World → Prop) : Prop :=
 Calls Tryz.prog 111 #[.slice sP sN sC] w fun en w1 => ∃ (rP : Option Addr) (rN : Nat) (rC : Nat), en = .returned (.slice rP rN rC) ∧ R rP rN rC w1
theorem C_slices_Clone__2.mono {sP : Option Addr} {sN : Nat} {sC : Nat} {w : World} {R R' : Option Addr → Nat → Nat → World → Prop} (h : C_slices_Clone__2 sP sN sC w R) (hr : ∀ rP rN rC w1, R rP rN rC w1 → R' rP rN rC w1) : C_slices_Clone__2 sP sN sC w R' :=
 Calls.mono h fun _ _ ⟨rP, rN, rC, he, h⟩ => ⟨rP, rN, rC, he, hr rP rN rC _ h⟩
def C_room_Room_Keep (m : Option Addr) (keepx : Value) (w : World) (R : Int → World → Prop) : Prop :=
 Calls Tryz.prog 112 #[.pointer m, keepx] w fun en w1 => ∃ (r : Int), en = .returned (.int .i64 r) ∧ R r w1
theorem C_room_Room_Keep.mono {m : Option Addr} {keepx : Value} {w : World} {R R' : Int → World → Prop} (h : C_room_Room_Keep m keepx w R) (hr : ∀ r w1, R r w1 → R' r w1) : C_room_Room_Keep m keepx w R' :=
 Calls.mono h fun _ _ ⟨r, he, h⟩ => ⟨r, he, hr r _ h⟩
def C_heap_Heap_Forget_1 (i : Int) (wx : Int) (c0 : Addr) (c1 : Addr) (w : World) (R : Bool → World → Prop) : Prop :=
 Calls Tryz.prog 113 #[.int .i64 i, .int .u64 wx, .pointer (some c0), .pointer (some c1)] w fun en w1 => ∃ (r : Bool), en = .returned (.bool r) ∧ R r w1
theorem C_heap_Heap_Forget_1.mono {i : Int} {wx : Int} {c0 : Addr} {c1 : Addr} {w : World} {R R' : Bool → World → Prop} (h : C_heap_Heap_Forget_1 i wx c0 c1 w R) (hr : ∀ r w1, R r w1 → R' r w1) : C_heap_Heap_Forget_1 i wx c0 c1 w R' :=
 Calls.mono h fun _ _ ⟨r, he, h⟩ => ⟨r, he, hr r _ h⟩
def C_slices_BinarySearch (xP : Option Addr) (xN : Nat) (xC : Nat) (target : Int) (w : World) (R : Int → Bool → World → Prop) : Prop :=
 Calls Tryz.prog 114 #[.slice xP xN xC, .int .i64 target] w fun en w1 => ∃ (r0 : Int) (r1 : Bool), en = .returned (.tuple #[.int .i64 r0, .bool r1]) ∧ R r0 r1 w1
theorem C_slices_BinarySearch.mono {xP : Option Addr} {xN : Nat} {xC : Nat} {target : Int} {w : World} {R R' : Int → Bool → World → Prop} (h : C_slices_BinarySearch xP xN xC target w R) (hr : ∀ r0 r1 w1, R r0 r1 w1 → R' r0 r1 w1) : C_slices_BinarySearch xP xN xC target w R' :=
 Calls.mono h fun _ _ ⟨r0, r1, he, h⟩ => ⟨r0, r1, he, hr r0 r1 _ h⟩
def C_atom_Reserved  (w : World) (R : Option Addr → Nat → Nat → World → Prop) : Prop :=
 Calls Tryz.prog 115 #[] w fun en w1 => ∃ (rP : Option Addr) (rN : Nat) (rC : Nat), en = .returned (.slice rP rN rC) ∧ R rP rN rC w1
theorem C_atom_Reserved.mono {w : World} {R R' : Option Addr → Nat → Nat → World → Prop} (h : C_atom_Reserved  w R) (hr : ∀ rP rN rC w1, R rP rN rC w1 → R' rP rN rC w1) : C_atom_Reserved  w R' :=
 Calls.mono h fun _ _ ⟨rP, rN, rC, he, h⟩ => ⟨rP, rN, rC, he, hr rP rN rC _ h⟩
def C_ref06_part (t0 : Int) (t1 : Int) (t2 : ByteArray) (t3P : Option Addr) (t3N : Nat) (t3C : Nat) (w : World) (R : Bool → World → Prop) : Prop :=
 Calls Tryz.prog 116 #[.agg #[.int .i64 t0, .int .i64 t1, .string t2, .slice t3P t3N t3C]] w fun en w1 => ∃ (r : Bool), en = .returned (.bool r) ∧ R r w1
theorem C_ref06_part.mono {t0 : Int} {t1 : Int} {t2 : ByteArray} {t3P : Option Addr} {t3N : Nat} {t3C : Nat} {w : World} {R R' : Bool → World → Prop} (h : C_ref06_part t0 t1 t2 t3P t3N t3C w R) (hr : ∀ r w1, R r w1 → R' r w1) : C_ref06_part t0 t1 t2 t3P t3N t3C w R' :=
 Calls.mono h fun _ _ ⟨r, he, h⟩ => ⟨r, he, hr r _ h⟩
def C_term_measure (t0 : Int) (t1 : Int) (t2 : ByteArray) (t3P : Option Addr) (t3N : Nat) (t3C : Nat) (w : World) (R : Int → Int → Bool → World → Prop) : Prop :=
 Calls Tryz.prog 117 #[.agg #[.int .i64 t0, .int .i64 t1, .string t2, .slice t3P t3N t3C]] w fun en w1 => ∃ (r0 : Int) (r1 : Int) (r2 : Bool), en = .returned (.agg #[.int .i64 r0, .int .i64 r1, .bool r2]) ∧ R r0 r1 r2 w1
theorem C_term_measure.mono {t0 : Int} {t1 : Int} {t2 : ByteArray} {t3P : Option Addr} {t3N : Nat} {t3C : Nat} {w : World} {R R' : Int → Int → Bool → World → Prop} (h : C_term_measure t0 t1 t2 t3P t3N t3C w R) (hr : ∀ r0 r1 r2 w1, R r0 r1 r2 w1 → R' r0 r1 r2 w1) : C_term_measure t0 t1 t2 t3P t3N t3C w R' :=
 Calls.mono h fun _ _ ⟨r0, r1, r2, he, h⟩ => ⟨r0, r1, r2, he, hr r0 r1 r2 _ h⟩
def C_heap_Heap_variable (hx : Option Addr) (n : Int) (vars : Option Nat) (w : World) (R : Int → Int → World → Prop) : Prop :=
 Calls Tryz.prog 118 #[.pointer hx, .int .i64 n, .map vars] w fun en w1 => ∃ (r0 : Int) (r1 : Int), en = .returned (.tuple #[.int .u64 r0, .int .i64 r1]) ∧ R r0 r1 w1
theorem C_heap_Heap_variable.mono {hx : Option Addr} {n : Int} {vars : Option Nat} {w : World} {R R' : Int → Int → World → Prop} (h : C_heap_Heap_variable hx n vars w R) (hr : ∀ r0 r1 w1, R r0 r1 w1 → R' r0 r1 w1) : C_heap_Heap_variable hx n vars w R' :=
 Calls.mono h fun _ _ ⟨r0, r1, he, h⟩ => ⟨r0, r1, he, hr r0 r1 _ h⟩
def C_heap_reader_variable (r : Option Addr) (wx : Int) (w : World) (R : Int → Int → ByteArray → Option Addr → Nat → Nat → World → Prop) : Prop :=
 Calls Tryz.prog 119 #[.pointer r, .int .u64 wx] w fun en w1 => ∃ (r0 : Int) (r1 : Int) (r2 : ByteArray) (r3P : Option Addr) (r3N : Nat) (r3C : Nat), en = .returned (.agg #[.int .i64 r0, .int .i64 r1, .string r2, .slice r3P r3N r3C]) ∧ R r0 r1 r2 r3P r3N r3C w1
theorem C_heap_reader_variable.mono {r : Option Addr} {wx : Int} {w : World} {R R' : Int → Int → ByteArray → Option Addr → Nat → Nat → World → Prop} (h : C_heap_reader_variable r wx w R) (hr : ∀ r0 r1 r2 r3P r3N r3C w1, R r0 r1 r2 r3P r3N r3C w1 → R' r0 r1 r2 r3P r3N r3C w1) : C_heap_reader_variable r wx w R' :=
 Calls.mono h fun _ _ ⟨r0, r1, r2, r3P, r3N, r3C, he, h⟩ => ⟨r0, r1, r2, r3P, r3N, r3C, he, hr r0 r1 r2 r3P r3N r3C _ h⟩
def C_term_Int (n : Int) (w : World) (R : Int → Int → ByteArray → Option Addr → Nat → Nat → World → Prop) : Prop :=
 Calls Tryz.prog 120 #[.int .i64 n] w fun en w1 => ∃ (r0 : Int) (r1 : Int) (r2 : ByteArray) (r3P : Option Addr) (r3N : Nat) (r3C : Nat), en = .returned (.agg #[.int .i64 r0, .int .i64 r1, .string r2, .slice r3P r3N r3C]) ∧ R r0 r1 r2 r3P r3N r3C w1
theorem C_term_Int.mono {n : Int} {w : World} {R R' : Int → Int → ByteArray → Option Addr → Nat → Nat → World → Prop} (h : C_term_Int n w R) (hr : ∀ r0 r1 r2 r3P r3N r3C w1, R r0 r1 r2 r3P r3N r3C w1 → R' r0 r1 r2 r3P r3N r3C w1) : C_term_Int n w R' :=
 Calls.mono h fun _ _ ⟨r0, r1, r2, r3P, r3N, r3C, he, h⟩ => ⟨r0, r1, r2, r3P, r3N, r3C, he, hr r0 r1 r2 r3P r3N r3C _ h⟩
def C_term_Atom (sx : ByteArray) (w : World) (R : Int → Int → ByteArray → Option Addr → Nat → Nat → World → Prop) : Prop :=
 Calls Tryz.prog 121 #[.string sx] w fun en w1 => ∃ (r0 : Int) (r1 : Int) (r2 : ByteArray) (r3P : Option Addr) (r3N : Nat) (r3C : Nat), en = .returned (.agg #[.int .i64 r0, .int .i64 r1, .string r2, .slice r3P r3N r3C]) ∧ R r0 r1 r2 r3P r3N r3C w1
theorem C_term_Atom.mono {sx : ByteArray} {w : World} {R R' : Int → Int → ByteArray → Option Addr → Nat → Nat → World → Prop} (h : C_term_Atom sx w R) (hr : ∀ r0 r1 r2 r3P r3N r3C w1, R r0 r1 r2 r3P r3N r3C w1 → R' r0 r1 r2 r3P r3N r3C w1) : C_term_Atom sx w R' :=
 Calls.mono h fun _ _ ⟨r0, r1, r2, r3P, r3N, r3C, he, h⟩ => ⟨r0, r1, r2, r3P, r3N, r3C, he, hr r0 r1 r2 r3P r3N r3C _ h⟩
def C_atom_Table_may (t : Option Addr) (idx : Int) (w : World) (R : Int → World → Prop) : Prop :=
 Calls Tryz.prog 122 #[.pointer t, .int .i64 idx] w fun en w1 => ∃ (r : Int), en = .returned (.int .i64 r) ∧ R r w1
theorem C_atom_Table_may.mono {t : Option Addr} {idx : Int} {w : World} {R R' : Int → World → Prop} (h : C_atom_Table_may t idx w R) (hr : ∀ r w1, R r w1 → R' r w1) : C_atom_Table_may t idx w R' :=
 Calls.mono h fun _ _ ⟨r, he, h⟩ => ⟨r, he, hr r _ h⟩
def C_functor_Table_Get (t : Option Addr) (idx : Int) (w : World) (R : ByteArray → Int → Int → World → Prop) : Prop :=
 Calls Tryz.prog 123 #[.pointer t, .int .i64 idx] w fun en w1 => ∃ (r0 : ByteArray) (r1 : Int) (r2 : Int), en = .returned (.tuple #[.string r0, .int .i64 r1, .int .i64 r2]) ∧ R r0 r1 r2 w1
theorem C_functor_Table_Get.mono {t : Option Addr} {idx : Int} {w : World} {R R' : ByteArray → Int → Int → World → Prop} (h : C_functor_Table_Get t idx w R) (hr : ∀ r0 r1 r2 w1, R r0 r1 r2 w1 → R' r0 r1 r2 w1) : C_functor_Table_Get t idx w R' :=
 Calls.mono h fun _ _ ⟨r0, r1, r2, he, h⟩ => ⟨r0, r1, r2, he, hr r0 r1 r2 _ h⟩
def C_functor_Table_made (t : Option Addr) (w : World) (R : Bool → World → Prop) : Prop :=
 Calls Tryz.prog 124 #[.pointer t] w fun en w1 => ∃ (r : Bool), en = .returned (.bool r) ∧ R r w1
theorem C_functor_Table_made.mono {t : Option Addr} {w : World} {R R' : Bool → World → Prop} (h : C_functor_Table_made t w R) (hr : ∀ r w1, R r w1 → R' r w1) : C_functor_Table_made t w R' :=
 Calls.mono h fun _ _ ⟨r, he, h⟩ => ⟨r, he, hr r _ h⟩
def C_functor_Table_add (t : Option Addr) (f0 : Int) (f1 : Int) (w : World) (R : Int → Int → World → Prop) : Prop :=
 Calls Tryz.prog 125 #[.pointer t, .agg #[.int .i64 f0, .int .i64 f1]] w fun en w1 => ∃ (r0 : Int) (r1 : Int), en = .returned (.tuple #[.int .i64 r0, .int .i64 r1]) ∧ R r0 r1 w1
theorem C_functor_Table_add.mono {t : Option Addr} {f0 : Int} {f1 : Int} {w : World} {R R' : Int → Int → World → Prop} (h : C_functor_Table_add t f0 f1 w R) (hr : ∀ r0 r1 w1, R r0 r1 w1 → R' r0 r1 w1) : C_functor_Table_add t f0 f1 w R' :=
 Calls.mono h fun _ _ ⟨r0, r1, he, h⟩ => ⟨r0, r1, he, hr r0 r1 _ h⟩
def C_pool_Pool_Take (p : Option Addr) (n : Int) (w : World) (R : Int → Int → World → Prop) : Prop :=
 Calls Tryz.prog 126 #[.pointer p, .int .i64 n] w fun en w1 => ∃ (r0 : Int) (r1 : Int), en = .returned (.tuple #[.int .i64 r0, .int .i64 r1]) ∧ R r0 r1 w1
theorem C_pool_Pool_Take.mono {p : Option Addr} {n : Int} {w : World} {R R' : Int → Int → World → Prop} (h : C_pool_Pool_Take p n w R) (hr : ∀ r0 r1 w1, R r0 r1 w1 → R' r0 r1 w1) : C_pool_Pool_Take p n w R' :=
 Calls.mono h fun _ _ ⟨r0, r1, he, h⟩ => ⟨r0, r1, he, hr r0 r1 _ h⟩
def C_cell_Make (tag : Int) (n : Int) (w : World) (R : Int → Int → World → Prop) : Prop :=
 Calls Tryz.prog 127 #[.int .i64 tag, .int .i64 n] w fun en w1 => ∃ (r0 : Int) (r1 : Int), en = .returned (.tuple #[.int .u64 r0, .int .i64 r1]) ∧ R r0 r1 w1
theorem C_cell_Make.mono {tag : Int} {n : Int} {w : World} {R R' : Int → Int → World → Prop} (h : C_cell_Make tag n w R) (hr : ∀ r0 r1 w1, R r0 r1 w1 → R' r0 r1 w1) : C_cell_Make tag n w R' :=
 Calls.mono h fun _ _ ⟨r0, r1, he, h⟩ => ⟨r0, r1, he, hr r0 r1 _ h⟩
def C_room_Room_Push (m : Option Addr) (wx : Int) (w : World) (R : Int → World → Prop) : Prop :=
 Calls Tryz.prog 128 #[.pointer m, .int .u64 wx] w fun en w1 => ∃ (r : Int), en = .returned (.int .i64 r) ∧ R r w1
theorem C_room_Room_Push.mono {m : Option Addr} {wx : Int} {w : World} {R R' : Int → World → Prop} (h : C_room_Room_Push m wx w R) (hr : ∀ r w1, R r w1 → R' r w1) : C_room_Room_Push m wx w R' :=
 Calls.mono h fun _ _ ⟨r, he, h⟩ => ⟨r, he, hr r _ h⟩
def C_heap_matcher_bind (m : Option Addr) (wx : Int) (x : Int) (w : World) (R : Bool → World → Prop) : Prop :=
 Calls Tryz.prog 129 #[.pointer m, .int .u64 wx, .int .u64 x] w fun en w1 => ∃ (r : Bool), en = .returned (.bool r) ∧ R r w1
theorem C_heap_matcher_bind.mono {m : Option Addr} {wx : Int} {x : Int} {w : World} {R R' : Bool → World → Prop} (h : C_heap_matcher_bind m wx x w R) (hr : ∀ r w1, R r w1 → R' r w1) : C_heap_matcher_bind m wx x w R' :=
 Calls.mono h fun _ _ ⟨r, he, h⟩ => ⟨r, he, hr r _ h⟩
def C_pool_Pool_Free (p : Option Addr) (atx : Int) (w : World) (R : Bool → World → Prop) : Prop :=
 Calls Tryz.prog 130 #[.pointer p, .int .i64 atx] w fun en w1 => ∃ (r : Bool), en = .returned (.bool r) ∧ R r w1
theorem C_pool_Pool_Free.mono {p : Option Addr} {atx : Int} {w : World} {R R' : Bool → World → Prop} (h : C_pool_Pool_Free p atx w R) (hr : ∀ r w1, R r w1 → R' r w1) : C_pool_Pool_Free p atx w R' :=
 Calls.mono h fun _ _ ⟨r, he, h⟩ => ⟨r, he, hr r _ h⟩
def C_pool_Pool_last (p : Option Addr) (w : World) (R : Option Addr → World → Prop) : Prop :=
 Calls Tryz.prog 131 #[.pointer p] w fun en w1 => ∃ (r : Option Addr), en = .returned (.pointer r) ∧ R r w1
theorem C_pool_Pool_last.mono {p : Option Addr} {w : World} {R R' : Option Addr → World → Prop} (h : C_pool_Pool_last p w R) (hr : ∀ r w1, R r w1 → R' r w1) : C_pool_Pool_last p w R' :=
 Calls.mono h fun _ _ ⟨r, he, h⟩ => ⟨r, he, hr r _ h⟩
def C_atom_Table_ready (t : Option Addr) (w : World) (R : Bool → World → Prop) : Prop :=
 Calls Tryz.prog 138 #[.pointer t] w fun en w1 => ∃ (r : Bool), en = .returned (.bool r) ∧ R r w1
theorem C_atom_Table_ready.mono {t : Option Addr} {w : World} {R R' : Bool → World → Prop} (h : C_atom_Table_ready t w R) (hr : ∀ r w1, R r w1 → R' r w1) : C_atom_Table_ready t w R' :=
 Calls.mono h fun _ _ ⟨r, he, h⟩ => ⟨r, he, hr r _ h⟩
def C_sync_atomic_Int64_Add (x : Option Addr) (delta : Int) (w : World) (R : Int → World → Prop) : Prop :=
 Calls Tryz.prog 139 #[.pointer x, .int .i64 delta] w fun en w1 => ∃ (r : Int), en = .returned (.int .i64 r) ∧ R r w1
theorem C_sync_atomic_Int64_Add.mono {x : Option Addr} {delta : Int} {w : World} {R R' : Int → World → Prop} (h : C_sync_atomic_Int64_Add x delta w R) (hr : ∀ r w1, R r w1 → R' r w1) : C_sync_atomic_Int64_Add x delta w R' :=
 Calls.mono h fun _ _ ⟨r, he, h⟩ => ⟨r, he, hr r _ h⟩
def C_room_Room_Get (m : Option Addr) (i : Int) (w : World) (R : Int → Int → World → Prop) : Prop :=
 Calls Tryz.prog 140 #[.pointer m, .int .i64 i] w fun en w1 => ∃ (r0 : Int) (r1 : Int), en = .returned (.tuple #[.int .u64 r0, .int .i64 r1]) ∧ R r0 r1 w1
theorem C_room_Room_Get.mono {m : Option Addr} {i : Int} {w : World} {R R' : Int → Int → World → Prop} (h : C_room_Room_Get m i w R) (hr : ∀ r0 r1 w1, R r0 r1 w1 → R' r0 r1 w1) : C_room_Room_Get m i w R' :=
 Calls.mono h fun _ _ ⟨r0, r1, he, h⟩ => ⟨r0, r1, he, hr r0 r1 _ h⟩
def C_slices_DeleteFunc (sP : Option Addr) (sN : Nat) (sC : Nat) (del : Value) (w : World) (R : Option Addr → Nat → Nat → World → Prop) : Prop :=
 Calls Tryz.prog 141 #[.slice sP sN sC, del] w fun en w1 => ∃ (rP : Option Addr) (rN : Nat) (rC : Nat), en = .returned (.slice rP rN rC) ∧ R rP rN rC w1
theorem C_slices_DeleteFunc.mono {sP : Option Addr} {sN : Nat} {sC : Nat} {del : Value} {w : World} {R R' : Option Addr → Nat → Nat → World → Prop} (h : C_slices_DeleteFunc sP sN sC del w R) (hr : ∀ rP rN rC w1, R rP rN rC w1 → R' rP rN rC w1) : C_slices_DeleteFunc sP sN sC del w R' :=
 Calls.mono h fun _ _ ⟨rP, rN, rC, he, h⟩ => ⟨rP, rN, rC, he, hr rP rN rC _ h⟩
def C_room_Room_Keep_1 (wx : Int) (c0 : Addr) (c1 : Addr) (w : World) (R : Bool → World → Prop) : Prop :=
 Calls Tryz.prog 142 #[.int .u64 wx, .pointer (some c0), .pointer (some c1)] w fun en w1 => ∃ (r : Bool), en = .returned (.bool r) ∧ R r w1
theorem C_room_Room_Keep_1.mono {wx : Int} {c0 : Addr} {c1 : Addr} {w : World} {R R' : Bool → World → Prop} (h : C_room_Room_Keep_1 wx c0 c1 w R) (hr : ∀ r w1, R r w1 → R' r w1) : C_room_Room_Keep_1 wx c0 c1 w R' :=
 Calls.mono h fun _ _ ⟨r, he, h⟩ => ⟨r, he, hr r _ h⟩
def C_cmp_Less (x : Int) (y : Int) (w : World) (R : Bool → World → Prop) : Prop :=
 Calls Tryz.prog 143 #[.int .i64 x, .int .i64 y] w fun en w1 => ∃ (r : Bool), en = .returned (.bool r) ∧ R r w1
theorem C_cmp_Less.mono {x : Int} {y : Int} {w : World} {R R' : Bool → World → Prop} (h : C_cmp_Less x y w R) (hr : ∀ r w1, R r w1 → R' r w1) : C_cmp_Less x y w R' :=
 Calls.mono h fun _ _ ⟨r, he, h⟩ => ⟨r, he, hr r _ h⟩
def C_slices_isNaN (x : Int) (w : World) (R : Bool → World → Prop) : Prop :=
 Calls Tryz.prog 144 #[.int .i64 x] w fun en w1 => ∃ (r : Bool), en = .returned (.bool r) ∧ R r w1
theorem C_slices_isNaN.mono {x : Int} {w : World} {R R' : Bool → World → Prop} (h : C_slices_isNaN x w R) (hr : ∀ r w1, R r w1 → R' r w1) : C_slices_isNaN x w R' :=
 Calls.mono h fun _ _ ⟨r, he, h⟩ => ⟨r, he, hr r _ h⟩
def C_term_count_of (cx : Option Addr) (t0 : Int) (t1 : Int) (t2 : ByteArray) (t3P : Option Addr) (t3N : Nat) (t3C : Nat) (depth : Int) (w : World) (R : World → Prop) : Prop :=
 Calls Tryz.prog 145 #[.pointer cx, .agg #[.int .i64 t0, .int .i64 t1, .string t2, .slice t3P t3N t3C], .int .i64 depth] w fun en w1 => en = .returned (.tuple #[]) ∧ R w1
theorem C_term_count_of.mono {cx : Option Addr} {t0 : Int} {t1 : Int} {t2 : ByteArray} {t3P : Option Addr} {t3N : Nat} {t3C : Nat} {depth : Int} {w : World} {R R' : World → Prop} (h : C_term_count_of cx t0 t1 t2 t3P t3N t3C depth w R) (hr : ∀ w1, R w1 → R' w1) : C_term_count_of cx t0 t1 t2 t3P t3N t3C depth w R' :=
 Calls.mono h fun _ _ ⟨he, h⟩ => ⟨he, hr _ h⟩
def C_term_Var (n : Int) (w : World) (R : Int → Int → ByteArray → Option Addr → Nat → Nat → World → Prop) : Prop :=
 Calls Tryz.prog 146 #[.int .i64 n] w fun en w1 => ∃ (r0 : Int) (r1 : Int) (r2 : ByteArray) (r3P : Option Addr) (r3N : Nat) (r3C : Nat), en = .returned (.agg #[.int .i64 r0, .int .i64 r1, .string r2, .slice r3P r3N r3C]) ∧ R r0 r1 r2 r3P r3N r3C w1
theorem C_term_Var.mono {n : Int} {w : World} {R R' : Int → Int → ByteArray → Option Addr → Nat → Nat → World → Prop} (h : C_term_Var n w R) (hr : ∀ r0 r1 r2 r3P r3N r3C w1, R r0 r1 r2 r3P r3N r3C w1 → R' r0 r1 r2 r3P r3N r3C w1) : C_term_Var n w R' :=
 Calls.mono h fun _ _ ⟨r0, r1, r2, r3P, r3N, r3C, he, h⟩ => ⟨r0, r1, r2, r3P, r3N, r3C, he, hr r0 r1 r2 r3P r3N r3C _ h⟩
def C_atom_Table_has (t : Option Addr) (idx : Int) (w : World) (R : Bool → World → Prop) : Prop :=
 Calls Tryz.prog 147 #[.pointer t, .int .i64 idx] w fun en w1 => ∃ (r : Bool), en = .returned (.bool r) ∧ R r w1
theorem C_atom_Table_has.mono {t : Option Addr} {idx : Int} {w : World} {R R' : Bool → World → Prop} (h : C_atom_Table_has t idx w R) (hr : ∀ r w1, R r w1 → R' r w1) : C_atom_Table_has t idx w R' :=
 Calls.mono h fun _ _ ⟨r, he, h⟩ => ⟨r, he, hr r _ h⟩
def C_functor_Table_may (t : Option Addr) (idx : Int) (w : World) (R : Int → World → Prop) : Prop :=
 Calls Tryz.prog 148 #[.pointer t, .int .i64 idx] w fun en w1 => ∃ (r : Int), en = .returned (.int .i64 r) ∧ R r w1
theorem C_functor_Table_may.mono {t : Option Addr} {idx : Int} {w : World} {R R' : Int → World → Prop} (h : C_functor_Table_may t idx w R) (hr : ∀ r w1, R r w1 → R' r w1) : C_functor_Table_may t idx w R' :=
 Calls.mono h fun _ _ ⟨r, he, h⟩ => ⟨r, he, hr r _ h⟩
def C_slices_IndexFunc (sP : Option Addr) (sN : Nat) (sC : Nat) (fx : Value) (w : World) (R : Int → World → Prop) : Prop :=
 Calls Tryz.prog 149 #[.slice sP sN sC, fx] w fun en w1 => ∃ (r : Int), en = .returned (.int .i64 r) ∧ R r w1
theorem C_slices_IndexFunc.mono {sP : Option Addr} {sN : Nat} {sC : Nat} {fx : Value} {w : World} {R R' : Int → World → Prop} (h : C_slices_IndexFunc sP sN sC fx w R) (hr : ∀ r w1, R r w1 → R' r w1) : C_slices_IndexFunc sP sN sC fx w R' :=
 Calls.mono h fun _ _ ⟨r, he, h⟩ => ⟨r, he, hr r _ h⟩
def C_pool_Pool_Take_1 (r0 : Int) (r1 : Int) (c0 : Addr) (w : World) (R : Bool → World → Prop) : Prop :=
 Calls Tryz.prog 150 #[.agg #[.int .i64 r0, .int .i64 r1], .pointer (some c0)] w fun en w1 => ∃ (r : Bool), en = .returned (.bool r) ∧ R r w1
theorem C_pool_Pool_Take_1.mono {r0 : Int} {r1 : Int} {c0 : Addr} {w : World} {R R' : Bool → World → Prop} (h : C_pool_Pool_Take_1 r0 r1 c0 w R) (hr : ∀ r w1, R r w1 → R' r w1) : C_pool_Pool_Take_1 r0 r1 c0 w R' :=
 Calls.mono h fun _ _ ⟨r, he, h⟩ => ⟨r, he, hr r _ h⟩
def C_slices_Delete (sP : Option Addr) (sN : Nat) (sC : Nat) (i : Int) (j : Int) (w : World) (R : Option Addr → Nat → Nat → World → Prop) : Prop :=
 Calls Tryz.prog 151 #[.slice sP sN sC, .int .i64 i, .int .i64 j] w fun en w1 => ∃ (rP : Option Addr) (rN : Nat) (rC : Nat), en = .returned (.slice rP rN rC) ∧ R rP rN rC w1
theorem C_slices_Delete.mono {sP : Option Addr} {sN : Nat} {sC : Nat} {i : Int} {j : Int} {w : World} {R R' : Option Addr → Nat → Nat → World → Prop} (h : C_slices_Delete sP sN sC i j w R) (hr : ∀ rP rN rC w1, R rP rN rC w1 → R' rP rN rC w1) : C_slices_Delete sP sN sC i j w R' :=
 Calls.mono h fun _ _ ⟨rP, rN, rC, he, h⟩ => ⟨rP, rN, rC, he, hr rP rN rC _ h⟩
def C_room_Room_note (m : Option Addr) (w : World) (R : World → Prop) : Prop :=
 Calls Tryz.prog 152 #[.pointer m] w fun en w1 => en = .returned (.tuple #[]) ∧ R w1
theorem C_room_Room_note.mono {m : Option Addr} {w : World} {R R' : World → Prop} (h : C_room_Room_note m w R) (hr : ∀ w1, R w1 → R' w1) : C_room_Room_note m w R' :=
 Calls.mono h fun _ _ ⟨he, h⟩ => ⟨he, hr _ h⟩
def C_pool_Pool_Segment (p : Option Addr) (atx : Int) (w : World) (R : Int → World → Prop) : Prop :=
 Calls Tryz.prog 153 #[.pointer p, .int .i64 atx] w fun en w1 => ∃ (r : Int), en = .returned (.int .i64 r) ∧ R r w1
theorem C_pool_Pool_Segment.mono {p : Option Addr} {atx : Int} {w : World} {R R' : Int → World → Prop} (h : C_pool_Pool_Segment p atx w R) (hr : ∀ r w1, R r w1 → R' r w1) : C_pool_Pool_Segment p atx w R' :=
 Calls.mono h fun _ _ ⟨r, he, h⟩ => ⟨r, he, hr r _ h⟩
def C_pool_segment_meets (sx : Option Addr) (atx : Int) (n : Int) (w : World) (R : Bool → World → Prop) : Prop :=
 Calls Tryz.prog 154 #[.pointer sx, .int .i64 atx, .int .i64 n] w fun en w1 => ∃ (r : Bool), en = .returned (.bool r) ∧ R r w1
theorem C_pool_segment_meets.mono {sx : Option Addr} {atx : Int} {n : Int} {w : World} {R R' : Bool → World → Prop} (h : C_pool_segment_meets sx atx n w R) (hr : ∀ r w1, R r w1 → R' r w1) : C_pool_segment_meets sx atx n w R' :=
 Calls.mono h fun _ _ ⟨r, he, h⟩ => ⟨r, he, hr r _ h⟩
def C_sync_Once_Do (o : Option Addr) (fx : Value) (w : World) (R : World → Prop) : Prop :=
 Calls Tryz.prog 156 #[.pointer o, fx] w fun en w1 => en = .returned (.tuple #[]) ∧ R w1
theorem C_sync_Once_Do.mono {o : Option Addr} {fx : Value} {w : World} {R R' : World → Prop} (h : C_sync_Once_Do o fx w R) (hr : ∀ w1, R w1 → R' w1) : C_sync_Once_Do o fx w R' :=
 Calls.mono h fun _ _ ⟨he, h⟩ => ⟨he, hr _ h⟩
def C_atom_Table_begin (t : Option Addr) (w : World) (R : World → Prop) : Prop :=
 Calls Tryz.prog 157 #[.pointer t] w fun en w1 => en = .returned (.tuple #[]) ∧ R w1
theorem C_atom_Table_begin.mono {t : Option Addr} {w : World} {R R' : World → Prop} (h : C_atom_Table_begin t w R) (hr : ∀ w1, R w1 → R' w1) : C_atom_Table_begin t w R' :=
 Calls.mono h fun _ _ ⟨he, h⟩ => ⟨he, hr _ h⟩
def C_room_Room_has (m : Option Addr) (i : Int) (w : World) (R : Int → World → Prop) : Prop :=
 Calls Tryz.prog 159 #[.pointer m, .int .i64 i] w fun en w1 => ∃ (r : Int), en = .returned (.int .i64 r) ∧ R r w1
theorem C_room_Room_has.mono {m : Option Addr} {i : Int} {w : World} {R R' : Int → World → Prop} (h : C_room_Room_has m i w R) (hr : ∀ r w1, R r w1 → R' r w1) : C_room_Room_has m i w R' :=
 Calls.mono h fun _ _ ⟨r, he, h⟩ => ⟨r, he, hr r _ h⟩
def C_slices_IndexFunc__2 (sP : Option Addr) (sN : Nat) (sC : Nat) (fx : Value) (w : World) (R : Int → World → Prop) : Prop :=
 Calls Tryz.prog 160 #[.slice sP sN sC, fx] w fun en w1 => ∃ (r : Int), en = .returned (.int .i64 r) ∧ R r w1
theorem C_slices_IndexFunc__2.mono {sP : Option Addr} {sN : Nat} {sC : Nat} {fx : Value} {w : World} {R R' : Int → World → Prop} (h : C_slices_IndexFunc__2 sP sN sC fx w R) (hr : ∀ r w1, R r w1 → R' r w1) : C_slices_IndexFunc__2 sP sN sC fx w R' :=
 Calls.mono h fun _ _ ⟨r, he, h⟩ => ⟨r, he, hr r _ h⟩
def C_cmp_isNaN (x : Int) (w : World) (R : Bool → World → Prop) : Prop :=
 Calls Tryz.prog 161 #[.int .i64 x] w fun en w1 => ∃ (r : Bool), en = .returned (.bool r) ∧ R r w1
theorem C_cmp_isNaN.mono {x : Int} {w : World} {R R' : Bool → World → Prop} (h : C_cmp_isNaN x w R) (hr : ∀ r w1, R r w1 → R' r w1) : C_cmp_isNaN x w R' :=
 Calls.mono h fun _ _ ⟨r, he, h⟩ => ⟨r, he, hr r _ h⟩
def C_term_part (t0 : Int) (t1 : Int) (t2 : ByteArray) (t3P : Option Addr) (t3N : Nat) (t3C : Nat) (w : World) (R : Bool → World → Prop) : Prop :=
 Calls Tryz.prog 162 #[.agg #[.int .i64 t0, .int .i64 t1, .string t2, .slice t3P t3N t3C]] w fun en w1 => ∃ (r : Bool), en = .returned (.bool r) ∧ R r w1
theorem C_term_part.mono {t0 : Int} {t1 : Int} {t2 : ByteArray} {t3P : Option Addr} {t3N : Nat} {t3C : Nat} {w : World} {R R' : Bool → World → Prop} (h : C_term_part t0 t1 t2 t3P t3N t3C w R) (hr : ∀ r w1, R r w1 → R' r w1) : C_term_part t0 t1 t2 t3P t3N t3C w R' :=
 Calls.mono h fun _ _ ⟨r, he, h⟩ => ⟨r, he, hr r _ h⟩
def C_slices_BinarySearchFunc (xP : Option Addr) (xN : Nat) (xC : Nat) (target : Int) (cmp : Value) (w : World) (R : Int → Bool → World → Prop) : Prop :=
 Calls Tryz.prog 163 #[.slice xP xN xC, .int .i64 target, cmp] w fun en w1 => ∃ (r0 : Int) (r1 : Bool), en = .returned (.tuple #[.int .i64 r0, .bool r1]) ∧ R r0 r1 w1
theorem C_slices_BinarySearchFunc.mono {xP : Option Addr} {xN : Nat} {xC : Nat} {target : Int} {cmp : Value} {w : World} {R R' : Int → Bool → World → Prop} (h : C_slices_BinarySearchFunc xP xN xC target cmp w R) (hr : ∀ r0 r1 w1, R r0 r1 w1 → R' r0 r1 w1) : C_slices_BinarySearchFunc xP xN xC target cmp w R' :=
 Calls.mono h fun _ _ ⟨r0, r1, he, h⟩ => ⟨r0, r1, he, hr r0 r1 _ h⟩
def C_pool_Pool_Segment_1 (s0x : Int) (s1P : Option Addr) (s1N : Nat) (s1C : Nat) (atx : Int) (w : World) (R : Int → World → Prop) : Prop :=
 Calls Tryz.prog 164 #[.agg #[.int .i64 s0x, .slice s1P s1N s1C], .int .i64 atx] w fun en w1 => ∃ (r : Int), en = .returned (.int .i64 r) ∧ R r w1
theorem C_pool_Pool_Segment_1.mono {s0x : Int} {s1P : Option Addr} {s1N : Nat} {s1C : Nat} {atx : Int} {w : World} {R R' : Int → World → Prop} (h : C_pool_Pool_Segment_1 s0x s1P s1N s1C atx w R) (hr : ∀ r w1, R r w1 → R' r w1) : C_pool_Pool_Segment_1 s0x s1P s1N s1C atx w R' :=
 Calls.mono h fun _ _ ⟨r, he, h⟩ => ⟨r, he, hr r _ h⟩
def C_cmp_Compare (x : Int) (y : Int) (w : World) (R : Int → World → Prop) : Prop :=
 Calls Tryz.prog 165 #[.int .i64 x, .int .i64 y] w fun en w1 => ∃ (r : Int), en = .returned (.int .i64 r) ∧ R r w1
theorem C_cmp_Compare.mono {x : Int} {y : Int} {w : World} {R R' : Int → World → Prop} (h : C_cmp_Compare x y w R) (hr : ∀ r w1, R r w1 → R' r w1) : C_cmp_Compare x y w R' :=
 Calls.mono h fun _ _ ⟨r, he, h⟩ => ⟨r, he, hr r _ h⟩
def C_pool_segment_place (sx : Option Addr) (atx : Int) (w : World) (R : Int → World → Prop) : Prop :=
 Calls Tryz.prog 166 #[.pointer sx, .int .i64 atx] w fun en w1 => ∃ (r : Int), en = .returned (.int .i64 r) ∧ R r w1
theorem C_pool_segment_place.mono {sx : Option Addr} {atx : Int} {w : World} {R R' : Int → World → Prop} (h : C_pool_segment_place sx atx w R) (hr : ∀ r w1, R r w1 → R' r w1) : C_pool_segment_place sx atx w R' :=
 Calls.mono h fun _ _ ⟨r, he, h⟩ => ⟨r, he, hr r _ h⟩
def C_sync_atomic_Bool_Load (x : Option Addr) (w : World) (R : Bool → World → Prop) : Prop :=
 Calls Tryz.prog 167 #[.pointer x] w fun en w1 => ∃ (r : Bool), en = .returned (.bool r) ∧ R r w1
theorem C_sync_atomic_Bool_Load.mono {x : Option Addr} {w : World} {R R' : Bool → World → Prop} (h : C_sync_atomic_Bool_Load x w R) (hr : ∀ r w1, R r w1 → R' r w1) : C_sync_atomic_Bool_Load x w R' :=
 Calls.mono h fun _ _ ⟨r, he, h⟩ => ⟨r, he, hr r _ h⟩
def C_sync_Once_doSlow (o : Option Addr) (fx : Value) (w : World) (R : World → Prop) : Prop :=
 Calls Tryz.prog 168 #[.pointer o, fx] w fun en w1 => en = .returned (.tuple #[]) ∧ R w1
theorem C_sync_Once_doSlow.mono {o : Option Addr} {fx : Value} {w : World} {R R' : World → Prop} (h : C_sync_Once_doSlow o fx w R) (hr : ∀ w1, R w1 → R' w1) : C_sync_Once_doSlow o fx w R' :=
 Calls.mono h fun _ _ ⟨he, h⟩ => ⟨he, hr _ h⟩
def C_term_bare (t0 : Int) (t1 : Int) (t2 : ByteArray) (t3P : Option Addr) (t3N : Nat) (t3C : Nat) (w : World) (R : Bool → World → Prop) : Prop :=
 Calls Tryz.prog 169 #[.agg #[.int .i64 t0, .int .i64 t1, .string t2, .slice t3P t3N t3C]] w fun en w1 => ∃ (r : Bool), en = .returned (.bool r) ∧ R r w1
theorem C_term_bare.mono {t0 : Int} {t1 : Int} {t2 : ByteArray} {t3P : Option Addr} {t3N : Nat} {t3C : Nat} {w : World} {R R' : Bool → World → Prop} (h : C_term_bare t0 t1 t2 t3P t3N t3C w R) (hr : ∀ r w1, R r w1 → R' r w1) : C_term_bare t0 t1 t2 t3P t3N t3C w R' :=
 Calls.mono h fun _ _ ⟨r, he, h⟩ => ⟨r, he, hr r _ h⟩
def C_slices_BinarySearchFunc__2 (xP : Option Addr) (xN : Nat) (xC : Nat) (target : Int) (cmp : Value) (w : World) (R : Int → Bool → World → Prop) : Prop :=
 Calls Tryz.prog 170 #[.slice xP xN xC, .int .i64 target, cmp] w fun en w1 => ∃ (r0 : Int) (r1 : Bool), en = .returned (.tuple #[.int .i64 r0, .bool r1]) ∧ R r0 r1 w1
theorem C_slices_BinarySearchFunc__2.mono {xP : Option Addr} {xN : Nat} {xC : Nat} {target : Int} {cmp : Value} {w : World} {R R' : Int → Bool → World → Prop} (h : C_slices_BinarySearchFunc__2 xP xN xC target cmp w R) (hr : ∀ r0 r1 w1, R r0 r1 w1 → R' r0 r1 w1) : C_slices_BinarySearchFunc__2 xP xN xC target cmp w R' :=
 Calls.mono h fun _ _ ⟨r0, r1, he, h⟩ => ⟨r0, r1, he, hr r0 r1 _ h⟩
def C_pool_segment_place_1 (r0 : Int) (r1 : Int) (atx : Int) (w : World) (R : Int → World → Prop) : Prop :=
 Calls Tryz.prog 171 #[.agg #[.int .i64 r0, .int .i64 r1], .int .i64 atx] w fun en w1 => ∃ (r : Int), en = .returned (.int .i64 r) ∧ R r w1
theorem C_pool_segment_place_1.mono {r0 : Int} {r1 : Int} {atx : Int} {w : World} {R R' : Int → World → Prop} (h : C_pool_segment_place_1 r0 r1 atx w R) (hr : ∀ r w1, R r w1 → R' r w1) : C_pool_segment_place_1 r0 r1 atx w R' :=
 Calls.mono h fun _ _ ⟨r, he, h⟩ => ⟨r, he, hr r _ h⟩
theorem ofS1 {f : FuncId} {fn : Func} {c : Code} (hf : Tryz.prog.funcs[f]? = some fn) (hb : fn.body = some c) {G : Gen} (hL : LoopOk Tryz.prog fn.ntmps G c) {args : List Value} (hn : Nat.ble args.length fn.ntmps = true) {w : World} {Fm : (World → Prop) → Prop}
  (hF : ∀ R : Value → World → Prop, Fm (fun w1 => R (.tuple #[]) w1) = den Tryz.prog fn.ntmps G c [] (postD Tryz.prog fn.results.toList R) (entry args 0) w) {R : World → Prop} (h : Fm R) : Calls Tryz.prog f args.toArray w fun e w1 => e = .returned (.tuple #[]) ∧ R w1 := by
 refine (calls_of_den seat_ok seat_mixed hf hb hL (args := args) hn (R := fun v w1 => v = (.tuple #[] : Value) ∧ R w1) ?_).mono ?_
 ·rw [← hF]
  simpa using h
 ·rintro en w1 ⟨v, he, rfl, h⟩
  exact ⟨he, h⟩
theorem ofS2 {f : FuncId} {fn : Func} {c : Code} (hf : Tryz.prog.funcs[f]? = some fn) (hb : fn.body = some c) {G : Gen} (hL : LoopOk Tryz.prog fn.ntmps G c) {args : List Value} (hn : Nat.ble args.length fn.ntmps = true) {w : World} {Fm : (Bool → World → Prop) → Prop}
  (hF : ∀ R : Value → World → Prop, Fm (fun q0 w1 => R (.bool q0) w1) = den Tryz.prog fn.ntmps G c [] (postD Tryz.prog fn.results.toList R) (entry args 0) w) {R : Bool → World → Prop} (h : Fm R) : Calls Tryz.prog f args.toArray w fun e w1 => ∃ (q0 : Bool), e = .returned (.bool q0) ∧ R q0 w1 := by
 refine (calls_of_den seat_ok seat_mixed hf hb hL (args := args) hn (R := fun v w1 => ∃ (q0 : Bool), v = (.bool q0 : Value) ∧ R q0 w1) ?_).mono ?_
 ·rw [← hF]
  have e : (fun q0 w1 => ∃ (q0' : Bool), (.bool q0 : Value) = (.bool q0' : Value) ∧ R q0' w1) = R := by
   funext q0 w1
   exact propext ⟨fun ⟨q0', he, h⟩ => by first | (simp at he; simp_all) | (cases he; exact h), fun h => ⟨_, rfl, h⟩⟩
  simpa only [e] using h
 ·rintro en w1 ⟨v, he, q0, rfl, h⟩
  exact ⟨_, he, h⟩
theorem ofS3 {f : FuncId} {fn : Func} {c : Code} (hf : Tryz.prog.funcs[f]? = some fn) (hb : fn.body = some c) {G : Gen} (hL : LoopOk Tryz.prog fn.ntmps G c) {args : List Value} (hn : Nat.ble args.length fn.ntmps = true) {w : World} {Fm : (Option Addr → Int → World → Prop) → Prop}
  (hF : ∀ R : Value → World → Prop, Fm (fun q0 q1 w1 => R (.tuple #[.pointer q0, .int .i64 q1]) w1) = den Tryz.prog fn.ntmps G c [] (postD Tryz.prog fn.results.toList R) (entry args 0) w) {R : Option Addr → Int → World → Prop} (h : Fm R) : Calls Tryz.prog f args.toArray w fun e w1 => ∃ (q0 : Option Addr) (q1 : Int), e = .returned (.tuple #[.pointer q0, .int .i64 q1]) ∧ R q0 q1 w1 := by
 refine (calls_of_den seat_ok seat_mixed hf hb hL (args := args) hn (R := fun v w1 => ∃ (q0 : Option Addr) (q1 : Int), v = (.tuple #[.pointer q0, .int .i64 q1] : Value) ∧ R q0 q1 w1) ?_).mono ?_
 ·rw [← hF]
  have e : (fun q0 q1 w1 => ∃ (q0' : Option Addr) (q1' : Int), (.tuple #[.pointer q0, .int .i64 q1] : Value) = (.tuple #[.pointer q0', .int .i64 q1'] : Value) ∧ R q0' q1' w1) = R := by
   funext q0 q1 w1
   exact propext ⟨fun ⟨q0', q1', he, h⟩ => by first | (simp at he; simp_all) | (cases he; exact h), fun h => ⟨_, _, rfl, h⟩⟩
  simpa only [e] using h
 ·rintro en w1 ⟨v, he, q0, q1, rfl, h⟩
  exact ⟨_, _, he, h⟩
theorem ofS4 {f : FuncId} {fn : Func} {c : Code} (hf : Tryz.prog.funcs[f]? = some fn) (hb : fn.body = some c) {G : Gen} (hL : LoopOk Tryz.prog fn.ntmps G c) {args : List Value} (hn : Nat.ble args.length fn.ntmps = true) {w : World} {Fm : (Int → World → Prop) → Prop}
  (hF : ∀ R : Value → World → Prop, Fm (fun q0 w1 => R (.int .i64 q0) w1) = den Tryz.prog fn.ntmps G c [] (postD Tryz.prog fn.results.toList R) (entry args 0) w) {R : Int → World → Prop} (h : Fm R) : Calls Tryz.prog f args.toArray w fun e w1 => ∃ (q0 : Int), e = .returned (.int .i64 q0) ∧ R q0 w1 := by
 refine (calls_of_den seat_ok seat_mixed hf hb hL (args := args) hn (R := fun v w1 => ∃ (q0 : Int), v = (.int .i64 q0 : Value) ∧ R q0 w1) ?_).mono ?_
 ·rw [← hF]
  have e : (fun q0 w1 => ∃ (q0' : Int), (.int .i64 q0 : Value) = (.int .i64 q0' : Value) ∧ R q0' w1) = R := by
   funext q0 w1
   exact propext ⟨fun ⟨q0', he, h⟩ => by first | (simp at he; simp_all) | (cases he; exact h), fun h => ⟨_, rfl, h⟩⟩
  simpa only [e] using h
 ·rintro en w1 ⟨v, he, q0, rfl, h⟩
  exact ⟨_, he, h⟩
theorem ofS5 {f : FuncId} {fn : Func} {c : Code} (hf : Tryz.prog.funcs[f]? = some fn) (hb : fn.body = some c) {G : Gen} (hL : LoopOk Tryz.prog fn.ntmps G c) {args : List Value} (hn : Nat.ble args.length fn.ntmps = true) {w : World} {Fm : (Int → Int → World → Prop) → Prop}
  (hF : ∀ R : Value → World → Prop, Fm (fun q0 q1 w1 => R (.tuple #[.int .u64 q0, .int .i64 q1]) w1) = den Tryz.prog fn.ntmps G c [] (postD Tryz.prog fn.results.toList R) (entry args 0) w) {R : Int → Int → World → Prop} (h : Fm R) : Calls Tryz.prog f args.toArray w fun e w1 => ∃ (q0 : Int) (q1 : Int), e = .returned (.tuple #[.int .u64 q0, .int .i64 q1]) ∧ R q0 q1 w1 := by
 refine (calls_of_den seat_ok seat_mixed hf hb hL (args := args) hn (R := fun v w1 => ∃ (q0 : Int) (q1 : Int), v = (.tuple #[.int .u64 q0, .int .i64 q1] : Value) ∧ R q0 q1 w1) ?_).mono ?_
 ·rw [← hF]
  have e : (fun q0 q1 w1 => ∃ (q0' : Int) (q1' : Int), (.tuple #[.int .u64 q0, .int .i64 q1] : Value) = (.tuple #[.int .u64 q0', .int .i64 q1'] : Value) ∧ R q0' q1' w1) = R := by
   funext q0 q1 w1
   exact propext ⟨fun ⟨q0', q1', he, h⟩ => by first | (simp at he; simp_all) | (cases he; exact h), fun h => ⟨_, _, rfl, h⟩⟩
  simpa only [e] using h
 ·rintro en w1 ⟨v, he, q0, q1, rfl, h⟩
  exact ⟨_, _, he, h⟩
theorem ofS6 {f : FuncId} {fn : Func} {c : Code} (hf : Tryz.prog.funcs[f]? = some fn) (hb : fn.body = some c) {G : Gen} (hL : LoopOk Tryz.prog fn.ntmps G c) {args : List Value} (hn : Nat.ble args.length fn.ntmps = true) {w : World} {Fm : (Option Addr → Nat → Nat → World → Prop) → Prop}
  (hF : ∀ R : Value → World → Prop, Fm (fun q0 q1 q2 w1 => R (.slice q0 q1 q2) w1) = den Tryz.prog fn.ntmps G c [] (postD Tryz.prog fn.results.toList R) (entry args 0) w) {R : Option Addr → Nat → Nat → World → Prop} (h : Fm R) : Calls Tryz.prog f args.toArray w fun e w1 => ∃ (q0 : Option Addr) (q1 : Nat) (q2 : Nat), e = .returned (.slice q0 q1 q2) ∧ R q0 q1 q2 w1 := by
 refine (calls_of_den seat_ok seat_mixed hf hb hL (args := args) hn (R := fun v w1 => ∃ (q0 : Option Addr) (q1 : Nat) (q2 : Nat), v = (.slice q0 q1 q2 : Value) ∧ R q0 q1 q2 w1) ?_).mono ?_
 ·rw [← hF]
  have e : (fun q0 q1 q2 w1 => ∃ (q0' : Option Addr) (q1' : Nat) (q2' : Nat), (.slice q0 q1 q2 : Value) = (.slice q0' q1' q2' : Value) ∧ R q0' q1' q2' w1) = R := by
   funext q0 q1 q2 w1
   exact propext ⟨fun ⟨q0', q1', q2', he, h⟩ => by first | (simp at he; simp_all) | (cases he; exact h), fun h => ⟨_, _, _, rfl, h⟩⟩
  simpa only [e] using h
 ·rintro en w1 ⟨v, he, q0, q1, q2, rfl, h⟩
  exact ⟨_, _, _, he, h⟩
theorem ofS7 {f : FuncId} {fn : Func} {c : Code} (hf : Tryz.prog.funcs[f]? = some fn) (hb : fn.body = some c) {G : Gen} (hL : LoopOk Tryz.prog fn.ntmps G c) {args : List Value} (hn : Nat.ble args.length fn.ntmps = true) {w : World} {Fm : (Option Addr → Nat → Nat → Option Addr → Nat → Nat → Int → World → Prop) → Prop}
  (hF : ∀ R : Value → World → Prop, Fm (fun q0 q1 q2 q3 q4 q5 q6 w1 => R (.tuple #[.slice q0 q1 q2, .slice q3 q4 q5, .int .i64 q6]) w1) = den Tryz.prog fn.ntmps G c [] (postD Tryz.prog fn.results.toList R) (entry args 0) w) {R : Option Addr → Nat → Nat → Option Addr → Nat → Nat → Int → World → Prop} (h : Fm R) : Calls Tryz.prog f args.toArray w fun e w1 => ∃ (q0 : Option Addr) (q1 : Nat) (q2 : Nat) (q3 : Option Addr) (q4 : Nat) (q5 : Nat) (q6 : Int), e = .returned (.tuple #[.slice q0 q1 q2, .slice q3 q4 q5, .int .i64 q6]) ∧ R q0 q1 q2 q3 q4 q5 q6 w1 := by
 refine (calls_of_den seat_ok seat_mixed hf hb hL (args := args) hn (R := fun v w1 => ∃ (q0 : Option Addr) (q1 : Nat) (q2 : Nat) (q3 : Option Addr) (q4 : Nat) (q5 : Nat) (q6 : Int), v = (.tuple #[.slice q0 q1 q2, .slice q3 q4 q5, .int .i64 q6] : Value) ∧ R q0 q1 q2 q3 q4 q5 q6 w1) ?_).mono ?_
 ·rw [← hF]
  have e : (fun q0 q1 q2 q3 q4 q5 q6 w1 => ∃ (q0' : Option Addr) (q1' : Nat) (q2' : Nat) (q3' : Option Addr) (q4' : Nat) (q5' : Nat) (q6' : Int), (.tuple #[.slice q0 q1 q2, .slice q3 q4 q5, .int .i64 q6] : Value) = (.tuple #[.slice q0' q1' q2', .slice q3' q4' q5', .int .i64 q6'] : Value) ∧ R q0' q1' q2' q3' q4' q5' q6' w1) = R := by
   funext q0 q1 q2 q3 q4 q5 q6 w1
   exact propext ⟨fun ⟨q0', q1', q2', q3', q4', q5', q6', he, h⟩ => by first | (simp at he; simp_all) | (cases he; exact h), fun h => ⟨_, _, _, _, _, _, _, rfl, h⟩⟩
  simpa only [e] using h
 ·rintro en w1 ⟨v, he, q0, q1, q2, q3, q4, q5, q6, rfl, h⟩
  exact ⟨_, _, _, _, _, _, _, he, h⟩
theorem ofS9 {f : FuncId} {fn : Func} {c : Code} (hf : Tryz.prog.funcs[f]? = some fn) (hb : fn.body = some c) {G : Gen} (hL : LoopOk Tryz.prog fn.ntmps G c) {args : List Value} (hn : Nat.ble args.length fn.ntmps = true) {w : World} {Fm : (Int → World → Prop) → Prop}
  (hF : ∀ R : Value → World → Prop, Fm (fun q0 w1 => R (.int .u64 q0) w1) = den Tryz.prog fn.ntmps G c [] (postD Tryz.prog fn.results.toList R) (entry args 0) w) {R : Int → World → Prop} (h : Fm R) : Calls Tryz.prog f args.toArray w fun e w1 => ∃ (q0 : Int), e = .returned (.int .u64 q0) ∧ R q0 w1 := by
 refine (calls_of_den seat_ok seat_mixed hf hb hL (args := args) hn (R := fun v w1 => ∃ (q0 : Int), v = (.int .u64 q0 : Value) ∧ R q0 w1) ?_).mono ?_
 ·rw [← hF]
  have e : (fun q0 w1 => ∃ (q0' : Int), (.int .u64 q0 : Value) = (.int .u64 q0' : Value) ∧ R q0' w1) = R := by
   funext q0 w1
   exact propext ⟨fun ⟨q0', he, h⟩ => by first | (simp at he; simp_all) | (cases he; exact h), fun h => ⟨_, rfl, h⟩⟩
  simpa only [e] using h
 ·rintro en w1 ⟨v, he, q0, rfl, h⟩
  exact ⟨_, he, h⟩
theorem ofS10 {f : FuncId} {fn : Func} {c : Code} (hf : Tryz.prog.funcs[f]? = some fn) (hb : fn.body = some c) {G : Gen} (hL : LoopOk Tryz.prog fn.ntmps G c) {args : List Value} (hn : Nat.ble args.length fn.ntmps = true) {w : World} {Fm : (Int → Int → ByteArray → Option Addr → Nat → Nat → World → Prop) → Prop}
  (hF : ∀ R : Value → World → Prop, Fm (fun q0 q1 q2 q3 q4 q5 w1 => R (.agg #[.int .i64 q0, .int .i64 q1, .string q2, .slice q3 q4 q5]) w1) = den Tryz.prog fn.ntmps G c [] (postD Tryz.prog fn.results.toList R) (entry args 0) w) {R : Int → Int → ByteArray → Option Addr → Nat → Nat → World → Prop} (h : Fm R) : Calls Tryz.prog f args.toArray w fun e w1 => ∃ (q0 : Int) (q1 : Int) (q2 : ByteArray) (q3 : Option Addr) (q4 : Nat) (q5 : Nat), e = .returned (.agg #[.int .i64 q0, .int .i64 q1, .string q2, .slice q3 q4 q5]) ∧ R q0 q1 q2 q3 q4 q5 w1 := by
 refine (calls_of_den seat_ok seat_mixed hf hb hL (args := args) hn (R := fun v w1 => ∃ (q0 : Int) (q1 : Int) (q2 : ByteArray) (q3 : Option Addr) (q4 : Nat) (q5 : Nat), v = (.agg #[.int .i64 q0, .int .i64 q1, .string q2, .slice q3 q4 q5] : Value) ∧ R q0 q1 q2 q3 q4 q5 w1) ?_).mono ?_
 ·rw [← hF]
  have e : (fun q0 q1 q2 q3 q4 q5 w1 => ∃ (q0' : Int) (q1' : Int) (q2' : ByteArray) (q3' : Option Addr) (q4' : Nat) (q5' : Nat), (.agg #[.int .i64 q0, .int .i64 q1, .string q2, .slice q3 q4 q5] : Value) = (.agg #[.int .i64 q0', .int .i64 q1', .string q2', .slice q3' q4' q5'] : Value) ∧ R q0' q1' q2' q3' q4' q5' w1) = R := by
   funext q0 q1 q2 q3 q4 q5 w1
   exact propext ⟨fun ⟨q0', q1', q2', q3', q4', q5', he, h⟩ => by first | (simp at he; simp_all) | (cases he; exact h), fun h => ⟨_, _, _, _, _, _, rfl, h⟩⟩
  simpa only [e] using h
 ·rintro en w1 ⟨v, he, q0, q1, q2, q3, q4, q5, rfl, h⟩
  exact ⟨_, _, _, _, _, _, he, h⟩
theorem ofS11 {f : FuncId} {fn : Func} {c : Code} (hf : Tryz.prog.funcs[f]? = some fn) (hb : fn.body = some c) {G : Gen} (hL : LoopOk Tryz.prog fn.ntmps G c) {args : List Value} (hn : Nat.ble args.length fn.ntmps = true) {w : World} {Fm : (Bool → Int → World → Prop) → Prop}
  (hF : ∀ R : Value → World → Prop, Fm (fun q0 q1 w1 => R (.tuple #[.bool q0, .int .i64 q1]) w1) = den Tryz.prog fn.ntmps G c [] (postD Tryz.prog fn.results.toList R) (entry args 0) w) {R : Bool → Int → World → Prop} (h : Fm R) : Calls Tryz.prog f args.toArray w fun e w1 => ∃ (q0 : Bool) (q1 : Int), e = .returned (.tuple #[.bool q0, .int .i64 q1]) ∧ R q0 q1 w1 := by
 refine (calls_of_den seat_ok seat_mixed hf hb hL (args := args) hn (R := fun v w1 => ∃ (q0 : Bool) (q1 : Int), v = (.tuple #[.bool q0, .int .i64 q1] : Value) ∧ R q0 q1 w1) ?_).mono ?_
 ·rw [← hF]
  have e : (fun q0 q1 w1 => ∃ (q0' : Bool) (q1' : Int), (.tuple #[.bool q0, .int .i64 q1] : Value) = (.tuple #[.bool q0', .int .i64 q1'] : Value) ∧ R q0' q1' w1) = R := by
   funext q0 q1 w1
   exact propext ⟨fun ⟨q0', q1', he, h⟩ => by first | (simp at he; simp_all) | (cases he; exact h), fun h => ⟨_, _, rfl, h⟩⟩
  simpa only [e] using h
 ·rintro en w1 ⟨v, he, q0, q1, rfl, h⟩
  exact ⟨_, _, he, h⟩
theorem ofS12 {f : FuncId} {fn : Func} {c : Code} (hf : Tryz.prog.funcs[f]? = some fn) (hb : fn.body = some c) {G : Gen} (hL : LoopOk Tryz.prog fn.ntmps G c) {args : List Value} (hn : Nat.ble args.length fn.ntmps = true) {w : World} {Fm : (Int → Int → World → Prop) → Prop}
  (hF : ∀ R : Value → World → Prop, Fm (fun q0 q1 w1 => R (.tuple #[.int .i64 q0, .int .i64 q1]) w1) = den Tryz.prog fn.ntmps G c [] (postD Tryz.prog fn.results.toList R) (entry args 0) w) {R : Int → Int → World → Prop} (h : Fm R) : Calls Tryz.prog f args.toArray w fun e w1 => ∃ (q0 : Int) (q1 : Int), e = .returned (.tuple #[.int .i64 q0, .int .i64 q1]) ∧ R q0 q1 w1 := by
 refine (calls_of_den seat_ok seat_mixed hf hb hL (args := args) hn (R := fun v w1 => ∃ (q0 : Int) (q1 : Int), v = (.tuple #[.int .i64 q0, .int .i64 q1] : Value) ∧ R q0 q1 w1) ?_).mono ?_
 ·rw [← hF]
  have e : (fun q0 q1 w1 => ∃ (q0' : Int) (q1' : Int), (.tuple #[.int .i64 q0, .int .i64 q1] : Value) = (.tuple #[.int .i64 q0', .int .i64 q1'] : Value) ∧ R q0' q1' w1) = R := by
   funext q0 q1 w1
   exact propext ⟨fun ⟨q0', q1', he, h⟩ => by first | (simp at he; simp_all) | (cases he; exact h), fun h => ⟨_, _, rfl, h⟩⟩
  simpa only [e] using h
 ·rintro en w1 ⟨v, he, q0, q1, rfl, h⟩
  exact ⟨_, _, he, h⟩
theorem ofS13 {f : FuncId} {fn : Func} {c : Code} (hf : Tryz.prog.funcs[f]? = some fn) (hb : fn.body = some c) {G : Gen} (hL : LoopOk Tryz.prog fn.ntmps G c) {args : List Value} (hn : Nat.ble args.length fn.ntmps = true) {w : World} {Fm : (Option Addr → World → Prop) → Prop}
  (hF : ∀ R : Value → World → Prop, Fm (fun q0 w1 => R (.pointer q0) w1) = den Tryz.prog fn.ntmps G c [] (postD Tryz.prog fn.results.toList R) (entry args 0) w) {R : Option Addr → World → Prop} (h : Fm R) : Calls Tryz.prog f args.toArray w fun e w1 => ∃ (q0 : Option Addr), e = .returned (.pointer q0) ∧ R q0 w1 := by
 refine (calls_of_den seat_ok seat_mixed hf hb hL (args := args) hn (R := fun v w1 => ∃ (q0 : Option Addr), v = (.pointer q0 : Value) ∧ R q0 w1) ?_).mono ?_
 ·rw [← hF]
  have e : (fun q0 w1 => ∃ (q0' : Option Addr), (.pointer q0 : Value) = (.pointer q0' : Value) ∧ R q0' w1) = R := by
   funext q0 w1
   exact propext ⟨fun ⟨q0', he, h⟩ => by first | (simp at he; simp_all) | (cases he; exact h), fun h => ⟨_, rfl, h⟩⟩
  simpa only [e] using h
 ·rintro en w1 ⟨v, he, q0, rfl, h⟩
  exact ⟨_, he, h⟩
theorem ofS15 {f : FuncId} {fn : Func} {c : Code} (hf : Tryz.prog.funcs[f]? = some fn) (hb : fn.body = some c) {G : Gen} (hL : LoopOk Tryz.prog fn.ntmps G c) {args : List Value} (hn : Nat.ble args.length fn.ntmps = true) {w : World} {Fm : (ByteArray → Int → World → Prop) → Prop}
  (hF : ∀ R : Value → World → Prop, Fm (fun q0 q1 w1 => R (.tuple #[.string q0, .int .i64 q1]) w1) = den Tryz.prog fn.ntmps G c [] (postD Tryz.prog fn.results.toList R) (entry args 0) w) {R : ByteArray → Int → World → Prop} (h : Fm R) : Calls Tryz.prog f args.toArray w fun e w1 => ∃ (q0 : ByteArray) (q1 : Int), e = .returned (.tuple #[.string q0, .int .i64 q1]) ∧ R q0 q1 w1 := by
 refine (calls_of_den seat_ok seat_mixed hf hb hL (args := args) hn (R := fun v w1 => ∃ (q0 : ByteArray) (q1 : Int), v = (.tuple #[.string q0, .int .i64 q1] : Value) ∧ R q0 q1 w1) ?_).mono ?_
 ·rw [← hF]
  have e : (fun q0 q1 w1 => ∃ (q0' : ByteArray) (q1' : Int), (.tuple #[.string q0, .int .i64 q1] : Value) = (.tuple #[.string q0', .int .i64 q1'] : Value) ∧ R q0' q1' w1) = R := by
   funext q0 q1 w1
   exact propext ⟨fun ⟨q0', q1', he, h⟩ => by first | (simp at he; simp_all) | (cases he; exact h), fun h => ⟨_, _, rfl, h⟩⟩
  simpa only [e] using h
 ·rintro en w1 ⟨v, he, q0, q1, rfl, h⟩
  exact ⟨_, _, he, h⟩
theorem ofS16 {f : FuncId} {fn : Func} {c : Code} (hf : Tryz.prog.funcs[f]? = some fn) (hb : fn.body = some c) {G : Gen} (hL : LoopOk Tryz.prog fn.ntmps G c) {args : List Value} (hn : Nat.ble args.length fn.ntmps = true) {w : World} {Fm : (Int → Bool → World → Prop) → Prop}
  (hF : ∀ R : Value → World → Prop, Fm (fun q0 q1 w1 => R (.tuple #[.int .u64 q0, .bool q1]) w1) = den Tryz.prog fn.ntmps G c [] (postD Tryz.prog fn.results.toList R) (entry args 0) w) {R : Int → Bool → World → Prop} (h : Fm R) : Calls Tryz.prog f args.toArray w fun e w1 => ∃ (q0 : Int) (q1 : Bool), e = .returned (.tuple #[.int .u64 q0, .bool q1]) ∧ R q0 q1 w1 := by
 refine (calls_of_den seat_ok seat_mixed hf hb hL (args := args) hn (R := fun v w1 => ∃ (q0 : Int) (q1 : Bool), v = (.tuple #[.int .u64 q0, .bool q1] : Value) ∧ R q0 q1 w1) ?_).mono ?_
 ·rw [← hF]
  have e : (fun q0 q1 w1 => ∃ (q0' : Int) (q1' : Bool), (.tuple #[.int .u64 q0, .bool q1] : Value) = (.tuple #[.int .u64 q0', .bool q1'] : Value) ∧ R q0' q1' w1) = R := by
   funext q0 q1 w1
   exact propext ⟨fun ⟨q0', q1', he, h⟩ => by first | (simp at he; simp_all) | (cases he; exact h), fun h => ⟨_, _, rfl, h⟩⟩
  simpa only [e] using h
 ·rintro en w1 ⟨v, he, q0, q1, rfl, h⟩
  exact ⟨_, _, he, h⟩
theorem ofS18 {f : FuncId} {fn : Func} {c : Code} (hf : Tryz.prog.funcs[f]? = some fn) (hb : fn.body = some c) {G : Gen} (hL : LoopOk Tryz.prog fn.ntmps G c) {args : List Value} (hn : Nat.ble args.length fn.ntmps = true) {w : World} {Fm : (Int → Bool → World → Prop) → Prop}
  (hF : ∀ R : Value → World → Prop, Fm (fun q0 q1 w1 => R (.tuple #[.int .i64 q0, .bool q1]) w1) = den Tryz.prog fn.ntmps G c [] (postD Tryz.prog fn.results.toList R) (entry args 0) w) {R : Int → Bool → World → Prop} (h : Fm R) : Calls Tryz.prog f args.toArray w fun e w1 => ∃ (q0 : Int) (q1 : Bool), e = .returned (.tuple #[.int .i64 q0, .bool q1]) ∧ R q0 q1 w1 := by
 refine (calls_of_den seat_ok seat_mixed hf hb hL (args := args) hn (R := fun v w1 => ∃ (q0 : Int) (q1 : Bool), v = (.tuple #[.int .i64 q0, .bool q1] : Value) ∧ R q0 q1 w1) ?_).mono ?_
 ·rw [← hF]
  have e : (fun q0 q1 w1 => ∃ (q0' : Int) (q1' : Bool), (.tuple #[.int .i64 q0, .bool q1] : Value) = (.tuple #[.int .i64 q0', .bool q1'] : Value) ∧ R q0' q1' w1) = R := by
   funext q0 q1 w1
   exact propext ⟨fun ⟨q0', q1', he, h⟩ => by first | (simp at he; simp_all) | (cases he; exact h), fun h => ⟨_, _, rfl, h⟩⟩
  simpa only [e] using h
 ·rintro en w1 ⟨v, he, q0, q1, rfl, h⟩
  exact ⟨_, _, he, h⟩
theorem ofS19 {f : FuncId} {fn : Func} {c : Code} (hf : Tryz.prog.funcs[f]? = some fn) (hb : fn.body = some c) {G : Gen} (hL : LoopOk Tryz.prog fn.ntmps G c) {args : List Value} (hn : Nat.ble args.length fn.ntmps = true) {w : World} {Fm : (Int → Int → Bool → World → Prop) → Prop}
  (hF : ∀ R : Value → World → Prop, Fm (fun q0 q1 q2 w1 => R (.agg #[.int .i64 q0, .int .i64 q1, .bool q2]) w1) = den Tryz.prog fn.ntmps G c [] (postD Tryz.prog fn.results.toList R) (entry args 0) w) {R : Int → Int → Bool → World → Prop} (h : Fm R) : Calls Tryz.prog f args.toArray w fun e w1 => ∃ (q0 : Int) (q1 : Int) (q2 : Bool), e = .returned (.agg #[.int .i64 q0, .int .i64 q1, .bool q2]) ∧ R q0 q1 q2 w1 := by
 refine (calls_of_den seat_ok seat_mixed hf hb hL (args := args) hn (R := fun v w1 => ∃ (q0 : Int) (q1 : Int) (q2 : Bool), v = (.agg #[.int .i64 q0, .int .i64 q1, .bool q2] : Value) ∧ R q0 q1 q2 w1) ?_).mono ?_
 ·rw [← hF]
  have e : (fun q0 q1 q2 w1 => ∃ (q0' : Int) (q1' : Int) (q2' : Bool), (.agg #[.int .i64 q0, .int .i64 q1, .bool q2] : Value) = (.agg #[.int .i64 q0', .int .i64 q1', .bool q2'] : Value) ∧ R q0' q1' q2' w1) = R := by
   funext q0 q1 q2 w1
   exact propext ⟨fun ⟨q0', q1', q2', he, h⟩ => by first | (simp at he; simp_all) | (cases he; exact h), fun h => ⟨_, _, _, rfl, h⟩⟩
  simpa only [e] using h
 ·rintro en w1 ⟨v, he, q0, q1, q2, rfl, h⟩
  exact ⟨_, _, _, he, h⟩
theorem ofS20 {f : FuncId} {fn : Func} {c : Code} (hf : Tryz.prog.funcs[f]? = some fn) (hb : fn.body = some c) {G : Gen} (hL : LoopOk Tryz.prog fn.ntmps G c) {args : List Value} (hn : Nat.ble args.length fn.ntmps = true) {w : World} {Fm : (ByteArray → Int → Int → World → Prop) → Prop}
  (hF : ∀ R : Value → World → Prop, Fm (fun q0 q1 q2 w1 => R (.tuple #[.string q0, .int .i64 q1, .int .i64 q2]) w1) = den Tryz.prog fn.ntmps G c [] (postD Tryz.prog fn.results.toList R) (entry args 0) w) {R : ByteArray → Int → Int → World → Prop} (h : Fm R) : Calls Tryz.prog f args.toArray w fun e w1 => ∃ (q0 : ByteArray) (q1 : Int) (q2 : Int), e = .returned (.tuple #[.string q0, .int .i64 q1, .int .i64 q2]) ∧ R q0 q1 q2 w1 := by
 refine (calls_of_den seat_ok seat_mixed hf hb hL (args := args) hn (R := fun v w1 => ∃ (q0 : ByteArray) (q1 : Int) (q2 : Int), v = (.tuple #[.string q0, .int .i64 q1, .int .i64 q2] : Value) ∧ R q0 q1 q2 w1) ?_).mono ?_
 ·rw [← hF]
  have e : (fun q0 q1 q2 w1 => ∃ (q0' : ByteArray) (q1' : Int) (q2' : Int), (.tuple #[.string q0, .int .i64 q1, .int .i64 q2] : Value) = (.tuple #[.string q0', .int .i64 q1', .int .i64 q2'] : Value) ∧ R q0' q1' q2' w1) = R := by
   funext q0 q1 q2 w1
   exact propext ⟨fun ⟨q0', q1', q2', he, h⟩ => by first | (simp at he; simp_all) | (cases he; exact h), fun h => ⟨_, _, _, rfl, h⟩⟩
  simpa only [e] using h
 ·rintro en w1 ⟨v, he, q0, q1, q2, rfl, h⟩
  exact ⟨_, _, _, he, h⟩
def G0 : Gen where
 loop := lookL []
 plan := fun _ => none
theorem L1 (G : Gen) (f : Func) (h : ∀ p, G.loop p = none) {P : Program} {n : Nat} : LoopOk P n G (codeOf f) := loopOk_none h
theorem L0 (f : Func) {P : Program} {n : Nat} : LoopOk P n G0 (codeOf f) := L1 G0 f fun _ => rfl
end Go.Proofs.YtdaenijbokialaaGreat