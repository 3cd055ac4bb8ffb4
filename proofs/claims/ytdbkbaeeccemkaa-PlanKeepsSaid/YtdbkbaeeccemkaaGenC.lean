/- The calls of this seat's functions, typed. Printed by a program. -/
import Derived.Test.YtdbkbaeeccemkaaDen6
import Derived.Test.YtdbkbaeeccemkaaProg
namespace Go.Proofs.Ytdbkbaeeccemkaa
open Go Go.D Go.Proofs

theorem seat_ok : AllCallable Try.prog := allCallable_of (by kernel_rfl)
theorem seat_mixed : Try.prog.follows .mixedOrders = true := by kernel_rfl

/-- gosem.cut.init -/
def C_gosem_cut_init  (w : World) (R : World → Prop) : Prop :=
  Calls Try.prog 2 #[] w fun en w1 => en = .returned (.tuple #[]) ∧ R w1
theorem C_gosem_cut_init.mono {w : World} {R R' : World → Prop} (h : C_gosem_cut_init  w R) (hr : ∀ w1, R w1 → R' w1) : C_gosem_cut_init  w R' :=
  Calls.mono h fun _ _ ⟨he, h⟩ => ⟨he, hr _ h⟩

/-- elenchus/elenchuslaw15.PlanLives -/
def C_law15_PlanLives (c0 : Int) (c1 : Int) (c2 : ByteArray) (c3P : Option Addr) (c3N : Nat) (c3C : Nat) (c4P : Option Addr) (c4N : Nat) (c4C : Nat) (c5 : Int) (w : World) (R : Bool → World → Prop) : Prop :=
  Calls Try.prog 3 #[.agg #[.int .i64 c0, .int .i64 c1, .string c2, .slice c3P c3N c3C, .slice c4P c4N c4C, .int .i64 c5]] w fun en w1 => ∃ (r : Bool), en = .returned (.bool r) ∧ R r w1
theorem C_law15_PlanLives.mono {c0 : Int} {c1 : Int} {c2 : ByteArray} {c3P : Option Addr} {c3N : Nat} {c3C : Nat} {c4P : Option Addr} {c4N : Nat} {c4C : Nat} {c5 : Int} {w : World} {R R' : Bool → World → Prop} (h : C_law15_PlanLives c0 c1 c2 c3P c3N c3C c4P c4N c4C c5 w R) (hr : ∀ r w1, R r w1 → R' r w1) : C_law15_PlanLives c0 c1 c2 c3P c3N c3C c4P c4N c4C c5 w R' :=
  Calls.mono h fun _ _ ⟨r, he, h⟩ => ⟨r, he, hr r _ h⟩

/-- elenchus/elenchuslaw15.PlanKeeps -/
def C_law15_PlanKeeps (c0 : Int) (c1 : Int) (c2 : ByteArray) (c3P : Option Addr) (c3N : Nat) (c3C : Nat) (c4P : Option Addr) (c4N : Nat) (c4C : Nat) (c5 : Int) (w : World) (R : Bool → World → Prop) : Prop :=
  Calls Try.prog 4 #[.agg #[.int .i64 c0, .int .i64 c1, .string c2, .slice c3P c3N c3C, .slice c4P c4N c4C, .int .i64 c5]] w fun en w1 => ∃ (r : Bool), en = .returned (.bool r) ∧ R r w1
theorem C_law15_PlanKeeps.mono {c0 : Int} {c1 : Int} {c2 : ByteArray} {c3P : Option Addr} {c3N : Nat} {c3C : Nat} {c4P : Option Addr} {c4N : Nat} {c4C : Nat} {c5 : Int} {w : World} {R R' : Bool → World → Prop} (h : C_law15_PlanKeeps c0 c1 c2 c3P c3N c3C c4P c4N c4C c5 w R) (hr : ∀ r w1, R r w1 → R' r w1) : C_law15_PlanKeeps c0 c1 c2 c3P c3N c3C c4P c4N c4C c5 w R' :=
  Calls.mono h fun _ _ ⟨r, he, h⟩ => ⟨r, he, hr r _ h⟩

/-- elenchus/elenchusref15.Large -/
def C_ref15_Large (c0 : Int) (c1 : Int) (c2 : ByteArray) (c3P : Option Addr) (c3N : Nat) (c3C : Nat) (c4P : Option Addr) (c4N : Nat) (c4C : Nat) (c5 : Int) (w : World) (R : Bool → World → Prop) : Prop :=
  Calls Try.prog 5 #[.agg #[.int .i64 c0, .int .i64 c1, .string c2, .slice c3P c3N c3C, .slice c4P c4N c4C, .int .i64 c5]] w fun en w1 => ∃ (r : Bool), en = .returned (.bool r) ∧ R r w1
theorem C_ref15_Large.mono {c0 : Int} {c1 : Int} {c2 : ByteArray} {c3P : Option Addr} {c3N : Nat} {c3C : Nat} {c4P : Option Addr} {c4N : Nat} {c4C : Nat} {c5 : Int} {w : World} {R R' : Bool → World → Prop} (h : C_ref15_Large c0 c1 c2 c3P c3N c3C c4P c4N c4C c5 w R) (hr : ∀ r w1, R r w1 → R' r w1) : C_ref15_Large c0 c1 c2 c3P c3N c3C c4P c4N c4C c5 w R' :=
  Calls.mono h fun _ _ ⟨r, he, h⟩ => ⟨r, he, hr r _ h⟩

/-- elenchus/elenchuslaw15.lives -/
def C_law15_lives  (w : World) (R : Bool → World → Prop) : Prop :=
  Calls Try.prog 6 #[] w fun en w1 => ∃ (r : Bool), en = .returned (.bool r) ∧ R r w1
theorem C_law15_lives.mono {w : World} {R R' : Bool → World → Prop} (h : C_law15_lives  w R) (hr : ∀ r w1, R r w1 → R' r w1) : C_law15_lives  w R' :=
  Calls.mono h fun _ _ ⟨r, he, h⟩ => ⟨r, he, hr r _ h⟩

/-- elenchus/plan.Of -/
def C_plan_Of (c0 : Int) (c1 : Int) (c2 : ByteArray) (c3P : Option Addr) (c3N : Nat) (c3C : Nat) (c4P : Option Addr) (c4N : Nat) (c4C : Nat) (c5 : Int) (w : World) (R : Bool → Option Addr → Nat → Nat → Int → Option Addr → Nat → Nat → Int → World → Prop) : Prop :=
  Calls Try.prog 7 #[.agg #[.int .i64 c0, .int .i64 c1, .string c2, .slice c3P c3N c3C, .slice c4P c4N c4C, .int .i64 c5]] w fun en w1 => ∃ (r00 : Bool) (r01P : Option Addr) (r01N : Nat) (r01C : Nat) (r02 : Int) (r03P : Option Addr) (r03N : Nat) (r03C : Nat) (r1 : Int), en = .returned (.tuple #[.agg #[.bool r00, .slice r01P r01N r01C, .int .i64 r02, .slice r03P r03N r03C], .int .i64 r1]) ∧ R r00 r01P r01N r01C r02 r03P r03N r03C r1 w1
theorem C_plan_Of.mono {c0 : Int} {c1 : Int} {c2 : ByteArray} {c3P : Option Addr} {c3N : Nat} {c3C : Nat} {c4P : Option Addr} {c4N : Nat} {c4C : Nat} {c5 : Int} {w : World} {R R' : Bool → Option Addr → Nat → Nat → Int → Option Addr → Nat → Nat → Int → World → Prop} (h : C_plan_Of c0 c1 c2 c3P c3N c3C c4P c4N c4C c5 w R) (hr : ∀ r00 r01P r01N r01C r02 r03P r03N r03C r1 w1, R r00 r01P r01N r01C r02 r03P r03N r03C r1 w1 → R' r00 r01P r01N r01C r02 r03P r03N r03C r1 w1) : C_plan_Of c0 c1 c2 c3P c3N c3C c4P c4N c4C c5 w R' :=
  Calls.mono h fun _ _ ⟨r00, r01P, r01N, r01C, r02, r03P, r03N, r03C, r1, he, h⟩ => ⟨r00, r01P, r01N, r01C, r02, r03P, r03N, r03C, r1, he, hr r00 r01P r01N r01C r02 r03P r03N r03C r1 _ h⟩

/-- elenchus/elenchusref06.Vars -/
def C_ref06_Vars (t0 : Int) (t1 : Int) (t2 : ByteArray) (t3P : Option Addr) (t3N : Nat) (t3C : Nat) (w : World) (R : Option Addr → Nat → Nat → World → Prop) : Prop :=
  Calls Try.prog 8 #[.agg #[.int .i64 t0, .int .i64 t1, .string t2, .slice t3P t3N t3C]] w fun en w1 => ∃ (rP : Option Addr) (rN : Nat) (rC : Nat), en = .returned (.slice rP rN rC) ∧ R rP rN rC w1
theorem C_ref06_Vars.mono {t0 : Int} {t1 : Int} {t2 : ByteArray} {t3P : Option Addr} {t3N : Nat} {t3C : Nat} {w : World} {R R' : Option Addr → Nat → Nat → World → Prop} (h : C_ref06_Vars t0 t1 t2 t3P t3N t3C w R) (hr : ∀ rP rN rC w1, R rP rN rC w1 → R' rP rN rC w1) : C_ref06_Vars t0 t1 t2 t3P t3N t3C w R' :=
  Calls.mono h fun _ _ ⟨rP, rN, rC, he, h⟩ => ⟨rP, rN, rC, he, hr rP rN rC _ h⟩

/-- elenchus/plan.Chunk -/
def C_plan_Chunk (c0 : Int) (c1 : Int) (c2 : ByteArray) (c3P : Option Addr) (c3N : Nat) (c3C : Nat) (c4P : Option Addr) (c4N : Nat) (c4C : Nat) (c5 : Int) (goal : Int) (w : World) (R : Int → World → Prop) : Prop :=
  Calls Try.prog 9 #[.agg #[.int .i64 c0, .int .i64 c1, .string c2, .slice c3P c3N c3C, .slice c4P c4N c4C, .int .i64 c5], .int .i64 goal] w fun en w1 => ∃ (r : Int), en = .returned (.int .i64 r) ∧ R r w1
theorem C_plan_Chunk.mono {c0 : Int} {c1 : Int} {c2 : ByteArray} {c3P : Option Addr} {c3N : Nat} {c3C : Nat} {c4P : Option Addr} {c4N : Nat} {c4C : Nat} {c5 : Int} {goal : Int} {w : World} {R R' : Int → World → Prop} (h : C_plan_Chunk c0 c1 c2 c3P c3N c3C c4P c4N c4C c5 goal w R) (hr : ∀ r w1, R r w1 → R' r w1) : C_plan_Chunk c0 c1 c2 c3P c3N c3C c4P c4N c4C c5 goal w R' :=
  Calls.mono h fun _ _ ⟨r, he, h⟩ => ⟨r, he, hr r _ h⟩

/-- elenchus/elenchuslaw15.has -/
def C_law15_has (lP : Option Addr) (lN : Nat) (lC : Nat) (n : Int) (w : World) (R : Bool → World → Prop) : Prop :=
  Calls Try.prog 10 #[.slice lP lN lC, .int .i64 n] w fun en w1 => ∃ (r : Bool), en = .returned (.bool r) ∧ R r w1
theorem C_law15_has.mono {lP : Option Addr} {lN : Nat} {lC : Nat} {n : Int} {w : World} {R R' : Bool → World → Prop} (h : C_law15_has lP lN lC n w R) (hr : ∀ r w1, R r w1 → R' r w1) : C_law15_has lP lN lC n w R' :=
  Calls.mono h fun _ _ ⟨r, he, h⟩ => ⟨r, he, hr r _ h⟩

/-- elenchus/elenchuslaw15.ahead -/
def C_law15_ahead (c0 : Int) (c1 : Int) (c2 : ByteArray) (c3P : Option Addr) (c3N : Nat) (c3C : Nat) (c4P : Option Addr) (c4N : Nat) (c4C : Nat) (c5 : Int) (goal : Int) (n : Int) (w : World) (R : Bool → World → Prop) : Prop :=
  Calls Try.prog 11 #[.agg #[.int .i64 c0, .int .i64 c1, .string c2, .slice c3P c3N c3C, .slice c4P c4N c4C, .int .i64 c5], .int .i64 goal, .int .i64 n] w fun en w1 => ∃ (r : Bool), en = .returned (.bool r) ∧ R r w1
theorem C_law15_ahead.mono {c0 : Int} {c1 : Int} {c2 : ByteArray} {c3P : Option Addr} {c3N : Nat} {c3C : Nat} {c4P : Option Addr} {c4N : Nat} {c4C : Nat} {c5 : Int} {goal : Int} {n : Int} {w : World} {R R' : Bool → World → Prop} (h : C_law15_ahead c0 c1 c2 c3P c3N c3C c4P c4N c4C c5 goal n w R) (hr : ∀ r w1, R r w1 → R' r w1) : C_law15_ahead c0 c1 c2 c3P c3N c3C c4P c4N c4C c5 goal n w R' :=
  Calls.mono h fun _ _ ⟨r, he, h⟩ => ⟨r, he, hr r _ h⟩

/-- elenchus/elenchusref06.Large -/
def C_ref06_Large (t0 : Int) (t1 : Int) (t2 : ByteArray) (t3P : Option Addr) (t3N : Nat) (t3C : Nat) (w : World) (R : Bool → World → Prop) : Prop :=
  Calls Try.prog 12 #[.agg #[.int .i64 t0, .int .i64 t1, .string t2, .slice t3P t3N t3C]] w fun en w1 => ∃ (r : Bool), en = .returned (.bool r) ∧ R r w1
theorem C_ref06_Large.mono {t0 : Int} {t1 : Int} {t2 : ByteArray} {t3P : Option Addr} {t3N : Nat} {t3C : Nat} {w : World} {R R' : Bool → World → Prop} (h : C_ref06_Large t0 t1 t2 t3P t3N t3C w R) (hr : ∀ r w1, R r w1 → R' r w1) : C_ref06_Large t0 t1 t2 t3P t3N t3C w R' :=
  Calls.mono h fun _ _ ⟨r, he, h⟩ => ⟨r, he, hr r _ h⟩

/-- elenchus/elenchusref06.Size -/
def C_ref06_Size (t0 : Int) (t1 : Int) (t2 : ByteArray) (t3P : Option Addr) (t3N : Nat) (t3C : Nat) (w : World) (R : Int → World → Prop) : Prop :=
  Calls Try.prog 13 #[.agg #[.int .i64 t0, .int .i64 t1, .string t2, .slice t3P t3N t3C]] w fun en w1 => ∃ (r : Int), en = .returned (.int .i64 r) ∧ R r w1
theorem C_ref06_Size.mono {t0 : Int} {t1 : Int} {t2 : ByteArray} {t3P : Option Addr} {t3N : Nat} {t3C : Nat} {w : World} {R R' : Int → World → Prop} (h : C_ref06_Size t0 t1 t2 t3P t3N t3C w R) (hr : ∀ r w1, R r w1 → R' r w1) : C_ref06_Size t0 t1 t2 t3P t3N t3C w R' :=
  Calls.mono h fun _ _ ⟨r, he, h⟩ => ⟨r, he, hr r _ h⟩

/-- elenchus/elenchuslaw15.One -/
def C_law15_One  (w : World) (R : Int → Int → ByteArray → Option Addr → Nat → Nat → Option Addr → Nat → Nat → Int → World → Prop) : Prop :=
  Calls Try.prog 14 #[] w fun en w1 => ∃ (r0 : Int) (r1 : Int) (r2 : ByteArray) (r3P : Option Addr) (r3N : Nat) (r3C : Nat) (r4P : Option Addr) (r4N : Nat) (r4C : Nat) (r5 : Int), en = .returned (.agg #[.int .i64 r0, .int .i64 r1, .string r2, .slice r3P r3N r3C, .slice r4P r4N r4C, .int .i64 r5]) ∧ R r0 r1 r2 r3P r3N r3C r4P r4N r4C r5 w1
theorem C_law15_One.mono {w : World} {R R' : Int → Int → ByteArray → Option Addr → Nat → Nat → Option Addr → Nat → Nat → Int → World → Prop} (h : C_law15_One  w R) (hr : ∀ r0 r1 r2 r3P r3N r3C r4P r4N r4C r5 w1, R r0 r1 r2 r3P r3N r3C r4P r4N r4C r5 w1 → R' r0 r1 r2 r3P r3N r3C r4P r4N r4C r5 w1) : C_law15_One  w R' :=
  Calls.mono h fun _ _ ⟨r0, r1, r2, r3P, r3N, r3C, r4P, r4N, r4C, r5, he, h⟩ => ⟨r0, r1, r2, r3P, r3N, r3C, r4P, r4N, r4C, r5, he, hr r0 r1 r2 r3P r3N r3C r4P r4N r4C r5 _ h⟩

/-- elenchus/elenchusref06.Atom -/
def C_ref06_Atom (sx : ByteArray) (w : World) (R : Int → Int → ByteArray → Option Addr → Nat → Nat → World → Prop) : Prop :=
  Calls Try.prog 15 #[.string sx] w fun en w1 => ∃ (r0 : Int) (r1 : Int) (r2 : ByteArray) (r3P : Option Addr) (r3N : Nat) (r3C : Nat), en = .returned (.agg #[.int .i64 r0, .int .i64 r1, .string r2, .slice r3P r3N r3C]) ∧ R r0 r1 r2 r3P r3N r3C w1
theorem C_ref06_Atom.mono {sx : ByteArray} {w : World} {R R' : Int → Int → ByteArray → Option Addr → Nat → Nat → World → Prop} (h : C_ref06_Atom sx w R) (hr : ∀ r0 r1 r2 r3P r3N r3C w1, R r0 r1 r2 r3P r3N r3C w1 → R' r0 r1 r2 r3P r3N r3C w1) : C_ref06_Atom sx w R' :=
  Calls.mono h fun _ _ ⟨r0, r1, r2, r3P, r3N, r3C, he, h⟩ => ⟨r0, r1, r2, r3P, r3N, r3C, he, hr r0 r1 r2 r3P r3N r3C _ h⟩

/-- elenchus/elenchuslaw15.call -/
def C_law15_call (sx : ByteArray) (varsP : Option Addr) (varsN : Nat) (varsC : Nat) (w : World) (R : Int → Int → Int → ByteArray → Option Addr → Nat → Nat → World → Prop) : Prop :=
  Calls Try.prog 16 #[.string sx, .slice varsP varsN varsC] w fun en w1 => ∃ (r0 : Int) (r1 : Int) (r2 : Int) (r3 : ByteArray) (r4P : Option Addr) (r4N : Nat) (r4C : Nat), en = .returned (.agg #[.int .i64 r0, .int .i64 r1, .int .i64 r2, .string r3, .slice r4P r4N r4C]) ∧ R r0 r1 r2 r3 r4P r4N r4C w1
theorem C_law15_call.mono {sx : ByteArray} {varsP : Option Addr} {varsN : Nat} {varsC : Nat} {w : World} {R R' : Int → Int → Int → ByteArray → Option Addr → Nat → Nat → World → Prop} (h : C_law15_call sx varsP varsN varsC w R) (hr : ∀ r0 r1 r2 r3 r4P r4N r4C w1, R r0 r1 r2 r3 r4P r4N r4C w1 → R' r0 r1 r2 r3 r4P r4N r4C w1) : C_law15_call sx varsP varsN varsC w R' :=
  Calls.mono h fun _ _ ⟨r0, r1, r2, r3, r4P, r4N, r4C, he, h⟩ => ⟨r0, r1, r2, r3, r4P, r4N, r4C, he, hr r0 r1 r2 r3 r4P r4N r4C _ h⟩

/-- elenchus/plan.Permanent -/
def C_plan_Permanent (c0 : Int) (c1 : Int) (c2 : ByteArray) (c3P : Option Addr) (c3N : Nat) (c3C : Nat) (c4P : Option Addr) (c4N : Nat) (c4C : Nat) (c5 : Int) (w : World) (R : Option Addr → Nat → Nat → World → Prop) : Prop :=
  Calls Try.prog 17 #[.agg #[.int .i64 c0, .int .i64 c1, .string c2, .slice c3P c3N c3C, .slice c4P c4N c4C, .int .i64 c5]] w fun en w1 => ∃ (rP : Option Addr) (rN : Nat) (rC : Nat), en = .returned (.slice rP rN rC) ∧ R rP rN rC w1
theorem C_plan_Permanent.mono {c0 : Int} {c1 : Int} {c2 : ByteArray} {c3P : Option Addr} {c3N : Nat} {c3C : Nat} {c4P : Option Addr} {c4N : Nat} {c4C : Nat} {c5 : Int} {w : World} {R R' : Option Addr → Nat → Nat → World → Prop} (h : C_plan_Permanent c0 c1 c2 c3P c3N c3C c4P c4N c4C c5 w R) (hr : ∀ rP rN rC w1, R rP rN rC w1 → R' rP rN rC w1) : C_plan_Permanent c0 c1 c2 c3P c3N c3C c4P c4N c4C c5 w R' :=
  Calls.mono h fun _ _ ⟨rP, rN, rC, he, h⟩ => ⟨rP, rN, rC, he, hr rP rN rC _ h⟩

/-- elenchus/elenchusref15.SameInts -/
def C_ref15_SameInts (aP : Option Addr) (aN : Nat) (aC : Nat) (bP : Option Addr) (bN : Nat) (bC : Nat) (w : World) (R : Bool → World → Prop) : Prop :=
  Calls Try.prog 18 #[.slice aP aN aC, .slice bP bN bC] w fun en w1 => ∃ (r : Bool), en = .returned (.bool r) ∧ R r w1
theorem C_ref15_SameInts.mono {aP : Option Addr} {aN : Nat} {aC : Nat} {bP : Option Addr} {bN : Nat} {bC : Nat} {w : World} {R R' : Bool → World → Prop} (h : C_ref15_SameInts aP aN aC bP bN bC w R) (hr : ∀ r w1, R r w1 → R' r w1) : C_ref15_SameInts aP aN aC bP bN bC w R' :=
  Calls.mono h fun _ _ ⟨r, he, h⟩ => ⟨r, he, hr r _ h⟩

/-- elenchus/plan.Calls -/
def C_plan_Calls (c0 : Int) (c1 : Int) (c2 : ByteArray) (c3P : Option Addr) (c3N : Nat) (c3C : Nat) (c4P : Option Addr) (c4N : Nat) (c4C : Nat) (c5 : Int) (w : World) (R : Int → World → Prop) : Prop :=
  Calls Try.prog 19 #[.agg #[.int .i64 c0, .int .i64 c1, .string c2, .slice c3P c3N c3C, .slice c4P c4N c4C, .int .i64 c5]] w fun en w1 => ∃ (r : Int), en = .returned (.int .i64 r) ∧ R r w1
theorem C_plan_Calls.mono {c0 : Int} {c1 : Int} {c2 : ByteArray} {c3P : Option Addr} {c3N : Nat} {c3C : Nat} {c4P : Option Addr} {c4N : Nat} {c4C : Nat} {c5 : Int} {w : World} {R R' : Int → World → Prop} (h : C_plan_Calls c0 c1 c2 c3P c3N c3C c4P c4N c4C c5 w R) (hr : ∀ r w1, R r w1 → R' r w1) : C_plan_Calls c0 c1 c2 c3P c3N c3C c4P c4N c4C c5 w R' :=
  Calls.mono h fun _ _ ⟨r, he, h⟩ => ⟨r, he, hr r _ h⟩

/-- elenchus/plan.may -/
def C_plan_may (c0 : Int) (c1 : Int) (c2 : ByteArray) (c3P : Option Addr) (c3N : Nat) (c3C : Nat) (c4P : Option Addr) (c4N : Nat) (c4C : Nat) (c5 : Int) (w : World) (R : Int → World → Prop) : Prop :=
  Calls Try.prog 20 #[.agg #[.int .i64 c0, .int .i64 c1, .string c2, .slice c3P c3N c3C, .slice c4P c4N c4C, .int .i64 c5]] w fun en w1 => ∃ (r : Int), en = .returned (.int .i64 r) ∧ R r w1
theorem C_plan_may.mono {c0 : Int} {c1 : Int} {c2 : ByteArray} {c3P : Option Addr} {c3N : Nat} {c3C : Nat} {c4P : Option Addr} {c4N : Nat} {c4C : Nat} {c5 : Int} {w : World} {R R' : Int → World → Prop} (h : C_plan_may c0 c1 c2 c3P c3N c3C c4P c4N c4C c5 w R) (hr : ∀ r w1, R r w1 → R' r w1) : C_plan_may c0 c1 c2 c3P c3N c3C c4P c4N c4C c5 w R' :=
  Calls.mono h fun _ _ ⟨r, he, h⟩ => ⟨r, he, hr r _ h⟩

/-- elenchus/plan.gather -/
def C_plan_gather (c0 : Int) (c1 : Int) (c2 : ByteArray) (c3P : Option Addr) (c3N : Nat) (c3C : Nat) (c4P : Option Addr) (c4N : Nat) (c4C : Nat) (c5 : Int) (w : World) (R : Option Nat → Int → World → Prop) : Prop :=
  Calls Try.prog 21 #[.agg #[.int .i64 c0, .int .i64 c1, .string c2, .slice c3P c3N c3C, .slice c4P c4N c4C, .int .i64 c5]] w fun en w1 => ∃ (r0 : Option Nat) (r1 : Int), en = .returned (.tuple #[.map r0, .int .i64 r1]) ∧ R r0 r1 w1
theorem C_plan_gather.mono {c0 : Int} {c1 : Int} {c2 : ByteArray} {c3P : Option Addr} {c3N : Nat} {c3C : Nat} {c4P : Option Addr} {c4N : Nat} {c4C : Nat} {c5 : Int} {w : World} {R R' : Option Nat → Int → World → Prop} (h : C_plan_gather c0 c1 c2 c3P c3N c3C c4P c4N c4C c5 w R) (hr : ∀ r0 r1 w1, R r0 r1 w1 → R' r0 r1 w1) : C_plan_gather c0 c1 c2 c3P c3N c3C c4P c4N c4C c5 w R' :=
  Calls.mono h fun _ _ ⟨r0, r1, he, h⟩ => ⟨r0, r1, he, hr r0 r1 _ h⟩

/-- (elenchus/plan.spans).slots -/
def C_plan_spans_slots (sx : Option Nat) (w : World) (R : Option Addr → Nat → Nat → World → Prop) : Prop :=
  Calls Try.prog 22 #[.map sx] w fun en w1 => ∃ (rP : Option Addr) (rN : Nat) (rC : Nat), en = .returned (.slice rP rN rC) ∧ R rP rN rC w1
theorem C_plan_spans_slots.mono {sx : Option Nat} {w : World} {R R' : Option Addr → Nat → Nat → World → Prop} (h : C_plan_spans_slots sx w R) (hr : ∀ rP rN rC w1, R rP rN rC w1 → R' rP rN rC w1) : C_plan_spans_slots sx w R' :=
  Calls.mono h fun _ _ ⟨rP, rN, rC, he, h⟩ => ⟨rP, rN, rC, he, hr rP rN rC _ h⟩

/-- slices.IndexFunc[[]elenchus/plan.span,elenchus/plan.span] -/
def C_slices_IndexFunc (sP : Option Addr) (sN : Nat) (sC : Nat) (fx : Value) (w : World) (R : Int → World → Prop) : Prop :=
  Calls Try.prog 23 #[.slice sP sN sC, fx] w fun en w1 => ∃ (r : Int), en = .returned (.int .i64 r) ∧ R r w1
theorem C_slices_IndexFunc.mono {sP : Option Addr} {sN : Nat} {sC : Nat} {fx : Value} {w : World} {R R' : Int → World → Prop} (h : C_slices_IndexFunc sP sN sC fx w R) (hr : ∀ r w1, R r w1 → R' r w1) : C_slices_IndexFunc sP sN sC fx w R' :=
  Calls.mono h fun _ _ ⟨r, he, h⟩ => ⟨r, he, hr r _ h⟩

/-- elenchus/plan.Of-1 -/
def C_plan_Of_1 (x0 : Int) (x1 : Int) (x2 : Int) (c0 : Addr) (w : World) (R : Bool → World → Prop) : Prop :=
  Calls Try.prog 24 #[.agg #[.int .i64 x0, .int .i64 x1, .int .i64 x2], .pointer (some c0)] w fun en w1 => ∃ (r : Bool), en = .returned (.bool r) ∧ R r w1
theorem C_plan_Of_1.mono {x0 : Int} {x1 : Int} {x2 : Int} {c0 : Addr} {w : World} {R R' : Bool → World → Prop} (h : C_plan_Of_1 x0 x1 x2 c0 w R) (hr : ∀ r w1, R r w1 → R' r w1) : C_plan_Of_1 x0 x1 x2 c0 w R' :=
  Calls.mono h fun _ _ ⟨r, he, h⟩ => ⟨r, he, hr r _ h⟩

/-- elenchus/elenchusref06.vars -/
def C_ref06_vars (t0 : Int) (t1 : Int) (t2 : ByteArray) (t3P : Option Addr) (t3N : Nat) (t3C : Nat) (outP : Option Addr) (outN : Nat) (outC : Nat) (w : World) (R : Option Addr → Nat → Nat → World → Prop) : Prop :=
  Calls Try.prog 25 #[.agg #[.int .i64 t0, .int .i64 t1, .string t2, .slice t3P t3N t3C], .slice outP outN outC] w fun en w1 => ∃ (rP : Option Addr) (rN : Nat) (rC : Nat), en = .returned (.slice rP rN rC) ∧ R rP rN rC w1
theorem C_ref06_vars.mono {t0 : Int} {t1 : Int} {t2 : ByteArray} {t3P : Option Addr} {t3N : Nat} {t3C : Nat} {outP : Option Addr} {outN : Nat} {outC : Nat} {w : World} {R R' : Option Addr → Nat → Nat → World → Prop} (h : C_ref06_vars t0 t1 t2 t3P t3N t3C outP outN outC w R) (hr : ∀ rP rN rC w1, R rP rN rC w1 → R' rP rN rC w1) : C_ref06_vars t0 t1 t2 t3P t3N t3C outP outN outC w R' :=
  Calls.mono h fun _ _ ⟨rP, rN, rC, he, h⟩ => ⟨rP, rN, rC, he, hr rP rN rC _ h⟩

/-- elenchus/elenchusref15.Chunk -/
def C_ref15_Chunk (c0 : Int) (c1 : Int) (c2 : ByteArray) (c3P : Option Addr) (c3N : Nat) (c3C : Nat) (c4P : Option Addr) (c4N : Nat) (c4C : Nat) (c5 : Int) (goal : Int) (w : World) (R : Int → World → Prop) : Prop :=
  Calls Try.prog 26 #[.agg #[.int .i64 c0, .int .i64 c1, .string c2, .slice c3P c3N c3C, .slice c4P c4N c4C, .int .i64 c5], .int .i64 goal] w fun en w1 => ∃ (r : Int), en = .returned (.int .i64 r) ∧ R r w1
theorem C_ref15_Chunk.mono {c0 : Int} {c1 : Int} {c2 : ByteArray} {c3P : Option Addr} {c3N : Nat} {c3C : Nat} {c4P : Option Addr} {c4N : Nat} {c4C : Nat} {c5 : Int} {goal : Int} {w : World} {R R' : Int → World → Prop} (h : C_ref15_Chunk c0 c1 c2 c3P c3N c3C c4P c4N c4C c5 goal w R) (hr : ∀ r w1, R r w1 → R' r w1) : C_ref15_Chunk c0 c1 c2 c3P c3N c3C c4P c4N c4C c5 goal w R' :=
  Calls.mono h fun _ _ ⟨r, he, h⟩ => ⟨r, he, hr r _ h⟩

/-- elenchus/elenchusref06.large -/
def C_ref06_large (t0 : Int) (t1 : Int) (t2 : ByteArray) (t3P : Option Addr) (t3N : Nat) (t3C : Nat) (depth : Int) (n : Option Addr) (w : World) (R : Bool → World → Prop) : Prop :=
  Calls Try.prog 27 #[.agg #[.int .i64 t0, .int .i64 t1, .string t2, .slice t3P t3N t3C], .int .i64 depth, .pointer n] w fun en w1 => ∃ (r : Bool), en = .returned (.bool r) ∧ R r w1
theorem C_ref06_large.mono {t0 : Int} {t1 : Int} {t2 : ByteArray} {t3P : Option Addr} {t3N : Nat} {t3C : Nat} {depth : Int} {n : Option Addr} {w : World} {R R' : Bool → World → Prop} (h : C_ref06_large t0 t1 t2 t3P t3N t3C depth n w R) (hr : ∀ r w1, R r w1 → R' r w1) : C_ref06_large t0 t1 t2 t3P t3N t3C depth n w R' :=
  Calls.mono h fun _ _ ⟨r, he, h⟩ => ⟨r, he, hr r _ h⟩

/-- elenchus/elenchusref06.Var -/
def C_ref06_Var (n : Int) (w : World) (R : Int → Int → ByteArray → Option Addr → Nat → Nat → World → Prop) : Prop :=
  Calls Try.prog 28 #[.int .i64 n] w fun en w1 => ∃ (r0 : Int) (r1 : Int) (r2 : ByteArray) (r3P : Option Addr) (r3N : Nat) (r3C : Nat), en = .returned (.agg #[.int .i64 r0, .int .i64 r1, .string r2, .slice r3P r3N r3C]) ∧ R r0 r1 r2 r3P r3N r3C w1
theorem C_ref06_Var.mono {n : Int} {w : World} {R R' : Int → Int → ByteArray → Option Addr → Nat → Nat → World → Prop} (h : C_ref06_Var n w R) (hr : ∀ r0 r1 r2 r3P r3N r3C w1, R r0 r1 r2 r3P r3N r3C w1 → R' r0 r1 r2 r3P r3N r3C w1) : C_ref06_Var n w R' :=
  Calls.mono h fun _ _ ⟨r0, r1, r2, r3P, r3N, r3C, he, h⟩ => ⟨r0, r1, r2, r3P, r3N, r3C, he, hr r0 r1 r2 r3P r3N r3C _ h⟩

/-- elenchus/elenchusref06.Comp -/
def C_ref06_Comp (sx : ByteArray) (lP : Option Addr) (lN : Nat) (lC : Nat) (w : World) (R : Int → Int → ByteArray → Option Addr → Nat → Nat → World → Prop) : Prop :=
  Calls Try.prog 29 #[.string sx, .slice lP lN lC] w fun en w1 => ∃ (r0 : Int) (r1 : Int) (r2 : ByteArray) (r3P : Option Addr) (r3N : Nat) (r3C : Nat), en = .returned (.agg #[.int .i64 r0, .int .i64 r1, .string r2, .slice r3P r3N r3C]) ∧ R r0 r1 r2 r3P r3N r3C w1
theorem C_ref06_Comp.mono {sx : ByteArray} {lP : Option Addr} {lN : Nat} {lC : Nat} {w : World} {R R' : Int → Int → ByteArray → Option Addr → Nat → Nat → World → Prop} (h : C_ref06_Comp sx lP lN lC w R) (hr : ∀ r0 r1 r2 r3P r3N r3C w1, R r0 r1 r2 r3P r3N r3C w1 → R' r0 r1 r2 r3P r3N r3C w1) : C_ref06_Comp sx lP lN lC w R' :=
  Calls.mono h fun _ _ ⟨r0, r1, r2, r3P, r3N, r3C, he, h⟩ => ⟨r0, r1, r2, r3P, r3N, r3C, he, hr r0 r1 r2 r3P r3N r3C _ h⟩

/-- slices.Sort[[]int,int] -/
def C_slices_Sort (xP : Option Addr) (xN : Nat) (xC : Nat) (w : World) (R : World → Prop) : Prop :=
  Calls Try.prog 30 #[.slice xP xN xC] w fun en w1 => en = .returned (.tuple #[]) ∧ R w1
theorem C_slices_Sort.mono {xP : Option Addr} {xN : Nat} {xC : Nat} {w : World} {R R' : World → Prop} (h : C_slices_Sort xP xN xC w R) (hr : ∀ w1, R w1 → R' w1) : C_slices_Sort xP xN xC w R' :=
  Calls.mono h fun _ _ ⟨he, h⟩ => ⟨he, hr _ h⟩

/-- elenchus/term.Check -/
def C_term_Check (t0 : Int) (t1 : Int) (t2 : ByteArray) (t3P : Option Addr) (t3N : Nat) (t3C : Nat) (w : World) (R : Int → World → Prop) : Prop :=
  Calls Try.prog 31 #[.agg #[.int .i64 t0, .int .i64 t1, .string t2, .slice t3P t3N t3C]] w fun en w1 => ∃ (r : Int), en = .returned (.int .i64 r) ∧ R r w1
theorem C_term_Check.mono {t0 : Int} {t1 : Int} {t2 : ByteArray} {t3P : Option Addr} {t3N : Nat} {t3C : Nat} {w : World} {R R' : Int → World → Prop} (h : C_term_Check t0 t1 t2 t3P t3N t3C w R) (hr : ∀ r w1, R r w1 → R' r w1) : C_term_Check t0 t1 t2 t3P t3N t3C w R' :=
  Calls.mono h fun _ _ ⟨r, he, h⟩ => ⟨r, he, hr r _ h⟩

/-- slices.ContainsFunc[[]elenchus/api.Goal,elenchus/api.Goal] -/
def C_slices_ContainsFunc (sP : Option Addr) (sN : Nat) (sC : Nat) (fx : Value) (w : World) (R : Bool → World → Prop) : Prop :=
  Calls Try.prog 32 #[.slice sP sN sC, fx] w fun en w1 => ∃ (r : Bool), en = .returned (.bool r) ∧ R r w1
theorem C_slices_ContainsFunc.mono {sP : Option Addr} {sN : Nat} {sC : Nat} {fx : Value} {w : World} {R R' : Bool → World → Prop} (h : C_slices_ContainsFunc sP sN sC fx w R) (hr : ∀ r w1, R r w1 → R' r w1) : C_slices_ContainsFunc sP sN sC fx w R' :=
  Calls.mono h fun _ _ ⟨r, he, h⟩ => ⟨r, he, hr r _ h⟩

/-- elenchus/plan.may-1 -/
def C_plan_may_1 (g0x : Int) (g1x : Int) (g2x : Int) (g3x : ByteArray) (g4P : Option Addr) (g4N : Nat) (g4C : Nat) (w : World) (R : Bool → World → Prop) : Prop :=
  Calls Try.prog 33 #[.agg #[.int .i64 g0x, .int .i64 g1x, .int .i64 g2x, .string g3x, .slice g4P g4N g4C]] w fun en w1 => ∃ (r : Bool), en = .returned (.bool r) ∧ R r w1
theorem C_plan_may_1.mono {g0x : Int} {g1x : Int} {g2x : Int} {g3x : ByteArray} {g4P : Option Addr} {g4N : Nat} {g4C : Nat} {w : World} {R R' : Bool → World → Prop} (h : C_plan_may_1 g0x g1x g2x g3x g4P g4N g4C w R) (hr : ∀ r w1, R r w1 → R' r w1) : C_plan_may_1 g0x g1x g2x g3x g4P g4N g4C w R' :=
  Calls.mono h fun _ _ ⟨r, he, h⟩ => ⟨r, he, hr r _ h⟩

/-- (elenchus/plan.spans).note -/
def C_plan_spans_note (sx : Option Nat) (chunk : Int) (lP : Option Addr) (lN : Nat) (lC : Nat) (w : World) (R : World → Prop) : Prop :=
  Calls Try.prog 34 #[.map sx, .int .i64 chunk, .slice lP lN lC] w fun en w1 => en = .returned (.tuple #[]) ∧ R w1
theorem C_plan_spans_note.mono {sx : Option Nat} {chunk : Int} {lP : Option Addr} {lN : Nat} {lC : Nat} {w : World} {R R' : World → Prop} (h : C_plan_spans_note sx chunk lP lN lC w R) (hr : ∀ w1, R w1 → R' w1) : C_plan_spans_note sx chunk lP lN lC w R' :=
  Calls.mono h fun _ _ ⟨he, h⟩ => ⟨he, hr _ h⟩

/-- elenchus/term.Vars -/
def C_term_Vars (t0 : Int) (t1 : Int) (t2 : ByteArray) (t3P : Option Addr) (t3N : Nat) (t3C : Nat) (w : World) (R : Option Addr → Nat → Nat → World → Prop) : Prop :=
  Calls Try.prog 35 #[.agg #[.int .i64 t0, .int .i64 t1, .string t2, .slice t3P t3N t3C]] w fun en w1 => ∃ (rP : Option Addr) (rN : Nat) (rC : Nat), en = .returned (.slice rP rN rC) ∧ R rP rN rC w1
theorem C_term_Vars.mono {t0 : Int} {t1 : Int} {t2 : ByteArray} {t3P : Option Addr} {t3N : Nat} {t3C : Nat} {w : World} {R R' : Option Addr → Nat → Nat → World → Prop} (h : C_term_Vars t0 t1 t2 t3P t3N t3C w R) (hr : ∀ rP rN rC w1, R rP rN rC w1 → R' rP rN rC w1) : C_term_Vars t0 t1 t2 t3P t3N t3C w R' :=
  Calls.mono h fun _ _ ⟨rP, rN, rC, he, h⟩ => ⟨rP, rN, rC, he, hr rP rN rC _ h⟩

/-- slices.Collect[elenchus/plan.span] -/
def C_slices_Collect (seq : Value) (w : World) (R : Option Addr → Nat → Nat → World → Prop) : Prop :=
  Calls Try.prog 36 #[seq] w fun en w1 => ∃ (rP : Option Addr) (rN : Nat) (rC : Nat), en = .returned (.slice rP rN rC) ∧ R rP rN rC w1
theorem C_slices_Collect.mono {seq : Value} {w : World} {R R' : Option Addr → Nat → Nat → World → Prop} (h : C_slices_Collect seq w R) (hr : ∀ rP rN rC w1, R rP rN rC w1 → R' rP rN rC w1) : C_slices_Collect seq w R' :=
  Calls.mono h fun _ _ ⟨rP, rN, rC, he, h⟩ => ⟨rP, rN, rC, he, hr rP rN rC _ h⟩

/-- maps.Values[elenchus/plan.spans,int,elenchus/plan.span] -/
def C_maps_Values (m : Option Nat) (w : World) (R : Value → World → Prop) : Prop :=
  Calls Try.prog 37 #[.map m] w fun en w1 => ∃ (r : Value), en = .returned (r) ∧ R r w1
theorem C_maps_Values.mono {m : Option Nat} {w : World} {R R' : Value → World → Prop} (h : C_maps_Values m w R) (hr : ∀ r w1, R r w1 → R' r w1) : C_maps_Values m w R' :=
  Calls.mono h fun _ _ ⟨r, he, h⟩ => ⟨r, he, hr r _ h⟩

/-- slices.DeleteFunc[[]elenchus/plan.span,elenchus/plan.span] -/
def C_slices_DeleteFunc (sP : Option Addr) (sN : Nat) (sC : Nat) (del : Value) (w : World) (R : Option Addr → Nat → Nat → World → Prop) : Prop :=
  Calls Try.prog 38 #[.slice sP sN sC, del] w fun en w1 => ∃ (rP : Option Addr) (rN : Nat) (rC : Nat), en = .returned (.slice rP rN rC) ∧ R rP rN rC w1
theorem C_slices_DeleteFunc.mono {sP : Option Addr} {sN : Nat} {sC : Nat} {del : Value} {w : World} {R R' : Option Addr → Nat → Nat → World → Prop} (h : C_slices_DeleteFunc sP sN sC del w R) (hr : ∀ rP rN rC w1, R rP rN rC w1 → R' rP rN rC w1) : C_slices_DeleteFunc sP sN sC del w R' :=
  Calls.mono h fun _ _ ⟨rP, rN, rC, he, h⟩ => ⟨rP, rN, rC, he, hr rP rN rC _ h⟩

/-- (elenchus/plan.spans).slots-1 -/
def C_plan_spans_slots_1 (x0 : Int) (x1 : Int) (x2 : Int) (w : World) (R : Bool → World → Prop) : Prop :=
  Calls Try.prog 39 #[.agg #[.int .i64 x0, .int .i64 x1, .int .i64 x2]] w fun en w1 => ∃ (r : Bool), en = .returned (.bool r) ∧ R r w1
theorem C_plan_spans_slots_1.mono {x0 : Int} {x1 : Int} {x2 : Int} {w : World} {R R' : Bool → World → Prop} (h : C_plan_spans_slots_1 x0 x1 x2 w R) (hr : ∀ r w1, R r w1 → R' r w1) : C_plan_spans_slots_1 x0 x1 x2 w R' :=
  Calls.mono h fun _ _ ⟨r, he, h⟩ => ⟨r, he, hr r _ h⟩

/-- slices.SortFunc[[]elenchus/plan.span,elenchus/plan.span] -/
def C_slices_SortFunc (xP : Option Addr) (xN : Nat) (xC : Nat) (cmp : Value) (w : World) (R : World → Prop) : Prop :=
  Calls Try.prog 40 #[.slice xP xN xC, cmp] w fun en w1 => en = .returned (.tuple #[]) ∧ R w1
theorem C_slices_SortFunc.mono {xP : Option Addr} {xN : Nat} {xC : Nat} {cmp : Value} {w : World} {R R' : World → Prop} (h : C_slices_SortFunc xP xN xC cmp w R) (hr : ∀ w1, R w1 → R' w1) : C_slices_SortFunc xP xN xC cmp w R' :=
  Calls.mono h fun _ _ ⟨he, h⟩ => ⟨he, hr _ h⟩

/-- (elenchus/plan.spans).slots-2 -/
def C_plan_spans_slots_2 (a0 : Int) (a1 : Int) (a2 : Int) (b0 : Int) (b1 : Int) (b2 : Int) (w : World) (R : Int → World → Prop) : Prop :=
  Calls Try.prog 41 #[.agg #[.int .i64 a0, .int .i64 a1, .int .i64 a2], .agg #[.int .i64 b0, .int .i64 b1, .int .i64 b2]] w fun en w1 => ∃ (r : Int), en = .returned (.int .i64 r) ∧ R r w1
theorem C_plan_spans_slots_2.mono {a0 : Int} {a1 : Int} {a2 : Int} {b0 : Int} {b1 : Int} {b2 : Int} {w : World} {R R' : Int → World → Prop} (h : C_plan_spans_slots_2 a0 a1 a2 b0 b1 b2 w R) (hr : ∀ r w1, R r w1 → R' r w1) : C_plan_spans_slots_2 a0 a1 a2 b0 b1 b2 w R' :=
  Calls.mono h fun _ _ ⟨r, he, h⟩ => ⟨r, he, hr r _ h⟩

/-- cmp.Or[int] -/
def C_cmp_Or (valsP : Option Addr) (valsN : Nat) (valsC : Nat) (w : World) (R : Int → World → Prop) : Prop :=
  Calls Try.prog 42 #[.slice valsP valsN valsC] w fun en w1 => ∃ (r : Int), en = .returned (.int .i64 r) ∧ R r w1
theorem C_cmp_Or.mono {valsP : Option Addr} {valsN : Nat} {valsC : Nat} {w : World} {R R' : Int → World → Prop} (h : C_cmp_Or valsP valsN valsC w R) (hr : ∀ r w1, R r w1 → R' r w1) : C_cmp_Or valsP valsN valsC w R' :=
  Calls.mono h fun _ _ ⟨r, he, h⟩ => ⟨r, he, hr r _ h⟩

/-- cmp.Compare[int] -/
def C_cmp_Compare (x : Int) (y : Int) (w : World) (R : Int → World → Prop) : Prop :=
  Calls Try.prog 43 #[.int .i64 x, .int .i64 y] w fun en w1 => ∃ (r : Int), en = .returned (.int .i64 r) ∧ R r w1
theorem C_cmp_Compare.mono {x : Int} {y : Int} {w : World} {R R' : Int → World → Prop} (h : C_cmp_Compare x y w R) (hr : ∀ r w1, R r w1 → R' r w1) : C_cmp_Compare x y w R' :=
  Calls.mono h fun _ _ ⟨r, he, h⟩ => ⟨r, he, hr r _ h⟩

/-- slices.pdqsortOrdered[int] -/
def C_slices_pdqsortOrdered (dataP : Option Addr) (dataN : Nat) (dataC : Nat) (a : Int) (b : Int) (limitx : Int) (w : World) (R : World → Prop) : Prop :=
  Calls Try.prog 44 #[.slice dataP dataN dataC, .int .i64 a, .int .i64 b, .int .i64 limitx] w fun en w1 => en = .returned (.tuple #[]) ∧ R w1
theorem C_slices_pdqsortOrdered.mono {dataP : Option Addr} {dataN : Nat} {dataC : Nat} {a : Int} {b : Int} {limitx : Int} {w : World} {R R' : World → Prop} (h : C_slices_pdqsortOrdered dataP dataN dataC a b limitx w R) (hr : ∀ w1, R w1 → R' w1) : C_slices_pdqsortOrdered dataP dataN dataC a b limitx w R' :=
  Calls.mono h fun _ _ ⟨he, h⟩ => ⟨he, hr _ h⟩

/-- math/bits.Len -/
def C_math_bits_Len (x : Int) (w : World) (R : Int → World → Prop) : Prop :=
  Calls Try.prog 45 #[.int .u64 x] w fun en w1 => ∃ (r : Int), en = .returned (.int .i64 r) ∧ R r w1
theorem C_math_bits_Len.mono {x : Int} {w : World} {R R' : Int → World → Prop} (h : C_math_bits_Len x w R) (hr : ∀ r w1, R r w1 → R' r w1) : C_math_bits_Len x w R' :=
  Calls.mono h fun _ _ ⟨r, he, h⟩ => ⟨r, he, hr r _ h⟩

/-- elenchus/term.measure -/
def C_term_measure (t0 : Int) (t1 : Int) (t2 : ByteArray) (t3P : Option Addr) (t3N : Nat) (t3C : Nat) (w : World) (R : Int → Int → Bool → World → Prop) : Prop :=
  Calls Try.prog 46 #[.agg #[.int .i64 t0, .int .i64 t1, .string t2, .slice t3P t3N t3C]] w fun en w1 => ∃ (r0 : Int) (r1 : Int) (r2 : Bool), en = .returned (.agg #[.int .i64 r0, .int .i64 r1, .bool r2]) ∧ R r0 r1 r2 w1
theorem C_term_measure.mono {t0 : Int} {t1 : Int} {t2 : ByteArray} {t3P : Option Addr} {t3N : Nat} {t3C : Nat} {w : World} {R R' : Int → Int → Bool → World → Prop} (h : C_term_measure t0 t1 t2 t3P t3N t3C w R) (hr : ∀ r0 r1 r2 w1, R r0 r1 r2 w1 → R' r0 r1 r2 w1) : C_term_measure t0 t1 t2 t3P t3N t3C w R' :=
  Calls.mono h fun _ _ ⟨r0, r1, r2, he, h⟩ => ⟨r0, r1, r2, he, hr r0 r1 r2 _ h⟩

/-- slices.IndexFunc[[]elenchus/api.Goal,elenchus/api.Goal] -/
def C_slices_IndexFunc__2 (sP : Option Addr) (sN : Nat) (sC : Nat) (fx : Value) (w : World) (R : Int → World → Prop) : Prop :=
  Calls Try.prog 47 #[.slice sP sN sC, fx] w fun en w1 => ∃ (r : Int), en = .returned (.int .i64 r) ∧ R r w1
theorem C_slices_IndexFunc__2.mono {sP : Option Addr} {sN : Nat} {sC : Nat} {fx : Value} {w : World} {R R' : Int → World → Prop} (h : C_slices_IndexFunc__2 sP sN sC fx w R) (hr : ∀ r w1, R r w1 → R' r w1) : C_slices_IndexFunc__2 sP sN sC fx w R' :=
  Calls.mono h fun _ _ ⟨r, he, h⟩ => ⟨r, he, hr r _ h⟩

/-- elenchus/term.may -/
def C_term_may (t0 : Int) (t1 : Int) (t2 : ByteArray) (t3P : Option Addr) (t3N : Nat) (t3C : Nat) (w : World) (R : Bool → World → Prop) : Prop :=
  Calls Try.prog 48 #[.agg #[.int .i64 t0, .int .i64 t1, .string t2, .slice t3P t3N t3C]] w fun en w1 => ∃ (r : Bool), en = .returned (.bool r) ∧ R r w1
theorem C_term_may.mono {t0 : Int} {t1 : Int} {t2 : ByteArray} {t3P : Option Addr} {t3N : Nat} {t3C : Nat} {w : World} {R R' : Bool → World → Prop} (h : C_term_may t0 t1 t2 t3P t3N t3C w R) (hr : ∀ r w1, R r w1 → R' r w1) : C_term_may t0 t1 t2 t3P t3N t3C w R' :=
  Calls.mono h fun _ _ ⟨r, he, h⟩ => ⟨r, he, hr r _ h⟩

/-- elenchus/term.rename -/
def C_term_rename (t0 : Int) (t1 : Int) (t2 : ByteArray) (t3P : Option Addr) (t3N : Nat) (t3C : Nat) (w : World) (R : Int → Int → ByteArray → Option Addr → Nat → Nat → Option Addr → Nat → Nat → World → Prop) : Prop :=
  Calls Try.prog 49 #[.agg #[.int .i64 t0, .int .i64 t1, .string t2, .slice t3P t3N t3C]] w fun en w1 => ∃ (r00 : Int) (r01 : Int) (r02 : ByteArray) (r03P : Option Addr) (r03N : Nat) (r03C : Nat) (r1P : Option Addr) (r1N : Nat) (r1C : Nat), en = .returned (.tuple #[.agg #[.int .i64 r00, .int .i64 r01, .string r02, .slice r03P r03N r03C], .slice r1P r1N r1C]) ∧ R r00 r01 r02 r03P r03N r03C r1P r1N r1C w1
theorem C_term_rename.mono {t0 : Int} {t1 : Int} {t2 : ByteArray} {t3P : Option Addr} {t3N : Nat} {t3C : Nat} {w : World} {R R' : Int → Int → ByteArray → Option Addr → Nat → Nat → Option Addr → Nat → Nat → World → Prop} (h : C_term_rename t0 t1 t2 t3P t3N t3C w R) (hr : ∀ r00 r01 r02 r03P r03N r03C r1P r1N r1C w1, R r00 r01 r02 r03P r03N r03C r1P r1N r1C w1 → R' r00 r01 r02 r03P r03N r03C r1P r1N r1C w1) : C_term_rename t0 t1 t2 t3P t3N t3C w R' :=
  Calls.mono h fun _ _ ⟨r00, r01, r02, r03P, r03N, r03C, r1P, r1N, r1C, he, h⟩ => ⟨r00, r01, r02, r03P, r03N, r03C, r1P, r1N, r1C, he, hr r00 r01 r02 r03P r03N r03C r1P r1N r1C _ h⟩

/-- slices.AppendSeq[[]elenchus/plan.span,elenchus/plan.span] -/
def C_slices_AppendSeq (sP : Option Addr) (sN : Nat) (sC : Nat) (seq : Value) (w : World) (R : Option Addr → Nat → Nat → World → Prop) : Prop :=
  Calls Try.prog 50 #[.slice sP sN sC, seq] w fun en w1 => ∃ (rP : Option Addr) (rN : Nat) (rC : Nat), en = .returned (.slice rP rN rC) ∧ R rP rN rC w1
theorem C_slices_AppendSeq.mono {sP : Option Addr} {sN : Nat} {sC : Nat} {seq : Value} {w : World} {R R' : Option Addr → Nat → Nat → World → Prop} (h : C_slices_AppendSeq sP sN sC seq w R) (hr : ∀ rP rN rC w1, R rP rN rC w1 → R' rP rN rC w1) : C_slices_AppendSeq sP sN sC seq w R' :=
  Calls.mono h fun _ _ ⟨rP, rN, rC, he, h⟩ => ⟨rP, rN, rC, he, hr rP rN rC _ h⟩

/-- maps.Values[elenchus/plan.spans,int,elenchus/plan.span]-1 -/
def C_maps_Values_1 (yield : Value) (c0 : Addr) (w : World) (R : World → Prop) : Prop :=
  Calls Try.prog 51 #[yield, .pointer (some c0)] w fun en w1 => en = .returned (.tuple #[]) ∧ R w1
theorem C_maps_Values_1.mono {yield : Value} {c0 : Addr} {w : World} {R R' : World → Prop} (h : C_maps_Values_1 yield c0 w R) (hr : ∀ w1, R w1 → R' w1) : C_maps_Values_1 yield c0 w R' :=
  Calls.mono h fun _ _ ⟨he, h⟩ => ⟨he, hr _ h⟩

/-- slices.pdqsortCmpFunc[elenchus/plan.span] -/
def C_slices_pdqsortCmpFunc (dataP : Option Addr) (dataN : Nat) (dataC : Nat) (a : Int) (b : Int) (limitx : Int) (cmp : Value) (w : World) (R : World → Prop) : Prop :=
  Calls Try.prog 52 #[.slice dataP dataN dataC, .int .i64 a, .int .i64 b, .int .i64 limitx, cmp] w fun en w1 => en = .returned (.tuple #[]) ∧ R w1
theorem C_slices_pdqsortCmpFunc.mono {dataP : Option Addr} {dataN : Nat} {dataC : Nat} {a : Int} {b : Int} {limitx : Int} {cmp : Value} {w : World} {R R' : World → Prop} (h : C_slices_pdqsortCmpFunc dataP dataN dataC a b limitx cmp w R) (hr : ∀ w1, R w1 → R' w1) : C_slices_pdqsortCmpFunc dataP dataN dataC a b limitx cmp w R' :=
  Calls.mono h fun _ _ ⟨he, h⟩ => ⟨he, hr _ h⟩

/-- cmp.isNaN[int] -/
def C_cmp_isNaN (x : Int) (w : World) (R : Bool → World → Prop) : Prop :=
  Calls Try.prog 53 #[.int .i64 x] w fun en w1 => ∃ (r : Bool), en = .returned (.bool r) ∧ R r w1
theorem C_cmp_isNaN.mono {x : Int} {w : World} {R R' : Bool → World → Prop} (h : C_cmp_isNaN x w R) (hr : ∀ r w1, R r w1 → R' r w1) : C_cmp_isNaN x w R' :=
  Calls.mono h fun _ _ ⟨r, he, h⟩ => ⟨r, he, hr r _ h⟩

/-- slices.insertionSortOrdered[int] -/
def C_slices_insertionSortOrdered (dataP : Option Addr) (dataN : Nat) (dataC : Nat) (a : Int) (b : Int) (w : World) (R : World → Prop) : Prop :=
  Calls Try.prog 54 #[.slice dataP dataN dataC, .int .i64 a, .int .i64 b] w fun en w1 => en = .returned (.tuple #[]) ∧ R w1
theorem C_slices_insertionSortOrdered.mono {dataP : Option Addr} {dataN : Nat} {dataC : Nat} {a : Int} {b : Int} {w : World} {R R' : World → Prop} (h : C_slices_insertionSortOrdered dataP dataN dataC a b w R) (hr : ∀ w1, R w1 → R' w1) : C_slices_insertionSortOrdered dataP dataN dataC a b w R' :=
  Calls.mono h fun _ _ ⟨he, h⟩ => ⟨he, hr _ h⟩

/-- slices.heapSortOrdered[int] -/
def C_slices_heapSortOrdered (dataP : Option Addr) (dataN : Nat) (dataC : Nat) (a : Int) (b : Int) (w : World) (R : World → Prop) : Prop :=
  Calls Try.prog 55 #[.slice dataP dataN dataC, .int .i64 a, .int .i64 b] w fun en w1 => en = .returned (.tuple #[]) ∧ R w1
theorem C_slices_heapSortOrdered.mono {dataP : Option Addr} {dataN : Nat} {dataC : Nat} {a : Int} {b : Int} {w : World} {R R' : World → Prop} (h : C_slices_heapSortOrdered dataP dataN dataC a b w R) (hr : ∀ w1, R w1 → R' w1) : C_slices_heapSortOrdered dataP dataN dataC a b w R' :=
  Calls.mono h fun _ _ ⟨he, h⟩ => ⟨he, hr _ h⟩

/-- slices.breakPatternsOrdered[int] -/
def C_slices_breakPatternsOrdered (dataP : Option Addr) (dataN : Nat) (dataC : Nat) (a : Int) (b : Int) (w : World) (R : World → Prop) : Prop :=
  Calls Try.prog 56 #[.slice dataP dataN dataC, .int .i64 a, .int .i64 b] w fun en w1 => en = .returned (.tuple #[]) ∧ R w1
theorem C_slices_breakPatternsOrdered.mono {dataP : Option Addr} {dataN : Nat} {dataC : Nat} {a : Int} {b : Int} {w : World} {R R' : World → Prop} (h : C_slices_breakPatternsOrdered dataP dataN dataC a b w R) (hr : ∀ w1, R w1 → R' w1) : C_slices_breakPatternsOrdered dataP dataN dataC a b w R' :=
  Calls.mono h fun _ _ ⟨he, h⟩ => ⟨he, hr _ h⟩

/-- slices.choosePivotOrdered[int] -/
def C_slices_choosePivotOrdered (dataP : Option Addr) (dataN : Nat) (dataC : Nat) (a : Int) (b : Int) (w : World) (R : Int → Int → World → Prop) : Prop :=
  Calls Try.prog 57 #[.slice dataP dataN dataC, .int .i64 a, .int .i64 b] w fun en w1 => ∃ (r0 : Int) (r1 : Int), en = .returned (.tuple #[.int .i64 r0, .int .i64 r1]) ∧ R r0 r1 w1
theorem C_slices_choosePivotOrdered.mono {dataP : Option Addr} {dataN : Nat} {dataC : Nat} {a : Int} {b : Int} {w : World} {R R' : Int → Int → World → Prop} (h : C_slices_choosePivotOrdered dataP dataN dataC a b w R) (hr : ∀ r0 r1 w1, R r0 r1 w1 → R' r0 r1 w1) : C_slices_choosePivotOrdered dataP dataN dataC a b w R' :=
  Calls.mono h fun _ _ ⟨r0, r1, he, h⟩ => ⟨r0, r1, he, hr r0 r1 _ h⟩

/-- slices.reverseRangeOrdered[int] -/
def C_slices_reverseRangeOrdered (dataP : Option Addr) (dataN : Nat) (dataC : Nat) (a : Int) (b : Int) (w : World) (R : World → Prop) : Prop :=
  Calls Try.prog 58 #[.slice dataP dataN dataC, .int .i64 a, .int .i64 b] w fun en w1 => en = .returned (.tuple #[]) ∧ R w1
theorem C_slices_reverseRangeOrdered.mono {dataP : Option Addr} {dataN : Nat} {dataC : Nat} {a : Int} {b : Int} {w : World} {R R' : World → Prop} (h : C_slices_reverseRangeOrdered dataP dataN dataC a b w R) (hr : ∀ w1, R w1 → R' w1) : C_slices_reverseRangeOrdered dataP dataN dataC a b w R' :=
  Calls.mono h fun _ _ ⟨he, h⟩ => ⟨he, hr _ h⟩

/-- slices.partialInsertionSortOrdered[int] -/
def C_slices_partialInsertionSortOrdered (dataP : Option Addr) (dataN : Nat) (dataC : Nat) (a : Int) (b : Int) (w : World) (R : Bool → World → Prop) : Prop :=
  Calls Try.prog 59 #[.slice dataP dataN dataC, .int .i64 a, .int .i64 b] w fun en w1 => ∃ (r : Bool), en = .returned (.bool r) ∧ R r w1
theorem C_slices_partialInsertionSortOrdered.mono {dataP : Option Addr} {dataN : Nat} {dataC : Nat} {a : Int} {b : Int} {w : World} {R R' : Bool → World → Prop} (h : C_slices_partialInsertionSortOrdered dataP dataN dataC a b w R) (hr : ∀ r w1, R r w1 → R' r w1) : C_slices_partialInsertionSortOrdered dataP dataN dataC a b w R' :=
  Calls.mono h fun _ _ ⟨r, he, h⟩ => ⟨r, he, hr r _ h⟩

/-- cmp.Less[int] -/
def C_cmp_Less (x : Int) (y : Int) (w : World) (R : Bool → World → Prop) : Prop :=
  Calls Try.prog 60 #[.int .i64 x, .int .i64 y] w fun en w1 => ∃ (r : Bool), en = .returned (.bool r) ∧ R r w1
theorem C_cmp_Less.mono {x : Int} {y : Int} {w : World} {R R' : Bool → World → Prop} (h : C_cmp_Less x y w R) (hr : ∀ r w1, R r w1 → R' r w1) : C_cmp_Less x y w R' :=
  Calls.mono h fun _ _ ⟨r, he, h⟩ => ⟨r, he, hr r _ h⟩

/-- slices.partitionEqualOrdered[int] -/
def C_slices_partitionEqualOrdered (dataP : Option Addr) (dataN : Nat) (dataC : Nat) (a : Int) (b : Int) (pivot : Int) (w : World) (R : Int → World → Prop) : Prop :=
  Calls Try.prog 61 #[.slice dataP dataN dataC, .int .i64 a, .int .i64 b, .int .i64 pivot] w fun en w1 => ∃ (r : Int), en = .returned (.int .i64 r) ∧ R r w1
theorem C_slices_partitionEqualOrdered.mono {dataP : Option Addr} {dataN : Nat} {dataC : Nat} {a : Int} {b : Int} {pivot : Int} {w : World} {R R' : Int → World → Prop} (h : C_slices_partitionEqualOrdered dataP dataN dataC a b pivot w R) (hr : ∀ r w1, R r w1 → R' r w1) : C_slices_partitionEqualOrdered dataP dataN dataC a b pivot w R' :=
  Calls.mono h fun _ _ ⟨r, he, h⟩ => ⟨r, he, hr r _ h⟩

/-- slices.partitionOrdered[int] -/
def C_slices_partitionOrdered (dataP : Option Addr) (dataN : Nat) (dataC : Nat) (a : Int) (b : Int) (pivot : Int) (w : World) (R : Int → Bool → World → Prop) : Prop :=
  Calls Try.prog 62 #[.slice dataP dataN dataC, .int .i64 a, .int .i64 b, .int .i64 pivot] w fun en w1 => ∃ (r0 : Int) (r1 : Bool), en = .returned (.tuple #[.int .i64 r0, .bool r1]) ∧ R r0 r1 w1
theorem C_slices_partitionOrdered.mono {dataP : Option Addr} {dataN : Nat} {dataC : Nat} {a : Int} {b : Int} {pivot : Int} {w : World} {R R' : Int → Bool → World → Prop} (h : C_slices_partitionOrdered dataP dataN dataC a b pivot w R) (hr : ∀ r0 r1 w1, R r0 r1 w1 → R' r0 r1 w1) : C_slices_partitionOrdered dataP dataN dataC a b pivot w R' :=
  Calls.mono h fun _ _ ⟨r0, r1, he, h⟩ => ⟨r0, r1, he, hr r0 r1 _ h⟩

/-- math/bits.Len32 -/
def C_math_bits_Len32 (x : Int) (w : World) (R : Int → World → Prop) : Prop :=
  Calls Try.prog 63 #[.int .u32 x] w fun en w1 => ∃ (r : Int), en = .returned (.int .i64 r) ∧ R r w1
theorem C_math_bits_Len32.mono {x : Int} {w : World} {R R' : Int → World → Prop} (h : C_math_bits_Len32 x w R) (hr : ∀ r w1, R r w1 → R' r w1) : C_math_bits_Len32 x w R' :=
  Calls.mono h fun _ _ ⟨r, he, h⟩ => ⟨r, he, hr r _ h⟩

/-- math/bits.Len64 -/
def C_math_bits_Len64 (x : Int) (w : World) (R : Int → World → Prop) : Prop :=
  Calls Try.prog 64 #[.int .u64 x] w fun en w1 => ∃ (r : Int), en = .returned (.int .i64 r) ∧ R r w1
theorem C_math_bits_Len64.mono {x : Int} {w : World} {R R' : Int → World → Prop} (h : C_math_bits_Len64 x w R) (hr : ∀ r w1, R r w1 → R' r w1) : C_math_bits_Len64 x w R' :=
  Calls.mono h fun _ _ ⟨r, he, h⟩ => ⟨r, he, hr r _ h⟩

/-- (elenchus/term.count).of -/
def C_term_count_of (cx : Option Addr) (t0 : Int) (t1 : Int) (t2 : ByteArray) (t3P : Option Addr) (t3N : Nat) (t3C : Nat) (depth : Int) (w : World) (R : World → Prop) : Prop :=
  Calls Try.prog 65 #[.pointer cx, .agg #[.int .i64 t0, .int .i64 t1, .string t2, .slice t3P t3N t3C], .int .i64 depth] w fun en w1 => en = .returned (.tuple #[]) ∧ R w1
theorem C_term_count_of.mono {cx : Option Addr} {t0 : Int} {t1 : Int} {t2 : ByteArray} {t3P : Option Addr} {t3N : Nat} {t3C : Nat} {depth : Int} {w : World} {R R' : World → Prop} (h : C_term_count_of cx t0 t1 t2 t3P t3N t3C depth w R) (hr : ∀ w1, R w1 → R' w1) : C_term_count_of cx t0 t1 t2 t3P t3N t3C depth w R' :=
  Calls.mono h fun _ _ ⟨he, h⟩ => ⟨he, hr _ h⟩

/-- elenchus/term.build -/
def C_term_build (t0 : Int) (t1 : Int) (t2 : ByteArray) (t3P : Option Addr) (t3N : Nat) (t3C : Nat) (of : Value) (w : World) (R : Int → Int → ByteArray → Option Addr → Nat → Nat → World → Prop) : Prop :=
  Calls Try.prog 66 #[.agg #[.int .i64 t0, .int .i64 t1, .string t2, .slice t3P t3N t3C], of] w fun en w1 => ∃ (r0 : Int) (r1 : Int) (r2 : ByteArray) (r3P : Option Addr) (r3N : Nat) (r3C : Nat), en = .returned (.agg #[.int .i64 r0, .int .i64 r1, .string r2, .slice r3P r3N r3C]) ∧ R r0 r1 r2 r3P r3N r3C w1
theorem C_term_build.mono {t0 : Int} {t1 : Int} {t2 : ByteArray} {t3P : Option Addr} {t3N : Nat} {t3C : Nat} {of : Value} {w : World} {R R' : Int → Int → ByteArray → Option Addr → Nat → Nat → World → Prop} (h : C_term_build t0 t1 t2 t3P t3N t3C of w R) (hr : ∀ r0 r1 r2 r3P r3N r3C w1, R r0 r1 r2 r3P r3N r3C w1 → R' r0 r1 r2 r3P r3N r3C w1) : C_term_build t0 t1 t2 t3P t3N t3C of w R' :=
  Calls.mono h fun _ _ ⟨r0, r1, r2, r3P, r3N, r3C, he, h⟩ => ⟨r0, r1, r2, r3P, r3N, r3C, he, hr r0 r1 r2 r3P r3N r3C _ h⟩

/-- (elenchus/term.namer).of -/
def C_term_namer_of (m : Option Addr) (n : Int) (w : World) (R : Int → Int → ByteArray → Option Addr → Nat → Nat → World → Prop) : Prop :=
  Calls Try.prog 67 #[.pointer m, .int .i64 n] w fun en w1 => ∃ (r0 : Int) (r1 : Int) (r2 : ByteArray) (r3P : Option Addr) (r3N : Nat) (r3C : Nat), en = .returned (.agg #[.int .i64 r0, .int .i64 r1, .string r2, .slice r3P r3N r3C]) ∧ R r0 r1 r2 r3P r3N r3C w1
theorem C_term_namer_of.mono {m : Option Addr} {n : Int} {w : World} {R R' : Int → Int → ByteArray → Option Addr → Nat → Nat → World → Prop} (h : C_term_namer_of m n w R) (hr : ∀ r0 r1 r2 r3P r3N r3C w1, R r0 r1 r2 r3P r3N r3C w1 → R' r0 r1 r2 r3P r3N r3C w1) : C_term_namer_of m n w R' :=
  Calls.mono h fun _ _ ⟨r0, r1, r2, r3P, r3N, r3C, he, h⟩ => ⟨r0, r1, r2, r3P, r3N, r3C, he, hr r0 r1 r2 r3P r3N r3C _ h⟩

/-- slices.insertionSortCmpFunc[elenchus/plan.span] -/
def C_slices_insertionSortCmpFunc (dataP : Option Addr) (dataN : Nat) (dataC : Nat) (a : Int) (b : Int) (cmp : Value) (w : World) (R : World → Prop) : Prop :=
  Calls Try.prog 68 #[.slice dataP dataN dataC, .int .i64 a, .int .i64 b, cmp] w fun en w1 => en = .returned (.tuple #[]) ∧ R w1
theorem C_slices_insertionSortCmpFunc.mono {dataP : Option Addr} {dataN : Nat} {dataC : Nat} {a : Int} {b : Int} {cmp : Value} {w : World} {R R' : World → Prop} (h : C_slices_insertionSortCmpFunc dataP dataN dataC a b cmp w R) (hr : ∀ w1, R w1 → R' w1) : C_slices_insertionSortCmpFunc dataP dataN dataC a b cmp w R' :=
  Calls.mono h fun _ _ ⟨he, h⟩ => ⟨he, hr _ h⟩

/-- slices.heapSortCmpFunc[elenchus/plan.span] -/
def C_slices_heapSortCmpFunc (dataP : Option Addr) (dataN : Nat) (dataC : Nat) (a : Int) (b : Int) (cmp : Value) (w : World) (R : World → Prop) : Prop :=
  Calls Try.prog 69 #[.slice dataP dataN dataC, .int .i64 a, .int .i64 b, cmp] w fun en w1 => en = .returned (.tuple #[]) ∧ R w1
theorem C_slices_heapSortCmpFunc.mono {dataP : Option Addr} {dataN : Nat} {dataC : Nat} {a : Int} {b : Int} {cmp : Value} {w : World} {R R' : World → Prop} (h : C_slices_heapSortCmpFunc dataP dataN dataC a b cmp w R) (hr : ∀ w1, R w1 → R' w1) : C_slices_heapSortCmpFunc dataP dataN dataC a b cmp w R' :=
  Calls.mono h fun _ _ ⟨he, h⟩ => ⟨he, hr _ h⟩

/-- slices.breakPatternsCmpFunc[elenchus/plan.span] -/
def C_slices_breakPatternsCmpFunc (dataP : Option Addr) (dataN : Nat) (dataC : Nat) (a : Int) (b : Int) (cmp : Value) (w : World) (R : World → Prop) : Prop :=
  Calls Try.prog 70 #[.slice dataP dataN dataC, .int .i64 a, .int .i64 b, cmp] w fun en w1 => en = .returned (.tuple #[]) ∧ R w1
theorem C_slices_breakPatternsCmpFunc.mono {dataP : Option Addr} {dataN : Nat} {dataC : Nat} {a : Int} {b : Int} {cmp : Value} {w : World} {R R' : World → Prop} (h : C_slices_breakPatternsCmpFunc dataP dataN dataC a b cmp w R) (hr : ∀ w1, R w1 → R' w1) : C_slices_breakPatternsCmpFunc dataP dataN dataC a b cmp w R' :=
  Calls.mono h fun _ _ ⟨he, h⟩ => ⟨he, hr _ h⟩

/-- slices.choosePivotCmpFunc[elenchus/plan.span] -/
def C_slices_choosePivotCmpFunc (dataP : Option Addr) (dataN : Nat) (dataC : Nat) (a : Int) (b : Int) (cmp : Value) (w : World) (R : Int → Int → World → Prop) : Prop :=
  Calls Try.prog 71 #[.slice dataP dataN dataC, .int .i64 a, .int .i64 b, cmp] w fun en w1 => ∃ (r0 : Int) (r1 : Int), en = .returned (.tuple #[.int .i64 r0, .int .i64 r1]) ∧ R r0 r1 w1
theorem C_slices_choosePivotCmpFunc.mono {dataP : Option Addr} {dataN : Nat} {dataC : Nat} {a : Int} {b : Int} {cmp : Value} {w : World} {R R' : Int → Int → World → Prop} (h : C_slices_choosePivotCmpFunc dataP dataN dataC a b cmp w R) (hr : ∀ r0 r1 w1, R r0 r1 w1 → R' r0 r1 w1) : C_slices_choosePivotCmpFunc dataP dataN dataC a b cmp w R' :=
  Calls.mono h fun _ _ ⟨r0, r1, he, h⟩ => ⟨r0, r1, he, hr r0 r1 _ h⟩

/-- slices.reverseRangeCmpFunc[elenchus/plan.span] -/
def C_slices_reverseRangeCmpFunc (dataP : Option Addr) (dataN : Nat) (dataC : Nat) (a : Int) (b : Int) (cmp : Value) (w : World) (R : World → Prop) : Prop :=
  Calls Try.prog 72 #[.slice dataP dataN dataC, .int .i64 a, .int .i64 b, cmp] w fun en w1 => en = .returned (.tuple #[]) ∧ R w1
theorem C_slices_reverseRangeCmpFunc.mono {dataP : Option Addr} {dataN : Nat} {dataC : Nat} {a : Int} {b : Int} {cmp : Value} {w : World} {R R' : World → Prop} (h : C_slices_reverseRangeCmpFunc dataP dataN dataC a b cmp w R) (hr : ∀ w1, R w1 → R' w1) : C_slices_reverseRangeCmpFunc dataP dataN dataC a b cmp w R' :=
  Calls.mono h fun _ _ ⟨he, h⟩ => ⟨he, hr _ h⟩

/-- slices.partialInsertionSortCmpFunc[elenchus/plan.span] -/
def C_slices_partialInsertionSortCmpFunc (dataP : Option Addr) (dataN : Nat) (dataC : Nat) (a : Int) (b : Int) (cmp : Value) (w : World) (R : Bool → World → Prop) : Prop :=
  Calls Try.prog 73 #[.slice dataP dataN dataC, .int .i64 a, .int .i64 b, cmp] w fun en w1 => ∃ (r : Bool), en = .returned (.bool r) ∧ R r w1
theorem C_slices_partialInsertionSortCmpFunc.mono {dataP : Option Addr} {dataN : Nat} {dataC : Nat} {a : Int} {b : Int} {cmp : Value} {w : World} {R R' : Bool → World → Prop} (h : C_slices_partialInsertionSortCmpFunc dataP dataN dataC a b cmp w R) (hr : ∀ r w1, R r w1 → R' r w1) : C_slices_partialInsertionSortCmpFunc dataP dataN dataC a b cmp w R' :=
  Calls.mono h fun _ _ ⟨r, he, h⟩ => ⟨r, he, hr r _ h⟩

/-- slices.partitionEqualCmpFunc[elenchus/plan.span] -/
def C_slices_partitionEqualCmpFunc (dataP : Option Addr) (dataN : Nat) (dataC : Nat) (a : Int) (b : Int) (pivot : Int) (cmp : Value) (w : World) (R : Int → World → Prop) : Prop :=
  Calls Try.prog 74 #[.slice dataP dataN dataC, .int .i64 a, .int .i64 b, .int .i64 pivot, cmp] w fun en w1 => ∃ (r : Int), en = .returned (.int .i64 r) ∧ R r w1
theorem C_slices_partitionEqualCmpFunc.mono {dataP : Option Addr} {dataN : Nat} {dataC : Nat} {a : Int} {b : Int} {pivot : Int} {cmp : Value} {w : World} {R R' : Int → World → Prop} (h : C_slices_partitionEqualCmpFunc dataP dataN dataC a b pivot cmp w R) (hr : ∀ r w1, R r w1 → R' r w1) : C_slices_partitionEqualCmpFunc dataP dataN dataC a b pivot cmp w R' :=
  Calls.mono h fun _ _ ⟨r, he, h⟩ => ⟨r, he, hr r _ h⟩

/-- slices.partitionCmpFunc[elenchus/plan.span] -/
def C_slices_partitionCmpFunc (dataP : Option Addr) (dataN : Nat) (dataC : Nat) (a : Int) (b : Int) (pivot : Int) (cmp : Value) (w : World) (R : Int → Bool → World → Prop) : Prop :=
  Calls Try.prog 75 #[.slice dataP dataN dataC, .int .i64 a, .int .i64 b, .int .i64 pivot, cmp] w fun en w1 => ∃ (r0 : Int) (r1 : Bool), en = .returned (.tuple #[.int .i64 r0, .bool r1]) ∧ R r0 r1 w1
theorem C_slices_partitionCmpFunc.mono {dataP : Option Addr} {dataN : Nat} {dataC : Nat} {a : Int} {b : Int} {pivot : Int} {cmp : Value} {w : World} {R R' : Int → Bool → World → Prop} (h : C_slices_partitionCmpFunc dataP dataN dataC a b pivot cmp w R) (hr : ∀ r0 r1 w1, R r0 r1 w1 → R' r0 r1 w1) : C_slices_partitionCmpFunc dataP dataN dataC a b pivot cmp w R' :=
  Calls.mono h fun _ _ ⟨r0, r1, he, h⟩ => ⟨r0, r1, he, hr r0 r1 _ h⟩

/-- slices.siftDownOrdered[int] -/
def C_slices_siftDownOrdered (dataP : Option Addr) (dataN : Nat) (dataC : Nat) (lo : Int) (hi : Int) (first : Int) (w : World) (R : World → Prop) : Prop :=
  Calls Try.prog 76 #[.slice dataP dataN dataC, .int .i64 lo, .int .i64 hi, .int .i64 first] w fun en w1 => en = .returned (.tuple #[]) ∧ R w1
theorem C_slices_siftDownOrdered.mono {dataP : Option Addr} {dataN : Nat} {dataC : Nat} {lo : Int} {hi : Int} {first : Int} {w : World} {R R' : World → Prop} (h : C_slices_siftDownOrdered dataP dataN dataC lo hi first w R) (hr : ∀ w1, R w1 → R' w1) : C_slices_siftDownOrdered dataP dataN dataC lo hi first w R' :=
  Calls.mono h fun _ _ ⟨he, h⟩ => ⟨he, hr _ h⟩

/-- slices.nextPowerOfTwo -/
def C_slices_nextPowerOfTwo (length : Int) (w : World) (R : Int → World → Prop) : Prop :=
  Calls Try.prog 77 #[.int .i64 length] w fun en w1 => ∃ (r : Int), en = .returned (.int .u64 r) ∧ R r w1
theorem C_slices_nextPowerOfTwo.mono {length : Int} {w : World} {R R' : Int → World → Prop} (h : C_slices_nextPowerOfTwo length w R) (hr : ∀ r w1, R r w1 → R' r w1) : C_slices_nextPowerOfTwo length w R' :=
  Calls.mono h fun _ _ ⟨r, he, h⟩ => ⟨r, he, hr r _ h⟩

/-- (slices.xorshift).Next -/
def C_slices_xorshift_Next (r : Option Addr) (w : World) (R : Int → World → Prop) : Prop :=
  Calls Try.prog 78 #[.pointer r] w fun en w1 => ∃ (r_1 : Int), en = .returned (.int .u64 r_1) ∧ R r_1 w1
theorem C_slices_xorshift_Next.mono {r : Option Addr} {w : World} {R R' : Int → World → Prop} (h : C_slices_xorshift_Next r w R) (hr : ∀ r_1 w1, R r_1 w1 → R' r_1 w1) : C_slices_xorshift_Next r w R' :=
  Calls.mono h fun _ _ ⟨r_1, he, h⟩ => ⟨r_1, he, hr r_1 _ h⟩

/-- slices.medianAdjacentOrdered[int] -/
def C_slices_medianAdjacentOrdered (dataP : Option Addr) (dataN : Nat) (dataC : Nat) (a : Int) (swaps : Option Addr) (w : World) (R : Int → World → Prop) : Prop :=
  Calls Try.prog 79 #[.slice dataP dataN dataC, .int .i64 a, .pointer swaps] w fun en w1 => ∃ (r : Int), en = .returned (.int .i64 r) ∧ R r w1
theorem C_slices_medianAdjacentOrdered.mono {dataP : Option Addr} {dataN : Nat} {dataC : Nat} {a : Int} {swaps : Option Addr} {w : World} {R R' : Int → World → Prop} (h : C_slices_medianAdjacentOrdered dataP dataN dataC a swaps w R) (hr : ∀ r w1, R r w1 → R' r w1) : C_slices_medianAdjacentOrdered dataP dataN dataC a swaps w R' :=
  Calls.mono h fun _ _ ⟨r, he, h⟩ => ⟨r, he, hr r _ h⟩

/-- slices.medianOrdered[int] -/
def C_slices_medianOrdered (dataP : Option Addr) (dataN : Nat) (dataC : Nat) (a : Int) (b : Int) (cx : Int) (swaps : Option Addr) (w : World) (R : Int → World → Prop) : Prop :=
  Calls Try.prog 80 #[.slice dataP dataN dataC, .int .i64 a, .int .i64 b, .int .i64 cx, .pointer swaps] w fun en w1 => ∃ (r : Int), en = .returned (.int .i64 r) ∧ R r w1
theorem C_slices_medianOrdered.mono {dataP : Option Addr} {dataN : Nat} {dataC : Nat} {a : Int} {b : Int} {cx : Int} {swaps : Option Addr} {w : World} {R R' : Int → World → Prop} (h : C_slices_medianOrdered dataP dataN dataC a b cx swaps w R) (hr : ∀ r w1, R r w1 → R' r w1) : C_slices_medianOrdered dataP dataN dataC a b cx swaps w R' :=
  Calls.mono h fun _ _ ⟨r, he, h⟩ => ⟨r, he, hr r _ h⟩

/-- elenchus/term.part -/
def C_term_part (t0 : Int) (t1 : Int) (t2 : ByteArray) (t3P : Option Addr) (t3N : Nat) (t3C : Nat) (w : World) (R : Bool → World → Prop) : Prop :=
  Calls Try.prog 81 #[.agg #[.int .i64 t0, .int .i64 t1, .string t2, .slice t3P t3N t3C]] w fun en w1 => ∃ (r : Bool), en = .returned (.bool r) ∧ R r w1
theorem C_term_part.mono {t0 : Int} {t1 : Int} {t2 : ByteArray} {t3P : Option Addr} {t3N : Nat} {t3C : Nat} {w : World} {R R' : Bool → World → Prop} (h : C_term_part t0 t1 t2 t3P t3N t3C w R) (hr : ∀ r w1, R r w1 → R' r w1) : C_term_part t0 t1 t2 t3P t3N t3C w R' :=
  Calls.mono h fun _ _ ⟨r, he, h⟩ => ⟨r, he, hr r _ h⟩

/-- elenchus/term.Var -/
def C_term_Var (n : Int) (w : World) (R : Int → Int → ByteArray → Option Addr → Nat → Nat → World → Prop) : Prop :=
  Calls Try.prog 82 #[.int .i64 n] w fun en w1 => ∃ (r0 : Int) (r1 : Int) (r2 : ByteArray) (r3P : Option Addr) (r3N : Nat) (r3C : Nat), en = .returned (.agg #[.int .i64 r0, .int .i64 r1, .string r2, .slice r3P r3N r3C]) ∧ R r0 r1 r2 r3P r3N r3C w1
theorem C_term_Var.mono {n : Int} {w : World} {R R' : Int → Int → ByteArray → Option Addr → Nat → Nat → World → Prop} (h : C_term_Var n w R) (hr : ∀ r0 r1 r2 r3P r3N r3C w1, R r0 r1 r2 r3P r3N r3C w1 → R' r0 r1 r2 r3P r3N r3C w1) : C_term_Var n w R' :=
  Calls.mono h fun _ _ ⟨r0, r1, r2, r3P, r3N, r3C, he, h⟩ => ⟨r0, r1, r2, r3P, r3N, r3C, he, hr r0 r1 r2 r3P r3N r3C _ h⟩

/-- slices.siftDownCmpFunc[elenchus/plan.span] -/
def C_slices_siftDownCmpFunc (dataP : Option Addr) (dataN : Nat) (dataC : Nat) (lo : Int) (hi : Int) (first : Int) (cmp : Value) (w : World) (R : World → Prop) : Prop :=
  Calls Try.prog 83 #[.slice dataP dataN dataC, .int .i64 lo, .int .i64 hi, .int .i64 first, cmp] w fun en w1 => en = .returned (.tuple #[]) ∧ R w1
theorem C_slices_siftDownCmpFunc.mono {dataP : Option Addr} {dataN : Nat} {dataC : Nat} {lo : Int} {hi : Int} {first : Int} {cmp : Value} {w : World} {R R' : World → Prop} (h : C_slices_siftDownCmpFunc dataP dataN dataC lo hi first cmp w R) (hr : ∀ w1, R w1 → R' w1) : C_slices_siftDownCmpFunc dataP dataN dataC lo hi first cmp w R' :=
  Calls.mono h fun _ _ ⟨he, h⟩ => ⟨he, hr _ h⟩

/-- slices.medianAdjacentCmpFunc[elenchus/plan.span] -/
def C_slices_medianAdjacentCmpFunc (dataP : Option Addr) (dataN : Nat) (dataC : Nat) (a : Int) (swaps : Option Addr) (cmp : Value) (w : World) (R : Int → World → Prop) : Prop :=
  Calls Try.prog 84 #[.slice dataP dataN dataC, .int .i64 a, .pointer swaps, cmp] w fun en w1 => ∃ (r : Int), en = .returned (.int .i64 r) ∧ R r w1
theorem C_slices_medianAdjacentCmpFunc.mono {dataP : Option Addr} {dataN : Nat} {dataC : Nat} {a : Int} {swaps : Option Addr} {cmp : Value} {w : World} {R R' : Int → World → Prop} (h : C_slices_medianAdjacentCmpFunc dataP dataN dataC a swaps cmp w R) (hr : ∀ r w1, R r w1 → R' r w1) : C_slices_medianAdjacentCmpFunc dataP dataN dataC a swaps cmp w R' :=
  Calls.mono h fun _ _ ⟨r, he, h⟩ => ⟨r, he, hr r _ h⟩

/-- slices.medianCmpFunc[elenchus/plan.span] -/
def C_slices_medianCmpFunc (dataP : Option Addr) (dataN : Nat) (dataC : Nat) (a : Int) (b : Int) (cx : Int) (swaps : Option Addr) (cmp : Value) (w : World) (R : Int → World → Prop) : Prop :=
  Calls Try.prog 85 #[.slice dataP dataN dataC, .int .i64 a, .int .i64 b, .int .i64 cx, .pointer swaps, cmp] w fun en w1 => ∃ (r : Int), en = .returned (.int .i64 r) ∧ R r w1
theorem C_slices_medianCmpFunc.mono {dataP : Option Addr} {dataN : Nat} {dataC : Nat} {a : Int} {b : Int} {cx : Int} {swaps : Option Addr} {cmp : Value} {w : World} {R R' : Int → World → Prop} (h : C_slices_medianCmpFunc dataP dataN dataC a b cx swaps cmp w R) (hr : ∀ r w1, R r w1 → R' r w1) : C_slices_medianCmpFunc dataP dataN dataC a b cx swaps cmp w R' :=
  Calls.mono h fun _ _ ⟨r, he, h⟩ => ⟨r, he, hr r _ h⟩

/-- slices.order2Ordered[int] -/
def C_slices_order2Ordered (dataP : Option Addr) (dataN : Nat) (dataC : Nat) (a : Int) (b : Int) (swaps : Option Addr) (w : World) (R : Int → Int → World → Prop) : Prop :=
  Calls Try.prog 86 #[.slice dataP dataN dataC, .int .i64 a, .int .i64 b, .pointer swaps] w fun en w1 => ∃ (r0 : Int) (r1 : Int), en = .returned (.tuple #[.int .i64 r0, .int .i64 r1]) ∧ R r0 r1 w1
theorem C_slices_order2Ordered.mono {dataP : Option Addr} {dataN : Nat} {dataC : Nat} {a : Int} {b : Int} {swaps : Option Addr} {w : World} {R R' : Int → Int → World → Prop} (h : C_slices_order2Ordered dataP dataN dataC a b swaps w R) (hr : ∀ r0 r1 w1, R r0 r1 w1 → R' r0 r1 w1) : C_slices_order2Ordered dataP dataN dataC a b swaps w R' :=
  Calls.mono h fun _ _ ⟨r0, r1, he, h⟩ => ⟨r0, r1, he, hr r0 r1 _ h⟩

/-- elenchus/term.bare -/
def C_term_bare (t0 : Int) (t1 : Int) (t2 : ByteArray) (t3P : Option Addr) (t3N : Nat) (t3C : Nat) (w : World) (R : Bool → World → Prop) : Prop :=
  Calls Try.prog 87 #[.agg #[.int .i64 t0, .int .i64 t1, .string t2, .slice t3P t3N t3C]] w fun en w1 => ∃ (r : Bool), en = .returned (.bool r) ∧ R r w1
theorem C_term_bare.mono {t0 : Int} {t1 : Int} {t2 : ByteArray} {t3P : Option Addr} {t3N : Nat} {t3C : Nat} {w : World} {R R' : Bool → World → Prop} (h : C_term_bare t0 t1 t2 t3P t3N t3C w R) (hr : ∀ r w1, R r w1 → R' r w1) : C_term_bare t0 t1 t2 t3P t3N t3C w R' :=
  Calls.mono h fun _ _ ⟨r, he, h⟩ => ⟨r, he, hr r _ h⟩

/-- slices.order2CmpFunc[elenchus/plan.span] -/
def C_slices_order2CmpFunc (dataP : Option Addr) (dataN : Nat) (dataC : Nat) (a : Int) (b : Int) (swaps : Option Addr) (cmp : Value) (w : World) (R : Int → Int → World → Prop) : Prop :=
  Calls Try.prog 88 #[.slice dataP dataN dataC, .int .i64 a, .int .i64 b, .pointer swaps, cmp] w fun en w1 => ∃ (r0 : Int) (r1 : Int), en = .returned (.tuple #[.int .i64 r0, .int .i64 r1]) ∧ R r0 r1 w1
theorem C_slices_order2CmpFunc.mono {dataP : Option Addr} {dataN : Nat} {dataC : Nat} {a : Int} {b : Int} {swaps : Option Addr} {cmp : Value} {w : World} {R R' : Int → Int → World → Prop} (h : C_slices_order2CmpFunc dataP dataN dataC a b swaps cmp w R) (hr : ∀ r0 r1 w1, R r0 r1 w1 → R' r0 r1 w1) : C_slices_order2CmpFunc dataP dataN dataC a b swaps cmp w R' :=
  Calls.mono h fun _ _ ⟨r0, r1, he, h⟩ => ⟨r0, r1, he, hr r0 r1 _ h⟩

theorem ofS1 {f : FuncId} {fn : Func} {c : Code} (hf : Try.prog.funcs[f]? = some fn) (hb : fn.body = some c) {G : Gen} (hL : LoopOk Try.prog fn.ntmps G c) {args : List Value} (hn : Nat.ble args.length fn.ntmps = true) {w : World} {Fm : (World → Prop) → Prop}
    (hF : ∀ R : Value → World → Prop, Fm (fun w1 => R (.tuple #[]) w1) = den Try.prog fn.ntmps G c [] (postD Try.prog fn.results.toList R) (entry args 0) w) {R : World → Prop} (h : Fm R) : Calls Try.prog f args.toArray w fun e w1 => e = .returned (.tuple #[]) ∧ R w1 := by
  refine (calls_of_den seat_ok seat_mixed hf hb hL (args := args) hn (R := fun v w1 => v = (.tuple #[] : Value) ∧ R w1) ?_).mono ?_
  · rw [← hF]
    simpa using h
  · rintro en w1 ⟨v, he, rfl, h⟩
    exact ⟨he, h⟩

theorem ofS2 {f : FuncId} {fn : Func} {c : Code} (hf : Try.prog.funcs[f]? = some fn) (hb : fn.body = some c) {G : Gen} (hL : LoopOk Try.prog fn.ntmps G c) {args : List Value} (hn : Nat.ble args.length fn.ntmps = true) {w : World} {Fm : (Bool → World → Prop) → Prop}
    (hF : ∀ R : Value → World → Prop, Fm (fun q0 w1 => R (.bool q0) w1) = den Try.prog fn.ntmps G c [] (postD Try.prog fn.results.toList R) (entry args 0) w) {R : Bool → World → Prop} (h : Fm R) : Calls Try.prog f args.toArray w fun e w1 => ∃ (q0 : Bool), e = .returned (.bool q0) ∧ R q0 w1 := by
  refine (calls_of_den seat_ok seat_mixed hf hb hL (args := args) hn (R := fun v w1 => ∃ (q0 : Bool), v = (.bool q0 : Value) ∧ R q0 w1) ?_).mono ?_
  · rw [← hF]
    have e : (fun q0 w1 => ∃ (q0' : Bool), (.bool q0 : Value) = (.bool q0' : Value) ∧ R q0' w1) = R := by
      funext q0 w1
      exact propext ⟨fun ⟨q0', he, h⟩ => by first | (simp at he; simp_all) | (cases he; exact h), fun h => ⟨_, rfl, h⟩⟩
    simpa only [e] using h
  · rintro en w1 ⟨v, he, q0, rfl, h⟩
    exact ⟨_, he, h⟩

theorem ofS3 {f : FuncId} {fn : Func} {c : Code} (hf : Try.prog.funcs[f]? = some fn) (hb : fn.body = some c) {G : Gen} (hL : LoopOk Try.prog fn.ntmps G c) {args : List Value} (hn : Nat.ble args.length fn.ntmps = true) {w : World} {Fm : (Bool → Option Addr → Nat → Nat → Int → Option Addr → Nat → Nat → Int → World → Prop) → Prop}
    (hF : ∀ R : Value → World → Prop, Fm (fun q0 q1 q2 q3 q4 q5 q6 q7 q8 w1 => R (.tuple #[.agg #[.bool q0, .slice q1 q2 q3, .int .i64 q4, .slice q5 q6 q7], .int .i64 q8]) w1) = den Try.prog fn.ntmps G c [] (postD Try.prog fn.results.toList R) (entry args 0) w) {R : Bool → Option Addr → Nat → Nat → Int → Option Addr → Nat → Nat → Int → World → Prop} (h : Fm R) : Calls Try.prog f args.toArray w fun e w1 => ∃ (q0 : Bool) (q1 : Option Addr) (q2 : Nat) (q3 : Nat) (q4 : Int) (q5 : Option Addr) (q6 : Nat) (q7 : Nat) (q8 : Int), e = .returned (.tuple #[.agg #[.bool q0, .slice q1 q2 q3, .int .i64 q4, .slice q5 q6 q7], .int .i64 q8]) ∧ R q0 q1 q2 q3 q4 q5 q6 q7 q8 w1 := by
  refine (calls_of_den seat_ok seat_mixed hf hb hL (args := args) hn (R := fun v w1 => ∃ (q0 : Bool) (q1 : Option Addr) (q2 : Nat) (q3 : Nat) (q4 : Int) (q5 : Option Addr) (q6 : Nat) (q7 : Nat) (q8 : Int), v = (.tuple #[.agg #[.bool q0, .slice q1 q2 q3, .int .i64 q4, .slice q5 q6 q7], .int .i64 q8] : Value) ∧ R q0 q1 q2 q3 q4 q5 q6 q7 q8 w1) ?_).mono ?_
  · rw [← hF]
    have e : (fun q0 q1 q2 q3 q4 q5 q6 q7 q8 w1 => ∃ (q0' : Bool) (q1' : Option Addr) (q2' : Nat) (q3' : Nat) (q4' : Int) (q5' : Option Addr) (q6' : Nat) (q7' : Nat) (q8' : Int), (.tuple #[.agg #[.bool q0, .slice q1 q2 q3, .int .i64 q4, .slice q5 q6 q7], .int .i64 q8] : Value) = (.tuple #[.agg #[.bool q0', .slice q1' q2' q3', .int .i64 q4', .slice q5' q6' q7'], .int .i64 q8'] : Value) ∧ R q0' q1' q2' q3' q4' q5' q6' q7' q8' w1) = R := by
      funext q0 q1 q2 q3 q4 q5 q6 q7 q8 w1
      exact propext ⟨fun ⟨q0', q1', q2', q3', q4', q5', q6', q7', q8', he, h⟩ => by first | (simp at he; simp_all) | (cases he; exact h), fun h => ⟨_, _, _, _, _, _, _, _, _, rfl, h⟩⟩
    simpa only [e] using h
  · rintro en w1 ⟨v, he, q0, q1, q2, q3, q4, q5, q6, q7, q8, rfl, h⟩
    exact ⟨_, _, _, _, _, _, _, _, _, he, h⟩

theorem ofS4 {f : FuncId} {fn : Func} {c : Code} (hf : Try.prog.funcs[f]? = some fn) (hb : fn.body = some c) {G : Gen} (hL : LoopOk Try.prog fn.ntmps G c) {args : List Value} (hn : Nat.ble args.length fn.ntmps = true) {w : World} {Fm : (Option Addr → Nat → Nat → World → Prop) → Prop}
    (hF : ∀ R : Value → World → Prop, Fm (fun q0 q1 q2 w1 => R (.slice q0 q1 q2) w1) = den Try.prog fn.ntmps G c [] (postD Try.prog fn.results.toList R) (entry args 0) w) {R : Option Addr → Nat → Nat → World → Prop} (h : Fm R) : Calls Try.prog f args.toArray w fun e w1 => ∃ (q0 : Option Addr) (q1 : Nat) (q2 : Nat), e = .returned (.slice q0 q1 q2) ∧ R q0 q1 q2 w1 := by
  refine (calls_of_den seat_ok seat_mixed hf hb hL (args := args) hn (R := fun v w1 => ∃ (q0 : Option Addr) (q1 : Nat) (q2 : Nat), v = (.slice q0 q1 q2 : Value) ∧ R q0 q1 q2 w1) ?_).mono ?_
  · rw [← hF]
    have e : (fun q0 q1 q2 w1 => ∃ (q0' : Option Addr) (q1' : Nat) (q2' : Nat), (.slice q0 q1 q2 : Value) = (.slice q0' q1' q2' : Value) ∧ R q0' q1' q2' w1) = R := by
      funext q0 q1 q2 w1
      exact propext ⟨fun ⟨q0', q1', q2', he, h⟩ => by first | (simp at he; simp_all) | (cases he; exact h), fun h => ⟨_, _, _, rfl, h⟩⟩
    simpa only [e] using h
  · rintro en w1 ⟨v, he, q0, q1, q2, rfl, h⟩
    exact ⟨_, _, _, he, h⟩

theorem ofS5 {f : FuncId} {fn : Func} {c : Code} (hf : Try.prog.funcs[f]? = some fn) (hb : fn.body = some c) {G : Gen} (hL : LoopOk Try.prog fn.ntmps G c) {args : List Value} (hn : Nat.ble args.length fn.ntmps = true) {w : World} {Fm : (Int → World → Prop) → Prop}
    (hF : ∀ R : Value → World → Prop, Fm (fun q0 w1 => R (.int .i64 q0) w1) = den Try.prog fn.ntmps G c [] (postD Try.prog fn.results.toList R) (entry args 0) w) {R : Int → World → Prop} (h : Fm R) : Calls Try.prog f args.toArray w fun e w1 => ∃ (q0 : Int), e = .returned (.int .i64 q0) ∧ R q0 w1 := by
  refine (calls_of_den seat_ok seat_mixed hf hb hL (args := args) hn (R := fun v w1 => ∃ (q0 : Int), v = (.int .i64 q0 : Value) ∧ R q0 w1) ?_).mono ?_
  · rw [← hF]
    have e : (fun q0 w1 => ∃ (q0' : Int), (.int .i64 q0 : Value) = (.int .i64 q0' : Value) ∧ R q0' w1) = R := by
      funext q0 w1
      exact propext ⟨fun ⟨q0', he, h⟩ => by first | (simp at he; simp_all) | (cases he; exact h), fun h => ⟨_, rfl, h⟩⟩
    simpa only [e] using h
  · rintro en w1 ⟨v, he, q0, rfl, h⟩
    exact ⟨_, he, h⟩

theorem ofS6 {f : FuncId} {fn : Func} {c : Code} (hf : Try.prog.funcs[f]? = some fn) (hb : fn.body = some c) {G : Gen} (hL : LoopOk Try.prog fn.ntmps G c) {args : List Value} (hn : Nat.ble args.length fn.ntmps = true) {w : World} {Fm : (Int → Int → ByteArray → Option Addr → Nat → Nat → Option Addr → Nat → Nat → Int → World → Prop) → Prop}
    (hF : ∀ R : Value → World → Prop, Fm (fun q0 q1 q2 q3 q4 q5 q6 q7 q8 q9 w1 => R (.agg #[.int .i64 q0, .int .i64 q1, .string q2, .slice q3 q4 q5, .slice q6 q7 q8, .int .i64 q9]) w1) = den Try.prog fn.ntmps G c [] (postD Try.prog fn.results.toList R) (entry args 0) w) {R : Int → Int → ByteArray → Option Addr → Nat → Nat → Option Addr → Nat → Nat → Int → World → Prop} (h : Fm R) : Calls Try.prog f args.toArray w fun e w1 => ∃ (q0 : Int) (q1 : Int) (q2 : ByteArray) (q3 : Option Addr) (q4 : Nat) (q5 : Nat) (q6 : Option Addr) (q7 : Nat) (q8 : Nat) (q9 : Int), e = .returned (.agg #[.int .i64 q0, .int .i64 q1, .string q2, .slice q3 q4 q5, .slice q6 q7 q8, .int .i64 q9]) ∧ R q0 q1 q2 q3 q4 q5 q6 q7 q8 q9 w1 := by
  refine (calls_of_den seat_ok seat_mixed hf hb hL (args := args) hn (R := fun v w1 => ∃ (q0 : Int) (q1 : Int) (q2 : ByteArray) (q3 : Option Addr) (q4 : Nat) (q5 : Nat) (q6 : Option Addr) (q7 : Nat) (q8 : Nat) (q9 : Int), v = (.agg #[.int .i64 q0, .int .i64 q1, .string q2, .slice q3 q4 q5, .slice q6 q7 q8, .int .i64 q9] : Value) ∧ R q0 q1 q2 q3 q4 q5 q6 q7 q8 q9 w1) ?_).mono ?_
  · rw [← hF]
    have e : (fun q0 q1 q2 q3 q4 q5 q6 q7 q8 q9 w1 => ∃ (q0' : Int) (q1' : Int) (q2' : ByteArray) (q3' : Option Addr) (q4' : Nat) (q5' : Nat) (q6' : Option Addr) (q7' : Nat) (q8' : Nat) (q9' : Int), (.agg #[.int .i64 q0, .int .i64 q1, .string q2, .slice q3 q4 q5, .slice q6 q7 q8, .int .i64 q9] : Value) = (.agg #[.int .i64 q0', .int .i64 q1', .string q2', .slice q3' q4' q5', .slice q6' q7' q8', .int .i64 q9'] : Value) ∧ R q0' q1' q2' q3' q4' q5' q6' q7' q8' q9' w1) = R := by
      funext q0 q1 q2 q3 q4 q5 q6 q7 q8 q9 w1
      exact propext ⟨fun ⟨q0', q1', q2', q3', q4', q5', q6', q7', q8', q9', he, h⟩ => by first | (simp at he; simp_all) | (cases he; exact h), fun h => ⟨_, _, _, _, _, _, _, _, _, _, rfl, h⟩⟩
    simpa only [e] using h
  · rintro en w1 ⟨v, he, q0, q1, q2, q3, q4, q5, q6, q7, q8, q9, rfl, h⟩
    exact ⟨_, _, _, _, _, _, _, _, _, _, he, h⟩

theorem ofS7 {f : FuncId} {fn : Func} {c : Code} (hf : Try.prog.funcs[f]? = some fn) (hb : fn.body = some c) {G : Gen} (hL : LoopOk Try.prog fn.ntmps G c) {args : List Value} (hn : Nat.ble args.length fn.ntmps = true) {w : World} {Fm : (Int → Int → ByteArray → Option Addr → Nat → Nat → World → Prop) → Prop}
    (hF : ∀ R : Value → World → Prop, Fm (fun q0 q1 q2 q3 q4 q5 w1 => R (.agg #[.int .i64 q0, .int .i64 q1, .string q2, .slice q3 q4 q5]) w1) = den Try.prog fn.ntmps G c [] (postD Try.prog fn.results.toList R) (entry args 0) w) {R : Int → Int → ByteArray → Option Addr → Nat → Nat → World → Prop} (h : Fm R) : Calls Try.prog f args.toArray w fun e w1 => ∃ (q0 : Int) (q1 : Int) (q2 : ByteArray) (q3 : Option Addr) (q4 : Nat) (q5 : Nat), e = .returned (.agg #[.int .i64 q0, .int .i64 q1, .string q2, .slice q3 q4 q5]) ∧ R q0 q1 q2 q3 q4 q5 w1 := by
  refine (calls_of_den seat_ok seat_mixed hf hb hL (args := args) hn (R := fun v w1 => ∃ (q0 : Int) (q1 : Int) (q2 : ByteArray) (q3 : Option Addr) (q4 : Nat) (q5 : Nat), v = (.agg #[.int .i64 q0, .int .i64 q1, .string q2, .slice q3 q4 q5] : Value) ∧ R q0 q1 q2 q3 q4 q5 w1) ?_).mono ?_
  · rw [← hF]
    have e : (fun q0 q1 q2 q3 q4 q5 w1 => ∃ (q0' : Int) (q1' : Int) (q2' : ByteArray) (q3' : Option Addr) (q4' : Nat) (q5' : Nat), (.agg #[.int .i64 q0, .int .i64 q1, .string q2, .slice q3 q4 q5] : Value) = (.agg #[.int .i64 q0', .int .i64 q1', .string q2', .slice q3' q4' q5'] : Value) ∧ R q0' q1' q2' q3' q4' q5' w1) = R := by
      funext q0 q1 q2 q3 q4 q5 w1
      exact propext ⟨fun ⟨q0', q1', q2', q3', q4', q5', he, h⟩ => by first | (simp at he; simp_all) | (cases he; exact h), fun h => ⟨_, _, _, _, _, _, rfl, h⟩⟩
    simpa only [e] using h
  · rintro en w1 ⟨v, he, q0, q1, q2, q3, q4, q5, rfl, h⟩
    exact ⟨_, _, _, _, _, _, he, h⟩

theorem ofS8 {f : FuncId} {fn : Func} {c : Code} (hf : Try.prog.funcs[f]? = some fn) (hb : fn.body = some c) {G : Gen} (hL : LoopOk Try.prog fn.ntmps G c) {args : List Value} (hn : Nat.ble args.length fn.ntmps = true) {w : World} {Fm : (Int → Int → Int → ByteArray → Option Addr → Nat → Nat → World → Prop) → Prop}
    (hF : ∀ R : Value → World → Prop, Fm (fun q0 q1 q2 q3 q4 q5 q6 w1 => R (.agg #[.int .i64 q0, .int .i64 q1, .int .i64 q2, .string q3, .slice q4 q5 q6]) w1) = den Try.prog fn.ntmps G c [] (postD Try.prog fn.results.toList R) (entry args 0) w) {R : Int → Int → Int → ByteArray → Option Addr → Nat → Nat → World → Prop} (h : Fm R) : Calls Try.prog f args.toArray w fun e w1 => ∃ (q0 : Int) (q1 : Int) (q2 : Int) (q3 : ByteArray) (q4 : Option Addr) (q5 : Nat) (q6 : Nat), e = .returned (.agg #[.int .i64 q0, .int .i64 q1, .int .i64 q2, .string q3, .slice q4 q5 q6]) ∧ R q0 q1 q2 q3 q4 q5 q6 w1 := by
  refine (calls_of_den seat_ok seat_mixed hf hb hL (args := args) hn (R := fun v w1 => ∃ (q0 : Int) (q1 : Int) (q2 : Int) (q3 : ByteArray) (q4 : Option Addr) (q5 : Nat) (q6 : Nat), v = (.agg #[.int .i64 q0, .int .i64 q1, .int .i64 q2, .string q3, .slice q4 q5 q6] : Value) ∧ R q0 q1 q2 q3 q4 q5 q6 w1) ?_).mono ?_
  · rw [← hF]
    have e : (fun q0 q1 q2 q3 q4 q5 q6 w1 => ∃ (q0' : Int) (q1' : Int) (q2' : Int) (q3' : ByteArray) (q4' : Option Addr) (q5' : Nat) (q6' : Nat), (.agg #[.int .i64 q0, .int .i64 q1, .int .i64 q2, .string q3, .slice q4 q5 q6] : Value) = (.agg #[.int .i64 q0', .int .i64 q1', .int .i64 q2', .string q3', .slice q4' q5' q6'] : Value) ∧ R q0' q1' q2' q3' q4' q5' q6' w1) = R := by
      funext q0 q1 q2 q3 q4 q5 q6 w1
      exact propext ⟨fun ⟨q0', q1', q2', q3', q4', q5', q6', he, h⟩ => by first | (simp at he; simp_all) | (cases he; exact h), fun h => ⟨_, _, _, _, _, _, _, rfl, h⟩⟩
    simpa only [e] using h
  · rintro en w1 ⟨v, he, q0, q1, q2, q3, q4, q5, q6, rfl, h⟩
    exact ⟨_, _, _, _, _, _, _, he, h⟩

theorem ofS9 {f : FuncId} {fn : Func} {c : Code} (hf : Try.prog.funcs[f]? = some fn) (hb : fn.body = some c) {G : Gen} (hL : LoopOk Try.prog fn.ntmps G c) {args : List Value} (hn : Nat.ble args.length fn.ntmps = true) {w : World} {Fm : (Option Nat → Int → World → Prop) → Prop}
    (hF : ∀ R : Value → World → Prop, Fm (fun q0 q1 w1 => R (.tuple #[.map q0, .int .i64 q1]) w1) = den Try.prog fn.ntmps G c [] (postD Try.prog fn.results.toList R) (entry args 0) w) {R : Option Nat → Int → World → Prop} (h : Fm R) : Calls Try.prog f args.toArray w fun e w1 => ∃ (q0 : Option Nat) (q1 : Int), e = .returned (.tuple #[.map q0, .int .i64 q1]) ∧ R q0 q1 w1 := by
  refine (calls_of_den seat_ok seat_mixed hf hb hL (args := args) hn (R := fun v w1 => ∃ (q0 : Option Nat) (q1 : Int), v = (.tuple #[.map q0, .int .i64 q1] : Value) ∧ R q0 q1 w1) ?_).mono ?_
  · rw [← hF]
    have e : (fun q0 q1 w1 => ∃ (q0' : Option Nat) (q1' : Int), (.tuple #[.map q0, .int .i64 q1] : Value) = (.tuple #[.map q0', .int .i64 q1'] : Value) ∧ R q0' q1' w1) = R := by
      funext q0 q1 w1
      exact propext ⟨fun ⟨q0', q1', he, h⟩ => by first | (simp at he; simp_all) | (cases he; exact h), fun h => ⟨_, _, rfl, h⟩⟩
    simpa only [e] using h
  · rintro en w1 ⟨v, he, q0, q1, rfl, h⟩
    exact ⟨_, _, he, h⟩

theorem ofS10 {f : FuncId} {fn : Func} {c : Code} (hf : Try.prog.funcs[f]? = some fn) (hb : fn.body = some c) {G : Gen} (hL : LoopOk Try.prog fn.ntmps G c) {args : List Value} (hn : Nat.ble args.length fn.ntmps = true) {w : World} {Fm : (Value → World → Prop) → Prop}
    (hF : ∀ R : Value → World → Prop, Fm (fun q0 w1 => R (q0) w1) = den Try.prog fn.ntmps G c [] (postD Try.prog fn.results.toList R) (entry args 0) w) {R : Value → World → Prop} (h : Fm R) : Calls Try.prog f args.toArray w fun e w1 => ∃ (q0 : Value), e = .returned (q0) ∧ R q0 w1 := by
  refine (calls_of_den seat_ok seat_mixed hf hb hL (args := args) hn (R := fun v w1 => ∃ (q0 : Value), v = (q0 : Value) ∧ R q0 w1) ?_).mono ?_
  · rw [← hF]
    have e : (fun q0 w1 => ∃ (q0' : Value), (q0 : Value) = (q0' : Value) ∧ R q0' w1) = R := by
      funext q0 w1
      exact propext ⟨fun ⟨q0', he, h⟩ => by first | (simp at he; simp_all) | (cases he; exact h), fun h => ⟨_, rfl, h⟩⟩
    simpa only [e] using h
  · rintro en w1 ⟨v, he, q0, rfl, h⟩
    exact ⟨_, he, h⟩

theorem ofS11 {f : FuncId} {fn : Func} {c : Code} (hf : Try.prog.funcs[f]? = some fn) (hb : fn.body = some c) {G : Gen} (hL : LoopOk Try.prog fn.ntmps G c) {args : List Value} (hn : Nat.ble args.length fn.ntmps = true) {w : World} {Fm : (Int → Int → Bool → World → Prop) → Prop}
    (hF : ∀ R : Value → World → Prop, Fm (fun q0 q1 q2 w1 => R (.agg #[.int .i64 q0, .int .i64 q1, .bool q2]) w1) = den Try.prog fn.ntmps G c [] (postD Try.prog fn.results.toList R) (entry args 0) w) {R : Int → Int → Bool → World → Prop} (h : Fm R) : Calls Try.prog f args.toArray w fun e w1 => ∃ (q0 : Int) (q1 : Int) (q2 : Bool), e = .returned (.agg #[.int .i64 q0, .int .i64 q1, .bool q2]) ∧ R q0 q1 q2 w1 := by
  refine (calls_of_den seat_ok seat_mixed hf hb hL (args := args) hn (R := fun v w1 => ∃ (q0 : Int) (q1 : Int) (q2 : Bool), v = (.agg #[.int .i64 q0, .int .i64 q1, .bool q2] : Value) ∧ R q0 q1 q2 w1) ?_).mono ?_
  · rw [← hF]
    have e : (fun q0 q1 q2 w1 => ∃ (q0' : Int) (q1' : Int) (q2' : Bool), (.agg #[.int .i64 q0, .int .i64 q1, .bool q2] : Value) = (.agg #[.int .i64 q0', .int .i64 q1', .bool q2'] : Value) ∧ R q0' q1' q2' w1) = R := by
      funext q0 q1 q2 w1
      exact propext ⟨fun ⟨q0', q1', q2', he, h⟩ => by first | (simp at he; simp_all) | (cases he; exact h), fun h => ⟨_, _, _, rfl, h⟩⟩
    simpa only [e] using h
  · rintro en w1 ⟨v, he, q0, q1, q2, rfl, h⟩
    exact ⟨_, _, _, he, h⟩

theorem ofS12 {f : FuncId} {fn : Func} {c : Code} (hf : Try.prog.funcs[f]? = some fn) (hb : fn.body = some c) {G : Gen} (hL : LoopOk Try.prog fn.ntmps G c) {args : List Value} (hn : Nat.ble args.length fn.ntmps = true) {w : World} {Fm : (Int → Int → ByteArray → Option Addr → Nat → Nat → Option Addr → Nat → Nat → World → Prop) → Prop}
    (hF : ∀ R : Value → World → Prop, Fm (fun q0 q1 q2 q3 q4 q5 q6 q7 q8 w1 => R (.tuple #[.agg #[.int .i64 q0, .int .i64 q1, .string q2, .slice q3 q4 q5], .slice q6 q7 q8]) w1) = den Try.prog fn.ntmps G c [] (postD Try.prog fn.results.toList R) (entry args 0) w) {R : Int → Int → ByteArray → Option Addr → Nat → Nat → Option Addr → Nat → Nat → World → Prop} (h : Fm R) : Calls Try.prog f args.toArray w fun e w1 => ∃ (q0 : Int) (q1 : Int) (q2 : ByteArray) (q3 : Option Addr) (q4 : Nat) (q5 : Nat) (q6 : Option Addr) (q7 : Nat) (q8 : Nat), e = .returned (.tuple #[.agg #[.int .i64 q0, .int .i64 q1, .string q2, .slice q3 q4 q5], .slice q6 q7 q8]) ∧ R q0 q1 q2 q3 q4 q5 q6 q7 q8 w1 := by
  refine (calls_of_den seat_ok seat_mixed hf hb hL (args := args) hn (R := fun v w1 => ∃ (q0 : Int) (q1 : Int) (q2 : ByteArray) (q3 : Option Addr) (q4 : Nat) (q5 : Nat) (q6 : Option Addr) (q7 : Nat) (q8 : Nat), v = (.tuple #[.agg #[.int .i64 q0, .int .i64 q1, .string q2, .slice q3 q4 q5], .slice q6 q7 q8] : Value) ∧ R q0 q1 q2 q3 q4 q5 q6 q7 q8 w1) ?_).mono ?_
  · rw [← hF]
    have e : (fun q0 q1 q2 q3 q4 q5 q6 q7 q8 w1 => ∃ (q0' : Int) (q1' : Int) (q2' : ByteArray) (q3' : Option Addr) (q4' : Nat) (q5' : Nat) (q6' : Option Addr) (q7' : Nat) (q8' : Nat), (.tuple #[.agg #[.int .i64 q0, .int .i64 q1, .string q2, .slice q3 q4 q5], .slice q6 q7 q8] : Value) = (.tuple #[.agg #[.int .i64 q0', .int .i64 q1', .string q2', .slice q3' q4' q5'], .slice q6' q7' q8'] : Value) ∧ R q0' q1' q2' q3' q4' q5' q6' q7' q8' w1) = R := by
      funext q0 q1 q2 q3 q4 q5 q6 q7 q8 w1
      exact propext ⟨fun ⟨q0', q1', q2', q3', q4', q5', q6', q7', q8', he, h⟩ => by first | (simp at he; simp_all) | (cases he; exact h), fun h => ⟨_, _, _, _, _, _, _, _, _, rfl, h⟩⟩
    simpa only [e] using h
  · rintro en w1 ⟨v, he, q0, q1, q2, q3, q4, q5, q6, q7, q8, rfl, h⟩
    exact ⟨_, _, _, _, _, _, _, _, _, he, h⟩

end Go.Proofs.Ytdbkbaeeccemkaa
