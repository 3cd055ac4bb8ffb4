/- The calls of this seat's functions, typed. Printed by a program. -/
import Derived.Test.YtpkfckfdehaamaaDen6
import Derived.Test.YtpkfckfdehaamaaProg
namespace Go.Proofs.Ytpkfckfdehaamaa
open Go Go.D Go.Proofs

theorem seat_ok : AllCallable Try.prog := allCallable_of (by kernel_rfl)
theorem seat_mixed : Try.prog.follows .mixedOrders = true := by kernel_rfl

/-- gosem.cut.init -/
def C_gosem_cut_init  (w : World) (R : World → Prop) : Prop :=
  Calls Try.prog 2 #[] w fun en w1 => en = .returned (.tuple #[]) ∧ R w1
theorem C_gosem_cut_init.mono {w : World} {R R' : World → Prop} (h : C_gosem_cut_init  w R) (hr : ∀ w1, R w1 → R' w1) : C_gosem_cut_init  w R' :=
  Calls.mono h fun _ _ ⟨he, h⟩ => ⟨he, hr _ h⟩

/-- elenchus/elenchuslaw18.IndexKeys -/
def C_law18_IndexKeys (t0 : Int) (t1 : Int) (t2 : ByteArray) (t3P : Option Addr) (t3N : Nat) (t3C : Nat) (a0 : Int) (a1 : ByteArray) (a2 : Int) (b0 : Int) (b1 : ByteArray) (b2 : Int) (w : World) (R : Bool → World → Prop) : Prop :=
  Calls Try.prog 3 #[.agg #[.int .i64 t0, .int .i64 t1, .string t2, .slice t3P t3N t3C], .agg #[.int .i64 a0, .string a1, .int .i64 a2], .agg #[.int .i64 b0, .string b1, .int .i64 b2]] w fun en w1 => ∃ (r : Bool), en = .returned (.bool r) ∧ R r w1
theorem C_law18_IndexKeys.mono {t0 : Int} {t1 : Int} {t2 : ByteArray} {t3P : Option Addr} {t3N : Nat} {t3C : Nat} {a0 : Int} {a1 : ByteArray} {a2 : Int} {b0 : Int} {b1 : ByteArray} {b2 : Int} {w : World} {R R' : Bool → World → Prop} (h : C_law18_IndexKeys t0 t1 t2 t3P t3N t3C a0 a1 a2 b0 b1 b2 w R) (hr : ∀ r w1, R r w1 → R' r w1) : C_law18_IndexKeys t0 t1 t2 t3P t3N t3C a0 a1 a2 b0 b1 b2 w R' :=
  Calls.mono h fun _ _ ⟨r, he, h⟩ => ⟨r, he, hr r _ h⟩

/-- elenchus/elenchuslaw18.IndexDoes -/
def C_law18_IndexDoes (lP : Option Addr) (lN : Nat) (lC : Nat) (w : World) (R : Bool → World → Prop) : Prop :=
  Calls Try.prog 4 #[.slice lP lN lC] w fun en w1 => ∃ (r : Bool), en = .returned (.bool r) ∧ R r w1
theorem C_law18_IndexDoes.mono {lP : Option Addr} {lN : Nat} {lC : Nat} {w : World} {R R' : Bool → World → Prop} (h : C_law18_IndexDoes lP lN lC w R) (hr : ∀ r w1, R r w1 → R' r w1) : C_law18_IndexDoes lP lN lC w R' :=
  Calls.mono h fun _ _ ⟨r, he, h⟩ => ⟨r, he, hr r _ h⟩

/-- elenchus/elenchuslaw18.IndexTells -/
def C_law18_IndexTells (lP : Option Addr) (lN : Nat) (lC : Nat) (k0x : Int) (k1x : ByteArray) (k2x : Int) (w : World) (R : Bool → World → Prop) : Prop :=
  Calls Try.prog 5 #[.slice lP lN lC, .agg #[.int .i64 k0x, .string k1x, .int .i64 k2x]] w fun en w1 => ∃ (r : Bool), en = .returned (.bool r) ∧ R r w1
theorem C_law18_IndexTells.mono {lP : Option Addr} {lN : Nat} {lC : Nat} {k0x : Int} {k1x : ByteArray} {k2x : Int} {w : World} {R R' : Bool → World → Prop} (h : C_law18_IndexTells lP lN lC k0x k1x k2x w R) (hr : ∀ r w1, R r w1 → R' r w1) : C_law18_IndexTells lP lN lC k0x k1x k2x w R' :=
  Calls.mono h fun _ _ ⟨r, he, h⟩ => ⟨r, he, hr r _ h⟩

/-- elenchus/elenchuslaw18.IndexFull -/
def C_law18_IndexFull (n : Int) (k0x : Int) (k1x : ByteArray) (k2x : Int) (w : World) (R : Bool → World → Prop) : Prop :=
  Calls Try.prog 6 #[.int .i64 n, .agg #[.int .i64 k0x, .string k1x, .int .i64 k2x]] w fun en w1 => ∃ (r : Bool), en = .returned (.bool r) ∧ R r w1
theorem C_law18_IndexFull.mono {n : Int} {k0x : Int} {k1x : ByteArray} {k2x : Int} {w : World} {R R' : Bool → World → Prop} (h : C_law18_IndexFull n k0x k1x k2x w R) (hr : ∀ r w1, R r w1 → R' r w1) : C_law18_IndexFull n k0x k1x k2x w R' :=
  Calls.mono h fun _ _ ⟨r, he, h⟩ => ⟨r, he, hr r _ h⟩

/-- elenchus/elenchuslaw18.IndexNobody -/
def C_law18_IndexNobody (o0 : Int) (o1 : Int) (o2 : Int) (o3 : ByteArray) (o4 : Int) (o5 : Bool) (w : World) (R : Bool → World → Prop) : Prop :=
  Calls Try.prog 7 #[.agg #[.int .i64 o0, .int .i64 o1, .int .i64 o2, .string o3, .int .i64 o4, .bool o5]] w fun en w1 => ∃ (r : Bool), en = .returned (.bool r) ∧ R r w1
theorem C_law18_IndexNobody.mono {o0 : Int} {o1 : Int} {o2 : Int} {o3 : ByteArray} {o4 : Int} {o5 : Bool} {w : World} {R R' : Bool → World → Prop} (h : C_law18_IndexNobody o0 o1 o2 o3 o4 o5 w R) (hr : ∀ r w1, R r w1 → R' r w1) : C_law18_IndexNobody o0 o1 o2 o3 o4 o5 w R' :=
  Calls.mono h fun _ _ ⟨r, he, h⟩ => ⟨r, he, hr r _ h⟩

/-- elenchus/elenchuslaw18.lives -/
def C_law18_lives  (w : World) (R : Bool → World → Prop) : Prop :=
  Calls Try.prog 8 #[] w fun en w1 => ∃ (r : Bool), en = .returned (.bool r) ∧ R r w1
theorem C_law18_lives.mono {w : World} {R R' : Bool → World → Prop} (h : C_law18_lives  w R) (hr : ∀ r w1, R r w1 → R' r w1) : C_law18_lives  w R' :=
  Calls.mono h fun _ _ ⟨r, he, h⟩ => ⟨r, he, hr r _ h⟩

/-- elenchus/index.KeyOf -/
def C_index_KeyOf (t0 : Int) (t1 : Int) (t2 : ByteArray) (t3P : Option Addr) (t3N : Nat) (t3C : Nat) (w : World) (R : Int → ByteArray → Int → World → Prop) : Prop :=
  Calls Try.prog 9 #[.agg #[.int .i64 t0, .int .i64 t1, .string t2, .slice t3P t3N t3C]] w fun en w1 => ∃ (r0 : Int) (r1 : ByteArray) (r2 : Int), en = .returned (.agg #[.int .i64 r0, .string r1, .int .i64 r2]) ∧ R r0 r1 r2 w1
theorem C_index_KeyOf.mono {t0 : Int} {t1 : Int} {t2 : ByteArray} {t3P : Option Addr} {t3N : Nat} {t3C : Nat} {w : World} {R R' : Int → ByteArray → Int → World → Prop} (h : C_index_KeyOf t0 t1 t2 t3P t3N t3C w R) (hr : ∀ r0 r1 r2 w1, R r0 r1 r2 w1 → R' r0 r1 r2 w1) : C_index_KeyOf t0 t1 t2 t3P t3N t3C w R' :=
  Calls.mono h fun _ _ ⟨r0, r1, r2, he, h⟩ => ⟨r0, r1, r2, he, hr r0 r1 r2 _ h⟩

/-- elenchus/elenchusref18.KeyOf -/
def C_ref18_KeyOf (t0 : Int) (t1 : Int) (t2 : ByteArray) (t3P : Option Addr) (t3N : Nat) (t3C : Nat) (w : World) (R : Int → ByteArray → Int → World → Prop) : Prop :=
  Calls Try.prog 10 #[.agg #[.int .i64 t0, .int .i64 t1, .string t2, .slice t3P t3N t3C]] w fun en w1 => ∃ (r0 : Int) (r1 : ByteArray) (r2 : Int), en = .returned (.agg #[.int .i64 r0, .string r1, .int .i64 r2]) ∧ R r0 r1 r2 w1
theorem C_ref18_KeyOf.mono {t0 : Int} {t1 : Int} {t2 : ByteArray} {t3P : Option Addr} {t3N : Nat} {t3C : Nat} {w : World} {R R' : Int → ByteArray → Int → World → Prop} (h : C_ref18_KeyOf t0 t1 t2 t3P t3N t3C w R) (hr : ∀ r0 r1 r2 w1, R r0 r1 r2 w1 → R' r0 r1 r2 w1) : C_ref18_KeyOf t0 t1 t2 t3P t3N t3C w R' :=
  Calls.mono h fun _ _ ⟨r0, r1, r2, he, h⟩ => ⟨r0, r1, r2, he, hr r0 r1 r2 _ h⟩

/-- elenchus/index.First -/
def C_index_First (t0 : Int) (t1 : Int) (t2 : ByteArray) (t3P : Option Addr) (t3N : Nat) (t3C : Nat) (w : World) (R : Int → ByteArray → Int → World → Prop) : Prop :=
  Calls Try.prog 11 #[.agg #[.int .i64 t0, .int .i64 t1, .string t2, .slice t3P t3N t3C]] w fun en w1 => ∃ (r0 : Int) (r1 : ByteArray) (r2 : Int), en = .returned (.agg #[.int .i64 r0, .string r1, .int .i64 r2]) ∧ R r0 r1 r2 w1
theorem C_index_First.mono {t0 : Int} {t1 : Int} {t2 : ByteArray} {t3P : Option Addr} {t3N : Nat} {t3C : Nat} {w : World} {R R' : Int → ByteArray → Int → World → Prop} (h : C_index_First t0 t1 t2 t3P t3N t3C w R) (hr : ∀ r0 r1 r2 w1, R r0 r1 r2 w1 → R' r0 r1 r2 w1) : C_index_First t0 t1 t2 t3P t3N t3C w R' :=
  Calls.mono h fun _ _ ⟨r0, r1, r2, he, h⟩ => ⟨r0, r1, r2, he, hr r0 r1 r2 _ h⟩

/-- elenchus/elenchusref18.First -/
def C_ref18_First (t0 : Int) (t1 : Int) (t2 : ByteArray) (t3P : Option Addr) (t3N : Nat) (t3C : Nat) (w : World) (R : Int → ByteArray → Int → World → Prop) : Prop :=
  Calls Try.prog 12 #[.agg #[.int .i64 t0, .int .i64 t1, .string t2, .slice t3P t3N t3C]] w fun en w1 => ∃ (r0 : Int) (r1 : ByteArray) (r2 : Int), en = .returned (.agg #[.int .i64 r0, .string r1, .int .i64 r2]) ∧ R r0 r1 r2 w1
theorem C_ref18_First.mono {t0 : Int} {t1 : Int} {t2 : ByteArray} {t3P : Option Addr} {t3N : Nat} {t3C : Nat} {w : World} {R R' : Int → ByteArray → Int → World → Prop} (h : C_ref18_First t0 t1 t2 t3P t3N t3C w R) (hr : ∀ r0 r1 r2 w1, R r0 r1 r2 w1 → R' r0 r1 r2 w1) : C_ref18_First t0 t1 t2 t3P t3N t3C w R' :=
  Calls.mono h fun _ _ ⟨r0, r1, r2, he, h⟩ => ⟨r0, r1, r2, he, hr r0 r1 r2 _ h⟩

/-- elenchus/index.Meet -/
def C_index_Meet (a0 : Int) (a1 : ByteArray) (a2 : Int) (b0 : Int) (b1 : ByteArray) (b2 : Int) (w : World) (R : Bool → World → Prop) : Prop :=
  Calls Try.prog 13 #[.agg #[.int .i64 a0, .string a1, .int .i64 a2], .agg #[.int .i64 b0, .string b1, .int .i64 b2]] w fun en w1 => ∃ (r : Bool), en = .returned (.bool r) ∧ R r w1
theorem C_index_Meet.mono {a0 : Int} {a1 : ByteArray} {a2 : Int} {b0 : Int} {b1 : ByteArray} {b2 : Int} {w : World} {R R' : Bool → World → Prop} (h : C_index_Meet a0 a1 a2 b0 b1 b2 w R) (hr : ∀ r w1, R r w1 → R' r w1) : C_index_Meet a0 a1 a2 b0 b1 b2 w R' :=
  Calls.mono h fun _ _ ⟨r, he, h⟩ => ⟨r, he, hr r _ h⟩

/-- elenchus/elenchusref18.Meet -/
def C_ref18_Meet (a0 : Int) (a1 : ByteArray) (a2 : Int) (b0 : Int) (b1 : ByteArray) (b2 : Int) (w : World) (R : Bool → World → Prop) : Prop :=
  Calls Try.prog 14 #[.agg #[.int .i64 a0, .string a1, .int .i64 a2], .agg #[.int .i64 b0, .string b1, .int .i64 b2]] w fun en w1 => ∃ (r : Bool), en = .returned (.bool r) ∧ R r w1
theorem C_ref18_Meet.mono {a0 : Int} {a1 : ByteArray} {a2 : Int} {b0 : Int} {b1 : ByteArray} {b2 : Int} {w : World} {R R' : Bool → World → Prop} (h : C_ref18_Meet a0 a1 a2 b0 b1 b2 w R) (hr : ∀ r w1, R r w1 → R' r w1) : C_ref18_Meet a0 a1 a2 b0 b1 b2 w R' :=
  Calls.mono h fun _ _ ⟨r, he, h⟩ => ⟨r, he, hr r _ h⟩

/-- elenchus/index.New -/
def C_index_New  (w : World) (R : Option Addr → World → Prop) : Prop :=
  Calls Try.prog 15 #[] w fun en w1 => ∃ (r : Option Addr), en = .returned (.pointer r) ∧ R r w1
theorem C_index_New.mono {w : World} {R R' : Option Addr → World → Prop} (h : C_index_New  w R) (hr : ∀ r w1, R r w1 → R' r w1) : C_index_New  w R' :=
  Calls.mono h fun _ _ ⟨r, he, h⟩ => ⟨r, he, hr r _ h⟩

/-- elenchus/elenchuslaw18.do -/
def C_law18_do (t : Option Addr) (x : Option Addr) (o0 : Int) (o1 : Int) (o2 : Int) (o3 : ByteArray) (o4 : Int) (o5 : Bool) (w : World) (R : Bool → World → Prop) : Prop :=
  Calls Try.prog 16 #[.pointer t, .pointer x, .agg #[.int .i64 o0, .int .i64 o1, .int .i64 o2, .string o3, .int .i64 o4, .bool o5]] w fun en w1 => ∃ (r : Bool), en = .returned (.bool r) ∧ R r w1
theorem C_law18_do.mono {t : Option Addr} {x : Option Addr} {o0 : Int} {o1 : Int} {o2 : Int} {o3 : ByteArray} {o4 : Int} {o5 : Bool} {w : World} {R R' : Bool → World → Prop} (h : C_law18_do t x o0 o1 o2 o3 o4 o5 w R) (hr : ∀ r w1, R r w1 → R' r w1) : C_law18_do t x o0 o1 o2 o3 o4 o5 w R' :=
  Calls.mono h fun _ _ ⟨r, he, h⟩ => ⟨r, he, hr r _ h⟩

/-- (elenchus/index.Table).Len -/
def C_index_Table_Len (t : Option Addr) (w : World) (R : Int → World → Prop) : Prop :=
  Calls Try.prog 17 #[.pointer t] w fun en w1 => ∃ (r : Int), en = .returned (.int .i64 r) ∧ R r w1
theorem C_index_Table_Len.mono {t : Option Addr} {w : World} {R R' : Int → World → Prop} (h : C_index_Table_Len t w R) (hr : ∀ r w1, R r w1 → R' r w1) : C_index_Table_Len t w R' :=
  Calls.mono h fun _ _ ⟨r, he, h⟩ => ⟨r, he, hr r _ h⟩

/-- elenchus/elenchusref15.SameInts -/
def C_ref15_SameInts (aP : Option Addr) (aN : Nat) (aC : Nat) (bP : Option Addr) (bN : Nat) (bC : Nat) (w : World) (R : Bool → World → Prop) : Prop :=
  Calls Try.prog 18 #[.slice aP aN aC, .slice bP bN bC] w fun en w1 => ∃ (r : Bool), en = .returned (.bool r) ∧ R r w1
theorem C_ref15_SameInts.mono {aP : Option Addr} {aN : Nat} {aC : Nat} {bP : Option Addr} {bN : Nat} {bC : Nat} {w : World} {R R' : Bool → World → Prop} (h : C_ref15_SameInts aP aN aC bP bN bC w R) (hr : ∀ r w1, R r w1 → R' r w1) : C_ref15_SameInts aP aN aC bP bN bC w R' :=
  Calls.mono h fun _ _ ⟨r, he, h⟩ => ⟨r, he, hr r _ h⟩

/-- (elenchus/index.Table).All -/
def C_index_Table_All (t : Option Addr) (k0x : Int) (k1x : ByteArray) (k2x : Int) (w : World) (R : Option Addr → Nat → Nat → World → Prop) : Prop :=
  Calls Try.prog 19 #[.pointer t, .agg #[.int .i64 k0x, .string k1x, .int .i64 k2x]] w fun en w1 => ∃ (rP : Option Addr) (rN : Nat) (rC : Nat), en = .returned (.slice rP rN rC) ∧ R rP rN rC w1
theorem C_index_Table_All.mono {t : Option Addr} {k0x : Int} {k1x : ByteArray} {k2x : Int} {w : World} {R R' : Option Addr → Nat → Nat → World → Prop} (h : C_index_Table_All t k0x k1x k2x w R) (hr : ∀ rP rN rC w1, R rP rN rC w1 → R' rP rN rC w1) : C_index_Table_All t k0x k1x k2x w R' :=
  Calls.mono h fun _ _ ⟨rP, rN, rC, he, h⟩ => ⟨rP, rN, rC, he, hr rP rN rC _ h⟩

/-- (elenchus/elenchusref18.Table).All -/
def C_ref18_Table_All (t : Option Addr) (k0x : Int) (k1x : ByteArray) (k2x : Int) (w : World) (R : Option Addr → Nat → Nat → World → Prop) : Prop :=
  Calls Try.prog 20 #[.pointer t, .agg #[.int .i64 k0x, .string k1x, .int .i64 k2x]] w fun en w1 => ∃ (rP : Option Addr) (rN : Nat) (rC : Nat), en = .returned (.slice rP rN rC) ∧ R rP rN rC w1
theorem C_ref18_Table_All.mono {t : Option Addr} {k0x : Int} {k1x : ByteArray} {k2x : Int} {w : World} {R R' : Option Addr → Nat → Nat → World → Prop} (h : C_ref18_Table_All t k0x k1x k2x w R) (hr : ∀ rP rN rC w1, R rP rN rC w1 → R' rP rN rC w1) : C_ref18_Table_All t k0x k1x k2x w R' :=
  Calls.mono h fun _ _ ⟨rP, rN, rC, he, h⟩ => ⟨rP, rN, rC, he, hr rP rN rC _ h⟩

/-- (elenchus/index.Table).Drop -/
def C_index_Table_Drop (t : Option Addr) (idx : Int) (w : World) (R : Int → World → Prop) : Prop :=
  Calls Try.prog 21 #[.pointer t, .int .i64 idx] w fun en w1 => ∃ (r : Int), en = .returned (.int .i64 r) ∧ R r w1
theorem C_index_Table_Drop.mono {t : Option Addr} {idx : Int} {w : World} {R R' : Int → World → Prop} (h : C_index_Table_Drop t idx w R) (hr : ∀ r w1, R r w1 → R' r w1) : C_index_Table_Drop t idx w R' :=
  Calls.mono h fun _ _ ⟨r, he, h⟩ => ⟨r, he, hr r _ h⟩

/-- (elenchus/index.Table).Add -/
def C_index_Table_Add (t : Option Addr) (idx : Int) (k0x : Int) (k1x : ByteArray) (k2x : Int) (front : Bool) (w : World) (R : Int → World → Prop) : Prop :=
  Calls Try.prog 22 #[.pointer t, .int .i64 idx, .agg #[.int .i64 k0x, .string k1x, .int .i64 k2x], .bool front] w fun en w1 => ∃ (r : Int), en = .returned (.int .i64 r) ∧ R r w1
theorem C_index_Table_Add.mono {t : Option Addr} {idx : Int} {k0x : Int} {k1x : ByteArray} {k2x : Int} {front : Bool} {w : World} {R R' : Int → World → Prop} (h : C_index_Table_Add t idx k0x k1x k2x front w R) (hr : ∀ r w1, R r w1 → R' r w1) : C_index_Table_Add t idx k0x k1x k2x front w R' :=
  Calls.mono h fun _ _ ⟨r, he, h⟩ => ⟨r, he, hr r _ h⟩

/-- (elenchus/index.Table).Head -/
def C_index_Table_Head (t : Option Addr) (k0x : Int) (k1x : ByteArray) (k2x : Int) (w : World) (R : Int → Bool → World → Prop) : Prop :=
  Calls Try.prog 23 #[.pointer t, .agg #[.int .i64 k0x, .string k1x, .int .i64 k2x]] w fun en w1 => ∃ (r0 : Int) (r1 : Bool), en = .returned (.tuple #[.int .i64 r0, .bool r1]) ∧ R r0 r1 w1
theorem C_index_Table_Head.mono {t : Option Addr} {k0x : Int} {k1x : ByteArray} {k2x : Int} {w : World} {R R' : Int → Bool → World → Prop} (h : C_index_Table_Head t k0x k1x k2x w R) (hr : ∀ r0 r1 w1, R r0 r1 w1 → R' r0 r1 w1) : C_index_Table_Head t k0x k1x k2x w R' :=
  Calls.mono h fun _ _ ⟨r0, r1, he, h⟩ => ⟨r0, r1, he, hr r0 r1 _ h⟩

/-- (elenchus/index.Table).Next -/
def C_index_Table_Next (t : Option Addr) (after : Int) (k0x : Int) (k1x : ByteArray) (k2x : Int) (w : World) (R : Int → Bool → World → Prop) : Prop :=
  Calls Try.prog 24 #[.pointer t, .int .i64 after, .agg #[.int .i64 k0x, .string k1x, .int .i64 k2x]] w fun en w1 => ∃ (r0 : Int) (r1 : Bool), en = .returned (.tuple #[.int .i64 r0, .bool r1]) ∧ R r0 r1 w1
theorem C_index_Table_Next.mono {t : Option Addr} {after : Int} {k0x : Int} {k1x : ByteArray} {k2x : Int} {w : World} {R R' : Int → Bool → World → Prop} (h : C_index_Table_Next t after k0x k1x k2x w R) (hr : ∀ r0 r1 w1, R r0 r1 w1 → R' r0 r1 w1) : C_index_Table_Next t after k0x k1x k2x w R' :=
  Calls.mono h fun _ _ ⟨r0, r1, he, h⟩ => ⟨r0, r1, he, hr r0 r1 _ h⟩

/-- (elenchus/elenchusref18.Table).Add -/
def C_ref18_Table_Add (t : Option Addr) (idx : Int) (k0x : Int) (k1x : ByteArray) (k2x : Int) (front : Bool) (w : World) (R : Int → World → Prop) : Prop :=
  Calls Try.prog 25 #[.pointer t, .int .i64 idx, .agg #[.int .i64 k0x, .string k1x, .int .i64 k2x], .bool front] w fun en w1 => ∃ (r : Int), en = .returned (.int .i64 r) ∧ R r w1
theorem C_ref18_Table_Add.mono {t : Option Addr} {idx : Int} {k0x : Int} {k1x : ByteArray} {k2x : Int} {front : Bool} {w : World} {R R' : Int → World → Prop} (h : C_ref18_Table_Add t idx k0x k1x k2x front w R) (hr : ∀ r w1, R r w1 → R' r w1) : C_ref18_Table_Add t idx k0x k1x k2x front w R' :=
  Calls.mono h fun _ _ ⟨r, he, h⟩ => ⟨r, he, hr r _ h⟩

/-- (elenchus/elenchusref18.Table).Drop -/
def C_ref18_Table_Drop (t : Option Addr) (idx : Int) (w : World) (R : Int → World → Prop) : Prop :=
  Calls Try.prog 26 #[.pointer t, .int .i64 idx] w fun en w1 => ∃ (r : Int), en = .returned (.int .i64 r) ∧ R r w1
theorem C_ref18_Table_Drop.mono {t : Option Addr} {idx : Int} {w : World} {R R' : Int → World → Prop} (h : C_ref18_Table_Drop t idx w R) (hr : ∀ r w1, R r w1 → R' r w1) : C_ref18_Table_Drop t idx w R' :=
  Calls.mono h fun _ _ ⟨r, he, h⟩ => ⟨r, he, hr r _ h⟩

/-- (elenchus/elenchusref18.Table).Next -/
def C_ref18_Table_Next (t : Option Addr) (after : Int) (k0x : Int) (k1x : ByteArray) (k2x : Int) (w : World) (R : Int → Bool → World → Prop) : Prop :=
  Calls Try.prog 27 #[.pointer t, .int .i64 after, .agg #[.int .i64 k0x, .string k1x, .int .i64 k2x]] w fun en w1 => ∃ (r0 : Int) (r1 : Bool), en = .returned (.tuple #[.int .i64 r0, .bool r1]) ∧ R r0 r1 w1
theorem C_ref18_Table_Next.mono {t : Option Addr} {after : Int} {k0x : Int} {k1x : ByteArray} {k2x : Int} {w : World} {R R' : Int → Bool → World → Prop} (h : C_ref18_Table_Next t after k0x k1x k2x w R) (hr : ∀ r0 r1 w1, R r0 r1 w1 → R' r0 r1 w1) : C_ref18_Table_Next t after k0x k1x k2x w R' :=
  Calls.mono h fun _ _ ⟨r0, r1, he, h⟩ => ⟨r0, r1, he, hr r0 r1 _ h⟩

/-- (elenchus/elenchusref18.Table).Head -/
def C_ref18_Table_Head (t : Option Addr) (k0x : Int) (k1x : ByteArray) (k2x : Int) (w : World) (R : Int → Bool → World → Prop) : Prop :=
  Calls Try.prog 28 #[.pointer t, .agg #[.int .i64 k0x, .string k1x, .int .i64 k2x]] w fun en w1 => ∃ (r0 : Int) (r1 : Bool), en = .returned (.tuple #[.int .i64 r0, .bool r1]) ∧ R r0 r1 w1
theorem C_ref18_Table_Head.mono {t : Option Addr} {k0x : Int} {k1x : ByteArray} {k2x : Int} {w : World} {R R' : Int → Bool → World → Prop} (h : C_ref18_Table_Head t k0x k1x k2x w R) (hr : ∀ r0 r1 w1, R r0 r1 w1 → R' r0 r1 w1) : C_ref18_Table_Head t k0x k1x k2x w R' :=
  Calls.mono h fun _ _ ⟨r0, r1, he, h⟩ => ⟨r0, r1, he, hr r0 r1 _ h⟩

/-- (elenchus/index.Table).made -/
def C_index_Table_made (t : Option Addr) (w : World) (R : Bool → World → Prop) : Prop :=
  Calls Try.prog 29 #[.pointer t] w fun en w1 => ∃ (r : Bool), en = .returned (.bool r) ∧ R r w1
theorem C_index_Table_made.mono {t : Option Addr} {w : World} {R R' : Bool → World → Prop} (h : C_index_Table_made t w R) (hr : ∀ r w1, R r w1 → R' r w1) : C_index_Table_made t w R' :=
  Calls.mono h fun _ _ ⟨r, he, h⟩ => ⟨r, he, hr r _ h⟩

/-- elenchus/index.cut -/
def C_index_cut (rP : Option Addr) (rN : Nat) (rC : Nat) (rank : Int) (w : World) (R : Option Addr → Nat → Nat → World → Prop) : Prop :=
  Calls Try.prog 30 #[.slice rP rN rC, .int .i64 rank] w fun en w1 => ∃ (rP_1 : Option Addr) (rN_1 : Nat) (rC_1 : Nat), en = .returned (.slice rP_1 rN_1 rC_1) ∧ R rP_1 rN_1 rC_1 w1
theorem C_index_cut.mono {rP : Option Addr} {rN : Nat} {rC : Nat} {rank : Int} {w : World} {R R' : Option Addr → Nat → Nat → World → Prop} (h : C_index_cut rP rN rC rank w R) (hr : ∀ rP_1 rN_1 rC_1 w1, R rP_1 rN_1 rC_1 w1 → R' rP_1 rN_1 rC_1 w1) : C_index_cut rP rN rC rank w R' :=
  Calls.mono h fun _ _ ⟨rP_1, rN_1, rC_1, he, h⟩ => ⟨rP_1, rN_1, rC_1, he, hr rP_1 rN_1 rC_1 _ h⟩

/-- elenchus/index.key -/
def C_index_key (k0x : Int) (k1x : ByteArray) (k2x : Int) (w : World) (R : Int → ByteArray → Int → World → Prop) : Prop :=
  Calls Try.prog 31 #[.agg #[.int .i64 k0x, .string k1x, .int .i64 k2x]] w fun en w1 => ∃ (r0 : Int) (r1 : ByteArray) (r2 : Int), en = .returned (.agg #[.int .i64 r0, .string r1, .int .i64 r2]) ∧ R r0 r1 r2 w1
theorem C_index_key.mono {k0x : Int} {k1x : ByteArray} {k2x : Int} {w : World} {R R' : Int → ByteArray → Int → World → Prop} (h : C_index_key k0x k1x k2x w R) (hr : ∀ r0 r1 r2 w1, R r0 r1 r2 w1 → R' r0 r1 r2 w1) : C_index_key k0x k1x k2x w R' :=
  Calls.mono h fun _ _ ⟨r0, r1, r2, he, h⟩ => ⟨r0, r1, r2, he, hr r0 r1 r2 _ h⟩

/-- elenchus/index.put -/
def C_index_put (rP : Option Addr) (rN : Nat) (rC : Nat) (e0 : Int) (e1 : Int) (w : World) (R : Option Addr → Nat → Nat → World → Prop) : Prop :=
  Calls Try.prog 32 #[.slice rP rN rC, .agg #[.int .i64 e0, .int .i64 e1]] w fun en w1 => ∃ (rP_1 : Option Addr) (rN_1 : Nat) (rC_1 : Nat), en = .returned (.slice rP_1 rN_1 rC_1) ∧ R rP_1 rN_1 rC_1 w1
theorem C_index_put.mono {rP : Option Addr} {rN : Nat} {rC : Nat} {e0 : Int} {e1 : Int} {w : World} {R R' : Option Addr → Nat → Nat → World → Prop} (h : C_index_put rP rN rC e0 e1 w R) (hr : ∀ rP_1 rN_1 rC_1 w1, R rP_1 rN_1 rC_1 w1 → R' rP_1 rN_1 rC_1 w1) : C_index_put rP rN rC e0 e1 w R' :=
  Calls.mono h fun _ _ ⟨rP_1, rN_1, rC_1, he, h⟩ => ⟨rP_1, rN_1, rC_1, he, hr rP_1 rN_1 rC_1 _ h⟩

/-- (elenchus/index.Table).behind -/
def C_index_Table_behind (t : Option Addr) (rank : Int) (k0x : Int) (k1x : ByteArray) (k2x : Int) (w : World) (R : Int → Bool → World → Prop) : Prop :=
  Calls Try.prog 33 #[.pointer t, .int .i64 rank, .agg #[.int .i64 k0x, .string k1x, .int .i64 k2x]] w fun en w1 => ∃ (r0 : Int) (r1 : Bool), en = .returned (.tuple #[.int .i64 r0, .bool r1]) ∧ R r0 r1 w1
theorem C_index_Table_behind.mono {t : Option Addr} {rank : Int} {k0x : Int} {k1x : ByteArray} {k2x : Int} {w : World} {R R' : Int → Bool → World → Prop} (h : C_index_Table_behind t rank k0x k1x k2x w R) (hr : ∀ r0 r1 w1, R r0 r1 w1 → R' r0 r1 w1) : C_index_Table_behind t rank k0x k1x k2x w R' :=
  Calls.mono h fun _ _ ⟨r0, r1, he, h⟩ => ⟨r0, r1, he, hr r0 r1 _ h⟩

/-- (elenchus/elenchusref18.Table).at -/
def C_ref18_Table_at (t : Option Addr) (idx : Int) (w : World) (R : Int → World → Prop) : Prop :=
  Calls Try.prog 34 #[.pointer t, .int .i64 idx] w fun en w1 => ∃ (r : Int), en = .returned (.int .i64 r) ∧ R r w1
theorem C_ref18_Table_at.mono {t : Option Addr} {idx : Int} {w : World} {R R' : Int → World → Prop} (h : C_ref18_Table_at t idx w R) (hr : ∀ r w1, R r w1 → R' r w1) : C_ref18_Table_at t idx w R' :=
  Calls.mono h fun _ _ ⟨r, he, h⟩ => ⟨r, he, hr r _ h⟩

/-- (elenchus/elenchusref18.Table).from -/
def C_ref18_Table_from (t : Option Addr) (i : Int) (k0x : Int) (k1x : ByteArray) (k2x : Int) (w : World) (R : Int → Bool → World → Prop) : Prop :=
  Calls Try.prog 35 #[.pointer t, .int .i64 i, .agg #[.int .i64 k0x, .string k1x, .int .i64 k2x]] w fun en w1 => ∃ (r0 : Int) (r1 : Bool), en = .returned (.tuple #[.int .i64 r0, .bool r1]) ∧ R r0 r1 w1
theorem C_ref18_Table_from.mono {t : Option Addr} {i : Int} {k0x : Int} {k1x : ByteArray} {k2x : Int} {w : World} {R R' : Int → Bool → World → Prop} (h : C_ref18_Table_from t i k0x k1x k2x w R) (hr : ∀ r0 r1 w1, R r0 r1 w1 → R' r0 r1 w1) : C_ref18_Table_from t i k0x k1x k2x w R' :=
  Calls.mono h fun _ _ ⟨r0, r1, he, h⟩ => ⟨r0, r1, he, hr r0 r1 _ h⟩

/-- (elenchus/index.row).place -/
def C_index_row_place (rP : Option Addr) (rN : Nat) (rC : Nat) (rank : Int) (w : World) (R : Int → World → Prop) : Prop :=
  Calls Try.prog 36 #[.slice rP rN rC, .int .i64 rank] w fun en w1 => ∃ (r : Int), en = .returned (.int .i64 r) ∧ R r w1
theorem C_index_row_place.mono {rP : Option Addr} {rN : Nat} {rC : Nat} {rank : Int} {w : World} {R R' : Int → World → Prop} (h : C_index_row_place rP rN rC rank w R) (hr : ∀ r w1, R r w1 → R' r w1) : C_index_row_place rP rN rC rank w R' :=
  Calls.mono h fun _ _ ⟨r, he, h⟩ => ⟨r, he, hr r _ h⟩

/-- slices.Delete[elenchus/index.row,elenchus/index.entry] -/
def C_slices_Delete (sP : Option Addr) (sN : Nat) (sC : Nat) (i : Int) (j : Int) (w : World) (R : Option Addr → Nat → Nat → World → Prop) : Prop :=
  Calls Try.prog 37 #[.slice sP sN sC, .int .i64 i, .int .i64 j] w fun en w1 => ∃ (rP : Option Addr) (rN : Nat) (rC : Nat), en = .returned (.slice rP rN rC) ∧ R rP rN rC w1
theorem C_slices_Delete.mono {sP : Option Addr} {sN : Nat} {sC : Nat} {i : Int} {j : Int} {w : World} {R R' : Option Addr → Nat → Nat → World → Prop} (h : C_slices_Delete sP sN sC i j w R) (hr : ∀ rP rN rC w1, R rP rN rC w1 → R' rP rN rC w1) : C_slices_Delete sP sN sC i j w R' :=
  Calls.mono h fun _ _ ⟨rP, rN, rC, he, h⟩ => ⟨rP, rN, rC, he, hr rP rN rC _ h⟩

/-- slices.Insert[elenchus/index.row,elenchus/index.entry] -/
def C_slices_Insert (sP : Option Addr) (sN : Nat) (sC : Nat) (i : Int) (vP : Option Addr) (vN : Nat) (vC : Nat) (w : World) (R : Option Addr → Nat → Nat → World → Prop) : Prop :=
  Calls Try.prog 38 #[.slice sP sN sC, .int .i64 i, .slice vP vN vC] w fun en w1 => ∃ (rP : Option Addr) (rN : Nat) (rC : Nat), en = .returned (.slice rP rN rC) ∧ R rP rN rC w1
theorem C_slices_Insert.mono {sP : Option Addr} {sN : Nat} {sC : Nat} {i : Int} {vP : Option Addr} {vN : Nat} {vC : Nat} {w : World} {R R' : Option Addr → Nat → Nat → World → Prop} (h : C_slices_Insert sP sN sC i vP vN vC w R) (hr : ∀ rP rN rC w1, R rP rN rC w1 → R' rP rN rC w1) : C_slices_Insert sP sN sC i vP vN vC w R' :=
  Calls.mono h fun _ _ ⟨rP, rN, rC, he, h⟩ => ⟨rP, rN, rC, he, hr rP rN rC _ h⟩

/-- (elenchus/index.row).after -/
def C_index_row_after (rP : Option Addr) (rN : Nat) (rC : Nat) (rank : Int) (w : World) (R : Int → Int → Bool → World → Prop) : Prop :=
  Calls Try.prog 39 #[.slice rP rN rC, .int .i64 rank] w fun en w1 => ∃ (r00 : Int) (r01 : Int) (r1 : Bool), en = .returned (.tuple #[.agg #[.int .i64 r00, .int .i64 r01], .bool r1]) ∧ R r00 r01 r1 w1
theorem C_index_row_after.mono {rP : Option Addr} {rN : Nat} {rC : Nat} {rank : Int} {w : World} {R R' : Int → Int → Bool → World → Prop} (h : C_index_row_after rP rN rC rank w R) (hr : ∀ r00 r01 r1 w1, R r00 r01 r1 w1 → R' r00 r01 r1 w1) : C_index_row_after rP rN rC rank w R' :=
  Calls.mono h fun _ _ ⟨r00, r01, r1, he, h⟩ => ⟨r00, r01, r1, he, hr r00 r01 r1 _ h⟩

/-- slices.BinarySearchFunc[elenchus/index.row,elenchus/index.entry,int] -/
def C_slices_BinarySearchFunc (xP : Option Addr) (xN : Nat) (xC : Nat) (target : Int) (cmp : Value) (w : World) (R : Int → Bool → World → Prop) : Prop :=
  Calls Try.prog 40 #[.slice xP xN xC, .int .i64 target, cmp] w fun en w1 => ∃ (r0 : Int) (r1 : Bool), en = .returned (.tuple #[.int .i64 r0, .bool r1]) ∧ R r0 r1 w1
theorem C_slices_BinarySearchFunc.mono {xP : Option Addr} {xN : Nat} {xC : Nat} {target : Int} {cmp : Value} {w : World} {R R' : Int → Bool → World → Prop} (h : C_slices_BinarySearchFunc xP xN xC target cmp w R) (hr : ∀ r0 r1 w1, R r0 r1 w1 → R' r0 r1 w1) : C_slices_BinarySearchFunc xP xN xC target cmp w R' :=
  Calls.mono h fun _ _ ⟨r0, r1, he, h⟩ => ⟨r0, r1, he, hr r0 r1 _ h⟩

/-- (elenchus/index.row).place-1 -/
def C_index_row_place_1 (e0 : Int) (e1 : Int) (rank : Int) (w : World) (R : Int → World → Prop) : Prop :=
  Calls Try.prog 41 #[.agg #[.int .i64 e0, .int .i64 e1], .int .i64 rank] w fun en w1 => ∃ (r : Int), en = .returned (.int .i64 r) ∧ R r w1
theorem C_index_row_place_1.mono {e0 : Int} {e1 : Int} {rank : Int} {w : World} {R R' : Int → World → Prop} (h : C_index_row_place_1 e0 e1 rank w R) (hr : ∀ r w1, R r w1 → R' r w1) : C_index_row_place_1 e0 e1 rank w R' :=
  Calls.mono h fun _ _ ⟨r, he, h⟩ => ⟨r, he, hr r _ h⟩

/-- cmp.Compare[int] -/
def C_cmp_Compare (x : Int) (y : Int) (w : World) (R : Int → World → Prop) : Prop :=
  Calls Try.prog 42 #[.int .i64 x, .int .i64 y] w fun en w1 => ∃ (r : Int), en = .returned (.int .i64 r) ∧ R r w1
theorem C_cmp_Compare.mono {x : Int} {y : Int} {w : World} {R R' : Int → World → Prop} (h : C_cmp_Compare x y w R) (hr : ∀ r w1, R r w1 → R' r w1) : C_cmp_Compare x y w R' :=
  Calls.mono h fun _ _ ⟨r, he, h⟩ => ⟨r, he, hr r _ h⟩

/-- slices.rotateRight[elenchus/index.entry] -/
def C_slices_rotateRight (sP : Option Addr) (sN : Nat) (sC : Nat) (r : Int) (w : World) (R : World → Prop) : Prop :=
  Calls Try.prog 44 #[.slice sP sN sC, .int .i64 r] w fun en w1 => en = .returned (.tuple #[]) ∧ R w1
theorem C_slices_rotateRight.mono {sP : Option Addr} {sN : Nat} {sC : Nat} {r : Int} {w : World} {R R' : World → Prop} (h : C_slices_rotateRight sP sN sC r w R) (hr : ∀ w1, R w1 → R' w1) : C_slices_rotateRight sP sN sC r w R' :=
  Calls.mono h fun _ _ ⟨he, h⟩ => ⟨he, hr _ h⟩

/-- cmp.isNaN[int] -/
def C_cmp_isNaN (x : Int) (w : World) (R : Bool → World → Prop) : Prop :=
  Calls Try.prog 45 #[.int .i64 x] w fun en w1 => ∃ (r : Bool), en = .returned (.bool r) ∧ R r w1
theorem C_cmp_isNaN.mono {x : Int} {w : World} {R R' : Bool → World → Prop} (h : C_cmp_isNaN x w R) (hr : ∀ r w1, R r w1 → R' r w1) : C_cmp_isNaN x w R' :=
  Calls.mono h fun _ _ ⟨r, he, h⟩ => ⟨r, he, hr r _ h⟩

/-- slices.rotateLeft[elenchus/index.entry] -/
def C_slices_rotateLeft (sP : Option Addr) (sN : Nat) (sC : Nat) (r : Int) (w : World) (R : World → Prop) : Prop :=
  Calls Try.prog 46 #[.slice sP sN sC, .int .i64 r] w fun en w1 => en = .returned (.tuple #[]) ∧ R w1
theorem C_slices_rotateLeft.mono {sP : Option Addr} {sN : Nat} {sC : Nat} {r : Int} {w : World} {R R' : World → Prop} (h : C_slices_rotateLeft sP sN sC r w R) (hr : ∀ w1, R w1 → R' w1) : C_slices_rotateLeft sP sN sC r w R' :=
  Calls.mono h fun _ _ ⟨he, h⟩ => ⟨he, hr _ h⟩

/-- slices.Reverse[[]elenchus/index.entry,elenchus/index.entry] -/
def C_slices_Reverse (sP : Option Addr) (sN : Nat) (sC : Nat) (w : World) (R : World → Prop) : Prop :=
  Calls Try.prog 47 #[.slice sP sN sC] w fun en w1 => en = .returned (.tuple #[]) ∧ R w1
theorem C_slices_Reverse.mono {sP : Option Addr} {sN : Nat} {sC : Nat} {w : World} {R R' : World → Prop} (h : C_slices_Reverse sP sN sC w R) (hr : ∀ w1, R w1 → R' w1) : C_slices_Reverse sP sN sC w R' :=
  Calls.mono h fun _ _ ⟨he, h⟩ => ⟨he, hr _ h⟩

end Go.Proofs.Ytpkfckfdehaamaa
