/- The calls of this seat's functions, typed. Printed by a program. -/
import Derived.Test.YtlndgaijekihiaaGreatDen6
import Derived.Test.YtlndgaijekihiaaGreatProg
namespace Go.Proofs.YtlndgaijekihiaaGreat
open Go Go.D Go.Proofs

theorem seat_ok : AllCallable Tryz.prog := allCallable_of (by kernel_rfl)
theorem seat_mixed : Tryz.prog.follows .mixedOrders = true := by kernel_rfl

/-- gosem.cut.init -/
def C_gosem_cut_init  (w : World) (R : World → Prop) : Prop :=
  Calls Tryz.prog 2 #[] w fun en w1 => en = .returned (.tuple #[]) ∧ R w1
theorem C_gosem_cut_init.mono {w : World} {R R' : World → Prop} (h : C_gosem_cut_init  w R) (hr : ∀ w1, R w1 → R' w1) : C_gosem_cut_init  w R' :=
  Calls.mono h fun _ _ ⟨he, h⟩ => ⟨he, hr _ h⟩

/-- elenchus/elenchuslaw19.BaseNobody -/
def C_law19_BaseNobody (o0 : Int) (o1 : Int) (o2 : Int) (o3 : ByteArray) (o4P : Option Addr) (o4N : Nat) (o4C : Nat) (o5P : Option Addr) (o5N : Nat) (o5C : Nat) (o6 : Int) (o7P : Option Addr) (o7N : Nat) (o7C : Nat) (o8 : Bool) (o9 : Int) (o10 : Int) (o11 : ByteArray) (o12 : Int) (o13 : Int) (w : World) (R : Bool → World → Prop) : Prop :=
  Calls Tryz.prog 3 #[.agg #[.int .i64 o0, .int .i64 o1, .int .i64 o2, .string o3, .slice o4P o4N o4C, .slice o5P o5N o5C, .int .i64 o6, .slice o7P o7N o7C, .bool o8, .int .i64 o9, .int .i64 o10, .string o11, .int .i64 o12, .int .i64 o13]] w fun en w1 => ∃ (r : Bool), en = .returned (.bool r) ∧ R r w1
theorem C_law19_BaseNobody.mono {o0 : Int} {o1 : Int} {o2 : Int} {o3 : ByteArray} {o4P : Option Addr} {o4N : Nat} {o4C : Nat} {o5P : Option Addr} {o5N : Nat} {o5C : Nat} {o6 : Int} {o7P : Option Addr} {o7N : Nat} {o7C : Nat} {o8 : Bool} {o9 : Int} {o10 : Int} {o11 : ByteArray} {o12 : Int} {o13 : Int} {w : World} {R R' : Bool → World → Prop} (h : C_law19_BaseNobody o0 o1 o2 o3 o4P o4N o4C o5P o5N o5C o6 o7P o7N o7C o8 o9 o10 o11 o12 o13 w R) (hr : ∀ r w1, R r w1 → R' r w1) : C_law19_BaseNobody o0 o1 o2 o3 o4P o4N o4C o5P o5N o5C o6 o7P o7N o7C o8 o9 o10 o11 o12 o13 w R' :=
  Calls.mono h fun _ _ ⟨r, he, h⟩ => ⟨r, he, hr r _ h⟩

/-- (elenchus/base.Base).Add -/
def C_base_Base_Add (b : Option Addr) (c0 : Int) (c1 : Int) (c2 : ByteArray) (c3P : Option Addr) (c3N : Nat) (c3C : Nat) (c4P : Option Addr) (c4N : Nat) (c4C : Nat) (c5 : Int) (codeP : Option Addr) (codeN : Nat) (codeC : Nat) (front : Bool) (w : World) (R : Int → Int → World → Prop) : Prop :=
  Calls Tryz.prog 4 #[.pointer b, .agg #[.int .i64 c0, .int .i64 c1, .string c2, .slice c3P c3N c3C, .slice c4P c4N c4C, .int .i64 c5], .slice codeP codeN codeC, .bool front] w fun en w1 => ∃ (r0 : Int) (r1 : Int), en = .returned (.tuple #[.int .i64 r0, .int .i64 r1]) ∧ R r0 r1 w1
theorem C_base_Base_Add.mono {b : Option Addr} {c0 : Int} {c1 : Int} {c2 : ByteArray} {c3P : Option Addr} {c3N : Nat} {c3C : Nat} {c4P : Option Addr} {c4N : Nat} {c4C : Nat} {c5 : Int} {codeP : Option Addr} {codeN : Nat} {codeC : Nat} {front : Bool} {w : World} {R R' : Int → Int → World → Prop} (h : C_base_Base_Add b c0 c1 c2 c3P c3N c3C c4P c4N c4C c5 codeP codeN codeC front w R) (hr : ∀ r0 r1 w1, R r0 r1 w1 → R' r0 r1 w1) : C_base_Base_Add b c0 c1 c2 c3P c3N c3C c4P c4N c4C c5 codeP codeN codeC front w R' :=
  Calls.mono h fun _ _ ⟨r0, r1, he, h⟩ => ⟨r0, r1, he, hr r0 r1 _ h⟩

/-- (elenchus/base.Base).Head -/
def C_base_Base_Head (b : Option Addr) (namex : ByteArray) (arity : Int) (k0x : Int) (k1x : ByteArray) (k2x : Int) (generation : Int) (w : World) (R : Int → Bool → World → Prop) : Prop :=
  Calls Tryz.prog 5 #[.pointer b, .string namex, .int .i64 arity, .agg #[.int .i64 k0x, .string k1x, .int .i64 k2x], .int .i64 generation] w fun en w1 => ∃ (r0 : Int) (r1 : Bool), en = .returned (.tuple #[.int .i64 r0, .bool r1]) ∧ R r0 r1 w1
theorem C_base_Base_Head.mono {b : Option Addr} {namex : ByteArray} {arity : Int} {k0x : Int} {k1x : ByteArray} {k2x : Int} {generation : Int} {w : World} {R R' : Int → Bool → World → Prop} (h : C_base_Base_Head b namex arity k0x k1x k2x generation w R) (hr : ∀ r0 r1 w1, R r0 r1 w1 → R' r0 r1 w1) : C_base_Base_Head b namex arity k0x k1x k2x generation w R' :=
  Calls.mono h fun _ _ ⟨r0, r1, he, h⟩ => ⟨r0, r1, he, hr r0 r1 _ h⟩

/-- (elenchus/base.Base).Next -/
def C_base_Base_Next (b : Option Addr) (idx : Int) (k0x : Int) (k1x : ByteArray) (k2x : Int) (generation : Int) (w : World) (R : Int → Bool → World → Prop) : Prop :=
  Calls Tryz.prog 6 #[.pointer b, .int .i64 idx, .agg #[.int .i64 k0x, .string k1x, .int .i64 k2x], .int .i64 generation] w fun en w1 => ∃ (r0 : Int) (r1 : Bool), en = .returned (.tuple #[.int .i64 r0, .bool r1]) ∧ R r0 r1 w1
theorem C_base_Base_Next.mono {b : Option Addr} {idx : Int} {k0x : Int} {k1x : ByteArray} {k2x : Int} {generation : Int} {w : World} {R R' : Int → Bool → World → Prop} (h : C_base_Base_Next b idx k0x k1x k2x generation w R) (hr : ∀ r0 r1 w1, R r0 r1 w1 → R' r0 r1 w1) : C_base_Base_Next b idx k0x k1x k2x generation w R' :=
  Calls.mono h fun _ _ ⟨r0, r1, he, h⟩ => ⟨r0, r1, he, hr r0 r1 _ h⟩

/-- (elenchus/base.Base).Clause -/
def C_base_Base_Clause (b : Option Addr) (idx : Int) (w : World) (R : Int → Int → ByteArray → Option Addr → Nat → Nat → Option Addr → Nat → Nat → Int → Int → World → Prop) : Prop :=
  Calls Tryz.prog 7 #[.pointer b, .int .i64 idx] w fun en w1 => ∃ (r00 : Int) (r01 : Int) (r02 : ByteArray) (r03P : Option Addr) (r03N : Nat) (r03C : Nat) (r04P : Option Addr) (r04N : Nat) (r04C : Nat) (r05 : Int) (r1 : Int), en = .returned (.tuple #[.agg #[.int .i64 r00, .int .i64 r01, .string r02, .slice r03P r03N r03C, .slice r04P r04N r04C, .int .i64 r05], .int .i64 r1]) ∧ R r00 r01 r02 r03P r03N r03C r04P r04N r04C r05 r1 w1
theorem C_base_Base_Clause.mono {b : Option Addr} {idx : Int} {w : World} {R R' : Int → Int → ByteArray → Option Addr → Nat → Nat → Option Addr → Nat → Nat → Int → Int → World → Prop} (h : C_base_Base_Clause b idx w R) (hr : ∀ r00 r01 r02 r03P r03N r03C r04P r04N r04C r05 r1 w1, R r00 r01 r02 r03P r03N r03C r04P r04N r04C r05 r1 w1 → R' r00 r01 r02 r03P r03N r03C r04P r04N r04C r05 r1 w1) : C_base_Base_Clause b idx w R' :=
  Calls.mono h fun _ _ ⟨r00, r01, r02, r03P, r03N, r03C, r04P, r04N, r04C, r05, r1, he, h⟩ => ⟨r00, r01, r02, r03P, r03N, r03C, r04P, r04N, r04C, r05, r1, he, hr r00 r01 r02 r03P r03N r03C r04P r04N r04C r05 r1 _ h⟩

/-- (elenchus/base.Base).Code -/
def C_base_Base_Code (b : Option Addr) (idx : Int) (w : World) (R : Option Addr → Nat → Nat → Int → World → Prop) : Prop :=
  Calls Tryz.prog 8 #[.pointer b, .int .i64 idx] w fun en w1 => ∃ (r0P : Option Addr) (r0N : Nat) (r0C : Nat) (r1 : Int), en = .returned (.tuple #[.slice r0P r0N r0C, .int .i64 r1]) ∧ R r0P r0N r0C r1 w1
theorem C_base_Base_Code.mono {b : Option Addr} {idx : Int} {w : World} {R R' : Option Addr → Nat → Nat → Int → World → Prop} (h : C_base_Base_Code b idx w R) (hr : ∀ r0P r0N r0C r1 w1, R r0P r0N r0C r1 w1 → R' r0P r0N r0C r1 w1) : C_base_Base_Code b idx w R' :=
  Calls.mono h fun _ _ ⟨r0P, r0N, r0C, r1, he, h⟩ => ⟨r0P, r0N, r0C, r1, he, hr r0P r0N r0C r1 _ h⟩

/-- (elenchus/base.Base).At -/
def C_base_Base_At (b : Option Addr) (idx : Int) (i : Int) (w : World) (R : Int → ByteArray → Int → Int → Int → Bool → World → Prop) : Prop :=
  Calls Tryz.prog 9 #[.pointer b, .int .i64 idx, .int .i64 i] w fun en w1 => ∃ (r00 : Int) (r01 : ByteArray) (r02 : Int) (r03 : Int) (r04 : Int) (r1 : Bool), en = .returned (.tuple #[.agg #[.int .i64 r00, .string r01, .int .i64 r02, .int .i64 r03, .int .i64 r04], .bool r1]) ∧ R r00 r01 r02 r03 r04 r1 w1
theorem C_base_Base_At.mono {b : Option Addr} {idx : Int} {i : Int} {w : World} {R R' : Int → ByteArray → Int → Int → Int → Bool → World → Prop} (h : C_base_Base_At b idx i w R) (hr : ∀ r00 r01 r02 r03 r04 r1 w1, R r00 r01 r02 r03 r04 r1 w1 → R' r00 r01 r02 r03 r04 r1 w1) : C_base_Base_At b idx i w R' :=
  Calls.mono h fun _ _ ⟨r00, r01, r02, r03, r04, r1, he, h⟩ => ⟨r00, r01, r02, r03, r04, r1, he, hr r00 r01 r02 r03 r04 r1 _ h⟩

/-- elenchus/elenchuslaw19.lives -/
def C_law19_lives  (w : World) (R : Bool → World → Prop) : Prop :=
  Calls Tryz.prog 10 #[] w fun en w1 => ∃ (r : Bool), en = .returned (.bool r) ∧ R r w1
theorem C_law19_lives.mono {w : World} {R R' : Bool → World → Prop} (h : C_law19_lives  w R) (hr : ∀ r w1, R r w1 → R' r w1) : C_law19_lives  w R' :=
  Calls.mono h fun _ _ ⟨r, he, h⟩ => ⟨r, he, hr r _ h⟩

/-- (elenchus/base.Base).Kill -/
def C_base_Base_Kill (b : Option Addr) (idx : Int) (w : World) (R : Int → World → Prop) : Prop :=
  Calls Tryz.prog 11 #[.pointer b, .int .i64 idx] w fun en w1 => ∃ (r : Int), en = .returned (.int .i64 r) ∧ R r w1
theorem C_base_Base_Kill.mono {b : Option Addr} {idx : Int} {w : World} {R R' : Int → World → Prop} (h : C_base_Base_Kill b idx w R) (hr : ∀ r w1, R r w1 → R' r w1) : C_base_Base_Kill b idx w R' :=
  Calls.mono h fun _ _ ⟨r, he, h⟩ => ⟨r, he, hr r _ h⟩

/-- (elenchus/base.Base).Generation -/
def C_base_Base_Generation (b : Option Addr) (w : World) (R : Int → World → Prop) : Prop :=
  Calls Tryz.prog 12 #[.pointer b] w fun en w1 => ∃ (r : Int), en = .returned (.int .i64 r) ∧ R r w1
theorem C_base_Base_Generation.mono {b : Option Addr} {w : World} {R R' : Int → World → Prop} (h : C_base_Base_Generation b w R) (hr : ∀ r w1, R r w1 → R' r w1) : C_base_Base_Generation b w R' :=
  Calls.mono h fun _ _ ⟨r, he, h⟩ => ⟨r, he, hr r _ h⟩

/-- (elenchus/base.Base).Lives -/
def C_base_Base_Lives (b : Option Addr) (idx : Int) (generation : Int) (w : World) (R : Bool → World → Prop) : Prop :=
  Calls Tryz.prog 13 #[.pointer b, .int .i64 idx, .int .i64 generation] w fun en w1 => ∃ (r : Bool), en = .returned (.bool r) ∧ R r w1
theorem C_base_Base_Lives.mono {b : Option Addr} {idx : Int} {generation : Int} {w : World} {R R' : Bool → World → Prop} (h : C_base_Base_Lives b idx generation w R) (hr : ∀ r w1, R r w1 → R' r w1) : C_base_Base_Lives b idx generation w R' :=
  Calls.mono h fun _ _ ⟨r, he, h⟩ => ⟨r, he, hr r _ h⟩

/-- (elenchus/base.Base).Known -/
def C_base_Base_Known (b : Option Addr) (namex : ByteArray) (arity : Int) (w : World) (R : Bool → World → Prop) : Prop :=
  Calls Tryz.prog 14 #[.pointer b, .string namex, .int .i64 arity] w fun en w1 => ∃ (r : Bool), en = .returned (.bool r) ∧ R r w1
theorem C_base_Base_Known.mono {b : Option Addr} {namex : ByteArray} {arity : Int} {w : World} {R R' : Bool → World → Prop} (h : C_base_Base_Known b namex arity w R) (hr : ∀ r w1, R r w1 → R' r w1) : C_base_Base_Known b namex arity w R' :=
  Calls.mono h fun _ _ ⟨r, he, h⟩ => ⟨r, he, hr r _ h⟩

/-- (elenchus/base.Base).Size -/
def C_base_Base_Size (b : Option Addr) (idx : Int) (w : World) (R : Int → World → Prop) : Prop :=
  Calls Tryz.prog 15 #[.pointer b, .int .i64 idx] w fun en w1 => ∃ (r : Int), en = .returned (.int .i64 r) ∧ R r w1
theorem C_base_Base_Size.mono {b : Option Addr} {idx : Int} {w : World} {R R' : Int → World → Prop} (h : C_base_Base_Size b idx w R) (hr : ∀ r w1, R r w1 → R' r w1) : C_base_Base_Size b idx w R' :=
  Calls.mono h fun _ _ ⟨r, he, h⟩ => ⟨r, he, hr r _ h⟩

/-- (elenchus/base.Base).Preds -/
def C_base_Base_Preds (b : Option Addr) (w : World) (R : Option Addr → Nat → Nat → World → Prop) : Prop :=
  Calls Tryz.prog 16 #[.pointer b] w fun en w1 => ∃ (rP : Option Addr) (rN : Nat) (rC : Nat), en = .returned (.slice rP rN rC) ∧ R rP rN rC w1
theorem C_base_Base_Preds.mono {b : Option Addr} {w : World} {R R' : Option Addr → Nat → Nat → World → Prop} (h : C_base_Base_Preds b w R) (hr : ∀ rP rN rC w1, R rP rN rC w1 → R' rP rN rC w1) : C_base_Base_Preds b w R' :=
  Calls.mono h fun _ _ ⟨rP, rN, rC, he, h⟩ => ⟨rP, rN, rC, he, hr rP rN rC _ h⟩

/-- (elenchus/base.Base).Slots -/
def C_base_Base_Slots (b : Option Addr) (w : World) (R : Int → World → Prop) : Prop :=
  Calls Tryz.prog 17 #[.pointer b] w fun en w1 => ∃ (r : Int), en = .returned (.int .i64 r) ∧ R r w1
theorem C_base_Base_Slots.mono {b : Option Addr} {w : World} {R R' : Int → World → Prop} (h : C_base_Base_Slots b w R) (hr : ∀ r w1, R r w1 → R' r w1) : C_base_Base_Slots b w R' :=
  Calls.mono h fun _ _ ⟨r, he, h⟩ => ⟨r, he, hr r _ h⟩

/-- (elenchus/base.Base).Reclaim -/
def C_base_Base_Reclaim (b : Option Addr) (used : Value) (w : World) (R : Int → World → Prop) : Prop :=
  Calls Tryz.prog 18 #[.pointer b, used] w fun en w1 => ∃ (r : Int), en = .returned (.int .i64 r) ∧ R r w1
theorem C_base_Base_Reclaim.mono {b : Option Addr} {used : Value} {w : World} {R R' : Int → World → Prop} (h : C_base_Base_Reclaim b used w R) (hr : ∀ r w1, R r w1 → R' r w1) : C_base_Base_Reclaim b used w R' :=
  Calls.mono h fun _ _ ⟨r, he, h⟩ => ⟨r, he, hr r _ h⟩

/-- elenchus/elenchuslaw19.nobody -/
def C_law19_nobody (idx : Int) (w : World) (R : Bool → World → Prop) : Prop :=
  Calls Tryz.prog 19 #[.int .i64 idx] w fun en w1 => ∃ (r : Bool), en = .returned (.bool r) ∧ R r w1
theorem C_law19_nobody.mono {idx : Int} {w : World} {R R' : Bool → World → Prop} (h : C_law19_nobody idx w R) (hr : ∀ r w1, R r w1 → R' r w1) : C_law19_nobody idx w R' :=
  Calls.mono h fun _ _ ⟨r, he, h⟩ => ⟨r, he, hr r _ h⟩

/-- (elenchus/base.Base).made -/
def C_base_Base_made (b : Option Addr) (w : World) (R : Bool → World → Prop) : Prop :=
  Calls Tryz.prog 20 #[.pointer b] w fun en w1 => ∃ (r : Bool), en = .returned (.bool r) ∧ R r w1
theorem C_base_Base_made.mono {b : Option Addr} {w : World} {R R' : Bool → World → Prop} (h : C_base_Base_made b w R) (hr : ∀ r w1, R r w1 → R' r w1) : C_base_Base_made b w R' :=
  Calls.mono h fun _ _ ⟨r, he, h⟩ => ⟨r, he, hr r _ h⟩

/-- (elenchus/base.Base).room -/
def C_base_Base_room (b : Option Addr) (w : World) (R : Int → Bool → World → Prop) : Prop :=
  Calls Tryz.prog 21 #[.pointer b] w fun en w1 => ∃ (r0 : Int) (r1 : Bool), en = .returned (.tuple #[.int .i64 r0, .bool r1]) ∧ R r0 r1 w1
theorem C_base_Base_room.mono {b : Option Addr} {w : World} {R R' : Int → Bool → World → Prop} (h : C_base_Base_room b w R) (hr : ∀ r0 r1 w1, R r0 r1 w1 → R' r0 r1 w1) : C_base_Base_room b w R' :=
  Calls.mono h fun _ _ ⟨r0, r1, he, h⟩ => ⟨r0, r1, he, hr r0 r1 _ h⟩

/-- elenchus/base.of -/
def C_base_of (t0 : Int) (t1 : Int) (t2 : ByteArray) (t3P : Option Addr) (t3N : Nat) (t3C : Nat) (w : World) (R : ByteArray → Int → World → Prop) : Prop :=
  Calls Tryz.prog 22 #[.agg #[.int .i64 t0, .int .i64 t1, .string t2, .slice t3P t3N t3C]] w fun en w1 => ∃ (r0 : ByteArray) (r1 : Int), en = .returned (.agg #[.string r0, .int .i64 r1]) ∧ R r0 r1 w1
theorem C_base_of.mono {t0 : Int} {t1 : Int} {t2 : ByteArray} {t3P : Option Addr} {t3N : Nat} {t3C : Nat} {w : World} {R R' : ByteArray → Int → World → Prop} (h : C_base_of t0 t1 t2 t3P t3N t3C w R) (hr : ∀ r0 r1 w1, R r0 r1 w1 → R' r0 r1 w1) : C_base_of t0 t1 t2 t3P t3N t3C w R' :=
  Calls.mono h fun _ _ ⟨r0, r1, he, h⟩ => ⟨r0, r1, he, hr r0 r1 _ h⟩

/-- (elenchus/index.Table).Len -/
def C_index_Table_Len (t : Option Addr) (w : World) (R : Int → World → Prop) : Prop :=
  Calls Tryz.prog 23 #[.pointer t] w fun en w1 => ∃ (r : Int), en = .returned (.int .i64 r) ∧ R r w1
theorem C_index_Table_Len.mono {t : Option Addr} {w : World} {R R' : Int → World → Prop} (h : C_index_Table_Len t w R) (hr : ∀ r w1, R r w1 → R' r w1) : C_index_Table_Len t w R' :=
  Calls.mono h fun _ _ ⟨r, he, h⟩ => ⟨r, he, hr r _ h⟩

/-- elenchus/index.New -/
def C_index_New  (w : World) (R : Option Addr → World → Prop) : Prop :=
  Calls Tryz.prog 24 #[] w fun en w1 => ∃ (r : Option Addr), en = .returned (.pointer r) ∧ R r w1
theorem C_index_New.mono {w : World} {R R' : Option Addr → World → Prop} (h : C_index_New  w R) (hr : ∀ r w1, R r w1 → R' r w1) : C_index_New  w R' :=
  Calls.mono h fun _ _ ⟨r, he, h⟩ => ⟨r, he, hr r _ h⟩

/-- (elenchus/index.Table).Add -/
def C_index_Table_Add (t : Option Addr) (idx : Int) (k0x : Int) (k1x : ByteArray) (k2x : Int) (front : Bool) (w : World) (R : Int → World → Prop) : Prop :=
  Calls Tryz.prog 25 #[.pointer t, .int .i64 idx, .agg #[.int .i64 k0x, .string k1x, .int .i64 k2x], .bool front] w fun en w1 => ∃ (r : Int), en = .returned (.int .i64 r) ∧ R r w1
theorem C_index_Table_Add.mono {t : Option Addr} {idx : Int} {k0x : Int} {k1x : ByteArray} {k2x : Int} {front : Bool} {w : World} {R R' : Int → World → Prop} (h : C_index_Table_Add t idx k0x k1x k2x front w R) (hr : ∀ r w1, R r w1 → R' r w1) : C_index_Table_Add t idx k0x k1x k2x front w R' :=
  Calls.mono h fun _ _ ⟨r, he, h⟩ => ⟨r, he, hr r _ h⟩

/-- elenchus/index.First -/
def C_index_First (t0 : Int) (t1 : Int) (t2 : ByteArray) (t3P : Option Addr) (t3N : Nat) (t3C : Nat) (w : World) (R : Int → ByteArray → Int → World → Prop) : Prop :=
  Calls Tryz.prog 26 #[.agg #[.int .i64 t0, .int .i64 t1, .string t2, .slice t3P t3N t3C]] w fun en w1 => ∃ (r0 : Int) (r1 : ByteArray) (r2 : Int), en = .returned (.agg #[.int .i64 r0, .string r1, .int .i64 r2]) ∧ R r0 r1 r2 w1
theorem C_index_First.mono {t0 : Int} {t1 : Int} {t2 : ByteArray} {t3P : Option Addr} {t3N : Nat} {t3C : Nat} {w : World} {R R' : Int → ByteArray → Int → World → Prop} (h : C_index_First t0 t1 t2 t3P t3N t3C w R) (hr : ∀ r0 r1 r2 w1, R r0 r1 r2 w1 → R' r0 r1 r2 w1) : C_index_First t0 t1 t2 t3P t3N t3C w R' :=
  Calls.mono h fun _ _ ⟨r0, r1, r2, he, h⟩ => ⟨r0, r1, r2, he, hr r0 r1 r2 _ h⟩

/-- (elenchus/base.Base).take -/
def C_base_Base_take (b : Option Addr) (idx : Int) (s0x : Int) (s1x : Int) (s2x : ByteArray) (s3P : Option Addr) (s3N : Nat) (s3C : Nat) (s4P : Option Addr) (s4N : Nat) (s4C : Nat) (s5x : Int) (s6P : Option Addr) (s6N : Nat) (s6C : Nat) (s7x : Int) (s8x : Int) (s9x : Bool) (w : World) (R : World → Prop) : Prop :=
  Calls Tryz.prog 27 #[.pointer b, .int .i64 idx, .agg #[.int .i64 s0x, .int .i64 s1x, .string s2x, .slice s3P s3N s3C, .slice s4P s4N s4C, .int .i64 s5x, .slice s6P s6N s6C, .int .i64 s7x, .int .i64 s8x, .bool s9x]] w fun en w1 => en = .returned (.tuple #[]) ∧ R w1
theorem C_base_Base_take.mono {b : Option Addr} {idx : Int} {s0x : Int} {s1x : Int} {s2x : ByteArray} {s3P : Option Addr} {s3N : Nat} {s3C : Nat} {s4P : Option Addr} {s4N : Nat} {s4C : Nat} {s5x : Int} {s6P : Option Addr} {s6N : Nat} {s6C : Nat} {s7x : Int} {s8x : Int} {s9x : Bool} {w : World} {R R' : World → Prop} (h : C_base_Base_take b idx s0x s1x s2x s3P s3N s3C s4P s4N s4C s5x s6P s6N s6C s7x s8x s9x w R) (hr : ∀ w1, R w1 → R' w1) : C_base_Base_take b idx s0x s1x s2x s3P s3N s3C s4P s4N s4C s5x s6P s6N s6C s7x s8x s9x w R' :=
  Calls.mono h fun _ _ ⟨he, h⟩ => ⟨he, hr _ h⟩

/-- elenchus/base.copyOf -/
def C_base_copyOf (c0 : Int) (c1 : Int) (c2 : ByteArray) (c3P : Option Addr) (c3N : Nat) (c3C : Nat) (c4P : Option Addr) (c4N : Nat) (c4C : Nat) (c5 : Int) (w : World) (R : Int → Int → ByteArray → Option Addr → Nat → Nat → Option Addr → Nat → Nat → Int → World → Prop) : Prop :=
  Calls Tryz.prog 28 #[.agg #[.int .i64 c0, .int .i64 c1, .string c2, .slice c3P c3N c3C, .slice c4P c4N c4C, .int .i64 c5]] w fun en w1 => ∃ (r0 : Int) (r1 : Int) (r2 : ByteArray) (r3P : Option Addr) (r3N : Nat) (r3C : Nat) (r4P : Option Addr) (r4N : Nat) (r4C : Nat) (r5 : Int), en = .returned (.agg #[.int .i64 r0, .int .i64 r1, .string r2, .slice r3P r3N r3C, .slice r4P r4N r4C, .int .i64 r5]) ∧ R r0 r1 r2 r3P r3N r3C r4P r4N r4C r5 w1
theorem C_base_copyOf.mono {c0 : Int} {c1 : Int} {c2 : ByteArray} {c3P : Option Addr} {c3N : Nat} {c3C : Nat} {c4P : Option Addr} {c4N : Nat} {c4C : Nat} {c5 : Int} {w : World} {R R' : Int → Int → ByteArray → Option Addr → Nat → Nat → Option Addr → Nat → Nat → Int → World → Prop} (h : C_base_copyOf c0 c1 c2 c3P c3N c3C c4P c4N c4C c5 w R) (hr : ∀ r0 r1 r2 r3P r3N r3C r4P r4N r4C r5 w1, R r0 r1 r2 r3P r3N r3C r4P r4N r4C r5 w1 → R' r0 r1 r2 r3P r3N r3C r4P r4N r4C r5 w1) : C_base_copyOf c0 c1 c2 c3P c3N c3C c4P c4N c4C c5 w R' :=
  Calls.mono h fun _ _ ⟨r0, r1, r2, r3P, r3N, r3C, r4P, r4N, r4C, r5, he, h⟩ => ⟨r0, r1, r2, r3P, r3N, r3C, r4P, r4N, r4C, r5, he, hr r0 r1 r2 r3P r3N r3C r4P r4N r4C r5 _ h⟩

/-- slices.Clone[[]elenchus/api.Instr,elenchus/api.Instr] -/
def C_slices_Clone (sP : Option Addr) (sN : Nat) (sC : Nat) (w : World) (R : Option Addr → Nat → Nat → World → Prop) : Prop :=
  Calls Tryz.prog 29 #[.slice sP sN sC] w fun en w1 => ∃ (rP : Option Addr) (rN : Nat) (rC : Nat), en = .returned (.slice rP rN rC) ∧ R rP rN rC w1
theorem C_slices_Clone.mono {sP : Option Addr} {sN : Nat} {sC : Nat} {w : World} {R R' : Option Addr → Nat → Nat → World → Prop} (h : C_slices_Clone sP sN sC w R) (hr : ∀ rP rN rC w1, R rP rN rC w1 → R' rP rN rC w1) : C_slices_Clone sP sN sC w R' :=
  Calls.mono h fun _ _ ⟨rP, rN, rC, he, h⟩ => ⟨rP, rN, rC, he, hr rP rN rC _ h⟩

/-- (elenchus/index.Table).Head -/
def C_index_Table_Head (t : Option Addr) (k0x : Int) (k1x : ByteArray) (k2x : Int) (w : World) (R : Int → Bool → World → Prop) : Prop :=
  Calls Tryz.prog 30 #[.pointer t, .agg #[.int .i64 k0x, .string k1x, .int .i64 k2x]] w fun en w1 => ∃ (r0 : Int) (r1 : Bool), en = .returned (.tuple #[.int .i64 r0, .bool r1]) ∧ R r0 r1 w1
theorem C_index_Table_Head.mono {t : Option Addr} {k0x : Int} {k1x : ByteArray} {k2x : Int} {w : World} {R R' : Int → Bool → World → Prop} (h : C_index_Table_Head t k0x k1x k2x w R) (hr : ∀ r0 r1 w1, R r0 r1 w1 → R' r0 r1 w1) : C_index_Table_Head t k0x k1x k2x w R' :=
  Calls.mono h fun _ _ ⟨r0, r1, he, h⟩ => ⟨r0, r1, he, hr r0 r1 _ h⟩

/-- (elenchus/base.Base).first -/
def C_base_Base_first (b : Option Addr) (t : Option Addr) (idx : Int) (isx : Bool) (k0x : Int) (k1x : ByteArray) (k2x : Int) (generation : Int) (w : World) (R : Int → Bool → World → Prop) : Prop :=
  Calls Tryz.prog 31 #[.pointer b, .pointer t, .int .i64 idx, .bool isx, .agg #[.int .i64 k0x, .string k1x, .int .i64 k2x], .int .i64 generation] w fun en w1 => ∃ (r0 : Int) (r1 : Bool), en = .returned (.tuple #[.int .i64 r0, .bool r1]) ∧ R r0 r1 w1
theorem C_base_Base_first.mono {b : Option Addr} {t : Option Addr} {idx : Int} {isx : Bool} {k0x : Int} {k1x : ByteArray} {k2x : Int} {generation : Int} {w : World} {R R' : Int → Bool → World → Prop} (h : C_base_Base_first b t idx isx k0x k1x k2x generation w R) (hr : ∀ r0 r1 w1, R r0 r1 w1 → R' r0 r1 w1) : C_base_Base_first b t idx isx k0x k1x k2x generation w R' :=
  Calls.mono h fun _ _ ⟨r0, r1, he, h⟩ => ⟨r0, r1, he, hr r0 r1 _ h⟩

/-- (elenchus/base.Base).has -/
def C_base_Base_has (b : Option Addr) (idx : Int) (w : World) (R : Bool → World → Prop) : Prop :=
  Calls Tryz.prog 32 #[.pointer b, .int .i64 idx] w fun en w1 => ∃ (r : Bool), en = .returned (.bool r) ∧ R r w1
theorem C_base_Base_has.mono {b : Option Addr} {idx : Int} {w : World} {R R' : Bool → World → Prop} (h : C_base_Base_has b idx w R) (hr : ∀ r w1, R r w1 → R' r w1) : C_base_Base_has b idx w R' :=
  Calls.mono h fun _ _ ⟨r, he, h⟩ => ⟨r, he, hr r _ h⟩

/-- (elenchus/index.Table).Next -/
def C_index_Table_Next (t : Option Addr) (after : Int) (k0x : Int) (k1x : ByteArray) (k2x : Int) (w : World) (R : Int → Bool → World → Prop) : Prop :=
  Calls Tryz.prog 33 #[.pointer t, .int .i64 after, .agg #[.int .i64 k0x, .string k1x, .int .i64 k2x]] w fun en w1 => ∃ (r0 : Int) (r1 : Bool), en = .returned (.tuple #[.int .i64 r0, .bool r1]) ∧ R r0 r1 w1
theorem C_index_Table_Next.mono {t : Option Addr} {after : Int} {k0x : Int} {k1x : ByteArray} {k2x : Int} {w : World} {R R' : Int → Bool → World → Prop} (h : C_index_Table_Next t after k0x k1x k2x w R) (hr : ∀ r0 r1 w1, R r0 r1 w1 → R' r0 r1 w1) : C_index_Table_Next t after k0x k1x k2x w R' :=
  Calls.mono h fun _ _ ⟨r0, r1, he, h⟩ => ⟨r0, r1, he, hr r0 r1 _ h⟩

/-- (elenchus/base.Base).may -/
def C_base_Base_may (b : Option Addr) (idx : Int) (w : World) (R : Int → World → Prop) : Prop :=
  Calls Tryz.prog 34 #[.pointer b, .int .i64 idx] w fun en w1 => ∃ (r : Int), en = .returned (.int .i64 r) ∧ R r w1
theorem C_base_Base_may.mono {b : Option Addr} {idx : Int} {w : World} {R R' : Int → World → Prop} (h : C_base_Base_may b idx w R) (hr : ∀ r w1, R r w1 → R' r w1) : C_base_Base_may b idx w R' :=
  Calls.mono h fun _ _ ⟨r, he, h⟩ => ⟨r, he, hr r _ h⟩

/-- elenchus/base.New -/
def C_base_New (limitx : Int) (w : World) (R : Option Addr → Int → World → Prop) : Prop :=
  Calls Tryz.prog 35 #[.int .i64 limitx] w fun en w1 => ∃ (r0 : Option Addr) (r1 : Int), en = .returned (.tuple #[.pointer r0, .int .i64 r1]) ∧ R r0 r1 w1
theorem C_base_New.mono {limitx : Int} {w : World} {R R' : Option Addr → Int → World → Prop} (h : C_base_New limitx w R) (hr : ∀ r0 r1 w1, R r0 r1 w1 → R' r0 r1 w1) : C_base_New limitx w R' :=
  Calls.mono h fun _ _ ⟨r0, r1, he, h⟩ => ⟨r0, r1, he, hr r0 r1 _ h⟩

/-- elenchus/elenchuslaw19.fact -/
def C_law19_fact (n : Int) (w : World) (R : Int → Int → ByteArray → Option Addr → Nat → Nat → Option Addr → Nat → Nat → Int → World → Prop) : Prop :=
  Calls Tryz.prog 36 #[.int .i64 n] w fun en w1 => ∃ (r0 : Int) (r1 : Int) (r2 : ByteArray) (r3P : Option Addr) (r3N : Nat) (r3C : Nat) (r4P : Option Addr) (r4N : Nat) (r4C : Nat) (r5 : Int), en = .returned (.agg #[.int .i64 r0, .int .i64 r1, .string r2, .slice r3P r3N r3C, .slice r4P r4N r4C, .int .i64 r5]) ∧ R r0 r1 r2 r3P r3N r3C r4P r4N r4C r5 w1
theorem C_law19_fact.mono {n : Int} {w : World} {R R' : Int → Int → ByteArray → Option Addr → Nat → Nat → Option Addr → Nat → Nat → Int → World → Prop} (h : C_law19_fact n w R) (hr : ∀ r0 r1 r2 r3P r3N r3C r4P r4N r4C r5 w1, R r0 r1 r2 r3P r3N r3C r4P r4N r4C r5 w1 → R' r0 r1 r2 r3P r3N r3C r4P r4N r4C r5 w1) : C_law19_fact n w R' :=
  Calls.mono h fun _ _ ⟨r0, r1, r2, r3P, r3N, r3C, r4P, r4N, r4C, r5, he, h⟩ => ⟨r0, r1, r2, r3P, r3N, r3C, r4P, r4N, r4C, r5, he, hr r0 r1 r2 r3P r3N r3C r4P r4N r4C r5 _ h⟩

/-- elenchus/elenchusref06.Exact -/
def C_ref06_Exact (a0 : Int) (a1 : Int) (a2 : ByteArray) (a3P : Option Addr) (a3N : Nat) (a3C : Nat) (b0 : Int) (b1 : Int) (b2 : ByteArray) (b3P : Option Addr) (b3N : Nat) (b3C : Nat) (w : World) (R : Bool → World → Prop) : Prop :=
  Calls Tryz.prog 37 #[.agg #[.int .i64 a0, .int .i64 a1, .string a2, .slice a3P a3N a3C], .agg #[.int .i64 b0, .int .i64 b1, .string b2, .slice b3P b3N b3C]] w fun en w1 => ∃ (r : Bool), en = .returned (.bool r) ∧ R r w1
theorem C_ref06_Exact.mono {a0 : Int} {a1 : Int} {a2 : ByteArray} {a3P : Option Addr} {a3N : Nat} {a3C : Nat} {b0 : Int} {b1 : Int} {b2 : ByteArray} {b3P : Option Addr} {b3N : Nat} {b3C : Nat} {w : World} {R R' : Bool → World → Prop} (h : C_ref06_Exact a0 a1 a2 a3P a3N a3C b0 b1 b2 b3P b3N b3C w R) (hr : ∀ r w1, R r w1 → R' r w1) : C_ref06_Exact a0 a1 a2 a3P a3N a3C b0 b1 b2 b3P b3N b3C w R' :=
  Calls.mono h fun _ _ ⟨r, he, h⟩ => ⟨r, he, hr r _ h⟩

/-- (elenchus/base.Base).live -/
def C_base_Base_live (b : Option Addr) (t : Option Addr) (w : World) (R : Int → World → Prop) : Prop :=
  Calls Tryz.prog 38 #[.pointer b, .pointer t] w fun en w1 => ∃ (r : Int), en = .returned (.int .i64 r) ∧ R r w1
theorem C_base_Base_live.mono {b : Option Addr} {t : Option Addr} {w : World} {R R' : Int → World → Prop} (h : C_base_Base_live b t w R) (hr : ∀ r w1, R r w1 → R' r w1) : C_base_Base_live b t w R' :=
  Calls.mono h fun _ _ ⟨r, he, h⟩ => ⟨r, he, hr r _ h⟩

/-- slices.SortFunc[[]elenchus/api.Pred,elenchus/api.Pred] -/
def C_slices_SortFunc (xP : Option Addr) (xN : Nat) (xC : Nat) (cmp : Value) (w : World) (R : World → Prop) : Prop :=
  Calls Tryz.prog 39 #[.slice xP xN xC, cmp] w fun en w1 => en = .returned (.tuple #[]) ∧ R w1
theorem C_slices_SortFunc.mono {xP : Option Addr} {xN : Nat} {xC : Nat} {cmp : Value} {w : World} {R R' : World → Prop} (h : C_slices_SortFunc xP xN xC cmp w R) (hr : ∀ w1, R w1 → R' w1) : C_slices_SortFunc xP xN xC cmp w R' :=
  Calls.mono h fun _ _ ⟨he, h⟩ => ⟨he, hr _ h⟩

/-- (elenchus/base.Base).Preds-1 -/
def C_base_Base_Preds_1 (a0 : ByteArray) (a1 : Int) (a2 : Int) (b0 : ByteArray) (b1 : Int) (b2 : Int) (w : World) (R : Int → World → Prop) : Prop :=
  Calls Tryz.prog 40 #[.agg #[.string a0, .int .i64 a1, .int .i64 a2], .agg #[.string b0, .int .i64 b1, .int .i64 b2]] w fun en w1 => ∃ (r : Int), en = .returned (.int .i64 r) ∧ R r w1
theorem C_base_Base_Preds_1.mono {a0 : ByteArray} {a1 : Int} {a2 : Int} {b0 : ByteArray} {b1 : Int} {b2 : Int} {w : World} {R R' : Int → World → Prop} (h : C_base_Base_Preds_1 a0 a1 a2 b0 b1 b2 w R) (hr : ∀ r w1, R r w1 → R' r w1) : C_base_Base_Preds_1 a0 a1 a2 b0 b1 b2 w R' :=
  Calls.mono h fun _ _ ⟨r, he, h⟩ => ⟨r, he, hr r _ h⟩

/-- cmp.Or[int] -/
def C_cmp_Or (valsP : Option Addr) (valsN : Nat) (valsC : Nat) (w : World) (R : Int → World → Prop) : Prop :=
  Calls Tryz.prog 41 #[.slice valsP valsN valsC] w fun en w1 => ∃ (r : Int), en = .returned (.int .i64 r) ∧ R r w1
theorem C_cmp_Or.mono {valsP : Option Addr} {valsN : Nat} {valsC : Nat} {w : World} {R R' : Int → World → Prop} (h : C_cmp_Or valsP valsN valsC w R) (hr : ∀ r w1, R r w1 → R' r w1) : C_cmp_Or valsP valsN valsC w R' :=
  Calls.mono h fun _ _ ⟨r, he, h⟩ => ⟨r, he, hr r _ h⟩

/-- cmp.Compare[string] -/
def C_cmp_Compare (x : ByteArray) (y : ByteArray) (w : World) (R : Int → World → Prop) : Prop :=
  Calls Tryz.prog 42 #[.string x, .string y] w fun en w1 => ∃ (r : Int), en = .returned (.int .i64 r) ∧ R r w1
theorem C_cmp_Compare.mono {x : ByteArray} {y : ByteArray} {w : World} {R R' : Int → World → Prop} (h : C_cmp_Compare x y w R) (hr : ∀ r w1, R r w1 → R' r w1) : C_cmp_Compare x y w R' :=
  Calls.mono h fun _ _ ⟨r, he, h⟩ => ⟨r, he, hr r _ h⟩

/-- cmp.Compare[int] -/
def C_cmp_Compare__2 (x : Int) (y : Int) (w : World) (R : Int → World → Prop) : Prop :=
  Calls Tryz.prog 43 #[.int .i64 x, .int .i64 y] w fun en w1 => ∃ (r : Int), en = .returned (.int .i64 r) ∧ R r w1
theorem C_cmp_Compare__2.mono {x : Int} {y : Int} {w : World} {R R' : Int → World → Prop} (h : C_cmp_Compare__2 x y w R) (hr : ∀ r w1, R r w1 → R' r w1) : C_cmp_Compare__2 x y w R' :=
  Calls.mono h fun _ _ ⟨r, he, h⟩ => ⟨r, he, hr r _ h⟩

/-- (elenchus/index.Table).Drop -/
def C_index_Table_Drop (t : Option Addr) (idx : Int) (w : World) (R : Int → World → Prop) : Prop :=
  Calls Tryz.prog 44 #[.pointer t, .int .i64 idx] w fun en w1 => ∃ (r : Int), en = .returned (.int .i64 r) ∧ R r w1
theorem C_index_Table_Drop.mono {t : Option Addr} {idx : Int} {w : World} {R R' : Int → World → Prop} (h : C_index_Table_Drop t idx w R) (hr : ∀ r w1, R r w1 → R' r w1) : C_index_Table_Drop t idx w R' :=
  Calls.mono h fun _ _ ⟨r, he, h⟩ => ⟨r, he, hr r _ h⟩

/-- slices.Sort[[]int,int] -/
def C_slices_Sort (xP : Option Addr) (xN : Nat) (xC : Nat) (w : World) (R : World → Prop) : Prop :=
  Calls Tryz.prog 45 #[.slice xP xN xC] w fun en w1 => en = .returned (.tuple #[]) ∧ R w1
theorem C_slices_Sort.mono {xP : Option Addr} {xN : Nat} {xC : Nat} {w : World} {R R' : World → Prop} (h : C_slices_Sort xP xN xC w R) (hr : ∀ w1, R w1 → R' w1) : C_slices_Sort xP xN xC w R' :=
  Calls.mono h fun _ _ ⟨he, h⟩ => ⟨he, hr _ h⟩

/-- (elenchus/index.Table).made -/
def C_index_Table_made (t : Option Addr) (w : World) (R : Bool → World → Prop) : Prop :=
  Calls Tryz.prog 46 #[.pointer t] w fun en w1 => ∃ (r : Bool), en = .returned (.bool r) ∧ R r w1
theorem C_index_Table_made.mono {t : Option Addr} {w : World} {R R' : Bool → World → Prop} (h : C_index_Table_made t w R) (hr : ∀ r w1, R r w1 → R' r w1) : C_index_Table_made t w R' :=
  Calls.mono h fun _ _ ⟨r, he, h⟩ => ⟨r, he, hr r _ h⟩

/-- elenchus/index.key -/
def C_index_key (k0x : Int) (k1x : ByteArray) (k2x : Int) (w : World) (R : Int → ByteArray → Int → World → Prop) : Prop :=
  Calls Tryz.prog 47 #[.agg #[.int .i64 k0x, .string k1x, .int .i64 k2x]] w fun en w1 => ∃ (r0 : Int) (r1 : ByteArray) (r2 : Int), en = .returned (.agg #[.int .i64 r0, .string r1, .int .i64 r2]) ∧ R r0 r1 r2 w1
theorem C_index_key.mono {k0x : Int} {k1x : ByteArray} {k2x : Int} {w : World} {R R' : Int → ByteArray → Int → World → Prop} (h : C_index_key k0x k1x k2x w R) (hr : ∀ r0 r1 r2 w1, R r0 r1 r2 w1 → R' r0 r1 r2 w1) : C_index_key k0x k1x k2x w R' :=
  Calls.mono h fun _ _ ⟨r0, r1, r2, he, h⟩ => ⟨r0, r1, r2, he, hr r0 r1 r2 _ h⟩

/-- elenchus/index.put -/
def C_index_put (rP : Option Addr) (rN : Nat) (rC : Nat) (e0 : Int) (e1 : Int) (w : World) (R : Option Addr → Nat → Nat → World → Prop) : Prop :=
  Calls Tryz.prog 48 #[.slice rP rN rC, .agg #[.int .i64 e0, .int .i64 e1]] w fun en w1 => ∃ (rP_1 : Option Addr) (rN_1 : Nat) (rC_1 : Nat), en = .returned (.slice rP_1 rN_1 rC_1) ∧ R rP_1 rN_1 rC_1 w1
theorem C_index_put.mono {rP : Option Addr} {rN : Nat} {rC : Nat} {e0 : Int} {e1 : Int} {w : World} {R R' : Option Addr → Nat → Nat → World → Prop} (h : C_index_put rP rN rC e0 e1 w R) (hr : ∀ rP_1 rN_1 rC_1 w1, R rP_1 rN_1 rC_1 w1 → R' rP_1 rN_1 rC_1 w1) : C_index_put rP rN rC e0 e1 w R' :=
  Calls.mono h fun _ _ ⟨rP_1, rN_1, rC_1, he, h⟩ => ⟨rP_1, rN_1, rC_1, he, hr rP_1 rN_1 rC_1 _ h⟩

/-- elenchus/index.KeyOf -/
def C_index_KeyOf (t0 : Int) (t1 : Int) (t2 : ByteArray) (t3P : Option Addr) (t3N : Nat) (t3C : Nat) (w : World) (R : Int → ByteArray → Int → World → Prop) : Prop :=
  Calls Tryz.prog 49 #[.agg #[.int .i64 t0, .int .i64 t1, .string t2, .slice t3P t3N t3C]] w fun en w1 => ∃ (r0 : Int) (r1 : ByteArray) (r2 : Int), en = .returned (.agg #[.int .i64 r0, .string r1, .int .i64 r2]) ∧ R r0 r1 r2 w1
theorem C_index_KeyOf.mono {t0 : Int} {t1 : Int} {t2 : ByteArray} {t3P : Option Addr} {t3N : Nat} {t3C : Nat} {w : World} {R R' : Int → ByteArray → Int → World → Prop} (h : C_index_KeyOf t0 t1 t2 t3P t3N t3C w R) (hr : ∀ r0 r1 r2 w1, R r0 r1 r2 w1 → R' r0 r1 r2 w1) : C_index_KeyOf t0 t1 t2 t3P t3N t3C w R' :=
  Calls.mono h fun _ _ ⟨r0, r1, r2, he, h⟩ => ⟨r0, r1, r2, he, hr r0 r1 r2 _ h⟩

/-- elenchus/base.clone -/
def C_base_clone (t0 : Int) (t1 : Int) (t2 : ByteArray) (t3P : Option Addr) (t3N : Nat) (t3C : Nat) (w : World) (R : Int → Int → ByteArray → Option Addr → Nat → Nat → World → Prop) : Prop :=
  Calls Tryz.prog 50 #[.agg #[.int .i64 t0, .int .i64 t1, .string t2, .slice t3P t3N t3C]] w fun en w1 => ∃ (r0 : Int) (r1 : Int) (r2 : ByteArray) (r3P : Option Addr) (r3N : Nat) (r3C : Nat), en = .returned (.agg #[.int .i64 r0, .int .i64 r1, .string r2, .slice r3P r3N r3C]) ∧ R r0 r1 r2 r3P r3N r3C w1
theorem C_base_clone.mono {t0 : Int} {t1 : Int} {t2 : ByteArray} {t3P : Option Addr} {t3N : Nat} {t3C : Nat} {w : World} {R R' : Int → Int → ByteArray → Option Addr → Nat → Nat → World → Prop} (h : C_base_clone t0 t1 t2 t3P t3N t3C w R) (hr : ∀ r0 r1 r2 r3P r3N r3C w1, R r0 r1 r2 r3P r3N r3C w1 → R' r0 r1 r2 r3P r3N r3C w1) : C_base_clone t0 t1 t2 t3P t3N t3C w R' :=
  Calls.mono h fun _ _ ⟨r0, r1, r2, r3P, r3N, r3C, he, h⟩ => ⟨r0, r1, r2, r3P, r3N, r3C, he, hr r0 r1 r2 r3P r3N r3C _ h⟩

/-- (elenchus/index.Table).behind -/
def C_index_Table_behind (t : Option Addr) (rank : Int) (k0x : Int) (k1x : ByteArray) (k2x : Int) (w : World) (R : Int → Bool → World → Prop) : Prop :=
  Calls Tryz.prog 51 #[.pointer t, .int .i64 rank, .agg #[.int .i64 k0x, .string k1x, .int .i64 k2x]] w fun en w1 => ∃ (r0 : Int) (r1 : Bool), en = .returned (.tuple #[.int .i64 r0, .bool r1]) ∧ R r0 r1 w1
theorem C_index_Table_behind.mono {t : Option Addr} {rank : Int} {k0x : Int} {k1x : ByteArray} {k2x : Int} {w : World} {R R' : Int → Bool → World → Prop} (h : C_index_Table_behind t rank k0x k1x k2x w R) (hr : ∀ r0 r1 w1, R r0 r1 w1 → R' r0 r1 w1) : C_index_Table_behind t rank k0x k1x k2x w R' :=
  Calls.mono h fun _ _ ⟨r0, r1, he, h⟩ => ⟨r0, r1, he, hr r0 r1 _ h⟩

/-- elenchus/elenchusref06.Comp -/
def C_ref06_Comp (sx : ByteArray) (lP : Option Addr) (lN : Nat) (lC : Nat) (w : World) (R : Int → Int → ByteArray → Option Addr → Nat → Nat → World → Prop) : Prop :=
  Calls Tryz.prog 52 #[.string sx, .slice lP lN lC] w fun en w1 => ∃ (r0 : Int) (r1 : Int) (r2 : ByteArray) (r3P : Option Addr) (r3N : Nat) (r3C : Nat), en = .returned (.agg #[.int .i64 r0, .int .i64 r1, .string r2, .slice r3P r3N r3C]) ∧ R r0 r1 r2 r3P r3N r3C w1
theorem C_ref06_Comp.mono {sx : ByteArray} {lP : Option Addr} {lN : Nat} {lC : Nat} {w : World} {R R' : Int → Int → ByteArray → Option Addr → Nat → Nat → World → Prop} (h : C_ref06_Comp sx lP lN lC w R) (hr : ∀ r0 r1 r2 r3P r3N r3C w1, R r0 r1 r2 r3P r3N r3C w1 → R' r0 r1 r2 r3P r3N r3C w1) : C_ref06_Comp sx lP lN lC w R' :=
  Calls.mono h fun _ _ ⟨r0, r1, r2, r3P, r3N, r3C, he, h⟩ => ⟨r0, r1, r2, r3P, r3N, r3C, he, hr r0 r1 r2 r3P r3N r3C _ h⟩

/-- elenchus/elenchusref06.Int -/
def C_ref06_Int (n : Int) (w : World) (R : Int → Int → ByteArray → Option Addr → Nat → Nat → World → Prop) : Prop :=
  Calls Tryz.prog 53 #[.int .i64 n] w fun en w1 => ∃ (r0 : Int) (r1 : Int) (r2 : ByteArray) (r3P : Option Addr) (r3N : Nat) (r3C : Nat), en = .returned (.agg #[.int .i64 r0, .int .i64 r1, .string r2, .slice r3P r3N r3C]) ∧ R r0 r1 r2 r3P r3N r3C w1
theorem C_ref06_Int.mono {n : Int} {w : World} {R R' : Int → Int → ByteArray → Option Addr → Nat → Nat → World → Prop} (h : C_ref06_Int n w R) (hr : ∀ r0 r1 r2 r3P r3N r3C w1, R r0 r1 r2 r3P r3N r3C w1 → R' r0 r1 r2 r3P r3N r3C w1) : C_ref06_Int n w R' :=
  Calls.mono h fun _ _ ⟨r0, r1, r2, r3P, r3N, r3C, he, h⟩ => ⟨r0, r1, r2, r3P, r3N, r3C, he, hr r0 r1 r2 r3P r3N r3C _ h⟩

/-- (elenchus/index.Table).All -/
def C_index_Table_All (t : Option Addr) (k0x : Int) (k1x : ByteArray) (k2x : Int) (w : World) (R : Option Addr → Nat → Nat → World → Prop) : Prop :=
  Calls Tryz.prog 54 #[.pointer t, .agg #[.int .i64 k0x, .string k1x, .int .i64 k2x]] w fun en w1 => ∃ (rP : Option Addr) (rN : Nat) (rC : Nat), en = .returned (.slice rP rN rC) ∧ R rP rN rC w1
theorem C_index_Table_All.mono {t : Option Addr} {k0x : Int} {k1x : ByteArray} {k2x : Int} {w : World} {R R' : Option Addr → Nat → Nat → World → Prop} (h : C_index_Table_All t k0x k1x k2x w R) (hr : ∀ rP rN rC w1, R rP rN rC w1 → R' rP rN rC w1) : C_index_Table_All t k0x k1x k2x w R' :=
  Calls.mono h fun _ _ ⟨rP, rN, rC, he, h⟩ => ⟨rP, rN, rC, he, hr rP rN rC _ h⟩

/-- slices.pdqsortCmpFunc[elenchus/api.Pred] -/
def C_slices_pdqsortCmpFunc (dataP : Option Addr) (dataN : Nat) (dataC : Nat) (a : Int) (b : Int) (limitx : Int) (cmp : Value) (w : World) (R : World → Prop) : Prop :=
  Calls Tryz.prog 55 #[.slice dataP dataN dataC, .int .i64 a, .int .i64 b, .int .i64 limitx, cmp] w fun en w1 => en = .returned (.tuple #[]) ∧ R w1
theorem C_slices_pdqsortCmpFunc.mono {dataP : Option Addr} {dataN : Nat} {dataC : Nat} {a : Int} {b : Int} {limitx : Int} {cmp : Value} {w : World} {R R' : World → Prop} (h : C_slices_pdqsortCmpFunc dataP dataN dataC a b limitx cmp w R) (hr : ∀ w1, R w1 → R' w1) : C_slices_pdqsortCmpFunc dataP dataN dataC a b limitx cmp w R' :=
  Calls.mono h fun _ _ ⟨he, h⟩ => ⟨he, hr _ h⟩

/-- math/bits.Len -/
def C_math_bits_Len (x : Int) (w : World) (R : Int → World → Prop) : Prop :=
  Calls Tryz.prog 56 #[.int .u64 x] w fun en w1 => ∃ (r : Int), en = .returned (.int .i64 r) ∧ R r w1
theorem C_math_bits_Len.mono {x : Int} {w : World} {R R' : Int → World → Prop} (h : C_math_bits_Len x w R) (hr : ∀ r w1, R r w1 → R' r w1) : C_math_bits_Len x w R' :=
  Calls.mono h fun _ _ ⟨r, he, h⟩ => ⟨r, he, hr r _ h⟩

/-- cmp.isNaN[string] -/
def C_cmp_isNaN (x : ByteArray) (w : World) (R : Bool → World → Prop) : Prop :=
  Calls Tryz.prog 57 #[.string x] w fun en w1 => ∃ (r : Bool), en = .returned (.bool r) ∧ R r w1
theorem C_cmp_isNaN.mono {x : ByteArray} {w : World} {R R' : Bool → World → Prop} (h : C_cmp_isNaN x w R) (hr : ∀ r w1, R r w1 → R' r w1) : C_cmp_isNaN x w R' :=
  Calls.mono h fun _ _ ⟨r, he, h⟩ => ⟨r, he, hr r _ h⟩

/-- cmp.isNaN[int] -/
def C_cmp_isNaN__2 (x : Int) (w : World) (R : Bool → World → Prop) : Prop :=
  Calls Tryz.prog 58 #[.int .i64 x] w fun en w1 => ∃ (r : Bool), en = .returned (.bool r) ∧ R r w1
theorem C_cmp_isNaN__2.mono {x : Int} {w : World} {R R' : Bool → World → Prop} (h : C_cmp_isNaN__2 x w R) (hr : ∀ r w1, R r w1 → R' r w1) : C_cmp_isNaN__2 x w R' :=
  Calls.mono h fun _ _ ⟨r, he, h⟩ => ⟨r, he, hr r _ h⟩

/-- elenchus/index.cut -/
def C_index_cut (rP : Option Addr) (rN : Nat) (rC : Nat) (rank : Int) (w : World) (R : Option Addr → Nat → Nat → World → Prop) : Prop :=
  Calls Tryz.prog 59 #[.slice rP rN rC, .int .i64 rank] w fun en w1 => ∃ (rP_1 : Option Addr) (rN_1 : Nat) (rC_1 : Nat), en = .returned (.slice rP_1 rN_1 rC_1) ∧ R rP_1 rN_1 rC_1 w1
theorem C_index_cut.mono {rP : Option Addr} {rN : Nat} {rC : Nat} {rank : Int} {w : World} {R R' : Option Addr → Nat → Nat → World → Prop} (h : C_index_cut rP rN rC rank w R) (hr : ∀ rP_1 rN_1 rC_1 w1, R rP_1 rN_1 rC_1 w1 → R' rP_1 rN_1 rC_1 w1) : C_index_cut rP rN rC rank w R' :=
  Calls.mono h fun _ _ ⟨rP_1, rN_1, rC_1, he, h⟩ => ⟨rP_1, rN_1, rC_1, he, hr rP_1 rN_1 rC_1 _ h⟩

/-- slices.pdqsortOrdered[int] -/
def C_slices_pdqsortOrdered (dataP : Option Addr) (dataN : Nat) (dataC : Nat) (a : Int) (b : Int) (limitx : Int) (w : World) (R : World → Prop) : Prop :=
  Calls Tryz.prog 60 #[.slice dataP dataN dataC, .int .i64 a, .int .i64 b, .int .i64 limitx] w fun en w1 => en = .returned (.tuple #[]) ∧ R w1
theorem C_slices_pdqsortOrdered.mono {dataP : Option Addr} {dataN : Nat} {dataC : Nat} {a : Int} {b : Int} {limitx : Int} {w : World} {R R' : World → Prop} (h : C_slices_pdqsortOrdered dataP dataN dataC a b limitx w R) (hr : ∀ w1, R w1 → R' w1) : C_slices_pdqsortOrdered dataP dataN dataC a b limitx w R' :=
  Calls.mono h fun _ _ ⟨he, h⟩ => ⟨he, hr _ h⟩

/-- slices.Insert[elenchus/index.row,elenchus/index.entry] -/
def C_slices_Insert (sP : Option Addr) (sN : Nat) (sC : Nat) (i : Int) (vP : Option Addr) (vN : Nat) (vC : Nat) (w : World) (R : Option Addr → Nat → Nat → World → Prop) : Prop :=
  Calls Tryz.prog 61 #[.slice sP sN sC, .int .i64 i, .slice vP vN vC] w fun en w1 => ∃ (rP : Option Addr) (rN : Nat) (rC : Nat), en = .returned (.slice rP rN rC) ∧ R rP rN rC w1
theorem C_slices_Insert.mono {sP : Option Addr} {sN : Nat} {sC : Nat} {i : Int} {vP : Option Addr} {vN : Nat} {vC : Nat} {w : World} {R R' : Option Addr → Nat → Nat → World → Prop} (h : C_slices_Insert sP sN sC i vP vN vC w R) (hr : ∀ rP rN rC w1, R rP rN rC w1 → R' rP rN rC w1) : C_slices_Insert sP sN sC i vP vN vC w R' :=
  Calls.mono h fun _ _ ⟨rP, rN, rC, he, h⟩ => ⟨rP, rN, rC, he, hr rP rN rC _ h⟩

/-- (elenchus/index.row).place -/
def C_index_row_place (rP : Option Addr) (rN : Nat) (rC : Nat) (rank : Int) (w : World) (R : Int → World → Prop) : Prop :=
  Calls Tryz.prog 62 #[.slice rP rN rC, .int .i64 rank] w fun en w1 => ∃ (r : Int), en = .returned (.int .i64 r) ∧ R r w1
theorem C_index_row_place.mono {rP : Option Addr} {rN : Nat} {rC : Nat} {rank : Int} {w : World} {R R' : Int → World → Prop} (h : C_index_row_place rP rN rC rank w R) (hr : ∀ r w1, R r w1 → R' r w1) : C_index_row_place rP rN rC rank w R' :=
  Calls.mono h fun _ _ ⟨r, he, h⟩ => ⟨r, he, hr r _ h⟩

/-- elenchus/term.Check -/
def C_term_Check (t0 : Int) (t1 : Int) (t2 : ByteArray) (t3P : Option Addr) (t3N : Nat) (t3C : Nat) (w : World) (R : Int → World → Prop) : Prop :=
  Calls Tryz.prog 63 #[.agg #[.int .i64 t0, .int .i64 t1, .string t2, .slice t3P t3N t3C]] w fun en w1 => ∃ (r : Int), en = .returned (.int .i64 r) ∧ R r w1
theorem C_term_Check.mono {t0 : Int} {t1 : Int} {t2 : ByteArray} {t3P : Option Addr} {t3N : Nat} {t3C : Nat} {w : World} {R R' : Int → World → Prop} (h : C_term_Check t0 t1 t2 t3P t3N t3C w R) (hr : ∀ r w1, R r w1 → R' r w1) : C_term_Check t0 t1 t2 t3P t3N t3C w R' :=
  Calls.mono h fun _ _ ⟨r, he, h⟩ => ⟨r, he, hr r _ h⟩

/-- elenchus/term.Clone -/
def C_term_Clone (t0 : Int) (t1 : Int) (t2 : ByteArray) (t3P : Option Addr) (t3N : Nat) (t3C : Nat) (w : World) (R : Int → Int → ByteArray → Option Addr → Nat → Nat → World → Prop) : Prop :=
  Calls Tryz.prog 64 #[.agg #[.int .i64 t0, .int .i64 t1, .string t2, .slice t3P t3N t3C]] w fun en w1 => ∃ (r0 : Int) (r1 : Int) (r2 : ByteArray) (r3P : Option Addr) (r3N : Nat) (r3C : Nat), en = .returned (.agg #[.int .i64 r0, .int .i64 r1, .string r2, .slice r3P r3N r3C]) ∧ R r0 r1 r2 r3P r3N r3C w1
theorem C_term_Clone.mono {t0 : Int} {t1 : Int} {t2 : ByteArray} {t3P : Option Addr} {t3N : Nat} {t3C : Nat} {w : World} {R R' : Int → Int → ByteArray → Option Addr → Nat → Nat → World → Prop} (h : C_term_Clone t0 t1 t2 t3P t3N t3C w R) (hr : ∀ r0 r1 r2 r3P r3N r3C w1, R r0 r1 r2 r3P r3N r3C w1 → R' r0 r1 r2 r3P r3N r3C w1) : C_term_Clone t0 t1 t2 t3P t3N t3C w R' :=
  Calls.mono h fun _ _ ⟨r0, r1, r2, r3P, r3N, r3C, he, h⟩ => ⟨r0, r1, r2, r3P, r3N, r3C, he, hr r0 r1 r2 r3P r3N r3C _ h⟩

/-- (elenchus/index.row).after -/
def C_index_row_after (rP : Option Addr) (rN : Nat) (rC : Nat) (rank : Int) (w : World) (R : Int → Int → Bool → World → Prop) : Prop :=
  Calls Tryz.prog 65 #[.slice rP rN rC, .int .i64 rank] w fun en w1 => ∃ (r00 : Int) (r01 : Int) (r1 : Bool), en = .returned (.tuple #[.agg #[.int .i64 r00, .int .i64 r01], .bool r1]) ∧ R r00 r01 r1 w1
theorem C_index_row_after.mono {rP : Option Addr} {rN : Nat} {rC : Nat} {rank : Int} {w : World} {R R' : Int → Int → Bool → World → Prop} (h : C_index_row_after rP rN rC rank w R) (hr : ∀ r00 r01 r1 w1, R r00 r01 r1 w1 → R' r00 r01 r1 w1) : C_index_row_after rP rN rC rank w R' :=
  Calls.mono h fun _ _ ⟨r00, r01, r1, he, h⟩ => ⟨r00, r01, r1, he, hr r00 r01 r1 _ h⟩

/-- elenchus/elenchusref06.Atom -/
def C_ref06_Atom (sx : ByteArray) (w : World) (R : Int → Int → ByteArray → Option Addr → Nat → Nat → World → Prop) : Prop :=
  Calls Tryz.prog 66 #[.string sx] w fun en w1 => ∃ (r0 : Int) (r1 : Int) (r2 : ByteArray) (r3P : Option Addr) (r3N : Nat) (r3C : Nat), en = .returned (.agg #[.int .i64 r0, .int .i64 r1, .string r2, .slice r3P r3N r3C]) ∧ R r0 r1 r2 r3P r3N r3C w1
theorem C_ref06_Atom.mono {sx : ByteArray} {w : World} {R R' : Int → Int → ByteArray → Option Addr → Nat → Nat → World → Prop} (h : C_ref06_Atom sx w R) (hr : ∀ r0 r1 r2 r3P r3N r3C w1, R r0 r1 r2 r3P r3N r3C w1 → R' r0 r1 r2 r3P r3N r3C w1) : C_ref06_Atom sx w R' :=
  Calls.mono h fun _ _ ⟨r0, r1, r2, r3P, r3N, r3C, he, h⟩ => ⟨r0, r1, r2, r3P, r3N, r3C, he, hr r0 r1 r2 r3P r3N r3C _ h⟩

/-- slices.insertionSortCmpFunc[elenchus/api.Pred] -/
def C_slices_insertionSortCmpFunc (dataP : Option Addr) (dataN : Nat) (dataC : Nat) (a : Int) (b : Int) (cmp : Value) (w : World) (R : World → Prop) : Prop :=
  Calls Tryz.prog 67 #[.slice dataP dataN dataC, .int .i64 a, .int .i64 b, cmp] w fun en w1 => en = .returned (.tuple #[]) ∧ R w1
theorem C_slices_insertionSortCmpFunc.mono {dataP : Option Addr} {dataN : Nat} {dataC : Nat} {a : Int} {b : Int} {cmp : Value} {w : World} {R R' : World → Prop} (h : C_slices_insertionSortCmpFunc dataP dataN dataC a b cmp w R) (hr : ∀ w1, R w1 → R' w1) : C_slices_insertionSortCmpFunc dataP dataN dataC a b cmp w R' :=
  Calls.mono h fun _ _ ⟨he, h⟩ => ⟨he, hr _ h⟩

/-- slices.heapSortCmpFunc[elenchus/api.Pred] -/
def C_slices_heapSortCmpFunc (dataP : Option Addr) (dataN : Nat) (dataC : Nat) (a : Int) (b : Int) (cmp : Value) (w : World) (R : World → Prop) : Prop :=
  Calls Tryz.prog 68 #[.slice dataP dataN dataC, .int .i64 a, .int .i64 b, cmp] w fun en w1 => en = .returned (.tuple #[]) ∧ R w1
theorem C_slices_heapSortCmpFunc.mono {dataP : Option Addr} {dataN : Nat} {dataC : Nat} {a : Int} {b : Int} {cmp : Value} {w : World} {R R' : World → Prop} (h : C_slices_heapSortCmpFunc dataP dataN dataC a b cmp w R) (hr : ∀ w1, R w1 → R' w1) : C_slices_heapSortCmpFunc dataP dataN dataC a b cmp w R' :=
  Calls.mono h fun _ _ ⟨he, h⟩ => ⟨he, hr _ h⟩

/-- slices.breakPatternsCmpFunc[elenchus/api.Pred] -/
def C_slices_breakPatternsCmpFunc (dataP : Option Addr) (dataN : Nat) (dataC : Nat) (a : Int) (b : Int) (cmp : Value) (w : World) (R : World → Prop) : Prop :=
  Calls Tryz.prog 69 #[.slice dataP dataN dataC, .int .i64 a, .int .i64 b, cmp] w fun en w1 => en = .returned (.tuple #[]) ∧ R w1
theorem C_slices_breakPatternsCmpFunc.mono {dataP : Option Addr} {dataN : Nat} {dataC : Nat} {a : Int} {b : Int} {cmp : Value} {w : World} {R R' : World → Prop} (h : C_slices_breakPatternsCmpFunc dataP dataN dataC a b cmp w R) (hr : ∀ w1, R w1 → R' w1) : C_slices_breakPatternsCmpFunc dataP dataN dataC a b cmp w R' :=
  Calls.mono h fun _ _ ⟨he, h⟩ => ⟨he, hr _ h⟩

/-- slices.choosePivotCmpFunc[elenchus/api.Pred] -/
def C_slices_choosePivotCmpFunc (dataP : Option Addr) (dataN : Nat) (dataC : Nat) (a : Int) (b : Int) (cmp : Value) (w : World) (R : Int → Int → World → Prop) : Prop :=
  Calls Tryz.prog 70 #[.slice dataP dataN dataC, .int .i64 a, .int .i64 b, cmp] w fun en w1 => ∃ (r0 : Int) (r1 : Int), en = .returned (.tuple #[.int .i64 r0, .int .i64 r1]) ∧ R r0 r1 w1
theorem C_slices_choosePivotCmpFunc.mono {dataP : Option Addr} {dataN : Nat} {dataC : Nat} {a : Int} {b : Int} {cmp : Value} {w : World} {R R' : Int → Int → World → Prop} (h : C_slices_choosePivotCmpFunc dataP dataN dataC a b cmp w R) (hr : ∀ r0 r1 w1, R r0 r1 w1 → R' r0 r1 w1) : C_slices_choosePivotCmpFunc dataP dataN dataC a b cmp w R' :=
  Calls.mono h fun _ _ ⟨r0, r1, he, h⟩ => ⟨r0, r1, he, hr r0 r1 _ h⟩

/-- slices.reverseRangeCmpFunc[elenchus/api.Pred] -/
def C_slices_reverseRangeCmpFunc (dataP : Option Addr) (dataN : Nat) (dataC : Nat) (a : Int) (b : Int) (cmp : Value) (w : World) (R : World → Prop) : Prop :=
  Calls Tryz.prog 71 #[.slice dataP dataN dataC, .int .i64 a, .int .i64 b, cmp] w fun en w1 => en = .returned (.tuple #[]) ∧ R w1
theorem C_slices_reverseRangeCmpFunc.mono {dataP : Option Addr} {dataN : Nat} {dataC : Nat} {a : Int} {b : Int} {cmp : Value} {w : World} {R R' : World → Prop} (h : C_slices_reverseRangeCmpFunc dataP dataN dataC a b cmp w R) (hr : ∀ w1, R w1 → R' w1) : C_slices_reverseRangeCmpFunc dataP dataN dataC a b cmp w R' :=
  Calls.mono h fun _ _ ⟨he, h⟩ => ⟨he, hr _ h⟩

/-- slices.partialInsertionSortCmpFunc[elenchus/api.Pred] -/
def C_slices_partialInsertionSortCmpFunc (dataP : Option Addr) (dataN : Nat) (dataC : Nat) (a : Int) (b : Int) (cmp : Value) (w : World) (R : Bool → World → Prop) : Prop :=
  Calls Tryz.prog 72 #[.slice dataP dataN dataC, .int .i64 a, .int .i64 b, cmp] w fun en w1 => ∃ (r : Bool), en = .returned (.bool r) ∧ R r w1
theorem C_slices_partialInsertionSortCmpFunc.mono {dataP : Option Addr} {dataN : Nat} {dataC : Nat} {a : Int} {b : Int} {cmp : Value} {w : World} {R R' : Bool → World → Prop} (h : C_slices_partialInsertionSortCmpFunc dataP dataN dataC a b cmp w R) (hr : ∀ r w1, R r w1 → R' r w1) : C_slices_partialInsertionSortCmpFunc dataP dataN dataC a b cmp w R' :=
  Calls.mono h fun _ _ ⟨r, he, h⟩ => ⟨r, he, hr r _ h⟩

/-- slices.partitionEqualCmpFunc[elenchus/api.Pred] -/
def C_slices_partitionEqualCmpFunc (dataP : Option Addr) (dataN : Nat) (dataC : Nat) (a : Int) (b : Int) (pivot : Int) (cmp : Value) (w : World) (R : Int → World → Prop) : Prop :=
  Calls Tryz.prog 73 #[.slice dataP dataN dataC, .int .i64 a, .int .i64 b, .int .i64 pivot, cmp] w fun en w1 => ∃ (r : Int), en = .returned (.int .i64 r) ∧ R r w1
theorem C_slices_partitionEqualCmpFunc.mono {dataP : Option Addr} {dataN : Nat} {dataC : Nat} {a : Int} {b : Int} {pivot : Int} {cmp : Value} {w : World} {R R' : Int → World → Prop} (h : C_slices_partitionEqualCmpFunc dataP dataN dataC a b pivot cmp w R) (hr : ∀ r w1, R r w1 → R' r w1) : C_slices_partitionEqualCmpFunc dataP dataN dataC a b pivot cmp w R' :=
  Calls.mono h fun _ _ ⟨r, he, h⟩ => ⟨r, he, hr r _ h⟩

/-- slices.partitionCmpFunc[elenchus/api.Pred] -/
def C_slices_partitionCmpFunc (dataP : Option Addr) (dataN : Nat) (dataC : Nat) (a : Int) (b : Int) (pivot : Int) (cmp : Value) (w : World) (R : Int → Bool → World → Prop) : Prop :=
  Calls Tryz.prog 74 #[.slice dataP dataN dataC, .int .i64 a, .int .i64 b, .int .i64 pivot, cmp] w fun en w1 => ∃ (r0 : Int) (r1 : Bool), en = .returned (.tuple #[.int .i64 r0, .bool r1]) ∧ R r0 r1 w1
theorem C_slices_partitionCmpFunc.mono {dataP : Option Addr} {dataN : Nat} {dataC : Nat} {a : Int} {b : Int} {pivot : Int} {cmp : Value} {w : World} {R R' : Int → Bool → World → Prop} (h : C_slices_partitionCmpFunc dataP dataN dataC a b pivot cmp w R) (hr : ∀ r0 r1 w1, R r0 r1 w1 → R' r0 r1 w1) : C_slices_partitionCmpFunc dataP dataN dataC a b pivot cmp w R' :=
  Calls.mono h fun _ _ ⟨r0, r1, he, h⟩ => ⟨r0, r1, he, hr r0 r1 _ h⟩

/-- math/bits.Len32 -/
def C_math_bits_Len32 (x : Int) (w : World) (R : Int → World → Prop) : Prop :=
  Calls Tryz.prog 75 #[.int .u32 x] w fun en w1 => ∃ (r : Int), en = .returned (.int .i64 r) ∧ R r w1
theorem C_math_bits_Len32.mono {x : Int} {w : World} {R R' : Int → World → Prop} (h : C_math_bits_Len32 x w R) (hr : ∀ r w1, R r w1 → R' r w1) : C_math_bits_Len32 x w R' :=
  Calls.mono h fun _ _ ⟨r, he, h⟩ => ⟨r, he, hr r _ h⟩

/-- math/bits.Len64 -/
def C_math_bits_Len64 (x : Int) (w : World) (R : Int → World → Prop) : Prop :=
  Calls Tryz.prog 76 #[.int .u64 x] w fun en w1 => ∃ (r : Int), en = .returned (.int .i64 r) ∧ R r w1
theorem C_math_bits_Len64.mono {x : Int} {w : World} {R R' : Int → World → Prop} (h : C_math_bits_Len64 x w R) (hr : ∀ r w1, R r w1 → R' r w1) : C_math_bits_Len64 x w R' :=
  Calls.mono h fun _ _ ⟨r, he, h⟩ => ⟨r, he, hr r _ h⟩

/-- slices.Delete[elenchus/index.row,elenchus/index.entry] -/
def C_slices_Delete (sP : Option Addr) (sN : Nat) (sC : Nat) (i : Int) (j : Int) (w : World) (R : Option Addr → Nat → Nat → World → Prop) : Prop :=
  Calls Tryz.prog 77 #[.slice sP sN sC, .int .i64 i, .int .i64 j] w fun en w1 => ∃ (rP : Option Addr) (rN : Nat) (rC : Nat), en = .returned (.slice rP rN rC) ∧ R rP rN rC w1
theorem C_slices_Delete.mono {sP : Option Addr} {sN : Nat} {sC : Nat} {i : Int} {j : Int} {w : World} {R R' : Option Addr → Nat → Nat → World → Prop} (h : C_slices_Delete sP sN sC i j w R) (hr : ∀ rP rN rC w1, R rP rN rC w1 → R' rP rN rC w1) : C_slices_Delete sP sN sC i j w R' :=
  Calls.mono h fun _ _ ⟨rP, rN, rC, he, h⟩ => ⟨rP, rN, rC, he, hr rP rN rC _ h⟩

/-- slices.insertionSortOrdered[int] -/
def C_slices_insertionSortOrdered (dataP : Option Addr) (dataN : Nat) (dataC : Nat) (a : Int) (b : Int) (w : World) (R : World → Prop) : Prop :=
  Calls Tryz.prog 78 #[.slice dataP dataN dataC, .int .i64 a, .int .i64 b] w fun en w1 => en = .returned (.tuple #[]) ∧ R w1
theorem C_slices_insertionSortOrdered.mono {dataP : Option Addr} {dataN : Nat} {dataC : Nat} {a : Int} {b : Int} {w : World} {R R' : World → Prop} (h : C_slices_insertionSortOrdered dataP dataN dataC a b w R) (hr : ∀ w1, R w1 → R' w1) : C_slices_insertionSortOrdered dataP dataN dataC a b w R' :=
  Calls.mono h fun _ _ ⟨he, h⟩ => ⟨he, hr _ h⟩

/-- slices.heapSortOrdered[int] -/
def C_slices_heapSortOrdered (dataP : Option Addr) (dataN : Nat) (dataC : Nat) (a : Int) (b : Int) (w : World) (R : World → Prop) : Prop :=
  Calls Tryz.prog 79 #[.slice dataP dataN dataC, .int .i64 a, .int .i64 b] w fun en w1 => en = .returned (.tuple #[]) ∧ R w1
theorem C_slices_heapSortOrdered.mono {dataP : Option Addr} {dataN : Nat} {dataC : Nat} {a : Int} {b : Int} {w : World} {R R' : World → Prop} (h : C_slices_heapSortOrdered dataP dataN dataC a b w R) (hr : ∀ w1, R w1 → R' w1) : C_slices_heapSortOrdered dataP dataN dataC a b w R' :=
  Calls.mono h fun _ _ ⟨he, h⟩ => ⟨he, hr _ h⟩

/-- slices.breakPatternsOrdered[int] -/
def C_slices_breakPatternsOrdered (dataP : Option Addr) (dataN : Nat) (dataC : Nat) (a : Int) (b : Int) (w : World) (R : World → Prop) : Prop :=
  Calls Tryz.prog 80 #[.slice dataP dataN dataC, .int .i64 a, .int .i64 b] w fun en w1 => en = .returned (.tuple #[]) ∧ R w1
theorem C_slices_breakPatternsOrdered.mono {dataP : Option Addr} {dataN : Nat} {dataC : Nat} {a : Int} {b : Int} {w : World} {R R' : World → Prop} (h : C_slices_breakPatternsOrdered dataP dataN dataC a b w R) (hr : ∀ w1, R w1 → R' w1) : C_slices_breakPatternsOrdered dataP dataN dataC a b w R' :=
  Calls.mono h fun _ _ ⟨he, h⟩ => ⟨he, hr _ h⟩

/-- slices.choosePivotOrdered[int] -/
def C_slices_choosePivotOrdered (dataP : Option Addr) (dataN : Nat) (dataC : Nat) (a : Int) (b : Int) (w : World) (R : Int → Int → World → Prop) : Prop :=
  Calls Tryz.prog 81 #[.slice dataP dataN dataC, .int .i64 a, .int .i64 b] w fun en w1 => ∃ (r0 : Int) (r1 : Int), en = .returned (.tuple #[.int .i64 r0, .int .i64 r1]) ∧ R r0 r1 w1
theorem C_slices_choosePivotOrdered.mono {dataP : Option Addr} {dataN : Nat} {dataC : Nat} {a : Int} {b : Int} {w : World} {R R' : Int → Int → World → Prop} (h : C_slices_choosePivotOrdered dataP dataN dataC a b w R) (hr : ∀ r0 r1 w1, R r0 r1 w1 → R' r0 r1 w1) : C_slices_choosePivotOrdered dataP dataN dataC a b w R' :=
  Calls.mono h fun _ _ ⟨r0, r1, he, h⟩ => ⟨r0, r1, he, hr r0 r1 _ h⟩

/-- slices.reverseRangeOrdered[int] -/
def C_slices_reverseRangeOrdered (dataP : Option Addr) (dataN : Nat) (dataC : Nat) (a : Int) (b : Int) (w : World) (R : World → Prop) : Prop :=
  Calls Tryz.prog 82 #[.slice dataP dataN dataC, .int .i64 a, .int .i64 b] w fun en w1 => en = .returned (.tuple #[]) ∧ R w1
theorem C_slices_reverseRangeOrdered.mono {dataP : Option Addr} {dataN : Nat} {dataC : Nat} {a : Int} {b : Int} {w : World} {R R' : World → Prop} (h : C_slices_reverseRangeOrdered dataP dataN dataC a b w R) (hr : ∀ w1, R w1 → R' w1) : C_slices_reverseRangeOrdered dataP dataN dataC a b w R' :=
  Calls.mono h fun _ _ ⟨he, h⟩ => ⟨he, hr _ h⟩

/-- slices.partialInsertionSortOrdered[int] -/
def C_slices_partialInsertionSortOrdered (dataP : Option Addr) (dataN : Nat) (dataC : Nat) (a : Int) (b : Int) (w : World) (R : Bool → World → Prop) : Prop :=
  Calls Tryz.prog 83 #[.slice dataP dataN dataC, .int .i64 a, .int .i64 b] w fun en w1 => ∃ (r : Bool), en = .returned (.bool r) ∧ R r w1
theorem C_slices_partialInsertionSortOrdered.mono {dataP : Option Addr} {dataN : Nat} {dataC : Nat} {a : Int} {b : Int} {w : World} {R R' : Bool → World → Prop} (h : C_slices_partialInsertionSortOrdered dataP dataN dataC a b w R) (hr : ∀ r w1, R r w1 → R' r w1) : C_slices_partialInsertionSortOrdered dataP dataN dataC a b w R' :=
  Calls.mono h fun _ _ ⟨r, he, h⟩ => ⟨r, he, hr r _ h⟩

/-- cmp.Less[int] -/
def C_cmp_Less (x : Int) (y : Int) (w : World) (R : Bool → World → Prop) : Prop :=
  Calls Tryz.prog 84 #[.int .i64 x, .int .i64 y] w fun en w1 => ∃ (r : Bool), en = .returned (.bool r) ∧ R r w1
theorem C_cmp_Less.mono {x : Int} {y : Int} {w : World} {R R' : Bool → World → Prop} (h : C_cmp_Less x y w R) (hr : ∀ r w1, R r w1 → R' r w1) : C_cmp_Less x y w R' :=
  Calls.mono h fun _ _ ⟨r, he, h⟩ => ⟨r, he, hr r _ h⟩

/-- slices.partitionEqualOrdered[int] -/
def C_slices_partitionEqualOrdered (dataP : Option Addr) (dataN : Nat) (dataC : Nat) (a : Int) (b : Int) (pivot : Int) (w : World) (R : Int → World → Prop) : Prop :=
  Calls Tryz.prog 85 #[.slice dataP dataN dataC, .int .i64 a, .int .i64 b, .int .i64 pivot] w fun en w1 => ∃ (r : Int), en = .returned (.int .i64 r) ∧ R r w1
theorem C_slices_partitionEqualOrdered.mono {dataP : Option Addr} {dataN : Nat} {dataC : Nat} {a : Int} {b : Int} {pivot : Int} {w : World} {R R' : Int → World → Prop} (h : C_slices_partitionEqualOrdered dataP dataN dataC a b pivot w R) (hr : ∀ r w1, R r w1 → R' r w1) : C_slices_partitionEqualOrdered dataP dataN dataC a b pivot w R' :=
  Calls.mono h fun _ _ ⟨r, he, h⟩ => ⟨r, he, hr r _ h⟩

/-- slices.partitionOrdered[int] -/
def C_slices_partitionOrdered (dataP : Option Addr) (dataN : Nat) (dataC : Nat) (a : Int) (b : Int) (pivot : Int) (w : World) (R : Int → Bool → World → Prop) : Prop :=
  Calls Tryz.prog 86 #[.slice dataP dataN dataC, .int .i64 a, .int .i64 b, .int .i64 pivot] w fun en w1 => ∃ (r0 : Int) (r1 : Bool), en = .returned (.tuple #[.int .i64 r0, .bool r1]) ∧ R r0 r1 w1
theorem C_slices_partitionOrdered.mono {dataP : Option Addr} {dataN : Nat} {dataC : Nat} {a : Int} {b : Int} {pivot : Int} {w : World} {R R' : Int → Bool → World → Prop} (h : C_slices_partitionOrdered dataP dataN dataC a b pivot w R) (hr : ∀ r0 r1 w1, R r0 r1 w1 → R' r0 r1 w1) : C_slices_partitionOrdered dataP dataN dataC a b pivot w R' :=
  Calls.mono h fun _ _ ⟨r0, r1, he, h⟩ => ⟨r0, r1, he, hr r0 r1 _ h⟩

/-- slices.rotateRight[elenchus/index.entry] -/
def C_slices_rotateRight (sP : Option Addr) (sN : Nat) (sC : Nat) (r : Int) (w : World) (R : World → Prop) : Prop :=
  Calls Tryz.prog 88 #[.slice sP sN sC, .int .i64 r] w fun en w1 => en = .returned (.tuple #[]) ∧ R w1
theorem C_slices_rotateRight.mono {sP : Option Addr} {sN : Nat} {sC : Nat} {r : Int} {w : World} {R R' : World → Prop} (h : C_slices_rotateRight sP sN sC r w R) (hr : ∀ w1, R w1 → R' w1) : C_slices_rotateRight sP sN sC r w R' :=
  Calls.mono h fun _ _ ⟨he, h⟩ => ⟨he, hr _ h⟩

/-- slices.BinarySearchFunc[elenchus/index.row,elenchus/index.entry,int] -/
def C_slices_BinarySearchFunc (xP : Option Addr) (xN : Nat) (xC : Nat) (target : Int) (cmp : Value) (w : World) (R : Int → Bool → World → Prop) : Prop :=
  Calls Tryz.prog 89 #[.slice xP xN xC, .int .i64 target, cmp] w fun en w1 => ∃ (r0 : Int) (r1 : Bool), en = .returned (.tuple #[.int .i64 r0, .bool r1]) ∧ R r0 r1 w1
theorem C_slices_BinarySearchFunc.mono {xP : Option Addr} {xN : Nat} {xC : Nat} {target : Int} {cmp : Value} {w : World} {R R' : Int → Bool → World → Prop} (h : C_slices_BinarySearchFunc xP xN xC target cmp w R) (hr : ∀ r0 r1 w1, R r0 r1 w1 → R' r0 r1 w1) : C_slices_BinarySearchFunc xP xN xC target cmp w R' :=
  Calls.mono h fun _ _ ⟨r0, r1, he, h⟩ => ⟨r0, r1, he, hr r0 r1 _ h⟩

/-- (elenchus/index.row).place-1 -/
def C_index_row_place_1 (e0 : Int) (e1 : Int) (rank : Int) (w : World) (R : Int → World → Prop) : Prop :=
  Calls Tryz.prog 90 #[.agg #[.int .i64 e0, .int .i64 e1], .int .i64 rank] w fun en w1 => ∃ (r : Int), en = .returned (.int .i64 r) ∧ R r w1
theorem C_index_row_place_1.mono {e0 : Int} {e1 : Int} {rank : Int} {w : World} {R R' : Int → World → Prop} (h : C_index_row_place_1 e0 e1 rank w R) (hr : ∀ r w1, R r w1 → R' r w1) : C_index_row_place_1 e0 e1 rank w R' :=
  Calls.mono h fun _ _ ⟨r, he, h⟩ => ⟨r, he, hr r _ h⟩

/-- elenchus/term.measure -/
def C_term_measure (t0 : Int) (t1 : Int) (t2 : ByteArray) (t3P : Option Addr) (t3N : Nat) (t3C : Nat) (w : World) (R : Int → Int → Bool → World → Prop) : Prop :=
  Calls Tryz.prog 91 #[.agg #[.int .i64 t0, .int .i64 t1, .string t2, .slice t3P t3N t3C]] w fun en w1 => ∃ (r0 : Int) (r1 : Int) (r2 : Bool), en = .returned (.agg #[.int .i64 r0, .int .i64 r1, .bool r2]) ∧ R r0 r1 r2 w1
theorem C_term_measure.mono {t0 : Int} {t1 : Int} {t2 : ByteArray} {t3P : Option Addr} {t3N : Nat} {t3C : Nat} {w : World} {R R' : Int → Int → Bool → World → Prop} (h : C_term_measure t0 t1 t2 t3P t3N t3C w R) (hr : ∀ r0 r1 r2 w1, R r0 r1 r2 w1 → R' r0 r1 r2 w1) : C_term_measure t0 t1 t2 t3P t3N t3C w R' :=
  Calls.mono h fun _ _ ⟨r0, r1, r2, he, h⟩ => ⟨r0, r1, r2, he, hr r0 r1 r2 _ h⟩

/-- elenchus/term.may -/
def C_term_may (t0 : Int) (t1 : Int) (t2 : ByteArray) (t3P : Option Addr) (t3N : Nat) (t3C : Nat) (w : World) (R : Bool → World → Prop) : Prop :=
  Calls Tryz.prog 92 #[.agg #[.int .i64 t0, .int .i64 t1, .string t2, .slice t3P t3N t3C]] w fun en w1 => ∃ (r : Bool), en = .returned (.bool r) ∧ R r w1
theorem C_term_may.mono {t0 : Int} {t1 : Int} {t2 : ByteArray} {t3P : Option Addr} {t3N : Nat} {t3C : Nat} {w : World} {R R' : Bool → World → Prop} (h : C_term_may t0 t1 t2 t3P t3N t3C w R) (hr : ∀ r w1, R r w1 → R' r w1) : C_term_may t0 t1 t2 t3P t3N t3C w R' :=
  Calls.mono h fun _ _ ⟨r, he, h⟩ => ⟨r, he, hr r _ h⟩

/-- elenchus/term.build -/
def C_term_build (t0 : Int) (t1 : Int) (t2 : ByteArray) (t3P : Option Addr) (t3N : Nat) (t3C : Nat) (of : Value) (w : World) (R : Int → Int → ByteArray → Option Addr → Nat → Nat → World → Prop) : Prop :=
  Calls Tryz.prog 93 #[.agg #[.int .i64 t0, .int .i64 t1, .string t2, .slice t3P t3N t3C], of] w fun en w1 => ∃ (r0 : Int) (r1 : Int) (r2 : ByteArray) (r3P : Option Addr) (r3N : Nat) (r3C : Nat), en = .returned (.agg #[.int .i64 r0, .int .i64 r1, .string r2, .slice r3P r3N r3C]) ∧ R r0 r1 r2 r3P r3N r3C w1
theorem C_term_build.mono {t0 : Int} {t1 : Int} {t2 : ByteArray} {t3P : Option Addr} {t3N : Nat} {t3C : Nat} {of : Value} {w : World} {R R' : Int → Int → ByteArray → Option Addr → Nat → Nat → World → Prop} (h : C_term_build t0 t1 t2 t3P t3N t3C of w R) (hr : ∀ r0 r1 r2 r3P r3N r3C w1, R r0 r1 r2 r3P r3N r3C w1 → R' r0 r1 r2 r3P r3N r3C w1) : C_term_build t0 t1 t2 t3P t3N t3C of w R' :=
  Calls.mono h fun _ _ ⟨r0, r1, r2, r3P, r3N, r3C, he, h⟩ => ⟨r0, r1, r2, r3P, r3N, r3C, he, hr r0 r1 r2 r3P r3N r3C _ h⟩

/-- elenchus/term.Var -/
def C_term_Var (n : Int) (w : World) (R : Int → Int → ByteArray → Option Addr → Nat → Nat → World → Prop) : Prop :=
  Calls Tryz.prog 94 #[.int .i64 n] w fun en w1 => ∃ (r0 : Int) (r1 : Int) (r2 : ByteArray) (r3P : Option Addr) (r3N : Nat) (r3C : Nat), en = .returned (.agg #[.int .i64 r0, .int .i64 r1, .string r2, .slice r3P r3N r3C]) ∧ R r0 r1 r2 r3P r3N r3C w1
theorem C_term_Var.mono {n : Int} {w : World} {R R' : Int → Int → ByteArray → Option Addr → Nat → Nat → World → Prop} (h : C_term_Var n w R) (hr : ∀ r0 r1 r2 r3P r3N r3C w1, R r0 r1 r2 r3P r3N r3C w1 → R' r0 r1 r2 r3P r3N r3C w1) : C_term_Var n w R' :=
  Calls.mono h fun _ _ ⟨r0, r1, r2, r3P, r3N, r3C, he, h⟩ => ⟨r0, r1, r2, r3P, r3N, r3C, he, hr r0 r1 r2 r3P r3N r3C _ h⟩

/-- slices.siftDownCmpFunc[elenchus/api.Pred] -/
def C_slices_siftDownCmpFunc (dataP : Option Addr) (dataN : Nat) (dataC : Nat) (lo : Int) (hi : Int) (first : Int) (cmp : Value) (w : World) (R : World → Prop) : Prop :=
  Calls Tryz.prog 95 #[.slice dataP dataN dataC, .int .i64 lo, .int .i64 hi, .int .i64 first, cmp] w fun en w1 => en = .returned (.tuple #[]) ∧ R w1
theorem C_slices_siftDownCmpFunc.mono {dataP : Option Addr} {dataN : Nat} {dataC : Nat} {lo : Int} {hi : Int} {first : Int} {cmp : Value} {w : World} {R R' : World → Prop} (h : C_slices_siftDownCmpFunc dataP dataN dataC lo hi first cmp w R) (hr : ∀ w1, R w1 → R' w1) : C_slices_siftDownCmpFunc dataP dataN dataC lo hi first cmp w R' :=
  Calls.mono h fun _ _ ⟨he, h⟩ => ⟨he, hr _ h⟩

/-- slices.nextPowerOfTwo -/
def C_slices_nextPowerOfTwo (length : Int) (w : World) (R : Int → World → Prop) : Prop :=
  Calls Tryz.prog 96 #[.int .i64 length] w fun en w1 => ∃ (r : Int), en = .returned (.int .u64 r) ∧ R r w1
theorem C_slices_nextPowerOfTwo.mono {length : Int} {w : World} {R R' : Int → World → Prop} (h : C_slices_nextPowerOfTwo length w R) (hr : ∀ r w1, R r w1 → R' r w1) : C_slices_nextPowerOfTwo length w R' :=
  Calls.mono h fun _ _ ⟨r, he, h⟩ => ⟨r, he, hr r _ h⟩

/-- (slices.xorshift).Next -/
def C_slices_xorshift_Next (r : Option Addr) (w : World) (R : Int → World → Prop) : Prop :=
  Calls Tryz.prog 97 #[.pointer r] w fun en w1 => ∃ (r_1 : Int), en = .returned (.int .u64 r_1) ∧ R r_1 w1
theorem C_slices_xorshift_Next.mono {r : Option Addr} {w : World} {R R' : Int → World → Prop} (h : C_slices_xorshift_Next r w R) (hr : ∀ r_1 w1, R r_1 w1 → R' r_1 w1) : C_slices_xorshift_Next r w R' :=
  Calls.mono h fun _ _ ⟨r_1, he, h⟩ => ⟨r_1, he, hr r_1 _ h⟩

/-- slices.medianAdjacentCmpFunc[elenchus/api.Pred] -/
def C_slices_medianAdjacentCmpFunc (dataP : Option Addr) (dataN : Nat) (dataC : Nat) (a : Int) (swaps : Option Addr) (cmp : Value) (w : World) (R : Int → World → Prop) : Prop :=
  Calls Tryz.prog 98 #[.slice dataP dataN dataC, .int .i64 a, .pointer swaps, cmp] w fun en w1 => ∃ (r : Int), en = .returned (.int .i64 r) ∧ R r w1
theorem C_slices_medianAdjacentCmpFunc.mono {dataP : Option Addr} {dataN : Nat} {dataC : Nat} {a : Int} {swaps : Option Addr} {cmp : Value} {w : World} {R R' : Int → World → Prop} (h : C_slices_medianAdjacentCmpFunc dataP dataN dataC a swaps cmp w R) (hr : ∀ r w1, R r w1 → R' r w1) : C_slices_medianAdjacentCmpFunc dataP dataN dataC a swaps cmp w R' :=
  Calls.mono h fun _ _ ⟨r, he, h⟩ => ⟨r, he, hr r _ h⟩

/-- slices.medianCmpFunc[elenchus/api.Pred] -/
def C_slices_medianCmpFunc (dataP : Option Addr) (dataN : Nat) (dataC : Nat) (a : Int) (b : Int) (cx : Int) (swaps : Option Addr) (cmp : Value) (w : World) (R : Int → World → Prop) : Prop :=
  Calls Tryz.prog 99 #[.slice dataP dataN dataC, .int .i64 a, .int .i64 b, .int .i64 cx, .pointer swaps, cmp] w fun en w1 => ∃ (r : Int), en = .returned (.int .i64 r) ∧ R r w1
theorem C_slices_medianCmpFunc.mono {dataP : Option Addr} {dataN : Nat} {dataC : Nat} {a : Int} {b : Int} {cx : Int} {swaps : Option Addr} {cmp : Value} {w : World} {R R' : Int → World → Prop} (h : C_slices_medianCmpFunc dataP dataN dataC a b cx swaps cmp w R) (hr : ∀ r w1, R r w1 → R' r w1) : C_slices_medianCmpFunc dataP dataN dataC a b cx swaps cmp w R' :=
  Calls.mono h fun _ _ ⟨r, he, h⟩ => ⟨r, he, hr r _ h⟩

/-- slices.siftDownOrdered[int] -/
def C_slices_siftDownOrdered (dataP : Option Addr) (dataN : Nat) (dataC : Nat) (lo : Int) (hi : Int) (first : Int) (w : World) (R : World → Prop) : Prop :=
  Calls Tryz.prog 100 #[.slice dataP dataN dataC, .int .i64 lo, .int .i64 hi, .int .i64 first] w fun en w1 => en = .returned (.tuple #[]) ∧ R w1
theorem C_slices_siftDownOrdered.mono {dataP : Option Addr} {dataN : Nat} {dataC : Nat} {lo : Int} {hi : Int} {first : Int} {w : World} {R R' : World → Prop} (h : C_slices_siftDownOrdered dataP dataN dataC lo hi first w R) (hr : ∀ w1, R w1 → R' w1) : C_slices_siftDownOrdered dataP dataN dataC lo hi first w R' :=
  Calls.mono h fun _ _ ⟨he, h⟩ => ⟨he, hr _ h⟩

/-- slices.medianAdjacentOrdered[int] -/
def C_slices_medianAdjacentOrdered (dataP : Option Addr) (dataN : Nat) (dataC : Nat) (a : Int) (swaps : Option Addr) (w : World) (R : Int → World → Prop) : Prop :=
  Calls Tryz.prog 101 #[.slice dataP dataN dataC, .int .i64 a, .pointer swaps] w fun en w1 => ∃ (r : Int), en = .returned (.int .i64 r) ∧ R r w1
theorem C_slices_medianAdjacentOrdered.mono {dataP : Option Addr} {dataN : Nat} {dataC : Nat} {a : Int} {swaps : Option Addr} {w : World} {R R' : Int → World → Prop} (h : C_slices_medianAdjacentOrdered dataP dataN dataC a swaps w R) (hr : ∀ r w1, R r w1 → R' r w1) : C_slices_medianAdjacentOrdered dataP dataN dataC a swaps w R' :=
  Calls.mono h fun _ _ ⟨r, he, h⟩ => ⟨r, he, hr r _ h⟩

/-- slices.medianOrdered[int] -/
def C_slices_medianOrdered (dataP : Option Addr) (dataN : Nat) (dataC : Nat) (a : Int) (b : Int) (cx : Int) (swaps : Option Addr) (w : World) (R : Int → World → Prop) : Prop :=
  Calls Tryz.prog 102 #[.slice dataP dataN dataC, .int .i64 a, .int .i64 b, .int .i64 cx, .pointer swaps] w fun en w1 => ∃ (r : Int), en = .returned (.int .i64 r) ∧ R r w1
theorem C_slices_medianOrdered.mono {dataP : Option Addr} {dataN : Nat} {dataC : Nat} {a : Int} {b : Int} {cx : Int} {swaps : Option Addr} {w : World} {R R' : Int → World → Prop} (h : C_slices_medianOrdered dataP dataN dataC a b cx swaps w R) (hr : ∀ r w1, R r w1 → R' r w1) : C_slices_medianOrdered dataP dataN dataC a b cx swaps w R' :=
  Calls.mono h fun _ _ ⟨r, he, h⟩ => ⟨r, he, hr r _ h⟩

/-- slices.rotateLeft[elenchus/index.entry] -/
def C_slices_rotateLeft (sP : Option Addr) (sN : Nat) (sC : Nat) (r : Int) (w : World) (R : World → Prop) : Prop :=
  Calls Tryz.prog 103 #[.slice sP sN sC, .int .i64 r] w fun en w1 => en = .returned (.tuple #[]) ∧ R w1
theorem C_slices_rotateLeft.mono {sP : Option Addr} {sN : Nat} {sC : Nat} {r : Int} {w : World} {R R' : World → Prop} (h : C_slices_rotateLeft sP sN sC r w R) (hr : ∀ w1, R w1 → R' w1) : C_slices_rotateLeft sP sN sC r w R' :=
  Calls.mono h fun _ _ ⟨he, h⟩ => ⟨he, hr _ h⟩

/-- (elenchus/term.count).of -/
def C_term_count_of (cx : Option Addr) (t0 : Int) (t1 : Int) (t2 : ByteArray) (t3P : Option Addr) (t3N : Nat) (t3C : Nat) (depth : Int) (w : World) (R : World → Prop) : Prop :=
  Calls Tryz.prog 104 #[.pointer cx, .agg #[.int .i64 t0, .int .i64 t1, .string t2, .slice t3P t3N t3C], .int .i64 depth] w fun en w1 => en = .returned (.tuple #[]) ∧ R w1
theorem C_term_count_of.mono {cx : Option Addr} {t0 : Int} {t1 : Int} {t2 : ByteArray} {t3P : Option Addr} {t3N : Nat} {t3C : Nat} {depth : Int} {w : World} {R R' : World → Prop} (h : C_term_count_of cx t0 t1 t2 t3P t3N t3C depth w R) (hr : ∀ w1, R w1 → R' w1) : C_term_count_of cx t0 t1 t2 t3P t3N t3C depth w R' :=
  Calls.mono h fun _ _ ⟨he, h⟩ => ⟨he, hr _ h⟩

/-- slices.order2CmpFunc[elenchus/api.Pred] -/
def C_slices_order2CmpFunc (dataP : Option Addr) (dataN : Nat) (dataC : Nat) (a : Int) (b : Int) (swaps : Option Addr) (cmp : Value) (w : World) (R : Int → Int → World → Prop) : Prop :=
  Calls Tryz.prog 105 #[.slice dataP dataN dataC, .int .i64 a, .int .i64 b, .pointer swaps, cmp] w fun en w1 => ∃ (r0 : Int) (r1 : Int), en = .returned (.tuple #[.int .i64 r0, .int .i64 r1]) ∧ R r0 r1 w1
theorem C_slices_order2CmpFunc.mono {dataP : Option Addr} {dataN : Nat} {dataC : Nat} {a : Int} {b : Int} {swaps : Option Addr} {cmp : Value} {w : World} {R R' : Int → Int → World → Prop} (h : C_slices_order2CmpFunc dataP dataN dataC a b swaps cmp w R) (hr : ∀ r0 r1 w1, R r0 r1 w1 → R' r0 r1 w1) : C_slices_order2CmpFunc dataP dataN dataC a b swaps cmp w R' :=
  Calls.mono h fun _ _ ⟨r0, r1, he, h⟩ => ⟨r0, r1, he, hr r0 r1 _ h⟩

/-- slices.order2Ordered[int] -/
def C_slices_order2Ordered (dataP : Option Addr) (dataN : Nat) (dataC : Nat) (a : Int) (b : Int) (swaps : Option Addr) (w : World) (R : Int → Int → World → Prop) : Prop :=
  Calls Tryz.prog 106 #[.slice dataP dataN dataC, .int .i64 a, .int .i64 b, .pointer swaps] w fun en w1 => ∃ (r0 : Int) (r1 : Int), en = .returned (.tuple #[.int .i64 r0, .int .i64 r1]) ∧ R r0 r1 w1
theorem C_slices_order2Ordered.mono {dataP : Option Addr} {dataN : Nat} {dataC : Nat} {a : Int} {b : Int} {swaps : Option Addr} {w : World} {R R' : Int → Int → World → Prop} (h : C_slices_order2Ordered dataP dataN dataC a b swaps w R) (hr : ∀ r0 r1 w1, R r0 r1 w1 → R' r0 r1 w1) : C_slices_order2Ordered dataP dataN dataC a b swaps w R' :=
  Calls.mono h fun _ _ ⟨r0, r1, he, h⟩ => ⟨r0, r1, he, hr r0 r1 _ h⟩

/-- slices.Reverse[[]elenchus/index.entry,elenchus/index.entry] -/
def C_slices_Reverse (sP : Option Addr) (sN : Nat) (sC : Nat) (w : World) (R : World → Prop) : Prop :=
  Calls Tryz.prog 107 #[.slice sP sN sC] w fun en w1 => en = .returned (.tuple #[]) ∧ R w1
theorem C_slices_Reverse.mono {sP : Option Addr} {sN : Nat} {sC : Nat} {w : World} {R R' : World → Prop} (h : C_slices_Reverse sP sN sC w R) (hr : ∀ w1, R w1 → R' w1) : C_slices_Reverse sP sN sC w R' :=
  Calls.mono h fun _ _ ⟨he, h⟩ => ⟨he, hr _ h⟩

/-- elenchus/term.part -/
def C_term_part (t0 : Int) (t1 : Int) (t2 : ByteArray) (t3P : Option Addr) (t3N : Nat) (t3C : Nat) (w : World) (R : Bool → World → Prop) : Prop :=
  Calls Tryz.prog 108 #[.agg #[.int .i64 t0, .int .i64 t1, .string t2, .slice t3P t3N t3C]] w fun en w1 => ∃ (r : Bool), en = .returned (.bool r) ∧ R r w1
theorem C_term_part.mono {t0 : Int} {t1 : Int} {t2 : ByteArray} {t3P : Option Addr} {t3N : Nat} {t3C : Nat} {w : World} {R R' : Bool → World → Prop} (h : C_term_part t0 t1 t2 t3P t3N t3C w R) (hr : ∀ r w1, R r w1 → R' r w1) : C_term_part t0 t1 t2 t3P t3N t3C w R' :=
  Calls.mono h fun _ _ ⟨r, he, h⟩ => ⟨r, he, hr r _ h⟩

/-- elenchus/term.bare -/
def C_term_bare (t0 : Int) (t1 : Int) (t2 : ByteArray) (t3P : Option Addr) (t3N : Nat) (t3C : Nat) (w : World) (R : Bool → World → Prop) : Prop :=
  Calls Tryz.prog 109 #[.agg #[.int .i64 t0, .int .i64 t1, .string t2, .slice t3P t3N t3C]] w fun en w1 => ∃ (r : Bool), en = .returned (.bool r) ∧ R r w1
theorem C_term_bare.mono {t0 : Int} {t1 : Int} {t2 : ByteArray} {t3P : Option Addr} {t3N : Nat} {t3C : Nat} {w : World} {R R' : Bool → World → Prop} (h : C_term_bare t0 t1 t2 t3P t3N t3C w R) (hr : ∀ r w1, R r w1 → R' r w1) : C_term_bare t0 t1 t2 t3P t3N t3C w R' :=
  Calls.mono h fun _ _ ⟨r, he, h⟩ => ⟨r, he, hr r _ h⟩

theorem ofS1 {f : FuncId} {fn : Func} {c : Code} (hf : Tryz.prog.funcs[f]? = some fn) (hb : fn.body = some c) {G : Gen} (hL : LoopOk Tryz.prog fn.ntmps G c) {args : List Value} (hn : Nat.ble args.length fn.ntmps = true) {w : World} {Fm : (World → Prop) → Prop}
    (hF : ∀ R : Value → World → Prop, Fm (fun w1 => R (.tuple #[]) w1) = den Tryz.prog fn.ntmps G c [] (postD Tryz.prog fn.results.toList R) (entry args 0) w) {R : World → Prop} (h : Fm R) : Calls Tryz.prog f args.toArray w fun e w1 => e = .returned (.tuple #[]) ∧ R w1 := by
  refine (calls_of_den seat_ok seat_mixed hf hb hL (args := args) hn (R := fun v w1 => v = (.tuple #[] : Value) ∧ R w1) ?_).mono ?_
  · rw [← hF]
    simpa using h
  · rintro en w1 ⟨v, he, rfl, h⟩
    exact ⟨he, h⟩

theorem ofS2 {f : FuncId} {fn : Func} {c : Code} (hf : Tryz.prog.funcs[f]? = some fn) (hb : fn.body = some c) {G : Gen} (hL : LoopOk Tryz.prog fn.ntmps G c) {args : List Value} (hn : Nat.ble args.length fn.ntmps = true) {w : World} {Fm : (Bool → World → Prop) → Prop}
    (hF : ∀ R : Value → World → Prop, Fm (fun q0 w1 => R (.bool q0) w1) = den Tryz.prog fn.ntmps G c [] (postD Tryz.prog fn.results.toList R) (entry args 0) w) {R : Bool → World → Prop} (h : Fm R) : Calls Tryz.prog f args.toArray w fun e w1 => ∃ (q0 : Bool), e = .returned (.bool q0) ∧ R q0 w1 := by
  refine (calls_of_den seat_ok seat_mixed hf hb hL (args := args) hn (R := fun v w1 => ∃ (q0 : Bool), v = (.bool q0 : Value) ∧ R q0 w1) ?_).mono ?_
  · rw [← hF]
    have e : (fun q0 w1 => ∃ (q0' : Bool), (.bool q0 : Value) = (.bool q0' : Value) ∧ R q0' w1) = R := by
      funext q0 w1
      exact propext ⟨fun ⟨q0', he, h⟩ => by first | (simp at he; simp_all) | (cases he; exact h), fun h => ⟨_, rfl, h⟩⟩
    simpa only [e] using h
  · rintro en w1 ⟨v, he, q0, rfl, h⟩
    exact ⟨_, he, h⟩

theorem ofS3 {f : FuncId} {fn : Func} {c : Code} (hf : Tryz.prog.funcs[f]? = some fn) (hb : fn.body = some c) {G : Gen} (hL : LoopOk Tryz.prog fn.ntmps G c) {args : List Value} (hn : Nat.ble args.length fn.ntmps = true) {w : World} {Fm : (Int → Int → World → Prop) → Prop}
    (hF : ∀ R : Value → World → Prop, Fm (fun q0 q1 w1 => R (.tuple #[.int .i64 q0, .int .i64 q1]) w1) = den Tryz.prog fn.ntmps G c [] (postD Tryz.prog fn.results.toList R) (entry args 0) w) {R : Int → Int → World → Prop} (h : Fm R) : Calls Tryz.prog f args.toArray w fun e w1 => ∃ (q0 : Int) (q1 : Int), e = .returned (.tuple #[.int .i64 q0, .int .i64 q1]) ∧ R q0 q1 w1 := by
  refine (calls_of_den seat_ok seat_mixed hf hb hL (args := args) hn (R := fun v w1 => ∃ (q0 : Int) (q1 : Int), v = (.tuple #[.int .i64 q0, .int .i64 q1] : Value) ∧ R q0 q1 w1) ?_).mono ?_
  · rw [← hF]
    have e : (fun q0 q1 w1 => ∃ (q0' : Int) (q1' : Int), (.tuple #[.int .i64 q0, .int .i64 q1] : Value) = (.tuple #[.int .i64 q0', .int .i64 q1'] : Value) ∧ R q0' q1' w1) = R := by
      funext q0 q1 w1
      exact propext ⟨fun ⟨q0', q1', he, h⟩ => by first | (simp at he; simp_all) | (cases he; exact h), fun h => ⟨_, _, rfl, h⟩⟩
    simpa only [e] using h
  · rintro en w1 ⟨v, he, q0, q1, rfl, h⟩
    exact ⟨_, _, he, h⟩

theorem ofS4 {f : FuncId} {fn : Func} {c : Code} (hf : Tryz.prog.funcs[f]? = some fn) (hb : fn.body = some c) {G : Gen} (hL : LoopOk Tryz.prog fn.ntmps G c) {args : List Value} (hn : Nat.ble args.length fn.ntmps = true) {w : World} {Fm : (Int → Bool → World → Prop) → Prop}
    (hF : ∀ R : Value → World → Prop, Fm (fun q0 q1 w1 => R (.tuple #[.int .i64 q0, .bool q1]) w1) = den Tryz.prog fn.ntmps G c [] (postD Tryz.prog fn.results.toList R) (entry args 0) w) {R : Int → Bool → World → Prop} (h : Fm R) : Calls Tryz.prog f args.toArray w fun e w1 => ∃ (q0 : Int) (q1 : Bool), e = .returned (.tuple #[.int .i64 q0, .bool q1]) ∧ R q0 q1 w1 := by
  refine (calls_of_den seat_ok seat_mixed hf hb hL (args := args) hn (R := fun v w1 => ∃ (q0 : Int) (q1 : Bool), v = (.tuple #[.int .i64 q0, .bool q1] : Value) ∧ R q0 q1 w1) ?_).mono ?_
  · rw [← hF]
    have e : (fun q0 q1 w1 => ∃ (q0' : Int) (q1' : Bool), (.tuple #[.int .i64 q0, .bool q1] : Value) = (.tuple #[.int .i64 q0', .bool q1'] : Value) ∧ R q0' q1' w1) = R := by
      funext q0 q1 w1
      exact propext ⟨fun ⟨q0', q1', he, h⟩ => by first | (simp at he; simp_all) | (cases he; exact h), fun h => ⟨_, _, rfl, h⟩⟩
    simpa only [e] using h
  · rintro en w1 ⟨v, he, q0, q1, rfl, h⟩
    exact ⟨_, _, he, h⟩

theorem ofS5 {f : FuncId} {fn : Func} {c : Code} (hf : Tryz.prog.funcs[f]? = some fn) (hb : fn.body = some c) {G : Gen} (hL : LoopOk Tryz.prog fn.ntmps G c) {args : List Value} (hn : Nat.ble args.length fn.ntmps = true) {w : World} {Fm : (Int → Int → ByteArray → Option Addr → Nat → Nat → Option Addr → Nat → Nat → Int → Int → World → Prop) → Prop}
    (hF : ∀ R : Value → World → Prop, Fm (fun q0 q1 q2 q3 q4 q5 q6 q7 q8 q9 q10 w1 => R (.tuple #[.agg #[.int .i64 q0, .int .i64 q1, .string q2, .slice q3 q4 q5, .slice q6 q7 q8, .int .i64 q9], .int .i64 q10]) w1) = den Tryz.prog fn.ntmps G c [] (postD Tryz.prog fn.results.toList R) (entry args 0) w) {R : Int → Int → ByteArray → Option Addr → Nat → Nat → Option Addr → Nat → Nat → Int → Int → World → Prop} (h : Fm R) : Calls Tryz.prog f args.toArray w fun e w1 => ∃ (q0 : Int) (q1 : Int) (q2 : ByteArray) (q3 : Option Addr) (q4 : Nat) (q5 : Nat) (q6 : Option Addr) (q7 : Nat) (q8 : Nat) (q9 : Int) (q10 : Int), e = .returned (.tuple #[.agg #[.int .i64 q0, .int .i64 q1, .string q2, .slice q3 q4 q5, .slice q6 q7 q8, .int .i64 q9], .int .i64 q10]) ∧ R q0 q1 q2 q3 q4 q5 q6 q7 q8 q9 q10 w1 := by
  refine (calls_of_den seat_ok seat_mixed hf hb hL (args := args) hn (R := fun v w1 => ∃ (q0 : Int) (q1 : Int) (q2 : ByteArray) (q3 : Option Addr) (q4 : Nat) (q5 : Nat) (q6 : Option Addr) (q7 : Nat) (q8 : Nat) (q9 : Int) (q10 : Int), v = (.tuple #[.agg #[.int .i64 q0, .int .i64 q1, .string q2, .slice q3 q4 q5, .slice q6 q7 q8, .int .i64 q9], .int .i64 q10] : Value) ∧ R q0 q1 q2 q3 q4 q5 q6 q7 q8 q9 q10 w1) ?_).mono ?_
  · rw [← hF]
    have e : (fun q0 q1 q2 q3 q4 q5 q6 q7 q8 q9 q10 w1 => ∃ (q0' : Int) (q1' : Int) (q2' : ByteArray) (q3' : Option Addr) (q4' : Nat) (q5' : Nat) (q6' : Option Addr) (q7' : Nat) (q8' : Nat) (q9' : Int) (q10' : Int), (.tuple #[.agg #[.int .i64 q0, .int .i64 q1, .string q2, .slice q3 q4 q5, .slice q6 q7 q8, .int .i64 q9], .int .i64 q10] : Value) = (.tuple #[.agg #[.int .i64 q0', .int .i64 q1', .string q2', .slice q3' q4' q5', .slice q6' q7' q8', .int .i64 q9'], .int .i64 q10'] : Value) ∧ R q0' q1' q2' q3' q4' q5' q6' q7' q8' q9' q10' w1) = R := by
      funext q0 q1 q2 q3 q4 q5 q6 q7 q8 q9 q10 w1
      exact propext ⟨fun ⟨q0', q1', q2', q3', q4', q5', q6', q7', q8', q9', q10', he, h⟩ => by first | (simp at he; simp_all) | (cases he; exact h), fun h => ⟨_, _, _, _, _, _, _, _, _, _, _, rfl, h⟩⟩
    simpa only [e] using h
  · rintro en w1 ⟨v, he, q0, q1, q2, q3, q4, q5, q6, q7, q8, q9, q10, rfl, h⟩
    exact ⟨_, _, _, _, _, _, _, _, _, _, _, he, h⟩

theorem ofS6 {f : FuncId} {fn : Func} {c : Code} (hf : Tryz.prog.funcs[f]? = some fn) (hb : fn.body = some c) {G : Gen} (hL : LoopOk Tryz.prog fn.ntmps G c) {args : List Value} (hn : Nat.ble args.length fn.ntmps = true) {w : World} {Fm : (Option Addr → Nat → Nat → Int → World → Prop) → Prop}
    (hF : ∀ R : Value → World → Prop, Fm (fun q0 q1 q2 q3 w1 => R (.tuple #[.slice q0 q1 q2, .int .i64 q3]) w1) = den Tryz.prog fn.ntmps G c [] (postD Tryz.prog fn.results.toList R) (entry args 0) w) {R : Option Addr → Nat → Nat → Int → World → Prop} (h : Fm R) : Calls Tryz.prog f args.toArray w fun e w1 => ∃ (q0 : Option Addr) (q1 : Nat) (q2 : Nat) (q3 : Int), e = .returned (.tuple #[.slice q0 q1 q2, .int .i64 q3]) ∧ R q0 q1 q2 q3 w1 := by
  refine (calls_of_den seat_ok seat_mixed hf hb hL (args := args) hn (R := fun v w1 => ∃ (q0 : Option Addr) (q1 : Nat) (q2 : Nat) (q3 : Int), v = (.tuple #[.slice q0 q1 q2, .int .i64 q3] : Value) ∧ R q0 q1 q2 q3 w1) ?_).mono ?_
  · rw [← hF]
    have e : (fun q0 q1 q2 q3 w1 => ∃ (q0' : Option Addr) (q1' : Nat) (q2' : Nat) (q3' : Int), (.tuple #[.slice q0 q1 q2, .int .i64 q3] : Value) = (.tuple #[.slice q0' q1' q2', .int .i64 q3'] : Value) ∧ R q0' q1' q2' q3' w1) = R := by
      funext q0 q1 q2 q3 w1
      exact propext ⟨fun ⟨q0', q1', q2', q3', he, h⟩ => by first | (simp at he; simp_all) | (cases he; exact h), fun h => ⟨_, _, _, _, rfl, h⟩⟩
    simpa only [e] using h
  · rintro en w1 ⟨v, he, q0, q1, q2, q3, rfl, h⟩
    exact ⟨_, _, _, _, he, h⟩

theorem ofS7 {f : FuncId} {fn : Func} {c : Code} (hf : Tryz.prog.funcs[f]? = some fn) (hb : fn.body = some c) {G : Gen} (hL : LoopOk Tryz.prog fn.ntmps G c) {args : List Value} (hn : Nat.ble args.length fn.ntmps = true) {w : World} {Fm : (Int → ByteArray → Int → Int → Int → Bool → World → Prop) → Prop}
    (hF : ∀ R : Value → World → Prop, Fm (fun q0 q1 q2 q3 q4 q5 w1 => R (.tuple #[.agg #[.int .i64 q0, .string q1, .int .i64 q2, .int .i64 q3, .int .i64 q4], .bool q5]) w1) = den Tryz.prog fn.ntmps G c [] (postD Tryz.prog fn.results.toList R) (entry args 0) w) {R : Int → ByteArray → Int → Int → Int → Bool → World → Prop} (h : Fm R) : Calls Tryz.prog f args.toArray w fun e w1 => ∃ (q0 : Int) (q1 : ByteArray) (q2 : Int) (q3 : Int) (q4 : Int) (q5 : Bool), e = .returned (.tuple #[.agg #[.int .i64 q0, .string q1, .int .i64 q2, .int .i64 q3, .int .i64 q4], .bool q5]) ∧ R q0 q1 q2 q3 q4 q5 w1 := by
  refine (calls_of_den seat_ok seat_mixed hf hb hL (args := args) hn (R := fun v w1 => ∃ (q0 : Int) (q1 : ByteArray) (q2 : Int) (q3 : Int) (q4 : Int) (q5 : Bool), v = (.tuple #[.agg #[.int .i64 q0, .string q1, .int .i64 q2, .int .i64 q3, .int .i64 q4], .bool q5] : Value) ∧ R q0 q1 q2 q3 q4 q5 w1) ?_).mono ?_
  · rw [← hF]
    have e : (fun q0 q1 q2 q3 q4 q5 w1 => ∃ (q0' : Int) (q1' : ByteArray) (q2' : Int) (q3' : Int) (q4' : Int) (q5' : Bool), (.tuple #[.agg #[.int .i64 q0, .string q1, .int .i64 q2, .int .i64 q3, .int .i64 q4], .bool q5] : Value) = (.tuple #[.agg #[.int .i64 q0', .string q1', .int .i64 q2', .int .i64 q3', .int .i64 q4'], .bool q5'] : Value) ∧ R q0' q1' q2' q3' q4' q5' w1) = R := by
      funext q0 q1 q2 q3 q4 q5 w1
      exact propext ⟨fun ⟨q0', q1', q2', q3', q4', q5', he, h⟩ => by first | (simp at he; simp_all) | (cases he; exact h), fun h => ⟨_, _, _, _, _, _, rfl, h⟩⟩
    simpa only [e] using h
  · rintro en w1 ⟨v, he, q0, q1, q2, q3, q4, q5, rfl, h⟩
    exact ⟨_, _, _, _, _, _, he, h⟩

theorem ofS8 {f : FuncId} {fn : Func} {c : Code} (hf : Tryz.prog.funcs[f]? = some fn) (hb : fn.body = some c) {G : Gen} (hL : LoopOk Tryz.prog fn.ntmps G c) {args : List Value} (hn : Nat.ble args.length fn.ntmps = true) {w : World} {Fm : (Int → World → Prop) → Prop}
    (hF : ∀ R : Value → World → Prop, Fm (fun q0 w1 => R (.int .i64 q0) w1) = den Tryz.prog fn.ntmps G c [] (postD Tryz.prog fn.results.toList R) (entry args 0) w) {R : Int → World → Prop} (h : Fm R) : Calls Tryz.prog f args.toArray w fun e w1 => ∃ (q0 : Int), e = .returned (.int .i64 q0) ∧ R q0 w1 := by
  refine (calls_of_den seat_ok seat_mixed hf hb hL (args := args) hn (R := fun v w1 => ∃ (q0 : Int), v = (.int .i64 q0 : Value) ∧ R q0 w1) ?_).mono ?_
  · rw [← hF]
    have e : (fun q0 w1 => ∃ (q0' : Int), (.int .i64 q0 : Value) = (.int .i64 q0' : Value) ∧ R q0' w1) = R := by
      funext q0 w1
      exact propext ⟨fun ⟨q0', he, h⟩ => by first | (simp at he; simp_all) | (cases he; exact h), fun h => ⟨_, rfl, h⟩⟩
    simpa only [e] using h
  · rintro en w1 ⟨v, he, q0, rfl, h⟩
    exact ⟨_, he, h⟩

theorem ofS9 {f : FuncId} {fn : Func} {c : Code} (hf : Tryz.prog.funcs[f]? = some fn) (hb : fn.body = some c) {G : Gen} (hL : LoopOk Tryz.prog fn.ntmps G c) {args : List Value} (hn : Nat.ble args.length fn.ntmps = true) {w : World} {Fm : (Option Addr → Nat → Nat → World → Prop) → Prop}
    (hF : ∀ R : Value → World → Prop, Fm (fun q0 q1 q2 w1 => R (.slice q0 q1 q2) w1) = den Tryz.prog fn.ntmps G c [] (postD Tryz.prog fn.results.toList R) (entry args 0) w) {R : Option Addr → Nat → Nat → World → Prop} (h : Fm R) : Calls Tryz.prog f args.toArray w fun e w1 => ∃ (q0 : Option Addr) (q1 : Nat) (q2 : Nat), e = .returned (.slice q0 q1 q2) ∧ R q0 q1 q2 w1 := by
  refine (calls_of_den seat_ok seat_mixed hf hb hL (args := args) hn (R := fun v w1 => ∃ (q0 : Option Addr) (q1 : Nat) (q2 : Nat), v = (.slice q0 q1 q2 : Value) ∧ R q0 q1 q2 w1) ?_).mono ?_
  · rw [← hF]
    have e : (fun q0 q1 q2 w1 => ∃ (q0' : Option Addr) (q1' : Nat) (q2' : Nat), (.slice q0 q1 q2 : Value) = (.slice q0' q1' q2' : Value) ∧ R q0' q1' q2' w1) = R := by
      funext q0 q1 q2 w1
      exact propext ⟨fun ⟨q0', q1', q2', he, h⟩ => by first | (simp at he; simp_all) | (cases he; exact h), fun h => ⟨_, _, _, rfl, h⟩⟩
    simpa only [e] using h
  · rintro en w1 ⟨v, he, q0, q1, q2, rfl, h⟩
    exact ⟨_, _, _, he, h⟩

theorem ofS10 {f : FuncId} {fn : Func} {c : Code} (hf : Tryz.prog.funcs[f]? = some fn) (hb : fn.body = some c) {G : Gen} (hL : LoopOk Tryz.prog fn.ntmps G c) {args : List Value} (hn : Nat.ble args.length fn.ntmps = true) {w : World} {Fm : (ByteArray → Int → World → Prop) → Prop}
    (hF : ∀ R : Value → World → Prop, Fm (fun q0 q1 w1 => R (.agg #[.string q0, .int .i64 q1]) w1) = den Tryz.prog fn.ntmps G c [] (postD Tryz.prog fn.results.toList R) (entry args 0) w) {R : ByteArray → Int → World → Prop} (h : Fm R) : Calls Tryz.prog f args.toArray w fun e w1 => ∃ (q0 : ByteArray) (q1 : Int), e = .returned (.agg #[.string q0, .int .i64 q1]) ∧ R q0 q1 w1 := by
  refine (calls_of_den seat_ok seat_mixed hf hb hL (args := args) hn (R := fun v w1 => ∃ (q0 : ByteArray) (q1 : Int), v = (.agg #[.string q0, .int .i64 q1] : Value) ∧ R q0 q1 w1) ?_).mono ?_
  · rw [← hF]
    have e : (fun q0 q1 w1 => ∃ (q0' : ByteArray) (q1' : Int), (.agg #[.string q0, .int .i64 q1] : Value) = (.agg #[.string q0', .int .i64 q1'] : Value) ∧ R q0' q1' w1) = R := by
      funext q0 q1 w1
      exact propext ⟨fun ⟨q0', q1', he, h⟩ => by first | (simp at he; simp_all) | (cases he; exact h), fun h => ⟨_, _, rfl, h⟩⟩
    simpa only [e] using h
  · rintro en w1 ⟨v, he, q0, q1, rfl, h⟩
    exact ⟨_, _, he, h⟩

theorem ofS11 {f : FuncId} {fn : Func} {c : Code} (hf : Tryz.prog.funcs[f]? = some fn) (hb : fn.body = some c) {G : Gen} (hL : LoopOk Tryz.prog fn.ntmps G c) {args : List Value} (hn : Nat.ble args.length fn.ntmps = true) {w : World} {Fm : (Option Addr → World → Prop) → Prop}
    (hF : ∀ R : Value → World → Prop, Fm (fun q0 w1 => R (.pointer q0) w1) = den Tryz.prog fn.ntmps G c [] (postD Tryz.prog fn.results.toList R) (entry args 0) w) {R : Option Addr → World → Prop} (h : Fm R) : Calls Tryz.prog f args.toArray w fun e w1 => ∃ (q0 : Option Addr), e = .returned (.pointer q0) ∧ R q0 w1 := by
  refine (calls_of_den seat_ok seat_mixed hf hb hL (args := args) hn (R := fun v w1 => ∃ (q0 : Option Addr), v = (.pointer q0 : Value) ∧ R q0 w1) ?_).mono ?_
  · rw [← hF]
    have e : (fun q0 w1 => ∃ (q0' : Option Addr), (.pointer q0 : Value) = (.pointer q0' : Value) ∧ R q0' w1) = R := by
      funext q0 w1
      exact propext ⟨fun ⟨q0', he, h⟩ => by first | (simp at he; simp_all) | (cases he; exact h), fun h => ⟨_, rfl, h⟩⟩
    simpa only [e] using h
  · rintro en w1 ⟨v, he, q0, rfl, h⟩
    exact ⟨_, he, h⟩

theorem ofS12 {f : FuncId} {fn : Func} {c : Code} (hf : Tryz.prog.funcs[f]? = some fn) (hb : fn.body = some c) {G : Gen} (hL : LoopOk Tryz.prog fn.ntmps G c) {args : List Value} (hn : Nat.ble args.length fn.ntmps = true) {w : World} {Fm : (Int → ByteArray → Int → World → Prop) → Prop}
    (hF : ∀ R : Value → World → Prop, Fm (fun q0 q1 q2 w1 => R (.agg #[.int .i64 q0, .string q1, .int .i64 q2]) w1) = den Tryz.prog fn.ntmps G c [] (postD Tryz.prog fn.results.toList R) (entry args 0) w) {R : Int → ByteArray → Int → World → Prop} (h : Fm R) : Calls Tryz.prog f args.toArray w fun e w1 => ∃ (q0 : Int) (q1 : ByteArray) (q2 : Int), e = .returned (.agg #[.int .i64 q0, .string q1, .int .i64 q2]) ∧ R q0 q1 q2 w1 := by
  refine (calls_of_den seat_ok seat_mixed hf hb hL (args := args) hn (R := fun v w1 => ∃ (q0 : Int) (q1 : ByteArray) (q2 : Int), v = (.agg #[.int .i64 q0, .string q1, .int .i64 q2] : Value) ∧ R q0 q1 q2 w1) ?_).mono ?_
  · rw [← hF]
    have e : (fun q0 q1 q2 w1 => ∃ (q0' : Int) (q1' : ByteArray) (q2' : Int), (.agg #[.int .i64 q0, .string q1, .int .i64 q2] : Value) = (.agg #[.int .i64 q0', .string q1', .int .i64 q2'] : Value) ∧ R q0' q1' q2' w1) = R := by
      funext q0 q1 q2 w1
      exact propext ⟨fun ⟨q0', q1', q2', he, h⟩ => by first | (simp at he; simp_all) | (cases he; exact h), fun h => ⟨_, _, _, rfl, h⟩⟩
    simpa only [e] using h
  · rintro en w1 ⟨v, he, q0, q1, q2, rfl, h⟩
    exact ⟨_, _, _, he, h⟩

theorem ofS13 {f : FuncId} {fn : Func} {c : Code} (hf : Tryz.prog.funcs[f]? = some fn) (hb : fn.body = some c) {G : Gen} (hL : LoopOk Tryz.prog fn.ntmps G c) {args : List Value} (hn : Nat.ble args.length fn.ntmps = true) {w : World} {Fm : (Int → Int → ByteArray → Option Addr → Nat → Nat → Option Addr → Nat → Nat → Int → World → Prop) → Prop}
    (hF : ∀ R : Value → World → Prop, Fm (fun q0 q1 q2 q3 q4 q5 q6 q7 q8 q9 w1 => R (.agg #[.int .i64 q0, .int .i64 q1, .string q2, .slice q3 q4 q5, .slice q6 q7 q8, .int .i64 q9]) w1) = den Tryz.prog fn.ntmps G c [] (postD Tryz.prog fn.results.toList R) (entry args 0) w) {R : Int → Int → ByteArray → Option Addr → Nat → Nat → Option Addr → Nat → Nat → Int → World → Prop} (h : Fm R) : Calls Tryz.prog f args.toArray w fun e w1 => ∃ (q0 : Int) (q1 : Int) (q2 : ByteArray) (q3 : Option Addr) (q4 : Nat) (q5 : Nat) (q6 : Option Addr) (q7 : Nat) (q8 : Nat) (q9 : Int), e = .returned (.agg #[.int .i64 q0, .int .i64 q1, .string q2, .slice q3 q4 q5, .slice q6 q7 q8, .int .i64 q9]) ∧ R q0 q1 q2 q3 q4 q5 q6 q7 q8 q9 w1 := by
  refine (calls_of_den seat_ok seat_mixed hf hb hL (args := args) hn (R := fun v w1 => ∃ (q0 : Int) (q1 : Int) (q2 : ByteArray) (q3 : Option Addr) (q4 : Nat) (q5 : Nat) (q6 : Option Addr) (q7 : Nat) (q8 : Nat) (q9 : Int), v = (.agg #[.int .i64 q0, .int .i64 q1, .string q2, .slice q3 q4 q5, .slice q6 q7 q8, .int .i64 q9] : Value) ∧ R q0 q1 q2 q3 q4 q5 q6 q7 q8 q9 w1) ?_).mono ?_
  · rw [← hF]
    have e : (fun q0 q1 q2 q3 q4 q5 q6 q7 q8 q9 w1 => ∃ (q0' : Int) (q1' : Int) (q2' : ByteArray) (q3' : Option Addr) (q4' : Nat) (q5' : Nat) (q6' : Option Addr) (q7' : Nat) (q8' : Nat) (q9' : Int), (.agg #[.int .i64 q0, .int .i64 q1, .string q2, .slice q3 q4 q5, .slice q6 q7 q8, .int .i64 q9] : Value) = (.agg #[.int .i64 q0', .int .i64 q1', .string q2', .slice q3' q4' q5', .slice q6' q7' q8', .int .i64 q9'] : Value) ∧ R q0' q1' q2' q3' q4' q5' q6' q7' q8' q9' w1) = R := by
      funext q0 q1 q2 q3 q4 q5 q6 q7 q8 q9 w1
      exact propext ⟨fun ⟨q0', q1', q2', q3', q4', q5', q6', q7', q8', q9', he, h⟩ => by first | (simp at he; simp_all) | (cases he; exact h), fun h => ⟨_, _, _, _, _, _, _, _, _, _, rfl, h⟩⟩
    simpa only [e] using h
  · rintro en w1 ⟨v, he, q0, q1, q2, q3, q4, q5, q6, q7, q8, q9, rfl, h⟩
    exact ⟨_, _, _, _, _, _, _, _, _, _, he, h⟩

theorem ofS14 {f : FuncId} {fn : Func} {c : Code} (hf : Tryz.prog.funcs[f]? = some fn) (hb : fn.body = some c) {G : Gen} (hL : LoopOk Tryz.prog fn.ntmps G c) {args : List Value} (hn : Nat.ble args.length fn.ntmps = true) {w : World} {Fm : (Option Addr → Int → World → Prop) → Prop}
    (hF : ∀ R : Value → World → Prop, Fm (fun q0 q1 w1 => R (.tuple #[.pointer q0, .int .i64 q1]) w1) = den Tryz.prog fn.ntmps G c [] (postD Tryz.prog fn.results.toList R) (entry args 0) w) {R : Option Addr → Int → World → Prop} (h : Fm R) : Calls Tryz.prog f args.toArray w fun e w1 => ∃ (q0 : Option Addr) (q1 : Int), e = .returned (.tuple #[.pointer q0, .int .i64 q1]) ∧ R q0 q1 w1 := by
  refine (calls_of_den seat_ok seat_mixed hf hb hL (args := args) hn (R := fun v w1 => ∃ (q0 : Option Addr) (q1 : Int), v = (.tuple #[.pointer q0, .int .i64 q1] : Value) ∧ R q0 q1 w1) ?_).mono ?_
  · rw [← hF]
    have e : (fun q0 q1 w1 => ∃ (q0' : Option Addr) (q1' : Int), (.tuple #[.pointer q0, .int .i64 q1] : Value) = (.tuple #[.pointer q0', .int .i64 q1'] : Value) ∧ R q0' q1' w1) = R := by
      funext q0 q1 w1
      exact propext ⟨fun ⟨q0', q1', he, h⟩ => by first | (simp at he; simp_all) | (cases he; exact h), fun h => ⟨_, _, rfl, h⟩⟩
    simpa only [e] using h
  · rintro en w1 ⟨v, he, q0, q1, rfl, h⟩
    exact ⟨_, _, he, h⟩

theorem ofS15 {f : FuncId} {fn : Func} {c : Code} (hf : Tryz.prog.funcs[f]? = some fn) (hb : fn.body = some c) {G : Gen} (hL : LoopOk Tryz.prog fn.ntmps G c) {args : List Value} (hn : Nat.ble args.length fn.ntmps = true) {w : World} {Fm : (Int → Int → ByteArray → Option Addr → Nat → Nat → World → Prop) → Prop}
    (hF : ∀ R : Value → World → Prop, Fm (fun q0 q1 q2 q3 q4 q5 w1 => R (.agg #[.int .i64 q0, .int .i64 q1, .string q2, .slice q3 q4 q5]) w1) = den Tryz.prog fn.ntmps G c [] (postD Tryz.prog fn.results.toList R) (entry args 0) w) {R : Int → Int → ByteArray → Option Addr → Nat → Nat → World → Prop} (h : Fm R) : Calls Tryz.prog f args.toArray w fun e w1 => ∃ (q0 : Int) (q1 : Int) (q2 : ByteArray) (q3 : Option Addr) (q4 : Nat) (q5 : Nat), e = .returned (.agg #[.int .i64 q0, .int .i64 q1, .string q2, .slice q3 q4 q5]) ∧ R q0 q1 q2 q3 q4 q5 w1 := by
  refine (calls_of_den seat_ok seat_mixed hf hb hL (args := args) hn (R := fun v w1 => ∃ (q0 : Int) (q1 : Int) (q2 : ByteArray) (q3 : Option Addr) (q4 : Nat) (q5 : Nat), v = (.agg #[.int .i64 q0, .int .i64 q1, .string q2, .slice q3 q4 q5] : Value) ∧ R q0 q1 q2 q3 q4 q5 w1) ?_).mono ?_
  · rw [← hF]
    have e : (fun q0 q1 q2 q3 q4 q5 w1 => ∃ (q0' : Int) (q1' : Int) (q2' : ByteArray) (q3' : Option Addr) (q4' : Nat) (q5' : Nat), (.agg #[.int .i64 q0, .int .i64 q1, .string q2, .slice q3 q4 q5] : Value) = (.agg #[.int .i64 q0', .int .i64 q1', .string q2', .slice q3' q4' q5'] : Value) ∧ R q0' q1' q2' q3' q4' q5' w1) = R := by
      funext q0 q1 q2 q3 q4 q5 w1
      exact propext ⟨fun ⟨q0', q1', q2', q3', q4', q5', he, h⟩ => by first | (simp at he; simp_all) | (cases he; exact h), fun h => ⟨_, _, _, _, _, _, rfl, h⟩⟩
    simpa only [e] using h
  · rintro en w1 ⟨v, he, q0, q1, q2, q3, q4, q5, rfl, h⟩
    exact ⟨_, _, _, _, _, _, he, h⟩

theorem ofS16 {f : FuncId} {fn : Func} {c : Code} (hf : Tryz.prog.funcs[f]? = some fn) (hb : fn.body = some c) {G : Gen} (hL : LoopOk Tryz.prog fn.ntmps G c) {args : List Value} (hn : Nat.ble args.length fn.ntmps = true) {w : World} {Fm : (Int → Int → Bool → World → Prop) → Prop}
    (hF : ∀ R : Value → World → Prop, Fm (fun q0 q1 q2 w1 => R (.tuple #[.agg #[.int .i64 q0, .int .i64 q1], .bool q2]) w1) = den Tryz.prog fn.ntmps G c [] (postD Tryz.prog fn.results.toList R) (entry args 0) w) {R : Int → Int → Bool → World → Prop} (h : Fm R) : Calls Tryz.prog f args.toArray w fun e w1 => ∃ (q0 : Int) (q1 : Int) (q2 : Bool), e = .returned (.tuple #[.agg #[.int .i64 q0, .int .i64 q1], .bool q2]) ∧ R q0 q1 q2 w1 := by
  refine (calls_of_den seat_ok seat_mixed hf hb hL (args := args) hn (R := fun v w1 => ∃ (q0 : Int) (q1 : Int) (q2 : Bool), v = (.tuple #[.agg #[.int .i64 q0, .int .i64 q1], .bool q2] : Value) ∧ R q0 q1 q2 w1) ?_).mono ?_
  · rw [← hF]
    have e : (fun q0 q1 q2 w1 => ∃ (q0' : Int) (q1' : Int) (q2' : Bool), (.tuple #[.agg #[.int .i64 q0, .int .i64 q1], .bool q2] : Value) = (.tuple #[.agg #[.int .i64 q0', .int .i64 q1'], .bool q2'] : Value) ∧ R q0' q1' q2' w1) = R := by
      funext q0 q1 q2 w1
      exact propext ⟨fun ⟨q0', q1', q2', he, h⟩ => by first | (simp at he; simp_all) | (cases he; exact h), fun h => ⟨_, _, _, rfl, h⟩⟩
    simpa only [e] using h
  · rintro en w1 ⟨v, he, q0, q1, q2, rfl, h⟩
    exact ⟨_, _, _, he, h⟩

theorem ofS17 {f : FuncId} {fn : Func} {c : Code} (hf : Tryz.prog.funcs[f]? = some fn) (hb : fn.body = some c) {G : Gen} (hL : LoopOk Tryz.prog fn.ntmps G c) {args : List Value} (hn : Nat.ble args.length fn.ntmps = true) {w : World} {Fm : (Int → Int → Bool → World → Prop) → Prop}
    (hF : ∀ R : Value → World → Prop, Fm (fun q0 q1 q2 w1 => R (.agg #[.int .i64 q0, .int .i64 q1, .bool q2]) w1) = den Tryz.prog fn.ntmps G c [] (postD Tryz.prog fn.results.toList R) (entry args 0) w) {R : Int → Int → Bool → World → Prop} (h : Fm R) : Calls Tryz.prog f args.toArray w fun e w1 => ∃ (q0 : Int) (q1 : Int) (q2 : Bool), e = .returned (.agg #[.int .i64 q0, .int .i64 q1, .bool q2]) ∧ R q0 q1 q2 w1 := by
  refine (calls_of_den seat_ok seat_mixed hf hb hL (args := args) hn (R := fun v w1 => ∃ (q0 : Int) (q1 : Int) (q2 : Bool), v = (.agg #[.int .i64 q0, .int .i64 q1, .bool q2] : Value) ∧ R q0 q1 q2 w1) ?_).mono ?_
  · rw [← hF]
    have e : (fun q0 q1 q2 w1 => ∃ (q0' : Int) (q1' : Int) (q2' : Bool), (.agg #[.int .i64 q0, .int .i64 q1, .bool q2] : Value) = (.agg #[.int .i64 q0', .int .i64 q1', .bool q2'] : Value) ∧ R q0' q1' q2' w1) = R := by
      funext q0 q1 q2 w1
      exact propext ⟨fun ⟨q0', q1', q2', he, h⟩ => by first | (simp at he; simp_all) | (cases he; exact h), fun h => ⟨_, _, _, rfl, h⟩⟩
    simpa only [e] using h
  · rintro en w1 ⟨v, he, q0, q1, q2, rfl, h⟩
    exact ⟨_, _, _, he, h⟩

end Go.Proofs.YtlndgaijekihiaaGreat
