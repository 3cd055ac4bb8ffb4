/- The calls of this seat's functions, typed. Printed by a program. -/
import Derived.Test.YtlngmelfjiemlaaDen6
import Derived.Test.YtlngmelfjiemlaaProg
namespace Go.Proofs.Ytlngmelfjiemlaa
open Go Go.D Go.Proofs

theorem seat_ok : AllCallable Try.prog := allCallable_of (by kernel_rfl)
theorem seat_mixed : Try.prog.follows .mixedOrders = true := by kernel_rfl

/-- gosem.cut.init -/
def C_gosem_cut_init  (w : World) (R : World → Prop) : Prop :=
  Calls Try.prog 2 #[] w fun en w1 => en = .returned (.tuple #[]) ∧ R w1
theorem C_gosem_cut_init.mono {w : World} {R R' : World → Prop} (h : C_gosem_cut_init  w R) (hr : ∀ w1, R w1 → R' w1) : C_gosem_cut_init  w R' :=
  Calls.mono h fun _ _ ⟨he, h⟩ => ⟨he, hr _ h⟩

/-- elenchus/elenchuslaw05.FunctorNobody -/
def C_law05_FunctorNobody (o0 : Int) (o1 : ByteArray) (o2 : Int) (w : World) (R : Bool → World → Prop) : Prop :=
  Calls Try.prog 3 #[.agg #[.int .i64 o0, .string o1, .int .i64 o2]] w fun en w1 => ∃ (r : Bool), en = .returned (.bool r) ∧ R r w1
theorem C_law05_FunctorNobody.mono {o0 : Int} {o1 : ByteArray} {o2 : Int} {w : World} {R R' : Bool → World → Prop} (h : C_law05_FunctorNobody o0 o1 o2 w R) (hr : ∀ r w1, R r w1 → R' r w1) : C_law05_FunctorNobody o0 o1 o2 w R' :=
  Calls.mono h fun _ _ ⟨r, he, h⟩ => ⟨r, he, hr r _ h⟩

/-- elenchus/elenchuslaw05.FunctorApart -/
def C_law05_FunctorApart (a : ByteArray) (n : Int) (b : ByteArray) (m : Int) (w : World) (R : Bool → World → Prop) : Prop :=
  Calls Try.prog 4 #[.string a, .int .i64 n, .string b, .int .i64 m] w fun en w1 => ∃ (r : Bool), en = .returned (.bool r) ∧ R r w1
theorem C_law05_FunctorApart.mono {a : ByteArray} {n : Int} {b : ByteArray} {m : Int} {w : World} {R R' : Bool → World → Prop} (h : C_law05_FunctorApart a n b m w R) (hr : ∀ r w1, R r w1 → R' r w1) : C_law05_FunctorApart a n b m w R' :=
  Calls.mono h fun _ _ ⟨r, he, h⟩ => ⟨r, he, hr r _ h⟩

/-- elenchus/elenchuslaw05.FunctorKeeps -/
def C_law05_FunctorKeeps (lP : Option Addr) (lN : Nat) (lC : Nat) (rounds : Int) (w : World) (R : Bool → World → Prop) : Prop :=
  Calls Try.prog 5 #[.slice lP lN lC, .int .i64 rounds] w fun en w1 => ∃ (r : Bool), en = .returned (.bool r) ∧ R r w1
theorem C_law05_FunctorKeeps.mono {lP : Option Addr} {lN : Nat} {lC : Nat} {rounds : Int} {w : World} {R R' : Bool → World → Prop} (h : C_law05_FunctorKeeps lP lN lC rounds w R) (hr : ∀ r w1, R r w1 → R' r w1) : C_law05_FunctorKeeps lP lN lC rounds w R' :=
  Calls.mono h fun _ _ ⟨r, he, h⟩ => ⟨r, he, hr r _ h⟩

/-- elenchus/elenchuslaw05.FunctorDoes -/
def C_law05_FunctorDoes (limitx : Int) (names : Int) (lP : Option Addr) (lN : Nat) (lC : Nat) (w : World) (R : Bool → World → Prop) : Prop :=
  Calls Try.prog 6 #[.int .i64 limitx, .int .i64 names, .slice lP lN lC] w fun en w1 => ∃ (r : Bool), en = .returned (.bool r) ∧ R r w1
theorem C_law05_FunctorDoes.mono {limitx : Int} {names : Int} {lP : Option Addr} {lN : Nat} {lC : Nat} {w : World} {R R' : Bool → World → Prop} (h : C_law05_FunctorDoes limitx names lP lN lC w R) (hr : ∀ r w1, R r w1 → R' r w1) : C_law05_FunctorDoes limitx names lP lN lC w R' :=
  Calls.mono h fun _ _ ⟨r, he, h⟩ => ⟨r, he, hr r _ h⟩

/-- (elenchus/functor.Table).Put -/
def C_functor_Table_Put (t : Option Addr) (namex : ByteArray) (arity : Int) (w : World) (R : Int → Int → World → Prop) : Prop :=
  Calls Try.prog 7 #[.pointer t, .string namex, .int .i64 arity] w fun en w1 => ∃ (r0 : Int) (r1 : Int), en = .returned (.tuple #[.int .i64 r0, .int .i64 r1]) ∧ R r0 r1 w1
theorem C_functor_Table_Put.mono {t : Option Addr} {namex : ByteArray} {arity : Int} {w : World} {R R' : Int → Int → World → Prop} (h : C_functor_Table_Put t namex arity w R) (hr : ∀ r0 r1 w1, R r0 r1 w1 → R' r0 r1 w1) : C_functor_Table_Put t namex arity w R' :=
  Calls.mono h fun _ _ ⟨r0, r1, he, h⟩ => ⟨r0, r1, he, hr r0 r1 _ h⟩

/-- (elenchus/functor.Table).Find -/
def C_functor_Table_Find (t : Option Addr) (namex : ByteArray) (arity : Int) (w : World) (R : Int → Bool → World → Prop) : Prop :=
  Calls Try.prog 8 #[.pointer t, .string namex, .int .i64 arity] w fun en w1 => ∃ (r0 : Int) (r1 : Bool), en = .returned (.tuple #[.int .i64 r0, .bool r1]) ∧ R r0 r1 w1
theorem C_functor_Table_Find.mono {t : Option Addr} {namex : ByteArray} {arity : Int} {w : World} {R R' : Int → Bool → World → Prop} (h : C_functor_Table_Find t namex arity w R) (hr : ∀ r0 r1 w1, R r0 r1 w1 → R' r0 r1 w1) : C_functor_Table_Find t namex arity w R' :=
  Calls.mono h fun _ _ ⟨r0, r1, he, h⟩ => ⟨r0, r1, he, hr r0 r1 _ h⟩

/-- (elenchus/functor.Table).Get -/
def C_functor_Table_Get (t : Option Addr) (idx : Int) (w : World) (R : ByteArray → Int → Int → World → Prop) : Prop :=
  Calls Try.prog 9 #[.pointer t, .int .i64 idx] w fun en w1 => ∃ (r0 : ByteArray) (r1 : Int) (r2 : Int), en = .returned (.tuple #[.string r0, .int .i64 r1, .int .i64 r2]) ∧ R r0 r1 r2 w1
theorem C_functor_Table_Get.mono {t : Option Addr} {idx : Int} {w : World} {R R' : ByteArray → Int → Int → World → Prop} (h : C_functor_Table_Get t idx w R) (hr : ∀ r0 r1 r2 w1, R r0 r1 r2 w1 → R' r0 r1 r2 w1) : C_functor_Table_Get t idx w R' :=
  Calls.mono h fun _ _ ⟨r0, r1, r2, he, h⟩ => ⟨r0, r1, r2, he, hr r0 r1 r2 _ h⟩

/-- elenchus/elenchuslaw05.lives -/
def C_law05_lives  (w : World) (R : Bool → World → Prop) : Prop :=
  Calls Try.prog 10 #[] w fun en w1 => ∃ (r : Bool), en = .returned (.bool r) ∧ R r w1
theorem C_law05_lives.mono {w : World} {R R' : Bool → World → Prop} (h : C_law05_lives  w R) (hr : ∀ r w1, R r w1 → R' r w1) : C_law05_lives  w R' :=
  Calls.mono h fun _ _ ⟨r, he, h⟩ => ⟨r, he, hr r _ h⟩

/-- (elenchus/functor.Table).Len -/
def C_functor_Table_Len (t : Option Addr) (w : World) (R : Int → World → Prop) : Prop :=
  Calls Try.prog 11 #[.pointer t] w fun en w1 => ∃ (r : Int), en = .returned (.int .i64 r) ∧ R r w1
theorem C_functor_Table_Len.mono {t : Option Addr} {w : World} {R R' : Int → World → Prop} (h : C_functor_Table_Len t w R) (hr : ∀ r w1, R r w1 → R' r w1) : C_functor_Table_Len t w R' :=
  Calls.mono h fun _ _ ⟨r, he, h⟩ => ⟨r, he, hr r _ h⟩

/-- (elenchus/functor.Table).Slots -/
def C_functor_Table_Slots (t : Option Addr) (w : World) (R : Int → World → Prop) : Prop :=
  Calls Try.prog 12 #[.pointer t] w fun en w1 => ∃ (r : Int), en = .returned (.int .i64 r) ∧ R r w1
theorem C_functor_Table_Slots.mono {t : Option Addr} {w : World} {R R' : Int → World → Prop} (h : C_functor_Table_Slots t w R) (hr : ∀ r w1, R r w1 → R' r w1) : C_functor_Table_Slots t w R' :=
  Calls.mono h fun _ _ ⟨r, he, h⟩ => ⟨r, he, hr r _ h⟩

/-- (elenchus/functor.Table).Mark -/
def C_functor_Table_Mark (t : Option Addr) (idx : Int) (w : World) (R : Int → World → Prop) : Prop :=
  Calls Try.prog 13 #[.pointer t, .int .i64 idx] w fun en w1 => ∃ (r : Int), en = .returned (.int .i64 r) ∧ R r w1
theorem C_functor_Table_Mark.mono {t : Option Addr} {idx : Int} {w : World} {R R' : Int → World → Prop} (h : C_functor_Table_Mark t idx w R) (hr : ∀ r w1, R r w1 → R' r w1) : C_functor_Table_Mark t idx w R' :=
  Calls.mono h fun _ _ ⟨r, he, h⟩ => ⟨r, he, hr r _ h⟩

/-- (elenchus/functor.Table).Sweep -/
def C_functor_Table_Sweep (t : Option Addr) (w : World) (R : Int → World → Prop) : Prop :=
  Calls Try.prog 14 #[.pointer t] w fun en w1 => ∃ (r : Int), en = .returned (.int .i64 r) ∧ R r w1
theorem C_functor_Table_Sweep.mono {t : Option Addr} {w : World} {R R' : Int → World → Prop} (h : C_functor_Table_Sweep t w R) (hr : ∀ r w1, R r w1 → R' r w1) : C_functor_Table_Sweep t w R' :=
  Calls.mono h fun _ _ ⟨r, he, h⟩ => ⟨r, he, hr r _ h⟩

/-- (elenchus/functor.Table).Atoms -/
def C_functor_Table_Atoms (t : Option Addr) (w : World) (R : Int → World → Prop) : Prop :=
  Calls Try.prog 15 #[.pointer t] w fun en w1 => ∃ (r : Int), en = .returned (.int .i64 r) ∧ R r w1
theorem C_functor_Table_Atoms.mono {t : Option Addr} {w : World} {R R' : Int → World → Prop} (h : C_functor_Table_Atoms t w R) (hr : ∀ r w1, R r w1 → R' r w1) : C_functor_Table_Atoms t w R' :=
  Calls.mono h fun _ _ ⟨r, he, h⟩ => ⟨r, he, hr r _ h⟩

/-- elenchus/atom.New -/
def C_atom_New (limitx : Int) (w : World) (R : Option Addr → Int → World → Prop) : Prop :=
  Calls Try.prog 16 #[.int .i64 limitx] w fun en w1 => ∃ (r0 : Option Addr) (r1 : Int), en = .returned (.tuple #[.pointer r0, .int .i64 r1]) ∧ R r0 r1 w1
theorem C_atom_New.mono {limitx : Int} {w : World} {R R' : Option Addr → Int → World → Prop} (h : C_atom_New limitx w R) (hr : ∀ r0 r1 w1, R r0 r1 w1 → R' r0 r1 w1) : C_atom_New limitx w R' :=
  Calls.mono h fun _ _ ⟨r0, r1, he, h⟩ => ⟨r0, r1, he, hr r0 r1 _ h⟩

/-- elenchus/functor.New -/
def C_functor_New (limitx : Int) (atoms : Option Addr) (w : World) (R : Option Addr → Int → World → Prop) : Prop :=
  Calls Try.prog 17 #[.int .i64 limitx, .pointer atoms] w fun en w1 => ∃ (r0 : Option Addr) (r1 : Int), en = .returned (.tuple #[.pointer r0, .int .i64 r1]) ∧ R r0 r1 w1
theorem C_functor_New.mono {limitx : Int} {atoms : Option Addr} {w : World} {R R' : Option Addr → Int → World → Prop} (h : C_functor_New limitx atoms w R) (hr : ∀ r0 r1 w1, R r0 r1 w1 → R' r0 r1 w1) : C_functor_New limitx atoms w R' :=
  Calls.mono h fun _ _ ⟨r0, r1, he, h⟩ => ⟨r0, r1, he, hr r0 r1 _ h⟩

/-- (elenchus/atom.Table).Sweep -/
def C_atom_Table_Sweep (t : Option Addr) (w : World) (R : Int → World → Prop) : Prop :=
  Calls Try.prog 18 #[.pointer t] w fun en w1 => ∃ (r : Int), en = .returned (.int .i64 r) ∧ R r w1
theorem C_atom_Table_Sweep.mono {t : Option Addr} {w : World} {R R' : Int → World → Prop} (h : C_atom_Table_Sweep t w R) (hr : ∀ r w1, R r w1 → R' r w1) : C_atom_Table_Sweep t w R' :=
  Calls.mono h fun _ _ ⟨r, he, h⟩ => ⟨r, he, hr r _ h⟩

/-- elenchus/elenchusref04.New -/
def C_ref04_New (limitx : Int) (w : World) (R : Option Addr → World → Prop) : Prop :=
  Calls Try.prog 19 #[.int .i64 limitx] w fun en w1 => ∃ (r : Option Addr), en = .returned (.pointer r) ∧ R r w1
theorem C_ref04_New.mono {limitx : Int} {w : World} {R R' : Option Addr → World → Prop} (h : C_ref04_New limitx w R) (hr : ∀ r w1, R r w1 → R' r w1) : C_ref04_New limitx w R' :=
  Calls.mono h fun _ _ ⟨r, he, h⟩ => ⟨r, he, hr r _ h⟩

/-- elenchus/elenchusref05.New -/
def C_ref05_New (limitx : Int) (a : Option Addr) (w : World) (R : Option Addr → World → Prop) : Prop :=
  Calls Try.prog 20 #[.int .i64 limitx, .pointer a] w fun en w1 => ∃ (r : Option Addr), en = .returned (.pointer r) ∧ R r w1
theorem C_ref05_New.mono {limitx : Int} {a : Option Addr} {w : World} {R R' : Option Addr → World → Prop} (h : C_ref05_New limitx a w R) (hr : ∀ r w1, R r w1 → R' r w1) : C_ref05_New limitx a w R' :=
  Calls.mono h fun _ _ ⟨r, he, h⟩ => ⟨r, he, hr r _ h⟩

/-- elenchus/elenchuslaw05.do -/
def C_law05_do (t : Option Addr) (a : Option Addr) (x : Option Addr) (o0 : Int) (o1 : ByteArray) (o2 : Int) (w : World) (R : Bool → World → Prop) : Prop :=
  Calls Try.prog 21 #[.pointer t, .pointer a, .pointer x, .agg #[.int .i64 o0, .string o1, .int .i64 o2]] w fun en w1 => ∃ (r : Bool), en = .returned (.bool r) ∧ R r w1
theorem C_law05_do.mono {t : Option Addr} {a : Option Addr} {x : Option Addr} {o0 : Int} {o1 : ByteArray} {o2 : Int} {w : World} {R R' : Bool → World → Prop} (h : C_law05_do t a x o0 o1 o2 w R) (hr : ∀ r w1, R r w1 → R' r w1) : C_law05_do t a x o0 o1 o2 w R' :=
  Calls.mono h fun _ _ ⟨r, he, h⟩ => ⟨r, he, hr r _ h⟩

/-- (elenchus/elenchusref05.Table).Len -/
def C_ref05_Table_Len (t : Option Addr) (w : World) (R : Int → World → Prop) : Prop :=
  Calls Try.prog 22 #[.pointer t] w fun en w1 => ∃ (r : Int), en = .returned (.int .i64 r) ∧ R r w1
theorem C_ref05_Table_Len.mono {t : Option Addr} {w : World} {R R' : Int → World → Prop} (h : C_ref05_Table_Len t w R) (hr : ∀ r w1, R r w1 → R' r w1) : C_ref05_Table_Len t w R' :=
  Calls.mono h fun _ _ ⟨r, he, h⟩ => ⟨r, he, hr r _ h⟩

/-- (elenchus/atom.Table).Len -/
def C_atom_Table_Len (t : Option Addr) (w : World) (R : Int → World → Prop) : Prop :=
  Calls Try.prog 23 #[.pointer t] w fun en w1 => ∃ (r : Int), en = .returned (.int .i64 r) ∧ R r w1
theorem C_atom_Table_Len.mono {t : Option Addr} {w : World} {R R' : Int → World → Prop} (h : C_atom_Table_Len t w R) (hr : ∀ r w1, R r w1 → R' r w1) : C_atom_Table_Len t w R' :=
  Calls.mono h fun _ _ ⟨r, he, h⟩ => ⟨r, he, hr r _ h⟩

/-- (elenchus/elenchusref04.Table).Len -/
def C_ref04_Table_Len (t : Option Addr) (w : World) (R : Int → World → Prop) : Prop :=
  Calls Try.prog 24 #[.pointer t] w fun en w1 => ∃ (r : Int), en = .returned (.int .i64 r) ∧ R r w1
theorem C_ref04_Table_Len.mono {t : Option Addr} {w : World} {R R' : Int → World → Prop} (h : C_ref04_Table_Len t w R) (hr : ∀ r w1, R r w1 → R' r w1) : C_ref04_Table_Len t w R' :=
  Calls.mono h fun _ _ ⟨r, he, h⟩ => ⟨r, he, hr r _ h⟩

/-- (elenchus/functor.Table).made -/
def C_functor_Table_made (t : Option Addr) (w : World) (R : Bool → World → Prop) : Prop :=
  Calls Try.prog 25 #[.pointer t] w fun en w1 => ∃ (r : Bool), en = .returned (.bool r) ∧ R r w1
theorem C_functor_Table_made.mono {t : Option Addr} {w : World} {R R' : Bool → World → Prop} (h : C_functor_Table_made t w R) (hr : ∀ r w1, R r w1 → R' r w1) : C_functor_Table_made t w R' :=
  Calls.mono h fun _ _ ⟨r, he, h⟩ => ⟨r, he, hr r _ h⟩

/-- (elenchus/atom.Table).Intern -/
def C_atom_Table_Intern (t : Option Addr) (namex : ByteArray) (w : World) (R : Int → Int → World → Prop) : Prop :=
  Calls Try.prog 26 #[.pointer t, .string namex] w fun en w1 => ∃ (r0 : Int) (r1 : Int), en = .returned (.tuple #[.int .i64 r0, .int .i64 r1]) ∧ R r0 r1 w1
theorem C_atom_Table_Intern.mono {t : Option Addr} {namex : ByteArray} {w : World} {R R' : Int → Int → World → Prop} (h : C_atom_Table_Intern t namex w R) (hr : ∀ r0 r1 w1, R r0 r1 w1 → R' r0 r1 w1) : C_atom_Table_Intern t namex w R' :=
  Calls.mono h fun _ _ ⟨r0, r1, he, h⟩ => ⟨r0, r1, he, hr r0 r1 _ h⟩

/-- (elenchus/functor.Table).add -/
def C_functor_Table_add (t : Option Addr) (f0 : Int) (f1 : Int) (w : World) (R : Int → Int → World → Prop) : Prop :=
  Calls Try.prog 27 #[.pointer t, .agg #[.int .i64 f0, .int .i64 f1]] w fun en w1 => ∃ (r0 : Int) (r1 : Int), en = .returned (.tuple #[.int .i64 r0, .int .i64 r1]) ∧ R r0 r1 w1
theorem C_functor_Table_add.mono {t : Option Addr} {f0 : Int} {f1 : Int} {w : World} {R R' : Int → Int → World → Prop} (h : C_functor_Table_add t f0 f1 w R) (hr : ∀ r0 r1 w1, R r0 r1 w1 → R' r0 r1 w1) : C_functor_Table_add t f0 f1 w R' :=
  Calls.mono h fun _ _ ⟨r0, r1, he, h⟩ => ⟨r0, r1, he, hr r0 r1 _ h⟩

/-- (elenchus/atom.Table).Find -/
def C_atom_Table_Find (t : Option Addr) (namex : ByteArray) (w : World) (R : Int → Bool → World → Prop) : Prop :=
  Calls Try.prog 28 #[.pointer t, .string namex] w fun en w1 => ∃ (r0 : Int) (r1 : Bool), en = .returned (.tuple #[.int .i64 r0, .bool r1]) ∧ R r0 r1 w1
theorem C_atom_Table_Find.mono {t : Option Addr} {namex : ByteArray} {w : World} {R R' : Int → Bool → World → Prop} (h : C_atom_Table_Find t namex w R) (hr : ∀ r0 r1 w1, R r0 r1 w1 → R' r0 r1 w1) : C_atom_Table_Find t namex w R' :=
  Calls.mono h fun _ _ ⟨r0, r1, he, h⟩ => ⟨r0, r1, he, hr r0 r1 _ h⟩

/-- (elenchus/functor.Table).may -/
def C_functor_Table_may (t : Option Addr) (idx : Int) (w : World) (R : Int → World → Prop) : Prop :=
  Calls Try.prog 29 #[.pointer t, .int .i64 idx] w fun en w1 => ∃ (r : Int), en = .returned (.int .i64 r) ∧ R r w1
theorem C_functor_Table_may.mono {t : Option Addr} {idx : Int} {w : World} {R R' : Int → World → Prop} (h : C_functor_Table_may t idx w R) (hr : ∀ r w1, R r w1 → R' r w1) : C_functor_Table_may t idx w R' :=
  Calls.mono h fun _ _ ⟨r, he, h⟩ => ⟨r, he, hr r _ h⟩

/-- (elenchus/atom.Table).Name -/
def C_atom_Table_Name (t : Option Addr) (idx : Int) (w : World) (R : ByteArray → Int → World → Prop) : Prop :=
  Calls Try.prog 30 #[.pointer t, .int .i64 idx] w fun en w1 => ∃ (r0 : ByteArray) (r1 : Int), en = .returned (.tuple #[.string r0, .int .i64 r1]) ∧ R r0 r1 w1
theorem C_atom_Table_Name.mono {t : Option Addr} {idx : Int} {w : World} {R R' : ByteArray → Int → World → Prop} (h : C_atom_Table_Name t idx w R) (hr : ∀ r0 r1 w1, R r0 r1 w1 → R' r0 r1 w1) : C_atom_Table_Name t idx w R' :=
  Calls.mono h fun _ _ ⟨r0, r1, he, h⟩ => ⟨r0, r1, he, hr r0 r1 _ h⟩

/-- slices.Sort[[]int,int] -/
def C_slices_Sort (xP : Option Addr) (xN : Nat) (xC : Nat) (w : World) (R : World → Prop) : Prop :=
  Calls Try.prog 31 #[.slice xP xN xC] w fun en w1 => en = .returned (.tuple #[]) ∧ R w1
theorem C_slices_Sort.mono {xP : Option Addr} {xN : Nat} {xC : Nat} {w : World} {R R' : World → Prop} (h : C_slices_Sort xP xN xC w R) (hr : ∀ w1, R w1 → R' w1) : C_slices_Sort xP xN xC w R' :=
  Calls.mono h fun _ _ ⟨he, h⟩ => ⟨he, hr _ h⟩

/-- (elenchus/atom.Table).Mark -/
def C_atom_Table_Mark (t : Option Addr) (idx : Int) (w : World) (R : Int → World → Prop) : Prop :=
  Calls Try.prog 32 #[.pointer t, .int .i64 idx] w fun en w1 => ∃ (r : Int), en = .returned (.int .i64 r) ∧ R r w1
theorem C_atom_Table_Mark.mono {t : Option Addr} {idx : Int} {w : World} {R R' : Int → World → Prop} (h : C_atom_Table_Mark t idx w R) (hr : ∀ r w1, R r w1 → R' r w1) : C_atom_Table_Mark t idx w R' :=
  Calls.mono h fun _ _ ⟨r, he, h⟩ => ⟨r, he, hr r _ h⟩

/-- elenchus/atom.Reserved -/
def C_atom_Reserved  (w : World) (R : Option Addr → Nat → Nat → World → Prop) : Prop :=
  Calls Try.prog 33 #[] w fun en w1 => ∃ (rP : Option Addr) (rN : Nat) (rC : Nat), en = .returned (.slice rP rN rC) ∧ R rP rN rC w1
theorem C_atom_Reserved.mono {w : World} {R R' : Option Addr → Nat → Nat → World → Prop} (h : C_atom_Reserved  w R) (hr : ∀ rP rN rC w1, R rP rN rC w1 → R' rP rN rC w1) : C_atom_Reserved  w R' :=
  Calls.mono h fun _ _ ⟨rP, rN, rC, he, h⟩ => ⟨rP, rN, rC, he, hr rP rN rC _ h⟩

/-- (elenchus/atom.Table).ready -/
def C_atom_Table_ready (t : Option Addr) (w : World) (R : Bool → World → Prop) : Prop :=
  Calls Try.prog 34 #[.pointer t] w fun en w1 => ∃ (r : Bool), en = .returned (.bool r) ∧ R r w1
theorem C_atom_Table_ready.mono {t : Option Addr} {w : World} {R R' : Bool → World → Prop} (h : C_atom_Table_ready t w R) (hr : ∀ r w1, R r w1 → R' r w1) : C_atom_Table_ready t w R' :=
  Calls.mono h fun _ _ ⟨r, he, h⟩ => ⟨r, he, hr r _ h⟩

/-- elenchus/elenchusref04.Reserved -/
def C_ref04_Reserved  (w : World) (R : Option Addr → Nat → Nat → World → Prop) : Prop :=
  Calls Try.prog 35 #[] w fun en w1 => ∃ (rP : Option Addr) (rN : Nat) (rC : Nat), en = .returned (.slice rP rN rC) ∧ R rP rN rC w1
theorem C_ref04_Reserved.mono {w : World} {R R' : Option Addr → Nat → Nat → World → Prop} (h : C_ref04_Reserved  w R) (hr : ∀ rP rN rC w1, R rP rN rC w1 → R' rP rN rC w1) : C_ref04_Reserved  w R' :=
  Calls.mono h fun _ _ ⟨rP, rN, rC, he, h⟩ => ⟨rP, rN, rC, he, hr rP rN rC _ h⟩

/-- (elenchus/elenchusref05.Table).Put -/
def C_ref05_Table_Put (t : Option Addr) (namex : ByteArray) (arity : Int) (w : World) (R : Int → Int → World → Prop) : Prop :=
  Calls Try.prog 36 #[.pointer t, .string namex, .int .i64 arity] w fun en w1 => ∃ (r0 : Int) (r1 : Int), en = .returned (.tuple #[.int .i64 r0, .int .i64 r1]) ∧ R r0 r1 w1
theorem C_ref05_Table_Put.mono {t : Option Addr} {namex : ByteArray} {arity : Int} {w : World} {R R' : Int → Int → World → Prop} (h : C_ref05_Table_Put t namex arity w R) (hr : ∀ r0 r1 w1, R r0 r1 w1 → R' r0 r1 w1) : C_ref05_Table_Put t namex arity w R' :=
  Calls.mono h fun _ _ ⟨r0, r1, he, h⟩ => ⟨r0, r1, he, hr r0 r1 _ h⟩

/-- (elenchus/elenchusref05.Table).Find -/
def C_ref05_Table_Find (t : Option Addr) (namex : ByteArray) (arity : Int) (w : World) (R : Int → World → Prop) : Prop :=
  Calls Try.prog 37 #[.pointer t, .string namex, .int .i64 arity] w fun en w1 => ∃ (r : Int), en = .returned (.int .i64 r) ∧ R r w1
theorem C_ref05_Table_Find.mono {t : Option Addr} {namex : ByteArray} {arity : Int} {w : World} {R R' : Int → World → Prop} (h : C_ref05_Table_Find t namex arity w R) (hr : ∀ r w1, R r w1 → R' r w1) : C_ref05_Table_Find t namex arity w R' :=
  Calls.mono h fun _ _ ⟨r, he, h⟩ => ⟨r, he, hr r _ h⟩

/-- (elenchus/elenchusref05.Table).Get -/
def C_ref05_Table_Get (t : Option Addr) (idx : Int) (w : World) (R : ByteArray → Int → Int → World → Prop) : Prop :=
  Calls Try.prog 38 #[.pointer t, .int .i64 idx] w fun en w1 => ∃ (r0 : ByteArray) (r1 : Int) (r2 : Int), en = .returned (.tuple #[.string r0, .int .i64 r1, .int .i64 r2]) ∧ R r0 r1 r2 w1
theorem C_ref05_Table_Get.mono {t : Option Addr} {idx : Int} {w : World} {R R' : ByteArray → Int → Int → World → Prop} (h : C_ref05_Table_Get t idx w R) (hr : ∀ r0 r1 r2 w1, R r0 r1 r2 w1 → R' r0 r1 r2 w1) : C_ref05_Table_Get t idx w R' :=
  Calls.mono h fun _ _ ⟨r0, r1, r2, he, h⟩ => ⟨r0, r1, r2, he, hr r0 r1 r2 _ h⟩

/-- (elenchus/elenchusref05.Table).Is -/
def C_ref05_Table_Is (t : Option Addr) (idx : Int) (w : World) (R : Bool → World → Prop) : Prop :=
  Calls Try.prog 39 #[.pointer t, .int .i64 idx] w fun en w1 => ∃ (r : Bool), en = .returned (.bool r) ∧ R r w1
theorem C_ref05_Table_Is.mono {t : Option Addr} {idx : Int} {w : World} {R R' : Bool → World → Prop} (h : C_ref05_Table_Is t idx w R) (hr : ∀ r w1, R r w1 → R' r w1) : C_ref05_Table_Is t idx w R' :=
  Calls.mono h fun _ _ ⟨r, he, h⟩ => ⟨r, he, hr r _ h⟩

/-- (elenchus/elenchusref05.Table).Sweep -/
def C_ref05_Table_Sweep (t : Option Addr) (w : World) (R : Int → World → Prop) : Prop :=
  Calls Try.prog 40 #[.pointer t] w fun en w1 => ∃ (r : Int), en = .returned (.int .i64 r) ∧ R r w1
theorem C_ref05_Table_Sweep.mono {t : Option Addr} {w : World} {R R' : Int → World → Prop} (h : C_ref05_Table_Sweep t w R) (hr : ∀ r w1, R r w1 → R' r w1) : C_ref05_Table_Sweep t w R' :=
  Calls.mono h fun _ _ ⟨r, he, h⟩ => ⟨r, he, hr r _ h⟩

/-- (elenchus/elenchusref05.Table).Atoms -/
def C_ref05_Table_Atoms (t : Option Addr) (w : World) (R : Int → World → Prop) : Prop :=
  Calls Try.prog 41 #[.pointer t] w fun en w1 => ∃ (r : Int), en = .returned (.int .i64 r) ∧ R r w1
theorem C_ref05_Table_Atoms.mono {t : Option Addr} {w : World} {R R' : Int → World → Prop} (h : C_ref05_Table_Atoms t w R) (hr : ∀ r w1, R r w1 → R' r w1) : C_ref05_Table_Atoms t w R' :=
  Calls.mono h fun _ _ ⟨r, he, h⟩ => ⟨r, he, hr r _ h⟩

/-- (elenchus/elenchusref04.Table).Sweep -/
def C_ref04_Table_Sweep (t : Option Addr) (w : World) (R : Int → World → Prop) : Prop :=
  Calls Try.prog 42 #[.pointer t] w fun en w1 => ∃ (r : Int), en = .returned (.int .i64 r) ∧ R r w1
theorem C_ref04_Table_Sweep.mono {t : Option Addr} {w : World} {R R' : Int → World → Prop} (h : C_ref04_Table_Sweep t w R) (hr : ∀ r w1, R r w1 → R' r w1) : C_ref04_Table_Sweep t w R' :=
  Calls.mono h fun _ _ ⟨r, he, h⟩ => ⟨r, he, hr r _ h⟩

/-- (elenchus/elenchusref04.Table).Intern -/
def C_ref04_Table_Intern (t : Option Addr) (namex : ByteArray) (w : World) (R : Int → Int → World → Prop) : Prop :=
  Calls Try.prog 43 #[.pointer t, .string namex] w fun en w1 => ∃ (r0 : Int) (r1 : Int), en = .returned (.tuple #[.int .i64 r0, .int .i64 r1]) ∧ R r0 r1 w1
theorem C_ref04_Table_Intern.mono {t : Option Addr} {namex : ByteArray} {w : World} {R R' : Int → Int → World → Prop} (h : C_ref04_Table_Intern t namex w R) (hr : ∀ r0 r1 w1, R r0 r1 w1 → R' r0 r1 w1) : C_ref04_Table_Intern t namex w R' :=
  Calls.mono h fun _ _ ⟨r0, r1, he, h⟩ => ⟨r0, r1, he, hr r0 r1 _ h⟩

/-- (sync/atomic.Int64).Add -/
def C_sync_atomic_Int64_Add (x : Option Addr) (delta : Int) (w : World) (R : Int → World → Prop) : Prop :=
  Calls Try.prog 44 #[.pointer x, .int .i64 delta] w fun en w1 => ∃ (r : Int), en = .returned (.int .i64 r) ∧ R r w1
theorem C_sync_atomic_Int64_Add.mono {x : Option Addr} {delta : Int} {w : World} {R R' : Int → World → Prop} (h : C_sync_atomic_Int64_Add x delta w R) (hr : ∀ r w1, R r w1 → R' r w1) : C_sync_atomic_Int64_Add x delta w R' :=
  Calls.mono h fun _ _ ⟨r, he, h⟩ => ⟨r, he, hr r _ h⟩

/-- (elenchus/atom.Table).may -/
def C_atom_Table_may (t : Option Addr) (idx : Int) (w : World) (R : Int → World → Prop) : Prop :=
  Calls Try.prog 45 #[.pointer t, .int .i64 idx] w fun en w1 => ∃ (r : Int), en = .returned (.int .i64 r) ∧ R r w1
theorem C_atom_Table_may.mono {t : Option Addr} {idx : Int} {w : World} {R R' : Int → World → Prop} (h : C_atom_Table_may t idx w R) (hr : ∀ r w1, R r w1 → R' r w1) : C_atom_Table_may t idx w R' :=
  Calls.mono h fun _ _ ⟨r, he, h⟩ => ⟨r, he, hr r _ h⟩

/-- slices.pdqsortOrdered[int] -/
def C_slices_pdqsortOrdered (dataP : Option Addr) (dataN : Nat) (dataC : Nat) (a : Int) (b : Int) (limitx : Int) (w : World) (R : World → Prop) : Prop :=
  Calls Try.prog 46 #[.slice dataP dataN dataC, .int .i64 a, .int .i64 b, .int .i64 limitx] w fun en w1 => en = .returned (.tuple #[]) ∧ R w1
theorem C_slices_pdqsortOrdered.mono {dataP : Option Addr} {dataN : Nat} {dataC : Nat} {a : Int} {b : Int} {limitx : Int} {w : World} {R R' : World → Prop} (h : C_slices_pdqsortOrdered dataP dataN dataC a b limitx w R) (hr : ∀ w1, R w1 → R' w1) : C_slices_pdqsortOrdered dataP dataN dataC a b limitx w R' :=
  Calls.mono h fun _ _ ⟨he, h⟩ => ⟨he, hr _ h⟩

/-- math/bits.Len -/
def C_math_bits_Len (x : Int) (w : World) (R : Int → World → Prop) : Prop :=
  Calls Try.prog 47 #[.int .u64 x] w fun en w1 => ∃ (r : Int), en = .returned (.int .i64 r) ∧ R r w1
theorem C_math_bits_Len.mono {x : Int} {w : World} {R R' : Int → World → Prop} (h : C_math_bits_Len x w R) (hr : ∀ r w1, R r w1 → R' r w1) : C_math_bits_Len x w R' :=
  Calls.mono h fun _ _ ⟨r, he, h⟩ => ⟨r, he, hr r _ h⟩

/-- (sync.Once).Do -/
def C_sync_Once_Do (o : Option Addr) (fx : Value) (w : World) (R : World → Prop) : Prop :=
  Calls Try.prog 48 #[.pointer o, fx] w fun en w1 => en = .returned (.tuple #[]) ∧ R w1
theorem C_sync_Once_Do.mono {o : Option Addr} {fx : Value} {w : World} {R R' : World → Prop} (h : C_sync_Once_Do o fx w R) (hr : ∀ w1, R w1 → R' w1) : C_sync_Once_Do o fx w R' :=
  Calls.mono h fun _ _ ⟨he, h⟩ => ⟨he, hr _ h⟩

/-- (elenchus/atom.Table).begin -/
def C_atom_Table_begin (t : Option Addr) (w : World) (R : World → Prop) : Prop :=
  Calls Try.prog 49 #[.pointer t] w fun en w1 => en = .returned (.tuple #[]) ∧ R w1
theorem C_atom_Table_begin.mono {t : Option Addr} {w : World} {R R' : World → Prop} (h : C_atom_Table_begin t w R) (hr : ∀ w1, R w1 → R' w1) : C_atom_Table_begin t w R' :=
  Calls.mono h fun _ _ ⟨he, h⟩ => ⟨he, hr _ h⟩

/-- (elenchus/elenchusref05.Table).at -/
def C_ref05_Table_at (t : Option Addr) (namex : Int) (arity : Int) (w : World) (R : Int → World → Prop) : Prop :=
  Calls Try.prog 50 #[.pointer t, .int .i64 namex, .int .i64 arity] w fun en w1 => ∃ (r : Int), en = .returned (.int .i64 r) ∧ R r w1
theorem C_ref05_Table_at.mono {t : Option Addr} {namex : Int} {arity : Int} {w : World} {R R' : Int → World → Prop} (h : C_ref05_Table_at t namex arity w R) (hr : ∀ r w1, R r w1 → R' r w1) : C_ref05_Table_at t namex arity w R' :=
  Calls.mono h fun _ _ ⟨r, he, h⟩ => ⟨r, he, hr r _ h⟩

/-- (elenchus/elenchusref04.Table).Find -/
def C_ref04_Table_Find (t : Option Addr) (namex : ByteArray) (w : World) (R : Int → World → Prop) : Prop :=
  Calls Try.prog 51 #[.pointer t, .string namex] w fun en w1 => ∃ (r : Int), en = .returned (.int .i64 r) ∧ R r w1
theorem C_ref04_Table_Find.mono {t : Option Addr} {namex : ByteArray} {w : World} {R R' : Int → World → Prop} (h : C_ref04_Table_Find t namex w R) (hr : ∀ r w1, R r w1 → R' r w1) : C_ref04_Table_Find t namex w R' :=
  Calls.mono h fun _ _ ⟨r, he, h⟩ => ⟨r, he, hr r _ h⟩

/-- (elenchus/elenchusref04.Table).Is -/
def C_ref04_Table_Is (t : Option Addr) (idx : Int) (w : World) (R : Bool → World → Prop) : Prop :=
  Calls Try.prog 52 #[.pointer t, .int .i64 idx] w fun en w1 => ∃ (r : Bool), en = .returned (.bool r) ∧ R r w1
theorem C_ref04_Table_Is.mono {t : Option Addr} {idx : Int} {w : World} {R R' : Bool → World → Prop} (h : C_ref04_Table_Is t idx w R) (hr : ∀ r w1, R r w1 → R' r w1) : C_ref04_Table_Is t idx w R' :=
  Calls.mono h fun _ _ ⟨r, he, h⟩ => ⟨r, he, hr r _ h⟩

/-- (elenchus/atom.Table).has -/
def C_atom_Table_has (t : Option Addr) (idx : Int) (w : World) (R : Bool → World → Prop) : Prop :=
  Calls Try.prog 54 #[.pointer t, .int .i64 idx] w fun en w1 => ∃ (r : Bool), en = .returned (.bool r) ∧ R r w1
theorem C_atom_Table_has.mono {t : Option Addr} {idx : Int} {w : World} {R R' : Bool → World → Prop} (h : C_atom_Table_has t idx w R) (hr : ∀ r w1, R r w1 → R' r w1) : C_atom_Table_has t idx w R' :=
  Calls.mono h fun _ _ ⟨r, he, h⟩ => ⟨r, he, hr r _ h⟩

/-- slices.insertionSortOrdered[int] -/
def C_slices_insertionSortOrdered (dataP : Option Addr) (dataN : Nat) (dataC : Nat) (a : Int) (b : Int) (w : World) (R : World → Prop) : Prop :=
  Calls Try.prog 55 #[.slice dataP dataN dataC, .int .i64 a, .int .i64 b] w fun en w1 => en = .returned (.tuple #[]) ∧ R w1
theorem C_slices_insertionSortOrdered.mono {dataP : Option Addr} {dataN : Nat} {dataC : Nat} {a : Int} {b : Int} {w : World} {R R' : World → Prop} (h : C_slices_insertionSortOrdered dataP dataN dataC a b w R) (hr : ∀ w1, R w1 → R' w1) : C_slices_insertionSortOrdered dataP dataN dataC a b w R' :=
  Calls.mono h fun _ _ ⟨he, h⟩ => ⟨he, hr _ h⟩

/-- slices.heapSortOrdered[int] -/
def C_slices_heapSortOrdered (dataP : Option Addr) (dataN : Nat) (dataC : Nat) (a : Int) (b : Int) (w : World) (R : World → Prop) : Prop :=
  Calls Try.prog 56 #[.slice dataP dataN dataC, .int .i64 a, .int .i64 b] w fun en w1 => en = .returned (.tuple #[]) ∧ R w1
theorem C_slices_heapSortOrdered.mono {dataP : Option Addr} {dataN : Nat} {dataC : Nat} {a : Int} {b : Int} {w : World} {R R' : World → Prop} (h : C_slices_heapSortOrdered dataP dataN dataC a b w R) (hr : ∀ w1, R w1 → R' w1) : C_slices_heapSortOrdered dataP dataN dataC a b w R' :=
  Calls.mono h fun _ _ ⟨he, h⟩ => ⟨he, hr _ h⟩

/-- slices.breakPatternsOrdered[int] -/
def C_slices_breakPatternsOrdered (dataP : Option Addr) (dataN : Nat) (dataC : Nat) (a : Int) (b : Int) (w : World) (R : World → Prop) : Prop :=
  Calls Try.prog 57 #[.slice dataP dataN dataC, .int .i64 a, .int .i64 b] w fun en w1 => en = .returned (.tuple #[]) ∧ R w1
theorem C_slices_breakPatternsOrdered.mono {dataP : Option Addr} {dataN : Nat} {dataC : Nat} {a : Int} {b : Int} {w : World} {R R' : World → Prop} (h : C_slices_breakPatternsOrdered dataP dataN dataC a b w R) (hr : ∀ w1, R w1 → R' w1) : C_slices_breakPatternsOrdered dataP dataN dataC a b w R' :=
  Calls.mono h fun _ _ ⟨he, h⟩ => ⟨he, hr _ h⟩

/-- slices.choosePivotOrdered[int] -/
def C_slices_choosePivotOrdered (dataP : Option Addr) (dataN : Nat) (dataC : Nat) (a : Int) (b : Int) (w : World) (R : Int → Int → World → Prop) : Prop :=
  Calls Try.prog 58 #[.slice dataP dataN dataC, .int .i64 a, .int .i64 b] w fun en w1 => ∃ (r0 : Int) (r1 : Int), en = .returned (.tuple #[.int .i64 r0, .int .i64 r1]) ∧ R r0 r1 w1
theorem C_slices_choosePivotOrdered.mono {dataP : Option Addr} {dataN : Nat} {dataC : Nat} {a : Int} {b : Int} {w : World} {R R' : Int → Int → World → Prop} (h : C_slices_choosePivotOrdered dataP dataN dataC a b w R) (hr : ∀ r0 r1 w1, R r0 r1 w1 → R' r0 r1 w1) : C_slices_choosePivotOrdered dataP dataN dataC a b w R' :=
  Calls.mono h fun _ _ ⟨r0, r1, he, h⟩ => ⟨r0, r1, he, hr r0 r1 _ h⟩

/-- slices.reverseRangeOrdered[int] -/
def C_slices_reverseRangeOrdered (dataP : Option Addr) (dataN : Nat) (dataC : Nat) (a : Int) (b : Int) (w : World) (R : World → Prop) : Prop :=
  Calls Try.prog 59 #[.slice dataP dataN dataC, .int .i64 a, .int .i64 b] w fun en w1 => en = .returned (.tuple #[]) ∧ R w1
theorem C_slices_reverseRangeOrdered.mono {dataP : Option Addr} {dataN : Nat} {dataC : Nat} {a : Int} {b : Int} {w : World} {R R' : World → Prop} (h : C_slices_reverseRangeOrdered dataP dataN dataC a b w R) (hr : ∀ w1, R w1 → R' w1) : C_slices_reverseRangeOrdered dataP dataN dataC a b w R' :=
  Calls.mono h fun _ _ ⟨he, h⟩ => ⟨he, hr _ h⟩

/-- slices.partialInsertionSortOrdered[int] -/
def C_slices_partialInsertionSortOrdered (dataP : Option Addr) (dataN : Nat) (dataC : Nat) (a : Int) (b : Int) (w : World) (R : Bool → World → Prop) : Prop :=
  Calls Try.prog 60 #[.slice dataP dataN dataC, .int .i64 a, .int .i64 b] w fun en w1 => ∃ (r : Bool), en = .returned (.bool r) ∧ R r w1
theorem C_slices_partialInsertionSortOrdered.mono {dataP : Option Addr} {dataN : Nat} {dataC : Nat} {a : Int} {b : Int} {w : World} {R R' : Bool → World → Prop} (h : C_slices_partialInsertionSortOrdered dataP dataN dataC a b w R) (hr : ∀ r w1, R r w1 → R' r w1) : C_slices_partialInsertionSortOrdered dataP dataN dataC a b w R' :=
  Calls.mono h fun _ _ ⟨r, he, h⟩ => ⟨r, he, hr r _ h⟩

/-- cmp.Less[int] -/
def C_cmp_Less (x : Int) (y : Int) (w : World) (R : Bool → World → Prop) : Prop :=
  Calls Try.prog 61 #[.int .i64 x, .int .i64 y] w fun en w1 => ∃ (r : Bool), en = .returned (.bool r) ∧ R r w1
theorem C_cmp_Less.mono {x : Int} {y : Int} {w : World} {R R' : Bool → World → Prop} (h : C_cmp_Less x y w R) (hr : ∀ r w1, R r w1 → R' r w1) : C_cmp_Less x y w R' :=
  Calls.mono h fun _ _ ⟨r, he, h⟩ => ⟨r, he, hr r _ h⟩

/-- slices.partitionEqualOrdered[int] -/
def C_slices_partitionEqualOrdered (dataP : Option Addr) (dataN : Nat) (dataC : Nat) (a : Int) (b : Int) (pivot : Int) (w : World) (R : Int → World → Prop) : Prop :=
  Calls Try.prog 62 #[.slice dataP dataN dataC, .int .i64 a, .int .i64 b, .int .i64 pivot] w fun en w1 => ∃ (r : Int), en = .returned (.int .i64 r) ∧ R r w1
theorem C_slices_partitionEqualOrdered.mono {dataP : Option Addr} {dataN : Nat} {dataC : Nat} {a : Int} {b : Int} {pivot : Int} {w : World} {R R' : Int → World → Prop} (h : C_slices_partitionEqualOrdered dataP dataN dataC a b pivot w R) (hr : ∀ r w1, R r w1 → R' r w1) : C_slices_partitionEqualOrdered dataP dataN dataC a b pivot w R' :=
  Calls.mono h fun _ _ ⟨r, he, h⟩ => ⟨r, he, hr r _ h⟩

/-- slices.partitionOrdered[int] -/
def C_slices_partitionOrdered (dataP : Option Addr) (dataN : Nat) (dataC : Nat) (a : Int) (b : Int) (pivot : Int) (w : World) (R : Int → Bool → World → Prop) : Prop :=
  Calls Try.prog 63 #[.slice dataP dataN dataC, .int .i64 a, .int .i64 b, .int .i64 pivot] w fun en w1 => ∃ (r0 : Int) (r1 : Bool), en = .returned (.tuple #[.int .i64 r0, .bool r1]) ∧ R r0 r1 w1
theorem C_slices_partitionOrdered.mono {dataP : Option Addr} {dataN : Nat} {dataC : Nat} {a : Int} {b : Int} {pivot : Int} {w : World} {R R' : Int → Bool → World → Prop} (h : C_slices_partitionOrdered dataP dataN dataC a b pivot w R) (hr : ∀ r0 r1 w1, R r0 r1 w1 → R' r0 r1 w1) : C_slices_partitionOrdered dataP dataN dataC a b pivot w R' :=
  Calls.mono h fun _ _ ⟨r0, r1, he, h⟩ => ⟨r0, r1, he, hr r0 r1 _ h⟩

/-- math/bits.Len32 -/
def C_math_bits_Len32 (x : Int) (w : World) (R : Int → World → Prop) : Prop :=
  Calls Try.prog 64 #[.int .u32 x] w fun en w1 => ∃ (r : Int), en = .returned (.int .i64 r) ∧ R r w1
theorem C_math_bits_Len32.mono {x : Int} {w : World} {R R' : Int → World → Prop} (h : C_math_bits_Len32 x w R) (hr : ∀ r w1, R r w1 → R' r w1) : C_math_bits_Len32 x w R' :=
  Calls.mono h fun _ _ ⟨r, he, h⟩ => ⟨r, he, hr r _ h⟩

/-- math/bits.Len64 -/
def C_math_bits_Len64 (x : Int) (w : World) (R : Int → World → Prop) : Prop :=
  Calls Try.prog 65 #[.int .u64 x] w fun en w1 => ∃ (r : Int), en = .returned (.int .i64 r) ∧ R r w1
theorem C_math_bits_Len64.mono {x : Int} {w : World} {R R' : Int → World → Prop} (h : C_math_bits_Len64 x w R) (hr : ∀ r w1, R r w1 → R' r w1) : C_math_bits_Len64 x w R' :=
  Calls.mono h fun _ _ ⟨r, he, h⟩ => ⟨r, he, hr r _ h⟩

/-- (sync/atomic.Bool).Load -/
def C_sync_atomic_Bool_Load (x : Option Addr) (w : World) (R : Bool → World → Prop) : Prop :=
  Calls Try.prog 66 #[.pointer x] w fun en w1 => ∃ (r : Bool), en = .returned (.bool r) ∧ R r w1
theorem C_sync_atomic_Bool_Load.mono {x : Option Addr} {w : World} {R R' : Bool → World → Prop} (h : C_sync_atomic_Bool_Load x w R) (hr : ∀ r w1, R r w1 → R' r w1) : C_sync_atomic_Bool_Load x w R' :=
  Calls.mono h fun _ _ ⟨r, he, h⟩ => ⟨r, he, hr r _ h⟩

/-- (sync.Once).doSlow -/
def C_sync_Once_doSlow (o : Option Addr) (fx : Value) (w : World) (R : World → Prop) : Prop :=
  Calls Try.prog 67 #[.pointer o, fx] w fun en w1 => en = .returned (.tuple #[]) ∧ R w1
theorem C_sync_Once_doSlow.mono {o : Option Addr} {fx : Value} {w : World} {R R' : World → Prop} (h : C_sync_Once_doSlow o fx w R) (hr : ∀ w1, R w1 → R' w1) : C_sync_Once_doSlow o fx w R' :=
  Calls.mono h fun _ _ ⟨he, h⟩ => ⟨he, hr _ h⟩

/-- slices.siftDownOrdered[int] -/
def C_slices_siftDownOrdered (dataP : Option Addr) (dataN : Nat) (dataC : Nat) (lo : Int) (hi : Int) (first : Int) (w : World) (R : World → Prop) : Prop :=
  Calls Try.prog 68 #[.slice dataP dataN dataC, .int .i64 lo, .int .i64 hi, .int .i64 first] w fun en w1 => en = .returned (.tuple #[]) ∧ R w1
theorem C_slices_siftDownOrdered.mono {dataP : Option Addr} {dataN : Nat} {dataC : Nat} {lo : Int} {hi : Int} {first : Int} {w : World} {R R' : World → Prop} (h : C_slices_siftDownOrdered dataP dataN dataC lo hi first w R) (hr : ∀ w1, R w1 → R' w1) : C_slices_siftDownOrdered dataP dataN dataC lo hi first w R' :=
  Calls.mono h fun _ _ ⟨he, h⟩ => ⟨he, hr _ h⟩

/-- slices.nextPowerOfTwo -/
def C_slices_nextPowerOfTwo (length : Int) (w : World) (R : Int → World → Prop) : Prop :=
  Calls Try.prog 69 #[.int .i64 length] w fun en w1 => ∃ (r : Int), en = .returned (.int .u64 r) ∧ R r w1
theorem C_slices_nextPowerOfTwo.mono {length : Int} {w : World} {R R' : Int → World → Prop} (h : C_slices_nextPowerOfTwo length w R) (hr : ∀ r w1, R r w1 → R' r w1) : C_slices_nextPowerOfTwo length w R' :=
  Calls.mono h fun _ _ ⟨r, he, h⟩ => ⟨r, he, hr r _ h⟩

/-- (slices.xorshift).Next -/
def C_slices_xorshift_Next (r : Option Addr) (w : World) (R : Int → World → Prop) : Prop :=
  Calls Try.prog 70 #[.pointer r] w fun en w1 => ∃ (r_1 : Int), en = .returned (.int .u64 r_1) ∧ R r_1 w1
theorem C_slices_xorshift_Next.mono {r : Option Addr} {w : World} {R R' : Int → World → Prop} (h : C_slices_xorshift_Next r w R) (hr : ∀ r_1 w1, R r_1 w1 → R' r_1 w1) : C_slices_xorshift_Next r w R' :=
  Calls.mono h fun _ _ ⟨r_1, he, h⟩ => ⟨r_1, he, hr r_1 _ h⟩

/-- slices.medianAdjacentOrdered[int] -/
def C_slices_medianAdjacentOrdered (dataP : Option Addr) (dataN : Nat) (dataC : Nat) (a : Int) (swaps : Option Addr) (w : World) (R : Int → World → Prop) : Prop :=
  Calls Try.prog 71 #[.slice dataP dataN dataC, .int .i64 a, .pointer swaps] w fun en w1 => ∃ (r : Int), en = .returned (.int .i64 r) ∧ R r w1
theorem C_slices_medianAdjacentOrdered.mono {dataP : Option Addr} {dataN : Nat} {dataC : Nat} {a : Int} {swaps : Option Addr} {w : World} {R R' : Int → World → Prop} (h : C_slices_medianAdjacentOrdered dataP dataN dataC a swaps w R) (hr : ∀ r w1, R r w1 → R' r w1) : C_slices_medianAdjacentOrdered dataP dataN dataC a swaps w R' :=
  Calls.mono h fun _ _ ⟨r, he, h⟩ => ⟨r, he, hr r _ h⟩

/-- slices.medianOrdered[int] -/
def C_slices_medianOrdered (dataP : Option Addr) (dataN : Nat) (dataC : Nat) (a : Int) (b : Int) (cx : Int) (swaps : Option Addr) (w : World) (R : Int → World → Prop) : Prop :=
  Calls Try.prog 72 #[.slice dataP dataN dataC, .int .i64 a, .int .i64 b, .int .i64 cx, .pointer swaps] w fun en w1 => ∃ (r : Int), en = .returned (.int .i64 r) ∧ R r w1
theorem C_slices_medianOrdered.mono {dataP : Option Addr} {dataN : Nat} {dataC : Nat} {a : Int} {b : Int} {cx : Int} {swaps : Option Addr} {w : World} {R R' : Int → World → Prop} (h : C_slices_medianOrdered dataP dataN dataC a b cx swaps w R) (hr : ∀ r w1, R r w1 → R' r w1) : C_slices_medianOrdered dataP dataN dataC a b cx swaps w R' :=
  Calls.mono h fun _ _ ⟨r, he, h⟩ => ⟨r, he, hr r _ h⟩

/-- cmp.isNaN[int] -/
def C_cmp_isNaN (x : Int) (w : World) (R : Bool → World → Prop) : Prop :=
  Calls Try.prog 73 #[.int .i64 x] w fun en w1 => ∃ (r : Bool), en = .returned (.bool r) ∧ R r w1
theorem C_cmp_isNaN.mono {x : Int} {w : World} {R R' : Bool → World → Prop} (h : C_cmp_isNaN x w R) (hr : ∀ r w1, R r w1 → R' r w1) : C_cmp_isNaN x w R' :=
  Calls.mono h fun _ _ ⟨r, he, h⟩ => ⟨r, he, hr r _ h⟩

/-- (sync.Mutex).Lock -/
def C_sync_Mutex_Lock (m : Option Addr) (w : World) (R : World → Prop) : Prop :=
  Calls Try.prog 75 #[.pointer m] w fun en w1 => en = .returned (.tuple #[]) ∧ R w1
theorem C_sync_Mutex_Lock.mono {m : Option Addr} {w : World} {R R' : World → Prop} (h : C_sync_Mutex_Lock m w R) (hr : ∀ w1, R w1 → R' w1) : C_sync_Mutex_Lock m w R' :=
  Calls.mono h fun _ _ ⟨he, h⟩ => ⟨he, hr _ h⟩

/-- (sync.Mutex).Unlock -/
def C_sync_Mutex_Unlock (m : Option Addr) (w : World) (R : World → Prop) : Prop :=
  Calls Try.prog 76 #[.pointer m] w fun en w1 => en = .returned (.tuple #[]) ∧ R w1
theorem C_sync_Mutex_Unlock.mono {m : Option Addr} {w : World} {R R' : World → Prop} (h : C_sync_Mutex_Unlock m w R) (hr : ∀ w1, R w1 → R' w1) : C_sync_Mutex_Unlock m w R' :=
  Calls.mono h fun _ _ ⟨he, h⟩ => ⟨he, hr _ h⟩

/-- (sync/atomic.Bool).Store -/
def C_sync_atomic_Bool_Store (x : Option Addr) (val : Bool) (w : World) (R : World → Prop) : Prop :=
  Calls Try.prog 77 #[.pointer x, .bool val] w fun en w1 => en = .returned (.tuple #[]) ∧ R w1
theorem C_sync_atomic_Bool_Store.mono {x : Option Addr} {val : Bool} {w : World} {R R' : World → Prop} (h : C_sync_atomic_Bool_Store x val w R) (hr : ∀ w1, R w1 → R' w1) : C_sync_atomic_Bool_Store x val w R' :=
  Calls.mono h fun _ _ ⟨he, h⟩ => ⟨he, hr _ h⟩

/-- slices.order2Ordered[int] -/
def C_slices_order2Ordered (dataP : Option Addr) (dataN : Nat) (dataC : Nat) (a : Int) (b : Int) (swaps : Option Addr) (w : World) (R : Int → Int → World → Prop) : Prop :=
  Calls Try.prog 78 #[.slice dataP dataN dataC, .int .i64 a, .int .i64 b, .pointer swaps] w fun en w1 => ∃ (r0 : Int) (r1 : Int), en = .returned (.tuple #[.int .i64 r0, .int .i64 r1]) ∧ R r0 r1 w1
theorem C_slices_order2Ordered.mono {dataP : Option Addr} {dataN : Nat} {dataC : Nat} {a : Int} {b : Int} {swaps : Option Addr} {w : World} {R R' : Int → Int → World → Prop} (h : C_slices_order2Ordered dataP dataN dataC a b swaps w R) (hr : ∀ r0 r1 w1, R r0 r1 w1 → R' r0 r1 w1) : C_slices_order2Ordered dataP dataN dataC a b swaps w R' :=
  Calls.mono h fun _ _ ⟨r0, r1, he, h⟩ => ⟨r0, r1, he, hr r0 r1 _ h⟩

/-- (internal/sync.Mutex).Lock -/
def C_internal_sync_Mutex_Lock (m : Option Addr) (w : World) (R : World → Prop) : Prop :=
  Calls Try.prog 79 #[.pointer m] w fun en w1 => en = .returned (.tuple #[]) ∧ R w1
theorem C_internal_sync_Mutex_Lock.mono {m : Option Addr} {w : World} {R R' : World → Prop} (h : C_internal_sync_Mutex_Lock m w R) (hr : ∀ w1, R w1 → R' w1) : C_internal_sync_Mutex_Lock m w R' :=
  Calls.mono h fun _ _ ⟨he, h⟩ => ⟨he, hr _ h⟩

/-- (internal/sync.Mutex).Unlock -/
def C_internal_sync_Mutex_Unlock (m : Option Addr) (w : World) (R : World → Prop) : Prop :=
  Calls Try.prog 80 #[.pointer m] w fun en w1 => en = .returned (.tuple #[]) ∧ R w1
theorem C_internal_sync_Mutex_Unlock.mono {m : Option Addr} {w : World} {R R' : World → Prop} (h : C_internal_sync_Mutex_Unlock m w R) (hr : ∀ w1, R w1 → R' w1) : C_internal_sync_Mutex_Unlock m w R' :=
  Calls.mono h fun _ _ ⟨he, h⟩ => ⟨he, hr _ h⟩

/-- sync/atomic.b32 -/
def C_sync_atomic_b32 (b : Bool) (w : World) (R : Int → World → Prop) : Prop :=
  Calls Try.prog 82 #[.bool b] w fun en w1 => ∃ (r : Int), en = .returned (.int .u32 r) ∧ R r w1
theorem C_sync_atomic_b32.mono {b : Bool} {w : World} {R R' : Int → World → Prop} (h : C_sync_atomic_b32 b w R) (hr : ∀ r w1, R r w1 → R' r w1) : C_sync_atomic_b32 b w R' :=
  Calls.mono h fun _ _ ⟨r, he, h⟩ => ⟨r, he, hr r _ h⟩

/-- (internal/sync.Mutex).lockSlow -/
def C_internal_sync_Mutex_lockSlow (m : Option Addr) (w : World) (R : World → Prop) : Prop :=
  Calls Try.prog 87 #[.pointer m] w fun en w1 => en = .returned (.tuple #[]) ∧ R w1
theorem C_internal_sync_Mutex_lockSlow.mono {m : Option Addr} {w : World} {R R' : World → Prop} (h : C_internal_sync_Mutex_lockSlow m w R) (hr : ∀ w1, R w1 → R' w1) : C_internal_sync_Mutex_lockSlow m w R' :=
  Calls.mono h fun _ _ ⟨he, h⟩ => ⟨he, hr _ h⟩

/-- (internal/sync.Mutex).unlockSlow -/
def C_internal_sync_Mutex_unlockSlow (m : Option Addr) (new : Int) (w : World) (R : World → Prop) : Prop :=
  Calls Try.prog 90 #[.pointer m, .int .i32 new] w fun en w1 => en = .returned (.tuple #[]) ∧ R w1
theorem C_internal_sync_Mutex_unlockSlow.mono {m : Option Addr} {new : Int} {w : World} {R R' : World → Prop} (h : C_internal_sync_Mutex_unlockSlow m new w R) (hr : ∀ w1, R w1 → R' w1) : C_internal_sync_Mutex_unlockSlow m new w R' :=
  Calls.mono h fun _ _ ⟨he, h⟩ => ⟨he, hr _ h⟩

end Go.Proofs.Ytlngmelfjiemlaa
