/- The calls of this seat's functions, typed. Printed by a program. -/
import Derived.Test.YtdkkkomcolklbaaDen6
import Derived.Test.YtdkkkomcolklbaaProg
namespace Go.Proofs.Ytdkkkomcolklbaa
open Go Go.D Go.Proofs

theorem seat_ok : AllCallable Try.prog := allCallable_of (by kernel_rfl)
theorem seat_mixed : Try.prog.follows .mixedOrders = true := by kernel_rfl

/-- gosem.cut.init -/
def C_gosem_cut_init  (w : World) (R : World → Prop) : Prop :=
  Calls Try.prog 2 #[] w fun en w1 => en = .returned (.tuple #[]) ∧ R w1
theorem C_gosem_cut_init.mono {w : World} {R R' : World → Prop} (h : C_gosem_cut_init  w R) (hr : ∀ w1, R w1 → R' w1) : C_gosem_cut_init  w R' :=
  Calls.mono h fun _ _ ⟨he, h⟩ => ⟨he, hr _ h⟩

/-- elenchus/elenchuslaw02.RoomStacks -/
def C_law02_RoomStacks (lP : Option Addr) (lN : Nat) (lC : Nat) (w : World) (R : Bool → World → Prop) : Prop :=
  Calls Try.prog 3 #[.slice lP lN lC] w fun en w1 => ∃ (r : Bool), en = .returned (.bool r) ∧ R r w1
theorem C_law02_RoomStacks.mono {lP : Option Addr} {lN : Nat} {lC : Nat} {w : World} {R R' : Bool → World → Prop} (h : C_law02_RoomStacks lP lN lC w R) (hr : ∀ r w1, R r w1 → R' r w1) : C_law02_RoomStacks lP lN lC w R' :=
  Calls.mono h fun _ _ ⟨r, he, h⟩ => ⟨r, he, hr r _ h⟩

/-- elenchus/elenchuslaw02.RoomFills -/
def C_law02_RoomFills (limitx : Int) (n : Int) (w : World) (R : Bool → World → Prop) : Prop :=
  Calls Try.prog 4 #[.int .i64 limitx, .int .i64 n] w fun en w1 => ∃ (r : Bool), en = .returned (.bool r) ∧ R r w1
theorem C_law02_RoomFills.mono {limitx : Int} {n : Int} {w : World} {R R' : Bool → World → Prop} (h : C_law02_RoomFills limitx n w R) (hr : ∀ r w1, R r w1 → R' r w1) : C_law02_RoomFills limitx n w R' :=
  Calls.mono h fun _ _ ⟨r, he, h⟩ => ⟨r, he, hr r _ h⟩

/-- elenchus/elenchuslaw02.RoomDoes -/
def C_law02_RoomDoes (limitx : Int) (lP : Option Addr) (lN : Nat) (lC : Nat) (w : World) (R : Bool → World → Prop) : Prop :=
  Calls Try.prog 5 #[.int .i64 limitx, .slice lP lN lC] w fun en w1 => ∃ (r : Bool), en = .returned (.bool r) ∧ R r w1
theorem C_law02_RoomDoes.mono {limitx : Int} {lP : Option Addr} {lN : Nat} {lC : Nat} {w : World} {R R' : Bool → World → Prop} (h : C_law02_RoomDoes limitx lP lN lC w R) (hr : ∀ r w1, R r w1 → R' r w1) : C_law02_RoomDoes limitx lP lN lC w R' :=
  Calls.mono h fun _ _ ⟨r, he, h⟩ => ⟨r, he, hr r _ h⟩

/-- elenchus/elenchuslaw02.RoomNobody -/
def C_law02_RoomNobody (o0 : Int) (o1 : Int) (o2 : Int) (w : World) (R : Bool → World → Prop) : Prop :=
  Calls Try.prog 6 #[.agg #[.int .i64 o0, .int .i64 o1, .int .u64 o2]] w fun en w1 => ∃ (r : Bool), en = .returned (.bool r) ∧ R r w1
theorem C_law02_RoomNobody.mono {o0 : Int} {o1 : Int} {o2 : Int} {w : World} {R R' : Bool → World → Prop} (h : C_law02_RoomNobody o0 o1 o2 w R) (hr : ∀ r w1, R r w1 → R' r w1) : C_law02_RoomNobody o0 o1 o2 w R' :=
  Calls.mono h fun _ _ ⟨r, he, h⟩ => ⟨r, he, hr r _ h⟩

/-- elenchus/elenchuslaw02.RoomKeeps -/
def C_law02_RoomKeeps (lP : Option Addr) (lN : Nat) (lC : Nat) (w : World) (R : Bool → World → Prop) : Prop :=
  Calls Try.prog 7 #[.slice lP lN lC] w fun en w1 => ∃ (r : Bool), en = .returned (.bool r) ∧ R r w1
theorem C_law02_RoomKeeps.mono {lP : Option Addr} {lN : Nat} {lC : Nat} {w : World} {R R' : Bool → World → Prop} (h : C_law02_RoomKeeps lP lN lC w R) (hr : ∀ r w1, R r w1 → R' r w1) : C_law02_RoomKeeps lP lN lC w R' :=
  Calls.mono h fun _ _ ⟨r, he, h⟩ => ⟨r, he, hr r _ h⟩

/-- elenchus/room.New -/
def C_room_New (limitx : Int) (w : World) (R : Option Addr → Int → World → Prop) : Prop :=
  Calls Try.prog 8 #[.int .i64 limitx] w fun en w1 => ∃ (r0 : Option Addr) (r1 : Int), en = .returned (.tuple #[.pointer r0, .int .i64 r1]) ∧ R r0 r1 w1
theorem C_room_New.mono {limitx : Int} {w : World} {R R' : Option Addr → Int → World → Prop} (h : C_room_New limitx w R) (hr : ∀ r0 r1 w1, R r0 r1 w1 → R' r0 r1 w1) : C_room_New limitx w R' :=
  Calls.mono h fun _ _ ⟨r0, r1, he, h⟩ => ⟨r0, r1, he, hr r0 r1 _ h⟩

/-- elenchus/elenchuslaw02.lives -/
def C_law02_lives  (w : World) (R : Bool → World → Prop) : Prop :=
  Calls Try.prog 9 #[] w fun en w1 => ∃ (r : Bool), en = .returned (.bool r) ∧ R r w1
theorem C_law02_lives.mono {w : World} {R R' : Bool → World → Prop} (h : C_law02_lives  w R) (hr : ∀ r w1, R r w1 → R' r w1) : C_law02_lives  w R' :=
  Calls.mono h fun _ _ ⟨r, he, h⟩ => ⟨r, he, hr r _ h⟩

/-- (elenchus/room.Room).Push -/
def C_room_Room_Push (m : Option Addr) (wx : Int) (w : World) (R : Int → World → Prop) : Prop :=
  Calls Try.prog 10 #[.pointer m, .int .u64 wx] w fun en w1 => ∃ (r : Int), en = .returned (.int .i64 r) ∧ R r w1
theorem C_room_Room_Push.mono {m : Option Addr} {wx : Int} {w : World} {R R' : Int → World → Prop} (h : C_room_Room_Push m wx w R) (hr : ∀ r w1, R r w1 → R' r w1) : C_room_Room_Push m wx w R' :=
  Calls.mono h fun _ _ ⟨r, he, h⟩ => ⟨r, he, hr r _ h⟩

/-- (elenchus/room.Room).Pop -/
def C_room_Room_Pop (m : Option Addr) (w : World) (R : Int → Int → World → Prop) : Prop :=
  Calls Try.prog 11 #[.pointer m] w fun en w1 => ∃ (r0 : Int) (r1 : Int), en = .returned (.tuple #[.int .u64 r0, .int .i64 r1]) ∧ R r0 r1 w1
theorem C_room_Room_Pop.mono {m : Option Addr} {w : World} {R R' : Int → Int → World → Prop} (h : C_room_Room_Pop m w R) (hr : ∀ r0 r1 w1, R r0 r1 w1 → R' r0 r1 w1) : C_room_Room_Pop m w R' :=
  Calls.mono h fun _ _ ⟨r0, r1, he, h⟩ => ⟨r0, r1, he, hr r0 r1 _ h⟩

/-- (elenchus/room.Room).Most -/
def C_room_Room_Most (m : Option Addr) (w : World) (R : Int → World → Prop) : Prop :=
  Calls Try.prog 12 #[.pointer m] w fun en w1 => ∃ (r : Int), en = .returned (.int .i64 r) ∧ R r w1
theorem C_room_Room_Most.mono {m : Option Addr} {w : World} {R R' : Int → World → Prop} (h : C_room_Room_Most m w R) (hr : ∀ r w1, R r w1 → R' r w1) : C_room_Room_Most m w R' :=
  Calls.mono h fun _ _ ⟨r, he, h⟩ => ⟨r, he, hr r _ h⟩

/-- (elenchus/room.Room).Len -/
def C_room_Room_Len (m : Option Addr) (w : World) (R : Int → World → Prop) : Prop :=
  Calls Try.prog 13 #[.pointer m] w fun en w1 => ∃ (r : Int), en = .returned (.int .i64 r) ∧ R r w1
theorem C_room_Room_Len.mono {m : Option Addr} {w : World} {R R' : Int → World → Prop} (h : C_room_Room_Len m w R) (hr : ∀ r w1, R r w1 → R' r w1) : C_room_Room_Len m w R' :=
  Calls.mono h fun _ _ ⟨r, he, h⟩ => ⟨r, he, hr r _ h⟩

/-- elenchus/elenchusref02.New -/
def C_ref02_New (limitx : Int) (w : World) (R : Option Addr → World → Prop) : Prop :=
  Calls Try.prog 14 #[.int .i64 limitx] w fun en w1 => ∃ (r : Option Addr), en = .returned (.pointer r) ∧ R r w1
theorem C_ref02_New.mono {limitx : Int} {w : World} {R R' : Option Addr → World → Prop} (h : C_ref02_New limitx w R) (hr : ∀ r w1, R r w1 → R' r w1) : C_ref02_New limitx w R' :=
  Calls.mono h fun _ _ ⟨r, he, h⟩ => ⟨r, he, hr r _ h⟩

/-- elenchus/elenchuslaw02.do -/
def C_law02_do (m : Option Addr) (x : Option Addr) (o0 : Int) (o1 : Int) (o2 : Int) (w : World) (R : Bool → World → Prop) : Prop :=
  Calls Try.prog 15 #[.pointer m, .pointer x, .agg #[.int .i64 o0, .int .i64 o1, .int .u64 o2]] w fun en w1 => ∃ (r : Bool), en = .returned (.bool r) ∧ R r w1
theorem C_law02_do.mono {m : Option Addr} {x : Option Addr} {o0 : Int} {o1 : Int} {o2 : Int} {w : World} {R R' : Bool → World → Prop} (h : C_law02_do m x o0 o1 o2 w R) (hr : ∀ r w1, R r w1 → R' r w1) : C_law02_do m x o0 o1 o2 w R' :=
  Calls.mono h fun _ _ ⟨r, he, h⟩ => ⟨r, he, hr r _ h⟩

/-- (elenchus/room.Room).Limit -/
def C_room_Room_Limit (m : Option Addr) (w : World) (R : Int → World → Prop) : Prop :=
  Calls Try.prog 16 #[.pointer m] w fun en w1 => ∃ (r : Int), en = .returned (.int .i64 r) ∧ R r w1
theorem C_room_Room_Limit.mono {m : Option Addr} {w : World} {R R' : Int → World → Prop} (h : C_room_Room_Limit m w R) (hr : ∀ r w1, R r w1 → R' r w1) : C_room_Room_Limit m w R' :=
  Calls.mono h fun _ _ ⟨r, he, h⟩ => ⟨r, he, hr r _ h⟩

/-- elenchus/elenchusref02.Same -/
def C_ref02_Same (aP : Option Addr) (aN : Nat) (aC : Nat) (bP : Option Addr) (bN : Nat) (bC : Nat) (w : World) (R : Bool → World → Prop) : Prop :=
  Calls Try.prog 17 #[.slice aP aN aC, .slice bP bN bC] w fun en w1 => ∃ (r : Bool), en = .returned (.bool r) ∧ R r w1
theorem C_ref02_Same.mono {aP : Option Addr} {aN : Nat} {aC : Nat} {bP : Option Addr} {bN : Nat} {bC : Nat} {w : World} {R R' : Bool → World → Prop} (h : C_ref02_Same aP aN aC bP bN bC w R) (hr : ∀ r w1, R r w1 → R' r w1) : C_ref02_Same aP aN aC bP bN bC w R' :=
  Calls.mono h fun _ _ ⟨r, he, h⟩ => ⟨r, he, hr r _ h⟩

/-- (elenchus/room.Room).Words -/
def C_room_Room_Words (m : Option Addr) (w : World) (R : Option Addr → Nat → Nat → World → Prop) : Prop :=
  Calls Try.prog 18 #[.pointer m] w fun en w1 => ∃ (rP : Option Addr) (rN : Nat) (rC : Nat), en = .returned (.slice rP rN rC) ∧ R rP rN rC w1
theorem C_room_Room_Words.mono {m : Option Addr} {w : World} {R R' : Option Addr → Nat → Nat → World → Prop} (h : C_room_Room_Words m w R) (hr : ∀ rP rN rC w1, R rP rN rC w1 → R' rP rN rC w1) : C_room_Room_Words m w R' :=
  Calls.mono h fun _ _ ⟨rP, rN, rC, he, h⟩ => ⟨rP, rN, rC, he, hr rP rN rC _ h⟩

/-- (elenchus/room.Room).Get -/
def C_room_Room_Get (m : Option Addr) (i : Int) (w : World) (R : Int → Int → World → Prop) : Prop :=
  Calls Try.prog 19 #[.pointer m, .int .i64 i] w fun en w1 => ∃ (r0 : Int) (r1 : Int), en = .returned (.tuple #[.int .u64 r0, .int .i64 r1]) ∧ R r0 r1 w1
theorem C_room_Room_Get.mono {m : Option Addr} {i : Int} {w : World} {R R' : Int → Int → World → Prop} (h : C_room_Room_Get m i w R) (hr : ∀ r0 r1 w1, R r0 r1 w1 → R' r0 r1 w1) : C_room_Room_Get m i w R' :=
  Calls.mono h fun _ _ ⟨r0, r1, he, h⟩ => ⟨r0, r1, he, hr r0 r1 _ h⟩

/-- (elenchus/room.Room).Set -/
def C_room_Room_Set (m : Option Addr) (i : Int) (wx : Int) (w : World) (R : Int → World → Prop) : Prop :=
  Calls Try.prog 20 #[.pointer m, .int .i64 i, .int .u64 wx] w fun en w1 => ∃ (r : Int), en = .returned (.int .i64 r) ∧ R r w1
theorem C_room_Room_Set.mono {m : Option Addr} {i : Int} {wx : Int} {w : World} {R R' : Int → World → Prop} (h : C_room_Room_Set m i wx w R) (hr : ∀ r w1, R r w1 → R' r w1) : C_room_Room_Set m i wx w R' :=
  Calls.mono h fun _ _ ⟨r, he, h⟩ => ⟨r, he, hr r _ h⟩

/-- (elenchus/room.Room).Cut -/
def C_room_Room_Cut (m : Option Addr) (n : Int) (w : World) (R : Int → World → Prop) : Prop :=
  Calls Try.prog 21 #[.pointer m, .int .i64 n] w fun en w1 => ∃ (r : Int), en = .returned (.int .i64 r) ∧ R r w1
theorem C_room_Room_Cut.mono {m : Option Addr} {n : Int} {w : World} {R R' : Int → World → Prop} (h : C_room_Room_Cut m n w R) (hr : ∀ r w1, R r w1 → R' r w1) : C_room_Room_Cut m n w R' :=
  Calls.mono h fun _ _ ⟨r, he, h⟩ => ⟨r, he, hr r _ h⟩

/-- (elenchus/room.Room).Grow -/
def C_room_Room_Grow (m : Option Addr) (n : Int) (w : World) (R : Int → World → Prop) : Prop :=
  Calls Try.prog 22 #[.pointer m, .int .i64 n] w fun en w1 => ∃ (r : Int), en = .returned (.int .i64 r) ∧ R r w1
theorem C_room_Room_Grow.mono {m : Option Addr} {n : Int} {w : World} {R R' : Int → World → Prop} (h : C_room_Room_Grow m n w R) (hr : ∀ r w1, R r w1 → R' r w1) : C_room_Room_Grow m n w R' :=
  Calls.mono h fun _ _ ⟨r, he, h⟩ => ⟨r, he, hr r _ h⟩

/-- (elenchus/room.Room).Keep -/
def C_room_Room_Keep (m : Option Addr) (keepx : Value) (w : World) (R : Int → World → Prop) : Prop :=
  Calls Try.prog 23 #[.pointer m, keepx] w fun en w1 => ∃ (r : Int), en = .returned (.int .i64 r) ∧ R r w1
theorem C_room_Room_Keep.mono {m : Option Addr} {keepx : Value} {w : World} {R R' : Int → World → Prop} (h : C_room_Room_Keep m keepx w R) (hr : ∀ r w1, R r w1 → R' r w1) : C_room_Room_Keep m keepx w R' :=
  Calls.mono h fun _ _ ⟨r, he, h⟩ => ⟨r, he, hr r _ h⟩

/-- elenchus/elenchuslaw02.never -/
def C_law02_never (i : Int) (wx : Int) (w : World) (R : Bool → World → Prop) : Prop :=
  Calls Try.prog 24 #[.int .i64 i, .int .u64 wx] w fun en w1 => ∃ (r : Bool), en = .returned (.bool r) ∧ R r w1
theorem C_law02_never.mono {i : Int} {wx : Int} {w : World} {R R' : Bool → World → Prop} (h : C_law02_never i wx w R) (hr : ∀ r w1, R r w1 → R' r w1) : C_law02_never i wx w R' :=
  Calls.mono h fun _ _ ⟨r, he, h⟩ => ⟨r, he, hr r _ h⟩

/-- elenchus/elenchuslaw02.always -/
def C_law02_always (i : Int) (wx : Int) (w : World) (R : Bool → World → Prop) : Prop :=
  Calls Try.prog 25 #[.int .i64 i, .int .u64 wx] w fun en w1 => ∃ (r : Bool), en = .returned (.bool r) ∧ R r w1
theorem C_law02_always.mono {i : Int} {wx : Int} {w : World} {R R' : Bool → World → Prop} (h : C_law02_always i wx w R) (hr : ∀ r w1, R r w1 → R' r w1) : C_law02_always i wx w R' :=
  Calls.mono h fun _ _ ⟨r, he, h⟩ => ⟨r, he, hr r _ h⟩

/-- (elenchus/room.Room).note -/
def C_room_Room_note (m : Option Addr) (w : World) (R : World → Prop) : Prop :=
  Calls Try.prog 26 #[.pointer m] w fun en w1 => en = .returned (.tuple #[]) ∧ R w1
theorem C_room_Room_note.mono {m : Option Addr} {w : World} {R R' : World → Prop} (h : C_room_Room_note m w R) (hr : ∀ w1, R w1 → R' w1) : C_room_Room_note m w R' :=
  Calls.mono h fun _ _ ⟨he, h⟩ => ⟨he, hr _ h⟩

/-- (elenchus/elenchusref02.Room).Push -/
def C_ref02_Room_Push (m : Option Addr) (wx : Int) (w : World) (R : Int → World → Prop) : Prop :=
  Calls Try.prog 27 #[.pointer m, .int .u64 wx] w fun en w1 => ∃ (r : Int), en = .returned (.int .i64 r) ∧ R r w1
theorem C_ref02_Room_Push.mono {m : Option Addr} {wx : Int} {w : World} {R R' : Int → World → Prop} (h : C_ref02_Room_Push m wx w R) (hr : ∀ r w1, R r w1 → R' r w1) : C_ref02_Room_Push m wx w R' :=
  Calls.mono h fun _ _ ⟨r, he, h⟩ => ⟨r, he, hr r _ h⟩

/-- (elenchus/elenchusref02.Room).Pop -/
def C_ref02_Room_Pop (m : Option Addr) (w : World) (R : Int → Int → World → Prop) : Prop :=
  Calls Try.prog 28 #[.pointer m] w fun en w1 => ∃ (r0 : Int) (r1 : Int), en = .returned (.tuple #[.int .u64 r0, .int .i64 r1]) ∧ R r0 r1 w1
theorem C_ref02_Room_Pop.mono {m : Option Addr} {w : World} {R R' : Int → Int → World → Prop} (h : C_ref02_Room_Pop m w R) (hr : ∀ r0 r1 w1, R r0 r1 w1 → R' r0 r1 w1) : C_ref02_Room_Pop m w R' :=
  Calls.mono h fun _ _ ⟨r0, r1, he, h⟩ => ⟨r0, r1, he, hr r0 r1 _ h⟩

/-- (elenchus/elenchusref02.Room).Cut -/
def C_ref02_Room_Cut (m : Option Addr) (n : Int) (w : World) (R : Int → World → Prop) : Prop :=
  Calls Try.prog 29 #[.pointer m, .int .i64 n] w fun en w1 => ∃ (r : Int), en = .returned (.int .i64 r) ∧ R r w1
theorem C_ref02_Room_Cut.mono {m : Option Addr} {n : Int} {w : World} {R R' : Int → World → Prop} (h : C_ref02_Room_Cut m n w R) (hr : ∀ r w1, R r w1 → R' r w1) : C_ref02_Room_Cut m n w R' :=
  Calls.mono h fun _ _ ⟨r, he, h⟩ => ⟨r, he, hr r _ h⟩

/-- (elenchus/elenchusref02.Room).Grow -/
def C_ref02_Room_Grow (m : Option Addr) (n : Int) (w : World) (R : Int → World → Prop) : Prop :=
  Calls Try.prog 30 #[.pointer m, .int .i64 n] w fun en w1 => ∃ (r : Int), en = .returned (.int .i64 r) ∧ R r w1
theorem C_ref02_Room_Grow.mono {m : Option Addr} {n : Int} {w : World} {R R' : Int → World → Prop} (h : C_ref02_Room_Grow m n w R) (hr : ∀ r w1, R r w1 → R' r w1) : C_ref02_Room_Grow m n w R' :=
  Calls.mono h fun _ _ ⟨r, he, h⟩ => ⟨r, he, hr r _ h⟩

/-- elenchus/elenchuslaw02.kept -/
def C_law02_kept (m : Option Addr) (x : Option Addr) (n : Int) (w : World) (R : Bool → World → Prop) : Prop :=
  Calls Try.prog 31 #[.pointer m, .pointer x, .int .i64 n] w fun en w1 => ∃ (r : Bool), en = .returned (.bool r) ∧ R r w1
theorem C_law02_kept.mono {m : Option Addr} {x : Option Addr} {n : Int} {w : World} {R R' : Bool → World → Prop} (h : C_law02_kept m x n w R) (hr : ∀ r w1, R r w1 → R' r w1) : C_law02_kept m x n w R' :=
  Calls.mono h fun _ _ ⟨r, he, h⟩ => ⟨r, he, hr r _ h⟩

/-- slices.Clone[[]uint64,uint64] -/
def C_slices_Clone (sP : Option Addr) (sN : Nat) (sC : Nat) (w : World) (R : Option Addr → Nat → Nat → World → Prop) : Prop :=
  Calls Try.prog 32 #[.slice sP sN sC] w fun en w1 => ∃ (rP : Option Addr) (rN : Nat) (rC : Nat), en = .returned (.slice rP rN rC) ∧ R rP rN rC w1
theorem C_slices_Clone.mono {sP : Option Addr} {sN : Nat} {sC : Nat} {w : World} {R R' : Option Addr → Nat → Nat → World → Prop} (h : C_slices_Clone sP sN sC w R) (hr : ∀ rP rN rC w1, R rP rN rC w1 → R' rP rN rC w1) : C_slices_Clone sP sN sC w R' :=
  Calls.mono h fun _ _ ⟨rP, rN, rC, he, h⟩ => ⟨rP, rN, rC, he, hr rP rN rC _ h⟩

/-- (elenchus/room.Room).has -/
def C_room_Room_has (m : Option Addr) (i : Int) (w : World) (R : Int → World → Prop) : Prop :=
  Calls Try.prog 33 #[.pointer m, .int .i64 i] w fun en w1 => ∃ (r : Int), en = .returned (.int .i64 r) ∧ R r w1
theorem C_room_Room_has.mono {m : Option Addr} {i : Int} {w : World} {R R' : Int → World → Prop} (h : C_room_Room_has m i w R) (hr : ∀ r w1, R r w1 → R' r w1) : C_room_Room_has m i w R' :=
  Calls.mono h fun _ _ ⟨r, he, h⟩ => ⟨r, he, hr r _ h⟩

/-- slices.DeleteFunc[[]uint64,uint64] -/
def C_slices_DeleteFunc (sP : Option Addr) (sN : Nat) (sC : Nat) (del : Value) (w : World) (R : Option Addr → Nat → Nat → World → Prop) : Prop :=
  Calls Try.prog 34 #[.slice sP sN sC, del] w fun en w1 => ∃ (rP : Option Addr) (rN : Nat) (rC : Nat), en = .returned (.slice rP rN rC) ∧ R rP rN rC w1
theorem C_slices_DeleteFunc.mono {sP : Option Addr} {sN : Nat} {sC : Nat} {del : Value} {w : World} {R R' : Option Addr → Nat → Nat → World → Prop} (h : C_slices_DeleteFunc sP sN sC del w R) (hr : ∀ rP rN rC w1, R rP rN rC w1 → R' rP rN rC w1) : C_slices_DeleteFunc sP sN sC del w R' :=
  Calls.mono h fun _ _ ⟨rP, rN, rC, he, h⟩ => ⟨rP, rN, rC, he, hr rP rN rC _ h⟩

/-- (elenchus/room.Room).Keep-1 -/
def C_room_Room_Keep_1 (wx : Int) (c0 : Addr) (c1 : Addr) (w : World) (R : Bool → World → Prop) : Prop :=
  Calls Try.prog 35 #[.int .u64 wx, .pointer (some c0), .pointer (some c1)] w fun en w1 => ∃ (r : Bool), en = .returned (.bool r) ∧ R r w1
theorem C_room_Room_Keep_1.mono {wx : Int} {c0 : Addr} {c1 : Addr} {w : World} {R R' : Bool → World → Prop} (h : C_room_Room_Keep_1 wx c0 c1 w R) (hr : ∀ r w1, R r w1 → R' r w1) : C_room_Room_Keep_1 wx c0 c1 w R' :=
  Calls.mono h fun _ _ ⟨r, he, h⟩ => ⟨r, he, hr r _ h⟩

/-- (elenchus/elenchusref02.Room).note -/
def C_ref02_Room_note (m : Option Addr) (w : World) (R : World → Prop) : Prop :=
  Calls Try.prog 36 #[.pointer m] w fun en w1 => en = .returned (.tuple #[]) ∧ R w1
theorem C_ref02_Room_note.mono {m : Option Addr} {w : World} {R R' : World → Prop} (h : C_ref02_Room_note m w R) (hr : ∀ w1, R w1 → R' w1) : C_ref02_Room_note m w R' :=
  Calls.mono h fun _ _ ⟨he, h⟩ => ⟨he, hr _ h⟩

/-- (elenchus/elenchuslaw02.keeper).keep -/
def C_law02_keeper_keep (k : Option Addr) (i : Int) (wx : Int) (w : World) (R : Bool → World → Prop) : Prop :=
  Calls Try.prog 37 #[.pointer k, .int .i64 i, .int .u64 wx] w fun en w1 => ∃ (r : Bool), en = .returned (.bool r) ∧ R r w1
theorem C_law02_keeper_keep.mono {k : Option Addr} {i : Int} {wx : Int} {w : World} {R R' : Bool → World → Prop} (h : C_law02_keeper_keep k i wx w R) (hr : ∀ r w1, R r w1 → R' r w1) : C_law02_keeper_keep k i wx w R' :=
  Calls.mono h fun _ _ ⟨r, he, h⟩ => ⟨r, he, hr r _ h⟩

/-- slices.IndexFunc[[]uint64,uint64] -/
def C_slices_IndexFunc (sP : Option Addr) (sN : Nat) (sC : Nat) (f : Value) (w : World) (R : Int → World → Prop) : Prop :=
  Calls Try.prog 38 #[.slice sP sN sC, f] w fun en w1 => ∃ (r : Int), en = .returned (.int .i64 r) ∧ R r w1
theorem C_slices_IndexFunc.mono {sP : Option Addr} {sN : Nat} {sC : Nat} {f : Value} {w : World} {R R' : Int → World → Prop} (h : C_slices_IndexFunc sP sN sC f w R) (hr : ∀ r w1, R r w1 → R' r w1) : C_slices_IndexFunc sP sN sC f w R' :=
  Calls.mono h fun _ _ ⟨r, he, h⟩ => ⟨r, he, hr r _ h⟩

end Go.Proofs.Ytdkkkomcolklbaa
