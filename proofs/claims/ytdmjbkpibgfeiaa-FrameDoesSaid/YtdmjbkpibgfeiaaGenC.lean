/- The calls of this seat's functions, typed. Printed by a program. -/
import Derived.Test.YtdmjbkpibgfeiaaDen6
import Derived.Test.YtdmjbkpibgfeiaaProg
namespace Go.Proofs.Ytdmjbkpibgfeiaa
open Go Go.D Go.Proofs

theorem seat_ok : AllCallable Try.prog := allCallable_of (by kernel_rfl)
theorem seat_mixed : Try.prog.follows .mixedOrders = true := by kernel_rfl

/-- gosem.cut.init -/
def C_gosem_cut_init  (w : World) (R : World → Prop) : Prop :=
  Calls Try.prog 2 #[] w fun en w1 => en = .returned (.tuple #[]) ∧ R w1
theorem C_gosem_cut_init.mono {w : World} {R R' : World → Prop} (h : C_gosem_cut_init  w R) (hr : ∀ w1, R w1 → R' w1) : C_gosem_cut_init  w R' :=
  Calls.mono h fun _ _ ⟨he, h⟩ => ⟨he, hr _ h⟩

/-- elenchus/elenchuslaw22.FrameKeeps -/
def C_law22_FrameKeeps (lP : Option Addr) (lN : Nat) (lC : Nat) (moreP : Option Addr) (moreN : Nat) (moreC : Nat) (w : World) (R : Bool → World → Prop) : Prop :=
  Calls Try.prog 3 #[.slice lP lN lC, .slice moreP moreN moreC] w fun en w1 => ∃ (r : Bool), en = .returned (.bool r) ∧ R r w1
theorem C_law22_FrameKeeps.mono {lP : Option Addr} {lN : Nat} {lC : Nat} {moreP : Option Addr} {moreN : Nat} {moreC : Nat} {w : World} {R R' : Bool → World → Prop} (h : C_law22_FrameKeeps lP lN lC moreP moreN moreC w R) (hr : ∀ r w1, R r w1 → R' r w1) : C_law22_FrameKeeps lP lN lC moreP moreN moreC w R' :=
  Calls.mono h fun _ _ ⟨r, he, h⟩ => ⟨r, he, hr r _ h⟩

/-- elenchus/elenchuslaw22.FrameNests -/
def C_law22_FrameNests (lP : Option Addr) (lN : Nat) (lC : Nat) (w : World) (R : Bool → World → Prop) : Prop :=
  Calls Try.prog 4 #[.slice lP lN lC] w fun en w1 => ∃ (r : Bool), en = .returned (.bool r) ∧ R r w1
theorem C_law22_FrameNests.mono {lP : Option Addr} {lN : Nat} {lC : Nat} {w : World} {R R' : Bool → World → Prop} (h : C_law22_FrameNests lP lN lC w R) (hr : ∀ r w1, R r w1 → R' r w1) : C_law22_FrameNests lP lN lC w R' :=
  Calls.mono h fun _ _ ⟨r, he, h⟩ => ⟨r, he, hr r _ h⟩

/-- elenchus/elenchuslaw22.FrameDoes -/
def C_law22_FrameDoes (words : Int) (limitx : Int) (lP : Option Addr) (lN : Nat) (lC : Nat) (w : World) (R : Bool → World → Prop) : Prop :=
  Calls Try.prog 5 #[.int .i64 words, .int .i64 limitx, .slice lP lN lC] w fun en w1 => ∃ (r : Bool), en = .returned (.bool r) ∧ R r w1
theorem C_law22_FrameDoes.mono {words : Int} {limitx : Int} {lP : Option Addr} {lN : Nat} {lC : Nat} {w : World} {R R' : Bool → World → Prop} (h : C_law22_FrameDoes words limitx lP lN lC w R) (hr : ∀ r w1, R r w1 → R' r w1) : C_law22_FrameDoes words limitx lP lN lC w R' :=
  Calls.mono h fun _ _ ⟨r, he, h⟩ => ⟨r, he, hr r _ h⟩

/-- elenchus/elenchuslaw22.FrameNobody -/
def C_law22_FrameNobody (o0 : Int) (o1 : Int) (o2 : Int) (o3 : Int) (o4 : Int) (o5 : Int) (o6P : Option Addr) (o6N : Nat) (o6C : Nat) (o7 : Int) (o8 : Int) (o9 : Int) (o10 : Int) (o11 : Int) (o12 : Int) (o13 : Int) (w : World) (R : Bool → World → Prop) : Prop :=
  Calls Try.prog 6 #[.agg #[.int .i64 o0, .int .i64 o1, .int .u64 o2, .int .i64 o3, .int .i64 o4, .int .i64 o5, .slice o6P o6N o6C, .int .i64 o7, .int .i64 o8, .int .i64 o9, .int .i64 o10, .int .i64 o11, .int .i64 o12, .int .i64 o13]] w fun en w1 => ∃ (r : Bool), en = .returned (.bool r) ∧ R r w1
theorem C_law22_FrameNobody.mono {o0 : Int} {o1 : Int} {o2 : Int} {o3 : Int} {o4 : Int} {o5 : Int} {o6P : Option Addr} {o6N : Nat} {o6C : Nat} {o7 : Int} {o8 : Int} {o9 : Int} {o10 : Int} {o11 : Int} {o12 : Int} {o13 : Int} {w : World} {R R' : Bool → World → Prop} (h : C_law22_FrameNobody o0 o1 o2 o3 o4 o5 o6P o6N o6C o7 o8 o9 o10 o11 o12 o13 w R) (hr : ∀ r w1, R r w1 → R' r w1) : C_law22_FrameNobody o0 o1 o2 o3 o4 o5 o6P o6N o6C o7 o8 o9 o10 o11 o12 o13 w R' :=
  Calls.mono h fun _ _ ⟨r, he, h⟩ => ⟨r, he, hr r _ h⟩

/-- elenchus/frame.New -/
def C_frame_New (words : Int) (choices : Int) (w : World) (R : Option Addr → Int → World → Prop) : Prop :=
  Calls Try.prog 7 #[.int .i64 words, .int .i64 choices] w fun en w1 => ∃ (r0 : Option Addr) (r1 : Int), en = .returned (.tuple #[.pointer r0, .int .i64 r1]) ∧ R r0 r1 w1
theorem C_frame_New.mono {words : Int} {choices : Int} {w : World} {R R' : Option Addr → Int → World → Prop} (h : C_frame_New words choices w R) (hr : ∀ r0 r1 w1, R r0 r1 w1 → R' r0 r1 w1) : C_frame_New words choices w R' :=
  Calls.mono h fun _ _ ⟨r0, r1, he, h⟩ => ⟨r0, r1, he, hr r0 r1 _ h⟩

/-- elenchus/elenchuslaw22.lives -/
def C_law22_lives  (w : World) (R : Bool → World → Prop) : Prop :=
  Calls Try.prog 8 #[] w fun en w1 => ∃ (r : Bool), en = .returned (.bool r) ∧ R r w1
theorem C_law22_lives.mono {w : World} {R R' : Bool → World → Prop} (h : C_law22_lives  w R) (hr : ∀ r w1, R r w1 → R' r w1) : C_law22_lives  w R' :=
  Calls.mono h fun _ _ ⟨r, he, h⟩ => ⟨r, he, hr r _ h⟩

/-- elenchus/elenchuslaw22.step -/
def C_law22_step (sx : Option Addr) (o0 : Int) (o1 : Int) (o2 : Int) (o3 : Int) (o4 : Int) (o5 : Int) (o6P : Option Addr) (o6N : Nat) (o6C : Nat) (o7 : Int) (o8 : Int) (o9 : Int) (o10 : Int) (o11 : Int) (o12 : Int) (o13 : Int) (w : World) (R : World → Prop) : Prop :=
  Calls Try.prog 9 #[.pointer sx, .agg #[.int .i64 o0, .int .i64 o1, .int .u64 o2, .int .i64 o3, .int .i64 o4, .int .i64 o5, .slice o6P o6N o6C, .int .i64 o7, .int .i64 o8, .int .i64 o9, .int .i64 o10, .int .i64 o11, .int .i64 o12, .int .i64 o13]] w fun en w1 => en = .returned (.tuple #[]) ∧ R w1
theorem C_law22_step.mono {sx : Option Addr} {o0 : Int} {o1 : Int} {o2 : Int} {o3 : Int} {o4 : Int} {o5 : Int} {o6P : Option Addr} {o6N : Nat} {o6C : Nat} {o7 : Int} {o8 : Int} {o9 : Int} {o10 : Int} {o11 : Int} {o12 : Int} {o13 : Int} {w : World} {R R' : World → Prop} (h : C_law22_step sx o0 o1 o2 o3 o4 o5 o6P o6N o6C o7 o8 o9 o10 o11 o12 o13 w R) (hr : ∀ w1, R w1 → R' w1) : C_law22_step sx o0 o1 o2 o3 o4 o5 o6P o6N o6C o7 o8 o9 o10 o11 o12 o13 w R' :=
  Calls.mono h fun _ _ ⟨he, h⟩ => ⟨he, hr _ h⟩

/-- (elenchus/frame.Stack).Push -/
def C_frame_Stack_Push (sx : Option Addr) (c0 : Int) (c1P : Option Addr) (c1N : Nat) (c1C : Nat) (c2 : Int) (c3 : Int) (c4 : Int) (c5 : Int) (c6 : Int) (c7 : Int) (c8 : Int) (w : World) (R : Int → World → Prop) : Prop :=
  Calls Try.prog 10 #[.pointer sx, .agg #[.int .i64 c0, .slice c1P c1N c1C, .int .i64 c2, .int .i64 c3, .int .i64 c4, .int .i64 c5, .int .i64 c6, .int .i64 c7, .int .i64 c8]] w fun en w1 => ∃ (r : Int), en = .returned (.int .i64 r) ∧ R r w1
theorem C_frame_Stack_Push.mono {sx : Option Addr} {c0 : Int} {c1P : Option Addr} {c1N : Nat} {c1C : Nat} {c2 : Int} {c3 : Int} {c4 : Int} {c5 : Int} {c6 : Int} {c7 : Int} {c8 : Int} {w : World} {R R' : Int → World → Prop} (h : C_frame_Stack_Push sx c0 c1P c1N c1C c2 c3 c4 c5 c6 c7 c8 w R) (hr : ∀ r w1, R r w1 → R' r w1) : C_frame_Stack_Push sx c0 c1P c1N c1C c2 c3 c4 c5 c6 c7 c8 w R' :=
  Calls.mono h fun _ _ ⟨r, he, h⟩ => ⟨r, he, hr r _ h⟩

/-- (elenchus/frame.Stack).Chain -/
def C_frame_Stack_Chain (sx : Option Addr) (basex : Int) (w : World) (R : Option Addr → Nat → Nat → World → Prop) : Prop :=
  Calls Try.prog 11 #[.pointer sx, .int .i64 basex] w fun en w1 => ∃ (rP : Option Addr) (rN : Nat) (rC : Nat), en = .returned (.slice rP rN rC) ∧ R rP rN rC w1
theorem C_frame_Stack_Chain.mono {sx : Option Addr} {basex : Int} {w : World} {R R' : Option Addr → Nat → Nat → World → Prop} (h : C_frame_Stack_Chain sx basex w R) (hr : ∀ rP rN rC w1, R rP rN rC w1 → R' rP rN rC w1) : C_frame_Stack_Chain sx basex w R' :=
  Calls.mono h fun _ _ ⟨rP, rN, rC, he, h⟩ => ⟨rP, rN, rC, he, hr rP rN rC _ h⟩

/-- (elenchus/frame.Stack).Env -/
def C_frame_Stack_Env (sx : Option Addr) (w : World) (R : Int → World → Prop) : Prop :=
  Calls Try.prog 12 #[.pointer sx] w fun en w1 => ∃ (r : Int), en = .returned (.int .i64 r) ∧ R r w1
theorem C_frame_Stack_Env.mono {sx : Option Addr} {w : World} {R R' : Int → World → Prop} (h : C_frame_Stack_Env sx w R) (hr : ∀ r w1, R r w1 → R' r w1) : C_frame_Stack_Env sx w R' :=
  Calls.mono h fun _ _ ⟨r, he, h⟩ => ⟨r, he, hr r _ h⟩

/-- (elenchus/frame.Stack).Depth -/
def C_frame_Stack_Depth (sx : Option Addr) (w : World) (R : Int → World → Prop) : Prop :=
  Calls Try.prog 13 #[.pointer sx] w fun en w1 => ∃ (r : Int), en = .returned (.int .i64 r) ∧ R r w1
theorem C_frame_Stack_Depth.mono {sx : Option Addr} {w : World} {R R' : Int → World → Prop} (h : C_frame_Stack_Depth sx w R) (hr : ∀ r w1, R r w1 → R' r w1) : C_frame_Stack_Depth sx w R' :=
  Calls.mono h fun _ _ ⟨r, he, h⟩ => ⟨r, he, hr r _ h⟩

/-- (elenchus/frame.Stack).Drop -/
def C_frame_Stack_Drop (sx : Option Addr) (w : World) (R : Int → World → Prop) : Prop :=
  Calls Try.prog 14 #[.pointer sx] w fun en w1 => ∃ (r : Int), en = .returned (.int .i64 r) ∧ R r w1
theorem C_frame_Stack_Drop.mono {sx : Option Addr} {w : World} {R R' : Int → World → Prop} (h : C_frame_Stack_Drop sx w R) (hr : ∀ r w1, R r w1 → R' r w1) : C_frame_Stack_Drop sx w R' :=
  Calls.mono h fun _ _ ⟨r, he, h⟩ => ⟨r, he, hr r _ h⟩

/-- (elenchus/frame.Stack).Restore -/
def C_frame_Stack_Restore (sx : Option Addr) (w : World) (R : Int → World → Prop) : Prop :=
  Calls Try.prog 15 #[.pointer sx] w fun en w1 => ∃ (r : Int), en = .returned (.int .i64 r) ∧ R r w1
theorem C_frame_Stack_Restore.mono {sx : Option Addr} {w : World} {R R' : Int → World → Prop} (h : C_frame_Stack_Restore sx w R) (hr : ∀ r w1, R r w1 → R' r w1) : C_frame_Stack_Restore sx w R' :=
  Calls.mono h fun _ _ ⟨r, he, h⟩ => ⟨r, he, hr r _ h⟩

/-- elenchus/elenchusref22.SameFrames -/
def C_ref22_SameFrames (aP : Option Addr) (aN : Nat) (aC : Nat) (bP : Option Addr) (bN : Nat) (bC : Nat) (w : World) (R : Bool → World → Prop) : Prop :=
  Calls Try.prog 16 #[.slice aP aN aC, .slice bP bN bC] w fun en w1 => ∃ (r : Bool), en = .returned (.bool r) ∧ R r w1
theorem C_ref22_SameFrames.mono {aP : Option Addr} {aN : Nat} {aC : Nat} {bP : Option Addr} {bN : Nat} {bC : Nat} {w : World} {R R' : Bool → World → Prop} (h : C_ref22_SameFrames aP aN aC bP bN bC w R) (hr : ∀ r w1, R r w1 → R' r w1) : C_ref22_SameFrames aP aN aC bP bN bC w R' :=
  Calls.mono h fun _ _ ⟨r, he, h⟩ => ⟨r, he, hr r _ h⟩

/-- (elenchus/frame.Stack).Alloc -/
def C_frame_Stack_Alloc (sx : Option Addr) (slots : Int) (cont0 : Int) (cont1 : Int) (w : World) (R : Int → World → Prop) : Prop :=
  Calls Try.prog 17 #[.pointer sx, .int .i64 slots, .agg #[.int .i64 cont0, .int .i64 cont1]] w fun en w1 => ∃ (r : Int), en = .returned (.int .i64 r) ∧ R r w1
theorem C_frame_Stack_Alloc.mono {sx : Option Addr} {slots : Int} {cont0 : Int} {cont1 : Int} {w : World} {R R' : Int → World → Prop} (h : C_frame_Stack_Alloc sx slots cont0 cont1 w R) (hr : ∀ r w1, R r w1 → R' r w1) : C_frame_Stack_Alloc sx slots cont0 cont1 w R' :=
  Calls.mono h fun _ _ ⟨r, he, h⟩ => ⟨r, he, hr r _ h⟩

/-- (elenchus/frame.Stack).Slots -/
def C_frame_Stack_Slots (sx : Option Addr) (w : World) (R : Int → World → Prop) : Prop :=
  Calls Try.prog 18 #[.pointer sx] w fun en w1 => ∃ (r : Int), en = .returned (.int .i64 r) ∧ R r w1
theorem C_frame_Stack_Slots.mono {sx : Option Addr} {w : World} {R R' : Int → World → Prop} (h : C_frame_Stack_Slots sx w R) (hr : ∀ r w1, R r w1 → R' r w1) : C_frame_Stack_Slots sx w R' :=
  Calls.mono h fun _ _ ⟨r, he, h⟩ => ⟨r, he, hr r _ h⟩

/-- (elenchus/frame.Stack).Set -/
def C_frame_Stack_Set (sx : Option Addr) (i : Int) (wx : Int) (w : World) (R : Int → World → Prop) : Prop :=
  Calls Try.prog 19 #[.pointer sx, .int .i64 i, .int .u64 wx] w fun en w1 => ∃ (r : Int), en = .returned (.int .i64 r) ∧ R r w1
theorem C_frame_Stack_Set.mono {sx : Option Addr} {i : Int} {wx : Int} {w : World} {R R' : Int → World → Prop} (h : C_frame_Stack_Set sx i wx w R) (hr : ∀ r w1, R r w1 → R' r w1) : C_frame_Stack_Set sx i wx w R' :=
  Calls.mono h fun _ _ ⟨r, he, h⟩ => ⟨r, he, hr r _ h⟩

/-- (elenchus/frame.Stack).Get -/
def C_frame_Stack_Get (sx : Option Addr) (i : Int) (w : World) (R : Int → Int → World → Prop) : Prop :=
  Calls Try.prog 20 #[.pointer sx, .int .i64 i] w fun en w1 => ∃ (r0 : Int) (r1 : Int), en = .returned (.tuple #[.int .u64 r0, .int .i64 r1]) ∧ R r0 r1 w1
theorem C_frame_Stack_Get.mono {sx : Option Addr} {i : Int} {w : World} {R R' : Int → Int → World → Prop} (h : C_frame_Stack_Get sx i w R) (hr : ∀ r0 r1 w1, R r0 r1 w1 → R' r0 r1 w1) : C_frame_Stack_Get sx i w R' :=
  Calls.mono h fun _ _ ⟨r0, r1, he, h⟩ => ⟨r0, r1, he, hr r0 r1 _ h⟩

/-- (elenchus/frame.Stack).Dealloc -/
def C_frame_Stack_Dealloc (sx : Option Addr) (w : World) (R : Int → Int → Int → World → Prop) : Prop :=
  Calls Try.prog 21 #[.pointer sx] w fun en w1 => ∃ (r00 : Int) (r01 : Int) (r1 : Int), en = .returned (.tuple #[.agg #[.int .i64 r00, .int .i64 r01], .int .i64 r1]) ∧ R r00 r01 r1 w1
theorem C_frame_Stack_Dealloc.mono {sx : Option Addr} {w : World} {R R' : Int → Int → Int → World → Prop} (h : C_frame_Stack_Dealloc sx w R) (hr : ∀ r00 r01 r1 w1, R r00 r01 r1 w1 → R' r00 r01 r1 w1) : C_frame_Stack_Dealloc sx w R' :=
  Calls.mono h fun _ _ ⟨r00, r01, r1, he, h⟩ => ⟨r00, r01, r1, he, hr r00 r01 r1 _ h⟩

/-- elenchus/elenchusref22.New -/
def C_ref22_New (words : Int) (choices : Int) (w : World) (R : Option Addr → World → Prop) : Prop :=
  Calls Try.prog 22 #[.int .i64 words, .int .i64 choices] w fun en w1 => ∃ (r : Option Addr), en = .returned (.pointer r) ∧ R r w1
theorem C_ref22_New.mono {words : Int} {choices : Int} {w : World} {R R' : Option Addr → World → Prop} (h : C_ref22_New words choices w R) (hr : ∀ r w1, R r w1 → R' r w1) : C_ref22_New words choices w R' :=
  Calls.mono h fun _ _ ⟨r, he, h⟩ => ⟨r, he, hr r _ h⟩

/-- elenchus/elenchuslaw22.do -/
def C_law22_do (sx : Option Addr) (x : Option Addr) (o0 : Int) (o1 : Int) (o2 : Int) (o3 : Int) (o4 : Int) (o5 : Int) (o6P : Option Addr) (o6N : Nat) (o6C : Nat) (o7 : Int) (o8 : Int) (o9 : Int) (o10 : Int) (o11 : Int) (o12 : Int) (o13 : Int) (w : World) (R : Bool → World → Prop) : Prop :=
  Calls Try.prog 23 #[.pointer sx, .pointer x, .agg #[.int .i64 o0, .int .i64 o1, .int .u64 o2, .int .i64 o3, .int .i64 o4, .int .i64 o5, .slice o6P o6N o6C, .int .i64 o7, .int .i64 o8, .int .i64 o9, .int .i64 o10, .int .i64 o11, .int .i64 o12, .int .i64 o13]] w fun en w1 => ∃ (r : Bool), en = .returned (.bool r) ∧ R r w1
theorem C_law22_do.mono {sx : Option Addr} {x : Option Addr} {o0 : Int} {o1 : Int} {o2 : Int} {o3 : Int} {o4 : Int} {o5 : Int} {o6P : Option Addr} {o6N : Nat} {o6C : Nat} {o7 : Int} {o8 : Int} {o9 : Int} {o10 : Int} {o11 : Int} {o12 : Int} {o13 : Int} {w : World} {R R' : Bool → World → Prop} (h : C_law22_do sx x o0 o1 o2 o3 o4 o5 o6P o6N o6C o7 o8 o9 o10 o11 o12 o13 w R) (hr : ∀ r w1, R r w1 → R' r w1) : C_law22_do sx x o0 o1 o2 o3 o4 o5 o6P o6N o6C o7 o8 o9 o10 o11 o12 o13 w R' :=
  Calls.mono h fun _ _ ⟨r, he, h⟩ => ⟨r, he, hr r _ h⟩

/-- elenchus/elenchuslaw22.alike -/
def C_law22_alike (sx : Option Addr) (x : Option Addr) (basex : Int) (w : World) (R : Bool → World → Prop) : Prop :=
  Calls Try.prog 24 #[.pointer sx, .pointer x, .int .i64 basex] w fun en w1 => ∃ (r : Bool), en = .returned (.bool r) ∧ R r w1
theorem C_law22_alike.mono {sx : Option Addr} {x : Option Addr} {basex : Int} {w : World} {R R' : Bool → World → Prop} (h : C_law22_alike sx x basex w R) (hr : ∀ r w1, R r w1 → R' r w1) : C_law22_alike sx x basex w R' :=
  Calls.mono h fun _ _ ⟨r, he, h⟩ => ⟨r, he, hr r _ h⟩

/-- (elenchus/frame.Stack).Last -/
def C_frame_Stack_Last (sx : Option Addr) (w : World) (R : Int → Option Addr → Nat → Nat → Int → Int → Int → Int → Int → Int → Int → Bool → World → Prop) : Prop :=
  Calls Try.prog 25 #[.pointer sx] w fun en w1 => ∃ (r00 : Int) (r01P : Option Addr) (r01N : Nat) (r01C : Nat) (r02 : Int) (r03 : Int) (r04 : Int) (r05 : Int) (r06 : Int) (r07 : Int) (r08 : Int) (r1 : Bool), en = .returned (.tuple #[.agg #[.int .i64 r00, .slice r01P r01N r01C, .int .i64 r02, .int .i64 r03, .int .i64 r04, .int .i64 r05, .int .i64 r06, .int .i64 r07, .int .i64 r08], .bool r1]) ∧ R r00 r01P r01N r01C r02 r03 r04 r05 r06 r07 r08 r1 w1
theorem C_frame_Stack_Last.mono {sx : Option Addr} {w : World} {R R' : Int → Option Addr → Nat → Nat → Int → Int → Int → Int → Int → Int → Int → Bool → World → Prop} (h : C_frame_Stack_Last sx w R) (hr : ∀ r00 r01P r01N r01C r02 r03 r04 r05 r06 r07 r08 r1 w1, R r00 r01P r01N r01C r02 r03 r04 r05 r06 r07 r08 r1 w1 → R' r00 r01P r01N r01C r02 r03 r04 r05 r06 r07 r08 r1 w1) : C_frame_Stack_Last sx w R' :=
  Calls.mono h fun _ _ ⟨r00, r01P, r01N, r01C, r02, r03, r04, r05, r06, r07, r08, r1, he, h⟩ => ⟨r00, r01P, r01N, r01C, r02, r03, r04, r05, r06, r07, r08, r1, he, hr r00 r01P r01N r01C r02 r03 r04 r05 r06 r07 r08 r1 _ h⟩

/-- (elenchus/frame.Stack).Choice -/
def C_frame_Stack_Choice (sx : Option Addr) (i : Int) (w : World) (R : Int → Option Addr → Nat → Nat → Int → Int → Int → Int → Int → Int → Int → Bool → World → Prop) : Prop :=
  Calls Try.prog 26 #[.pointer sx, .int .i64 i] w fun en w1 => ∃ (r00 : Int) (r01P : Option Addr) (r01N : Nat) (r01C : Nat) (r02 : Int) (r03 : Int) (r04 : Int) (r05 : Int) (r06 : Int) (r07 : Int) (r08 : Int) (r1 : Bool), en = .returned (.tuple #[.agg #[.int .i64 r00, .slice r01P r01N r01C, .int .i64 r02, .int .i64 r03, .int .i64 r04, .int .i64 r05, .int .i64 r06, .int .i64 r07, .int .i64 r08], .bool r1]) ∧ R r00 r01P r01N r01C r02 r03 r04 r05 r06 r07 r08 r1 w1
theorem C_frame_Stack_Choice.mono {sx : Option Addr} {i : Int} {w : World} {R R' : Int → Option Addr → Nat → Nat → Int → Int → Int → Int → Int → Int → Int → Bool → World → Prop} (h : C_frame_Stack_Choice sx i w R) (hr : ∀ r00 r01P r01N r01C r02 r03 r04 r05 r06 r07 r08 r1 w1, R r00 r01P r01N r01C r02 r03 r04 r05 r06 r07 r08 r1 w1 → R' r00 r01P r01N r01C r02 r03 r04 r05 r06 r07 r08 r1 w1) : C_frame_Stack_Choice sx i w R' :=
  Calls.mono h fun _ _ ⟨r00, r01P, r01N, r01C, r02, r03, r04, r05, r06, r07, r08, r1, he, h⟩ => ⟨r00, r01P, r01N, r01C, r02, r03, r04, r05, r06, r07, r08, r1, he, hr r00 r01P r01N r01C r02 r03 r04 r05 r06 r07 r08 r1 _ h⟩

/-- (elenchus/frame.Stack).Change -/
def C_frame_Stack_Change (sx : Option Addr) (change : Value) (w : World) (R : World → Prop) : Prop :=
  Calls Try.prog 27 #[.pointer sx, change] w fun en w1 => en = .returned (.tuple #[]) ∧ R w1
theorem C_frame_Stack_Change.mono {sx : Option Addr} {change : Value} {w : World} {R R' : World → Prop} (h : C_frame_Stack_Change sx change w R) (hr : ∀ w1, R w1 → R' w1) : C_frame_Stack_Change sx change w R' :=
  Calls.mono h fun _ _ ⟨he, h⟩ => ⟨he, hr _ h⟩

/-- elenchus/elenchuslaw22.same -/
def C_law22_same (wx : Int) (w : World) (R : Int → World → Prop) : Prop :=
  Calls Try.prog 28 #[.int .u64 wx] w fun en w1 => ∃ (r : Int), en = .returned (.int .u64 r) ∧ R r w1
theorem C_law22_same.mono {wx : Int} {w : World} {R R' : Int → World → Prop} (h : C_law22_same wx w R) (hr : ∀ r w1, R r w1 → R' r w1) : C_law22_same wx w R' :=
  Calls.mono h fun _ _ ⟨r, he, h⟩ => ⟨r, he, hr r _ h⟩

/-- (elenchus/frame.Stack).Trim -/
def C_frame_Stack_Trim (sx : Option Addr) (n : Int) (w : World) (R : Bool → World → Prop) : Prop :=
  Calls Try.prog 29 #[.pointer sx, .int .i64 n] w fun en w1 => ∃ (r : Bool), en = .returned (.bool r) ∧ R r w1
theorem C_frame_Stack_Trim.mono {sx : Option Addr} {n : Int} {w : World} {R R' : Bool → World → Prop} (h : C_frame_Stack_Trim sx n w R) (hr : ∀ r w1, R r w1 → R' r w1) : C_frame_Stack_Trim sx n w R' :=
  Calls.mono h fun _ _ ⟨r, he, h⟩ => ⟨r, he, hr r _ h⟩

/-- (elenchus/frame.Stack).Turn -/
def C_frame_Stack_Turn (sx : Option Addr) (next : Int) (w : World) (R : Int → World → Prop) : Prop :=
  Calls Try.prog 30 #[.pointer sx, .int .i64 next] w fun en w1 => ∃ (r : Int), en = .returned (.int .i64 r) ∧ R r w1
theorem C_frame_Stack_Turn.mono {sx : Option Addr} {next : Int} {w : World} {R R' : Int → World → Prop} (h : C_frame_Stack_Turn sx next w R) (hr : ∀ r w1, R r w1 → R' r w1) : C_frame_Stack_Turn sx next w R' :=
  Calls.mono h fun _ _ ⟨r, he, h⟩ => ⟨r, he, hr r _ h⟩

/-- elenchus/room.New -/
def C_room_New (limitx : Int) (w : World) (R : Option Addr → Int → World → Prop) : Prop :=
  Calls Try.prog 31 #[.int .i64 limitx] w fun en w1 => ∃ (r0 : Option Addr) (r1 : Int), en = .returned (.tuple #[.pointer r0, .int .i64 r1]) ∧ R r0 r1 w1
theorem C_room_New.mono {limitx : Int} {w : World} {R R' : Option Addr → Int → World → Prop} (h : C_room_New limitx w R) (hr : ∀ r0 r1 w1, R r0 r1 w1 → R' r0 r1 w1) : C_room_New limitx w R' :=
  Calls.mono h fun _ _ ⟨r0, r1, he, h⟩ => ⟨r0, r1, he, hr r0 r1 _ h⟩

/-- (elenchus/frame.Stack).made -/
def C_frame_Stack_made (sx : Option Addr) (w : World) (R : Bool → World → Prop) : Prop :=
  Calls Try.prog 32 #[.pointer sx] w fun en w1 => ∃ (r : Bool), en = .returned (.bool r) ∧ R r w1
theorem C_frame_Stack_made.mono {sx : Option Addr} {w : World} {R R' : Bool → World → Prop} (h : C_frame_Stack_made sx w R) (hr : ∀ r w1, R r w1 → R' r w1) : C_frame_Stack_made sx w R' :=
  Calls.mono h fun _ _ ⟨r, he, h⟩ => ⟨r, he, hr r _ h⟩

/-- slices.Clone[[]uint64,uint64] -/
def C_slices_Clone (sP : Option Addr) (sN : Nat) (sC : Nat) (w : World) (R : Option Addr → Nat → Nat → World → Prop) : Prop :=
  Calls Try.prog 33 #[.slice sP sN sC] w fun en w1 => ∃ (rP : Option Addr) (rN : Nat) (rC : Nat), en = .returned (.slice rP rN rC) ∧ R rP rN rC w1
theorem C_slices_Clone.mono {sP : Option Addr} {sN : Nat} {sC : Nat} {w : World} {R R' : Option Addr → Nat → Nat → World → Prop} (h : C_slices_Clone sP sN sC w R) (hr : ∀ rP rN rC w1, R rP rN rC w1 → R' rP rN rC w1) : C_slices_Clone sP sN sC w R' :=
  Calls.mono h fun _ _ ⟨rP, rN, rC, he, h⟩ => ⟨rP, rN, rC, he, hr rP rN rC _ h⟩

/-- (elenchus/frame.Stack).top -/
def C_frame_Stack_top (sx : Option Addr) (w : World) (R : Int → World → Prop) : Prop :=
  Calls Try.prog 34 #[.pointer sx] w fun en w1 => ∃ (r : Int), en = .returned (.int .i64 r) ∧ R r w1
theorem C_frame_Stack_top.mono {sx : Option Addr} {w : World} {R R' : Int → World → Prop} (h : C_frame_Stack_top sx w R) (hr : ∀ r w1, R r w1 → R' r w1) : C_frame_Stack_top sx w R' :=
  Calls.mono h fun _ _ ⟨r, he, h⟩ => ⟨r, he, hr r _ h⟩

/-- (elenchus/frame.Stack).all -/
def C_frame_Stack_all (sx : Option Addr) (each : Value) (w : World) (R : World → Prop) : Prop :=
  Calls Try.prog 35 #[.pointer sx, each] w fun en w1 => en = .returned (.tuple #[]) ∧ R w1
theorem C_frame_Stack_all.mono {sx : Option Addr} {each : Value} {w : World} {R R' : World → Prop} (h : C_frame_Stack_all sx each w R) (hr : ∀ w1, R w1 → R' w1) : C_frame_Stack_all sx each w R' :=
  Calls.mono h fun _ _ ⟨he, h⟩ => ⟨he, hr _ h⟩

/-- (elenchus/frame.Stack).Chain-1 -/
def C_frame_Stack_Chain_1 (b : Int) (c0 : Addr) (c1 : Addr) (w : World) (R : Bool → World → Prop) : Prop :=
  Calls Try.prog 36 #[.int .i64 b, .pointer (some c0), .pointer (some c1)] w fun en w1 => ∃ (r : Bool), en = .returned (.bool r) ∧ R r w1
theorem C_frame_Stack_Chain_1.mono {b : Int} {c0 : Addr} {c1 : Addr} {w : World} {R R' : Bool → World → Prop} (h : C_frame_Stack_Chain_1 b c0 c1 w R) (hr : ∀ r w1, R r w1 → R' r w1) : C_frame_Stack_Chain_1 b c0 c1 w R' :=
  Calls.mono h fun _ _ ⟨r, he, h⟩ => ⟨r, he, hr r _ h⟩

/-- (elenchus/frame.Stack).prev -/
def C_frame_Stack_prev (sx : Option Addr) (basex : Int) (w : World) (R : Int → World → Prop) : Prop :=
  Calls Try.prog 37 #[.pointer sx, .int .i64 basex] w fun en w1 => ∃ (r : Int), en = .returned (.int .i64 r) ∧ R r w1
theorem C_frame_Stack_prev.mono {sx : Option Addr} {basex : Int} {w : World} {R R' : Int → World → Prop} (h : C_frame_Stack_prev sx basex w R) (hr : ∀ r w1, R r w1 → R' r w1) : C_frame_Stack_prev sx basex w R' :=
  Calls.mono h fun _ _ ⟨r, he, h⟩ => ⟨r, he, hr r _ h⟩

/-- (elenchus/frame.Stack).row -/
def C_frame_Stack_row (sx : Option Addr) (basex : Int) (w : World) (R : Option Addr → Nat → Nat → World → Prop) : Prop :=
  Calls Try.prog 38 #[.pointer sx, .int .i64 basex] w fun en w1 => ∃ (rP : Option Addr) (rN : Nat) (rC : Nat), en = .returned (.slice rP rN rC) ∧ R rP rN rC w1
theorem C_frame_Stack_row.mono {sx : Option Addr} {basex : Int} {w : World} {R R' : Option Addr → Nat → Nat → World → Prop} (h : C_frame_Stack_row sx basex w R) (hr : ∀ rP rN rC w1, R rP rN rC w1 → R' rP rN rC w1) : C_frame_Stack_row sx basex w R' :=
  Calls.mono h fun _ _ ⟨rP, rN, rC, he, h⟩ => ⟨rP, rN, rC, he, hr rP rN rC _ h⟩

/-- (elenchus/frame.Stack).cont -/
def C_frame_Stack_cont (sx : Option Addr) (basex : Int) (w : World) (R : Int → Int → World → Prop) : Prop :=
  Calls Try.prog 39 #[.pointer sx, .int .i64 basex] w fun en w1 => ∃ (r0 : Int) (r1 : Int), en = .returned (.agg #[.int .i64 r0, .int .i64 r1]) ∧ R r0 r1 w1
theorem C_frame_Stack_cont.mono {sx : Option Addr} {basex : Int} {w : World} {R R' : Int → Int → World → Prop} (h : C_frame_Stack_cont sx basex w R) (hr : ∀ r0 r1 w1, R r0 r1 w1 → R' r0 r1 w1) : C_frame_Stack_cont sx basex w R' :=
  Calls.mono h fun _ _ ⟨r0, r1, he, h⟩ => ⟨r0, r1, he, hr r0 r1 _ h⟩

/-- (elenchus/frame.Stack).last -/
def C_frame_Stack_last (sx : Option Addr) (w : World) (R : Option Addr → Int → World → Prop) : Prop :=
  Calls Try.prog 40 #[.pointer sx] w fun en w1 => ∃ (r0 : Option Addr) (r1 : Int), en = .returned (.tuple #[.pointer r0, .int .i64 r1]) ∧ R r0 r1 w1
theorem C_frame_Stack_last.mono {sx : Option Addr} {w : World} {R R' : Option Addr → Int → World → Prop} (h : C_frame_Stack_last sx w R) (hr : ∀ r0 r1 w1, R r0 r1 w1 → R' r0 r1 w1) : C_frame_Stack_last sx w R' :=
  Calls.mono h fun _ _ ⟨r0, r1, he, h⟩ => ⟨r0, r1, he, hr r0 r1 _ h⟩

/-- elenchus/elenchusref22.SameWords -/
def C_ref22_SameWords (aP : Option Addr) (aN : Nat) (aC : Nat) (bP : Option Addr) (bN : Nat) (bC : Nat) (w : World) (R : Bool → World → Prop) : Prop :=
  Calls Try.prog 41 #[.slice aP aN aC, .slice bP bN bC] w fun en w1 => ∃ (r : Bool), en = .returned (.bool r) ∧ R r w1
theorem C_ref22_SameWords.mono {aP : Option Addr} {aN : Nat} {aC : Nat} {bP : Option Addr} {bN : Nat} {bC : Nat} {w : World} {R R' : Bool → World → Prop} (h : C_ref22_SameWords aP aN aC bP bN bC w R) (hr : ∀ r w1, R r w1 → R' r w1) : C_ref22_SameWords aP aN aC bP bN bC w R' :=
  Calls.mono h fun _ _ ⟨r, he, h⟩ => ⟨r, he, hr r _ h⟩

/-- (elenchus/room.Room).Limit -/
def C_room_Room_Limit (m : Option Addr) (w : World) (R : Int → World → Prop) : Prop :=
  Calls Try.prog 42 #[.pointer m] w fun en w1 => ∃ (r : Int), en = .returned (.int .i64 r) ∧ R r w1
theorem C_room_Room_Limit.mono {m : Option Addr} {w : World} {R R' : Int → World → Prop} (h : C_room_Room_Limit m w R) (hr : ∀ r w1, R r w1 → R' r w1) : C_room_Room_Limit m w R' :=
  Calls.mono h fun _ _ ⟨r, he, h⟩ => ⟨r, he, hr r _ h⟩

/-- (elenchus/room.Room).Len -/
def C_room_Room_Len (m : Option Addr) (w : World) (R : Int → World → Prop) : Prop :=
  Calls Try.prog 43 #[.pointer m] w fun en w1 => ∃ (r : Int), en = .returned (.int .i64 r) ∧ R r w1
theorem C_room_Room_Len.mono {m : Option Addr} {w : World} {R R' : Int → World → Prop} (h : C_room_Room_Len m w R) (hr : ∀ r w1, R r w1 → R' r w1) : C_room_Room_Len m w R' :=
  Calls.mono h fun _ _ ⟨r, he, h⟩ => ⟨r, he, hr r _ h⟩

/-- (elenchus/room.Room).Grow -/
def C_room_Room_Grow (m : Option Addr) (n : Int) (w : World) (R : Int → World → Prop) : Prop :=
  Calls Try.prog 44 #[.pointer m, .int .i64 n] w fun en w1 => ∃ (r : Int), en = .returned (.int .i64 r) ∧ R r w1
theorem C_room_Room_Grow.mono {m : Option Addr} {n : Int} {w : World} {R R' : Int → World → Prop} (h : C_room_Room_Grow m n w R) (hr : ∀ r w1, R r w1 → R' r w1) : C_room_Room_Grow m n w R' :=
  Calls.mono h fun _ _ ⟨r, he, h⟩ => ⟨r, he, hr r _ h⟩

/-- (elenchus/frame.Stack).set -/
def C_frame_Stack_set (sx : Option Addr) (i : Int) (n : Int) (w : World) (R : World → Prop) : Prop :=
  Calls Try.prog 45 #[.pointer sx, .int .i64 i, .int .i64 n] w fun en w1 => en = .returned (.tuple #[]) ∧ R w1
theorem C_frame_Stack_set.mono {sx : Option Addr} {i : Int} {n : Int} {w : World} {R R' : World → Prop} (h : C_frame_Stack_set sx i n w R) (hr : ∀ w1, R w1 → R' w1) : C_frame_Stack_set sx i n w R' :=
  Calls.mono h fun _ _ ⟨he, h⟩ => ⟨he, hr _ h⟩

/-- (elenchus/frame.Stack).size -/
def C_frame_Stack_size (sx : Option Addr) (basex : Int) (w : World) (R : Int → World → Prop) : Prop :=
  Calls Try.prog 46 #[.pointer sx, .int .i64 basex] w fun en w1 => ∃ (r : Int), en = .returned (.int .i64 r) ∧ R r w1
theorem C_frame_Stack_size.mono {sx : Option Addr} {basex : Int} {w : World} {R R' : Int → World → Prop} (h : C_frame_Stack_size sx basex w R) (hr : ∀ r w1, R r w1 → R' r w1) : C_frame_Stack_size sx basex w R' :=
  Calls.mono h fun _ _ ⟨r, he, h⟩ => ⟨r, he, hr r _ h⟩

/-- (elenchus/frame.Stack).slot -/
def C_frame_Stack_slot (sx : Option Addr) (i : Int) (w : World) (R : Int → Int → World → Prop) : Prop :=
  Calls Try.prog 47 #[.pointer sx, .int .i64 i] w fun en w1 => ∃ (r0 : Int) (r1 : Int), en = .returned (.tuple #[.int .i64 r0, .int .i64 r1]) ∧ R r0 r1 w1
theorem C_frame_Stack_slot.mono {sx : Option Addr} {i : Int} {w : World} {R R' : Int → Int → World → Prop} (h : C_frame_Stack_slot sx i w R) (hr : ∀ r0 r1 w1, R r0 r1 w1 → R' r0 r1 w1) : C_frame_Stack_slot sx i w R' :=
  Calls.mono h fun _ _ ⟨r0, r1, he, h⟩ => ⟨r0, r1, he, hr r0 r1 _ h⟩

/-- (elenchus/room.Room).Set -/
def C_room_Room_Set (m : Option Addr) (i : Int) (wx : Int) (w : World) (R : Int → World → Prop) : Prop :=
  Calls Try.prog 48 #[.pointer m, .int .i64 i, .int .u64 wx] w fun en w1 => ∃ (r : Int), en = .returned (.int .i64 r) ∧ R r w1
theorem C_room_Room_Set.mono {m : Option Addr} {i : Int} {wx : Int} {w : World} {R R' : Int → World → Prop} (h : C_room_Room_Set m i wx w R) (hr : ∀ r w1, R r w1 → R' r w1) : C_room_Room_Set m i wx w R' :=
  Calls.mono h fun _ _ ⟨r, he, h⟩ => ⟨r, he, hr r _ h⟩

/-- (elenchus/room.Room).Get -/
def C_room_Room_Get (m : Option Addr) (i : Int) (w : World) (R : Int → Int → World → Prop) : Prop :=
  Calls Try.prog 49 #[.pointer m, .int .i64 i] w fun en w1 => ∃ (r0 : Int) (r1 : Int), en = .returned (.tuple #[.int .u64 r0, .int .i64 r1]) ∧ R r0 r1 w1
theorem C_room_Room_Get.mono {m : Option Addr} {i : Int} {w : World} {R R' : Int → Int → World → Prop} (h : C_room_Room_Get m i w R) (hr : ∀ r0 r1 w1, R r0 r1 w1 → R' r0 r1 w1) : C_room_Room_Get m i w R' :=
  Calls.mono h fun _ _ ⟨r0, r1, he, h⟩ => ⟨r0, r1, he, hr r0 r1 _ h⟩

/-- (elenchus/elenchusref22.Stack).Alloc -/
def C_ref22_Stack_Alloc (sx : Option Addr) (slots : Int) (cont0 : Int) (cont1 : Int) (w : World) (R : Int → World → Prop) : Prop :=
  Calls Try.prog 50 #[.pointer sx, .int .i64 slots, .agg #[.int .i64 cont0, .int .i64 cont1]] w fun en w1 => ∃ (r : Int), en = .returned (.int .i64 r) ∧ R r w1
theorem C_ref22_Stack_Alloc.mono {sx : Option Addr} {slots : Int} {cont0 : Int} {cont1 : Int} {w : World} {R R' : Int → World → Prop} (h : C_ref22_Stack_Alloc sx slots cont0 cont1 w R) (hr : ∀ r w1, R r w1 → R' r w1) : C_ref22_Stack_Alloc sx slots cont0 cont1 w R' :=
  Calls.mono h fun _ _ ⟨r, he, h⟩ => ⟨r, he, hr r _ h⟩

/-- (elenchus/elenchusref22.Stack).Dealloc -/
def C_ref22_Stack_Dealloc (sx : Option Addr) (w : World) (R : Int → Int → Int → World → Prop) : Prop :=
  Calls Try.prog 51 #[.pointer sx] w fun en w1 => ∃ (r00 : Int) (r01 : Int) (r1 : Int), en = .returned (.tuple #[.agg #[.int .i64 r00, .int .i64 r01], .int .i64 r1]) ∧ R r00 r01 r1 w1
theorem C_ref22_Stack_Dealloc.mono {sx : Option Addr} {w : World} {R R' : Int → Int → Int → World → Prop} (h : C_ref22_Stack_Dealloc sx w R) (hr : ∀ r00 r01 r1 w1, R r00 r01 r1 w1 → R' r00 r01 r1 w1) : C_ref22_Stack_Dealloc sx w R' :=
  Calls.mono h fun _ _ ⟨r00, r01, r1, he, h⟩ => ⟨r00, r01, r1, he, hr r00 r01 r1 _ h⟩

/-- elenchus/elenchuslaw22.slots -/
def C_law22_slots (sx : Option Addr) (x : Option Addr) (o0 : Int) (o1 : Int) (o2 : Int) (o3 : Int) (o4 : Int) (o5 : Int) (o6P : Option Addr) (o6N : Nat) (o6C : Nat) (o7 : Int) (o8 : Int) (o9 : Int) (o10 : Int) (o11 : Int) (o12 : Int) (o13 : Int) (w : World) (R : Bool → World → Prop) : Prop :=
  Calls Try.prog 52 #[.pointer sx, .pointer x, .agg #[.int .i64 o0, .int .i64 o1, .int .u64 o2, .int .i64 o3, .int .i64 o4, .int .i64 o5, .slice o6P o6N o6C, .int .i64 o7, .int .i64 o8, .int .i64 o9, .int .i64 o10, .int .i64 o11, .int .i64 o12, .int .i64 o13]] w fun en w1 => ∃ (r : Bool), en = .returned (.bool r) ∧ R r w1
theorem C_law22_slots.mono {sx : Option Addr} {x : Option Addr} {o0 : Int} {o1 : Int} {o2 : Int} {o3 : Int} {o4 : Int} {o5 : Int} {o6P : Option Addr} {o6N : Nat} {o6C : Nat} {o7 : Int} {o8 : Int} {o9 : Int} {o10 : Int} {o11 : Int} {o12 : Int} {o13 : Int} {w : World} {R R' : Bool → World → Prop} (h : C_law22_slots sx x o0 o1 o2 o3 o4 o5 o6P o6N o6C o7 o8 o9 o10 o11 o12 o13 w R) (hr : ∀ r w1, R r w1 → R' r w1) : C_law22_slots sx x o0 o1 o2 o3 o4 o5 o6P o6N o6C o7 o8 o9 o10 o11 o12 o13 w R' :=
  Calls.mono h fun _ _ ⟨r, he, h⟩ => ⟨r, he, hr r _ h⟩

/-- (elenchus/elenchusref22.Stack).Trim -/
def C_ref22_Stack_Trim (sx : Option Addr) (n : Int) (w : World) (R : Bool → World → Prop) : Prop :=
  Calls Try.prog 53 #[.pointer sx, .int .i64 n] w fun en w1 => ∃ (r : Bool), en = .returned (.bool r) ∧ R r w1
theorem C_ref22_Stack_Trim.mono {sx : Option Addr} {n : Int} {w : World} {R R' : Bool → World → Prop} (h : C_ref22_Stack_Trim sx n w R) (hr : ∀ r w1, R r w1 → R' r w1) : C_ref22_Stack_Trim sx n w R' :=
  Calls.mono h fun _ _ ⟨r, he, h⟩ => ⟨r, he, hr r _ h⟩

/-- (elenchus/elenchusref22.Stack).Push -/
def C_ref22_Stack_Push (sx : Option Addr) (c0 : Int) (c1P : Option Addr) (c1N : Nat) (c1C : Nat) (c2 : Int) (c3 : Int) (c4 : Int) (c5 : Int) (c6 : Int) (c7 : Int) (c8 : Int) (w : World) (R : Int → World → Prop) : Prop :=
  Calls Try.prog 54 #[.pointer sx, .agg #[.int .i64 c0, .slice c1P c1N c1C, .int .i64 c2, .int .i64 c3, .int .i64 c4, .int .i64 c5, .int .i64 c6, .int .i64 c7, .int .i64 c8]] w fun en w1 => ∃ (r : Int), en = .returned (.int .i64 r) ∧ R r w1
theorem C_ref22_Stack_Push.mono {sx : Option Addr} {c0 : Int} {c1P : Option Addr} {c1N : Nat} {c1C : Nat} {c2 : Int} {c3 : Int} {c4 : Int} {c5 : Int} {c6 : Int} {c7 : Int} {c8 : Int} {w : World} {R R' : Int → World → Prop} (h : C_ref22_Stack_Push sx c0 c1P c1N c1C c2 c3 c4 c5 c6 c7 c8 w R) (hr : ∀ r w1, R r w1 → R' r w1) : C_ref22_Stack_Push sx c0 c1P c1N c1C c2 c3 c4 c5 c6 c7 c8 w R' :=
  Calls.mono h fun _ _ ⟨r, he, h⟩ => ⟨r, he, hr r _ h⟩

/-- elenchus/elenchuslaw22.choices -/
def C_law22_choices (sx : Option Addr) (x : Option Addr) (o0 : Int) (o1 : Int) (o2 : Int) (o3 : Int) (o4 : Int) (o5 : Int) (o6P : Option Addr) (o6N : Nat) (o6C : Nat) (o7 : Int) (o8 : Int) (o9 : Int) (o10 : Int) (o11 : Int) (o12 : Int) (o13 : Int) (w : World) (R : Bool → World → Prop) : Prop :=
  Calls Try.prog 55 #[.pointer sx, .pointer x, .agg #[.int .i64 o0, .int .i64 o1, .int .u64 o2, .int .i64 o3, .int .i64 o4, .int .i64 o5, .slice o6P o6N o6C, .int .i64 o7, .int .i64 o8, .int .i64 o9, .int .i64 o10, .int .i64 o11, .int .i64 o12, .int .i64 o13]] w fun en w1 => ∃ (r : Bool), en = .returned (.bool r) ∧ R r w1
theorem C_law22_choices.mono {sx : Option Addr} {x : Option Addr} {o0 : Int} {o1 : Int} {o2 : Int} {o3 : Int} {o4 : Int} {o5 : Int} {o6P : Option Addr} {o6N : Nat} {o6C : Nat} {o7 : Int} {o8 : Int} {o9 : Int} {o10 : Int} {o11 : Int} {o12 : Int} {o13 : Int} {w : World} {R R' : Bool → World → Prop} (h : C_law22_choices sx x o0 o1 o2 o3 o4 o5 o6P o6N o6C o7 o8 o9 o10 o11 o12 o13 w R) (hr : ∀ r w1, R r w1 → R' r w1) : C_law22_choices sx x o0 o1 o2 o3 o4 o5 o6P o6N o6C o7 o8 o9 o10 o11 o12 o13 w R' :=
  Calls.mono h fun _ _ ⟨r, he, h⟩ => ⟨r, he, hr r _ h⟩

/-- (elenchus/elenchuslaw22.changer).change -/
def C_law22_changer_change (cx : Option Addr) (wx : Int) (w : World) (R : Int → World → Prop) : Prop :=
  Calls Try.prog 56 #[.pointer cx, .int .u64 wx] w fun en w1 => ∃ (r : Int), en = .returned (.int .u64 r) ∧ R r w1
theorem C_law22_changer_change.mono {cx : Option Addr} {wx : Int} {w : World} {R R' : Int → World → Prop} (h : C_law22_changer_change cx wx w R) (hr : ∀ r w1, R r w1 → R' r w1) : C_law22_changer_change cx wx w R' :=
  Calls.mono h fun _ _ ⟨r, he, h⟩ => ⟨r, he, hr r _ h⟩

/-- elenchus/elenchuslaw22.changed -/
def C_law22_changed (x : Option Addr) (wx : Int) (w : World) (R : World → Prop) : Prop :=
  Calls Try.prog 57 #[.pointer x, .int .u64 wx] w fun en w1 => en = .returned (.tuple #[]) ∧ R w1
theorem C_law22_changed.mono {x : Option Addr} {wx : Int} {w : World} {R R' : World → Prop} (h : C_law22_changed x wx w R) (hr : ∀ w1, R w1 → R' w1) : C_law22_changed x wx w R' :=
  Calls.mono h fun _ _ ⟨he, h⟩ => ⟨he, hr _ h⟩

/-- (elenchus/elenchusref22.Stack).Slots -/
def C_ref22_Stack_Slots (sx : Option Addr) (w : World) (R : Int → World → Prop) : Prop :=
  Calls Try.prog 58 #[.pointer sx] w fun en w1 => ∃ (r : Int), en = .returned (.int .i64 r) ∧ R r w1
theorem C_ref22_Stack_Slots.mono {sx : Option Addr} {w : World} {R R' : Int → World → Prop} (h : C_ref22_Stack_Slots sx w R) (hr : ∀ r w1, R r w1 → R' r w1) : C_ref22_Stack_Slots sx w R' :=
  Calls.mono h fun _ _ ⟨r, he, h⟩ => ⟨r, he, hr r _ h⟩

/-- (elenchus/elenchusref22.Stack).Chain -/
def C_ref22_Stack_Chain (sx : Option Addr) (n : Int) (w : World) (R : Option Addr → Nat → Nat → World → Prop) : Prop :=
  Calls Try.prog 59 #[.pointer sx, .int .i64 n] w fun en w1 => ∃ (rP : Option Addr) (rN : Nat) (rC : Nat), en = .returned (.slice rP rN rC) ∧ R rP rN rC w1
theorem C_ref22_Stack_Chain.mono {sx : Option Addr} {n : Int} {w : World} {R R' : Option Addr → Nat → Nat → World → Prop} (h : C_ref22_Stack_Chain sx n w R) (hr : ∀ rP rN rC w1, R rP rN rC w1 → R' rP rN rC w1) : C_ref22_Stack_Chain sx n w R' :=
  Calls.mono h fun _ _ ⟨rP, rN, rC, he, h⟩ => ⟨rP, rN, rC, he, hr rP rN rC _ h⟩

/-- elenchus/elenchusref22.SameChoice -/
def C_ref22_SameChoice (a0 : Int) (a1P : Option Addr) (a1N : Nat) (a1C : Nat) (a2 : Int) (a3 : Int) (a4 : Int) (a5 : Int) (a6 : Int) (a7 : Int) (a8 : Int) (b0 : Int) (b1P : Option Addr) (b1N : Nat) (b1C : Nat) (b2 : Int) (b3 : Int) (b4 : Int) (b5 : Int) (b6 : Int) (b7 : Int) (b8 : Int) (w : World) (R : Bool → World → Prop) : Prop :=
  Calls Try.prog 60 #[.agg #[.int .i64 a0, .slice a1P a1N a1C, .int .i64 a2, .int .i64 a3, .int .i64 a4, .int .i64 a5, .int .i64 a6, .int .i64 a7, .int .i64 a8], .agg #[.int .i64 b0, .slice b1P b1N b1C, .int .i64 b2, .int .i64 b3, .int .i64 b4, .int .i64 b5, .int .i64 b6, .int .i64 b7, .int .i64 b8]] w fun en w1 => ∃ (r : Bool), en = .returned (.bool r) ∧ R r w1
theorem C_ref22_SameChoice.mono {a0 : Int} {a1P : Option Addr} {a1N : Nat} {a1C : Nat} {a2 : Int} {a3 : Int} {a4 : Int} {a5 : Int} {a6 : Int} {a7 : Int} {a8 : Int} {b0 : Int} {b1P : Option Addr} {b1N : Nat} {b1C : Nat} {b2 : Int} {b3 : Int} {b4 : Int} {b5 : Int} {b6 : Int} {b7 : Int} {b8 : Int} {w : World} {R R' : Bool → World → Prop} (h : C_ref22_SameChoice a0 a1P a1N a1C a2 a3 a4 a5 a6 a7 a8 b0 b1P b1N b1C b2 b3 b4 b5 b6 b7 b8 w R) (hr : ∀ r w1, R r w1 → R' r w1) : C_ref22_SameChoice a0 a1P a1N a1C a2 a3 a4 a5 a6 a7 a8 b0 b1P b1N b1C b2 b3 b4 b5 b6 b7 b8 w R' :=
  Calls.mono h fun _ _ ⟨r, he, h⟩ => ⟨r, he, hr r _ h⟩

/-- (elenchus/elenchusref22.Stack).At -/
def C_ref22_Stack_At (sx : Option Addr) (basex : Int) (w : World) (R : Int → World → Prop) : Prop :=
  Calls Try.prog 61 #[.pointer sx, .int .i64 basex] w fun en w1 => ∃ (r : Int), en = .returned (.int .i64 r) ∧ R r w1
theorem C_ref22_Stack_At.mono {sx : Option Addr} {basex : Int} {w : World} {R R' : Int → World → Prop} (h : C_ref22_Stack_At sx basex w R) (hr : ∀ r w1, R r w1 → R' r w1) : C_ref22_Stack_At sx basex w R' :=
  Calls.mono h fun _ _ ⟨r, he, h⟩ => ⟨r, he, hr r _ h⟩

/-- (elenchus/frame.Stack).Change-1 -/
def C_frame_Stack_Change_1 (basex : Int) (c0 : Addr) (c1 : Addr) (w : World) (R : Bool → World → Prop) : Prop :=
  Calls Try.prog 62 #[.int .i64 basex, .pointer (some c0), .pointer (some c1)] w fun en w1 => ∃ (r : Bool), en = .returned (.bool r) ∧ R r w1
theorem C_frame_Stack_Change_1.mono {basex : Int} {c0 : Addr} {c1 : Addr} {w : World} {R R' : Bool → World → Prop} (h : C_frame_Stack_Change_1 basex c0 c1 w R) (hr : ∀ r w1, R r w1 → R' r w1) : C_frame_Stack_Change_1 basex c0 c1 w R' :=
  Calls.mono h fun _ _ ⟨r, he, h⟩ => ⟨r, he, hr r _ h⟩

/-- (elenchus/frame.Stack).kept2 -/
def C_frame_Stack_kept2 (sx : Option Addr) (w : World) (R : Int → World → Prop) : Prop :=
  Calls Try.prog 63 #[.pointer sx] w fun en w1 => ∃ (r : Int), en = .returned (.int .i64 r) ∧ R r w1
theorem C_frame_Stack_kept2.mono {sx : Option Addr} {w : World} {R R' : Int → World → Prop} (h : C_frame_Stack_kept2 sx w R) (hr : ∀ r w1, R r w1 → R' r w1) : C_frame_Stack_kept2 sx w R' :=
  Calls.mono h fun _ _ ⟨r, he, h⟩ => ⟨r, he, hr r _ h⟩

/-- (elenchus/frame.Stack).kept -/
def C_frame_Stack_kept (sx : Option Addr) (w : World) (R : Int → World → Prop) : Prop :=
  Calls Try.prog 64 #[.pointer sx] w fun en w1 => ∃ (r : Int), en = .returned (.int .i64 r) ∧ R r w1
theorem C_frame_Stack_kept.mono {sx : Option Addr} {w : World} {R R' : Int → World → Prop} (h : C_frame_Stack_kept sx w R) (hr : ∀ r w1, R r w1 → R' r w1) : C_frame_Stack_kept sx w R' :=
  Calls.mono h fun _ _ ⟨r, he, h⟩ => ⟨r, he, hr r _ h⟩

/-- (elenchus/frame.Stack).word -/
def C_frame_Stack_word (sx : Option Addr) (i : Int) (w : World) (R : Int → World → Prop) : Prop :=
  Calls Try.prog 65 #[.pointer sx, .int .i64 i] w fun en w1 => ∃ (r : Int), en = .returned (.int .i64 r) ∧ R r w1
theorem C_frame_Stack_word.mono {sx : Option Addr} {i : Int} {w : World} {R R' : Int → World → Prop} (h : C_frame_Stack_word sx i w R) (hr : ∀ r w1, R r w1 → R' r w1) : C_frame_Stack_word sx i w R' :=
  Calls.mono h fun _ _ ⟨r, he, h⟩ => ⟨r, he, hr r _ h⟩

/-- (elenchus/room.Room).note -/
def C_room_Room_note (m : Option Addr) (w : World) (R : World → Prop) : Prop :=
  Calls Try.prog 66 #[.pointer m] w fun en w1 => en = .returned (.tuple #[]) ∧ R w1
theorem C_room_Room_note.mono {m : Option Addr} {w : World} {R R' : World → Prop} (h : C_room_Room_note m w R) (hr : ∀ w1, R w1 → R' w1) : C_room_Room_note m w R' :=
  Calls.mono h fun _ _ ⟨he, h⟩ => ⟨he, hr _ h⟩

/-- (elenchus/room.Room).has -/
def C_room_Room_has (m : Option Addr) (i : Int) (w : World) (R : Int → World → Prop) : Prop :=
  Calls Try.prog 67 #[.pointer m, .int .i64 i] w fun en w1 => ∃ (r : Int), en = .returned (.int .i64 r) ∧ R r w1
theorem C_room_Room_has.mono {m : Option Addr} {i : Int} {w : World} {R R' : Int → World → Prop} (h : C_room_Room_has m i w R) (hr : ∀ r w1, R r w1 → R' r w1) : C_room_Room_has m i w R' :=
  Calls.mono h fun _ _ ⟨r, he, h⟩ => ⟨r, he, hr r _ h⟩

/-- (elenchus/elenchusref22.Stack).Top -/
def C_ref22_Stack_Top (sx : Option Addr) (w : World) (R : Int → World → Prop) : Prop :=
  Calls Try.prog 68 #[.pointer sx] w fun en w1 => ∃ (r : Int), en = .returned (.int .i64 r) ∧ R r w1
theorem C_ref22_Stack_Top.mono {sx : Option Addr} {w : World} {R R' : Int → World → Prop} (h : C_ref22_Stack_Top sx w R) (hr : ∀ r w1, R r w1 → R' r w1) : C_ref22_Stack_Top sx w R' :=
  Calls.mono h fun _ _ ⟨r, he, h⟩ => ⟨r, he, hr r _ h⟩

/-- (elenchus/elenchusref22.Stack).kept -/
def C_ref22_Stack_kept (sx : Option Addr) (w : World) (R : Int → World → Prop) : Prop :=
  Calls Try.prog 69 #[.pointer sx] w fun en w1 => ∃ (r : Int), en = .returned (.int .i64 r) ∧ R r w1
theorem C_ref22_Stack_kept.mono {sx : Option Addr} {w : World} {R R' : Int → World → Prop} (h : C_ref22_Stack_kept sx w R) (hr : ∀ r w1, R r w1 → R' r w1) : C_ref22_Stack_kept sx w R' :=
  Calls.mono h fun _ _ ⟨r, he, h⟩ => ⟨r, he, hr r _ h⟩

/-- (elenchus/elenchusref22.Stack).base -/
def C_ref22_Stack_base (sx : Option Addr) (n : Int) (w : World) (R : Int → World → Prop) : Prop :=
  Calls Try.prog 70 #[.pointer sx, .int .i64 n] w fun en w1 => ∃ (r : Int), en = .returned (.int .i64 r) ∧ R r w1
theorem C_ref22_Stack_base.mono {sx : Option Addr} {n : Int} {w : World} {R R' : Int → World → Prop} (h : C_ref22_Stack_base sx n w R) (hr : ∀ r w1, R r w1 → R' r w1) : C_ref22_Stack_base sx n w R' :=
  Calls.mono h fun _ _ ⟨r, he, h⟩ => ⟨r, he, hr r _ h⟩

end Go.Proofs.Ytdmjbkpibgfeiaa
