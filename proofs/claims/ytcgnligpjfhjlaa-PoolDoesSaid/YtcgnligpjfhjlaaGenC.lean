/- The calls of this seat's functions, typed. Printed by a program. -/
import Derived.Test.YtcgnligpjfhjlaaDen6
import Derived.Test.YtcgnligpjfhjlaaProg
namespace Go.Proofs.Ytcgnligpjfhjlaa
open Go Go.D Go.Proofs

theorem seat_ok : AllCallable Try.prog := allCallable_of (by kernel_rfl)
theorem seat_mixed : Try.prog.follows .mixedOrders = true := by kernel_rfl

/-- gosem.cut.init -/
def C_gosem_cut_init  (w : World) (R : World → Prop) : Prop :=
  Calls Try.prog 2 #[] w fun en w1 => en = .returned (.tuple #[]) ∧ R w1
theorem C_gosem_cut_init.mono {w : World} {R R' : World → Prop} (h : C_gosem_cut_init  w R) (hr : ∀ w1, R w1 → R' w1) : C_gosem_cut_init  w R' :=
  Calls.mono h fun _ _ ⟨he, h⟩ => ⟨he, hr _ h⟩

/-- elenchus/elenchuslaw03.PoolOnce -/
def C_law03_PoolOnce (lP : Option Addr) (lN : Nat) (lC : Nat) (w : World) (R : Bool → World → Prop) : Prop :=
  Calls Try.prog 3 #[.slice lP lN lC] w fun en w1 => ∃ (r : Bool), en = .returned (.bool r) ∧ R r w1
theorem C_law03_PoolOnce.mono {lP : Option Addr} {lN : Nat} {lC : Nat} {w : World} {R R' : Bool → World → Prop} (h : C_law03_PoolOnce lP lN lC w R) (hr : ∀ r w1, R r w1 → R' r w1) : C_law03_PoolOnce lP lN lC w R' :=
  Calls.mono h fun _ _ ⟨r, he, h⟩ => ⟨r, he, hr r _ h⟩

/-- elenchus/elenchuslaw03.PoolCounts -/
def C_law03_PoolCounts (lP : Option Addr) (lN : Nat) (lC : Nat) (w : World) (R : Bool → World → Prop) : Prop :=
  Calls Try.prog 4 #[.slice lP lN lC] w fun en w1 => ∃ (r : Bool), en = .returned (.bool r) ∧ R r w1
theorem C_law03_PoolCounts.mono {lP : Option Addr} {lN : Nat} {lC : Nat} {w : World} {R R' : Bool → World → Prop} (h : C_law03_PoolCounts lP lN lC w R) (hr : ∀ r w1, R r w1 → R' r w1) : C_law03_PoolCounts lP lN lC w R' :=
  Calls.mono h fun _ _ ⟨r, he, h⟩ => ⟨r, he, hr r _ h⟩

/-- elenchus/elenchuslaw03.PoolDoes -/
def C_law03_PoolDoes (limitx : Int) (lP : Option Addr) (lN : Nat) (lC : Nat) (w : World) (R : Bool → World → Prop) : Prop :=
  Calls Try.prog 5 #[.int .i64 limitx, .slice lP lN lC] w fun en w1 => ∃ (r : Bool), en = .returned (.bool r) ∧ R r w1
theorem C_law03_PoolDoes.mono {limitx : Int} {lP : Option Addr} {lN : Nat} {lC : Nat} {w : World} {R R' : Bool → World → Prop} (h : C_law03_PoolDoes limitx lP lN lC w R) (hr : ∀ r w1, R r w1 → R' r w1) : C_law03_PoolDoes limitx lP lN lC w R' :=
  Calls.mono h fun _ _ ⟨r, he, h⟩ => ⟨r, he, hr r _ h⟩

/-- elenchus/elenchuslaw03.PoolNobody -/
def C_law03_PoolNobody (o0 : Int) (o1 : Int) (o2 : Int) (w : World) (R : Bool → World → Prop) : Prop :=
  Calls Try.prog 6 #[.agg #[.int .i64 o0, .int .i64 o1, .int .i64 o2]] w fun en w1 => ∃ (r : Bool), en = .returned (.bool r) ∧ R r w1
theorem C_law03_PoolNobody.mono {o0 : Int} {o1 : Int} {o2 : Int} {w : World} {R R' : Bool → World → Prop} (h : C_law03_PoolNobody o0 o1 o2 w R) (hr : ∀ r w1, R r w1 → R' r w1) : C_law03_PoolNobody o0 o1 o2 w R' :=
  Calls.mono h fun _ _ ⟨r, he, h⟩ => ⟨r, he, hr r _ h⟩

/-- elenchus/pool.New -/
def C_pool_New (limitx : Int) (w : World) (R : Option Addr → Int → World → Prop) : Prop :=
  Calls Try.prog 7 #[.int .i64 limitx] w fun en w1 => ∃ (r0 : Option Addr) (r1 : Int), en = .returned (.tuple #[.pointer r0, .int .i64 r1]) ∧ R r0 r1 w1
theorem C_pool_New.mono {limitx : Int} {w : World} {R R' : Option Addr → Int → World → Prop} (h : C_pool_New limitx w R) (hr : ∀ r0 r1 w1, R r0 r1 w1 → R' r0 r1 w1) : C_pool_New limitx w R' :=
  Calls.mono h fun _ _ ⟨r0, r1, he, h⟩ => ⟨r0, r1, he, hr r0 r1 _ h⟩

/-- elenchus/elenchuslaw03.lives -/
def C_law03_lives  (w : World) (R : Bool → World → Prop) : Prop :=
  Calls Try.prog 8 #[] w fun en w1 => ∃ (r : Bool), en = .returned (.bool r) ∧ R r w1
theorem C_law03_lives.mono {w : World} {R R' : Bool → World → Prop} (h : C_law03_lives  w R) (hr : ∀ r w1, R r w1 → R' r w1) : C_law03_lives  w R' :=
  Calls.mono h fun _ _ ⟨r, he, h⟩ => ⟨r, he, hr r _ h⟩

/-- (elenchus/pool.Pool).Take -/
def C_pool_Pool_Take (p : Option Addr) (n : Int) (w : World) (R : Int → Int → World → Prop) : Prop :=
  Calls Try.prog 9 #[.pointer p, .int .i64 n] w fun en w1 => ∃ (r0 : Int) (r1 : Int), en = .returned (.tuple #[.int .i64 r0, .int .i64 r1]) ∧ R r0 r1 w1
theorem C_pool_Pool_Take.mono {p : Option Addr} {n : Int} {w : World} {R R' : Int → Int → World → Prop} (h : C_pool_Pool_Take p n w R) (hr : ∀ r0 r1 w1, R r0 r1 w1 → R' r0 r1 w1) : C_pool_Pool_Take p n w R' :=
  Calls.mono h fun _ _ ⟨r0, r1, he, h⟩ => ⟨r0, r1, he, hr r0 r1 _ h⟩

/-- (elenchus/pool.Pool).Starts -/
def C_pool_Pool_Starts (p : Option Addr) (w : World) (R : Option Addr → Nat → Nat → World → Prop) : Prop :=
  Calls Try.prog 10 #[.pointer p] w fun en w1 => ∃ (rP : Option Addr) (rN : Nat) (rC : Nat), en = .returned (.slice rP rN rC) ∧ R rP rN rC w1
theorem C_pool_Pool_Starts.mono {p : Option Addr} {w : World} {R R' : Option Addr → Nat → Nat → World → Prop} (h : C_pool_Pool_Starts p w R) (hr : ∀ rP rN rC w1, R rP rN rC w1 → R' rP rN rC w1) : C_pool_Pool_Starts p w R' :=
  Calls.mono h fun _ _ ⟨rP, rN, rC, he, h⟩ => ⟨rP, rN, rC, he, hr rP rN rC _ h⟩

/-- (elenchus/pool.Pool).Give -/
def C_pool_Pool_Give (p : Option Addr) (atx : Int) (n : Int) (w : World) (R : Int → World → Prop) : Prop :=
  Calls Try.prog 11 #[.pointer p, .int .i64 atx, .int .i64 n] w fun en w1 => ∃ (r : Int), en = .returned (.int .i64 r) ∧ R r w1
theorem C_pool_Pool_Give.mono {p : Option Addr} {atx : Int} {n : Int} {w : World} {R R' : Int → World → Prop} (h : C_pool_Pool_Give p atx n w R) (hr : ∀ r w1, R r w1 → R' r w1) : C_pool_Pool_Give p atx n w R' :=
  Calls.mono h fun _ _ ⟨r, he, h⟩ => ⟨r, he, hr r _ h⟩

/-- (elenchus/pool.Pool).Open -/
def C_pool_Pool_Open (p : Option Addr) (w : World) (R : Int → World → Prop) : Prop :=
  Calls Try.prog 12 #[.pointer p] w fun en w1 => ∃ (r : Int), en = .returned (.int .i64 r) ∧ R r w1
theorem C_pool_Pool_Open.mono {p : Option Addr} {w : World} {R R' : Int → World → Prop} (h : C_pool_Pool_Open p w R) (hr : ∀ r w1, R r w1 → R' r w1) : C_pool_Pool_Open p w R' :=
  Calls.mono h fun _ _ ⟨r, he, h⟩ => ⟨r, he, hr r _ h⟩

/-- (elenchus/pool.Pool).Close -/
def C_pool_Pool_Close (p : Option Addr) (w : World) (R : Int → World → Prop) : Prop :=
  Calls Try.prog 13 #[.pointer p] w fun en w1 => ∃ (r : Int), en = .returned (.int .i64 r) ∧ R r w1
theorem C_pool_Pool_Close.mono {p : Option Addr} {w : World} {R R' : Int → World → Prop} (h : C_pool_Pool_Close p w R) (hr : ∀ r w1, R r w1 → R' r w1) : C_pool_Pool_Close p w R' :=
  Calls.mono h fun _ _ ⟨r, he, h⟩ => ⟨r, he, hr r _ h⟩

/-- (elenchus/pool.Pool).Back -/
def C_pool_Pool_Back (p : Option Addr) (w : World) (R : Int → World → Prop) : Prop :=
  Calls Try.prog 14 #[.pointer p] w fun en w1 => ∃ (r : Int), en = .returned (.int .i64 r) ∧ R r w1
theorem C_pool_Pool_Back.mono {p : Option Addr} {w : World} {R R' : Int → World → Prop} (h : C_pool_Pool_Back p w R) (hr : ∀ r w1, R r w1 → R' r w1) : C_pool_Pool_Back p w R' :=
  Calls.mono h fun _ _ ⟨r, he, h⟩ => ⟨r, he, hr r _ h⟩

/-- (elenchus/pool.Pool).Top -/
def C_pool_Pool_Top (p : Option Addr) (w : World) (R : Int → World → Prop) : Prop :=
  Calls Try.prog 15 #[.pointer p] w fun en w1 => ∃ (r : Int), en = .returned (.int .i64 r) ∧ R r w1
theorem C_pool_Pool_Top.mono {p : Option Addr} {w : World} {R R' : Int → World → Prop} (h : C_pool_Pool_Top p w R) (hr : ∀ r w1, R r w1 → R' r w1) : C_pool_Pool_Top p w R' :=
  Calls.mono h fun _ _ ⟨r, he, h⟩ => ⟨r, he, hr r _ h⟩

/-- (elenchus/pool.Pool).Free -/
def C_pool_Pool_Free (p : Option Addr) (atx : Int) (w : World) (R : Bool → World → Prop) : Prop :=
  Calls Try.prog 16 #[.pointer p, .int .i64 atx] w fun en w1 => ∃ (r : Bool), en = .returned (.bool r) ∧ R r w1
theorem C_pool_Pool_Free.mono {p : Option Addr} {atx : Int} {w : World} {R R' : Bool → World → Prop} (h : C_pool_Pool_Free p atx w R) (hr : ∀ r w1, R r w1 → R' r w1) : C_pool_Pool_Free p atx w R' :=
  Calls.mono h fun _ _ ⟨r, he, h⟩ => ⟨r, he, hr r _ h⟩

/-- (elenchus/pool.Pool).Left -/
def C_pool_Pool_Left (p : Option Addr) (w : World) (R : Int → World → Prop) : Prop :=
  Calls Try.prog 17 #[.pointer p] w fun en w1 => ∃ (r : Int), en = .returned (.int .i64 r) ∧ R r w1
theorem C_pool_Pool_Left.mono {p : Option Addr} {w : World} {R R' : Int → World → Prop} (h : C_pool_Pool_Left p w R) (hr : ∀ r w1, R r w1 → R' r w1) : C_pool_Pool_Left p w R' :=
  Calls.mono h fun _ _ ⟨r, he, h⟩ => ⟨r, he, hr r _ h⟩

/-- (elenchus/pool.Pool).Runs -/
def C_pool_Pool_Runs (p : Option Addr) (segment : Int) (w : World) (R : Option Addr → Nat → Nat → World → Prop) : Prop :=
  Calls Try.prog 18 #[.pointer p, .int .i64 segment] w fun en w1 => ∃ (rP : Option Addr) (rN : Nat) (rC : Nat), en = .returned (.slice rP rN rC) ∧ R rP rN rC w1
theorem C_pool_Pool_Runs.mono {p : Option Addr} {segment : Int} {w : World} {R R' : Option Addr → Nat → Nat → World → Prop} (h : C_pool_Pool_Runs p segment w R) (hr : ∀ rP rN rC w1, R rP rN rC w1 → R' rP rN rC w1) : C_pool_Pool_Runs p segment w R' :=
  Calls.mono h fun _ _ ⟨rP, rN, rC, he, h⟩ => ⟨rP, rN, rC, he, hr rP rN rC _ h⟩

/-- elenchus/elenchusref03.SameInts -/
def C_ref03_SameInts (aP : Option Addr) (aN : Nat) (aC : Nat) (bP : Option Addr) (bN : Nat) (bC : Nat) (w : World) (R : Bool → World → Prop) : Prop :=
  Calls Try.prog 19 #[.slice aP aN aC, .slice bP bN bC] w fun en w1 => ∃ (r : Bool), en = .returned (.bool r) ∧ R r w1
theorem C_ref03_SameInts.mono {aP : Option Addr} {aN : Nat} {aC : Nat} {bP : Option Addr} {bN : Nat} {bC : Nat} {w : World} {R R' : Bool → World → Prop} (h : C_ref03_SameInts aP aN aC bP bN bC w R) (hr : ∀ r w1, R r w1 → R' r w1) : C_ref03_SameInts aP aN aC bP bN bC w R' :=
  Calls.mono h fun _ _ ⟨r, he, h⟩ => ⟨r, he, hr r _ h⟩

/-- elenchus/elenchusref03.SameRuns -/
def C_ref03_SameRuns (aP : Option Addr) (aN : Nat) (aC : Nat) (bP : Option Addr) (bN : Nat) (bC : Nat) (w : World) (R : Bool → World → Prop) : Prop :=
  Calls Try.prog 20 #[.slice aP aN aC, .slice bP bN bC] w fun en w1 => ∃ (r : Bool), en = .returned (.bool r) ∧ R r w1
theorem C_ref03_SameRuns.mono {aP : Option Addr} {aN : Nat} {aC : Nat} {bP : Option Addr} {bN : Nat} {bC : Nat} {w : World} {R R' : Bool → World → Prop} (h : C_ref03_SameRuns aP aN aC bP bN bC w R) (hr : ∀ r w1, R r w1 → R' r w1) : C_ref03_SameRuns aP aN aC bP bN bC w R' :=
  Calls.mono h fun _ _ ⟨r, he, h⟩ => ⟨r, he, hr r _ h⟩

/-- elenchus/elenchusref03.New -/
def C_ref03_New (limitx : Int) (w : World) (R : Option Addr → World → Prop) : Prop :=
  Calls Try.prog 21 #[.int .i64 limitx] w fun en w1 => ∃ (r : Option Addr), en = .returned (.pointer r) ∧ R r w1
theorem C_ref03_New.mono {limitx : Int} {w : World} {R R' : Option Addr → World → Prop} (h : C_ref03_New limitx w R) (hr : ∀ r w1, R r w1 → R' r w1) : C_ref03_New limitx w R' :=
  Calls.mono h fun _ _ ⟨r, he, h⟩ => ⟨r, he, hr r _ h⟩

/-- elenchus/elenchuslaw03.do -/
def C_law03_do (p : Option Addr) (x : Option Addr) (o0 : Int) (o1 : Int) (o2 : Int) (w : World) (R : Bool → World → Prop) : Prop :=
  Calls Try.prog 22 #[.pointer p, .pointer x, .agg #[.int .i64 o0, .int .i64 o1, .int .i64 o2]] w fun en w1 => ∃ (r : Bool), en = .returned (.bool r) ∧ R r w1
theorem C_law03_do.mono {p : Option Addr} {x : Option Addr} {o0 : Int} {o1 : Int} {o2 : Int} {w : World} {R R' : Bool → World → Prop} (h : C_law03_do p x o0 o1 o2 w R) (hr : ∀ r w1, R r w1 → R' r w1) : C_law03_do p x o0 o1 o2 w R' :=
  Calls.mono h fun _ _ ⟨r, he, h⟩ => ⟨r, he, hr r _ h⟩

/-- elenchus/elenchuslaw03.alike -/
def C_law03_alike (p : Option Addr) (x : Option Addr) (atx : Int) (w : World) (R : Bool → World → Prop) : Prop :=
  Calls Try.prog 23 #[.pointer p, .pointer x, .int .i64 atx] w fun en w1 => ∃ (r : Bool), en = .returned (.bool r) ∧ R r w1
theorem C_law03_alike.mono {p : Option Addr} {x : Option Addr} {atx : Int} {w : World} {R R' : Bool → World → Prop} (h : C_law03_alike p x atx w R) (hr : ∀ r w1, R r w1 → R' r w1) : C_law03_alike p x atx w R' :=
  Calls.mono h fun _ _ ⟨r, he, h⟩ => ⟨r, he, hr r _ h⟩

/-- (elenchus/pool.Pool).Limit -/
def C_pool_Pool_Limit (p : Option Addr) (w : World) (R : Int → World → Prop) : Prop :=
  Calls Try.prog 24 #[.pointer p] w fun en w1 => ∃ (r : Int), en = .returned (.int .i64 r) ∧ R r w1
theorem C_pool_Pool_Limit.mono {p : Option Addr} {w : World} {R R' : Int → World → Prop} (h : C_pool_Pool_Limit p w R) (hr : ∀ r w1, R r w1 → R' r w1) : C_pool_Pool_Limit p w R' :=
  Calls.mono h fun _ _ ⟨r, he, h⟩ => ⟨r, he, hr r _ h⟩

/-- (elenchus/pool.Pool).Sweep -/
def C_pool_Pool_Sweep (p : Option Addr) (livex : Value) (w : World) (R : Int → World → Prop) : Prop :=
  Calls Try.prog 25 #[.pointer p, livex] w fun en w1 => ∃ (r : Int), en = .returned (.int .i64 r) ∧ R r w1
theorem C_pool_Pool_Sweep.mono {p : Option Addr} {livex : Value} {w : World} {R R' : Int → World → Prop} (h : C_pool_Pool_Sweep p livex w R) (hr : ∀ r w1, R r w1 → R' r w1) : C_pool_Pool_Sweep p livex w R' :=
  Calls.mono h fun _ _ ⟨r, he, h⟩ => ⟨r, he, hr r _ h⟩

/-- elenchus/elenchuslaw03.dead -/
def C_law03_dead (atx : Int) (w : World) (R : Bool → World → Prop) : Prop :=
  Calls Try.prog 26 #[.int .i64 atx] w fun en w1 => ∃ (r : Bool), en = .returned (.bool r) ∧ R r w1
theorem C_law03_dead.mono {atx : Int} {w : World} {R R' : Bool → World → Prop} (h : C_law03_dead atx w R) (hr : ∀ r w1, R r w1 → R' r w1) : C_law03_dead atx w R' :=
  Calls.mono h fun _ _ ⟨r, he, h⟩ => ⟨r, he, hr r _ h⟩

/-- (elenchus/pool.Pool).Segment -/
def C_pool_Pool_Segment (p : Option Addr) (atx : Int) (w : World) (R : Int → World → Prop) : Prop :=
  Calls Try.prog 27 #[.pointer p, .int .i64 atx] w fun en w1 => ∃ (r : Int), en = .returned (.int .i64 r) ∧ R r w1
theorem C_pool_Pool_Segment.mono {p : Option Addr} {atx : Int} {w : World} {R R' : Int → World → Prop} (h : C_pool_Pool_Segment p atx w R) (hr : ∀ r w1, R r w1 → R' r w1) : C_pool_Pool_Segment p atx w R' :=
  Calls.mono h fun _ _ ⟨r, he, h⟩ => ⟨r, he, hr r _ h⟩

/-- (elenchus/pool.Pool).made -/
def C_pool_Pool_made (p : Option Addr) (w : World) (R : Bool → World → Prop) : Prop :=
  Calls Try.prog 28 #[.pointer p] w fun en w1 => ∃ (r : Bool), en = .returned (.bool r) ∧ R r w1
theorem C_pool_Pool_made.mono {p : Option Addr} {w : World} {R R' : Bool → World → Prop} (h : C_pool_Pool_made p w R) (hr : ∀ r w1, R r w1 → R' r w1) : C_pool_Pool_made p w R' :=
  Calls.mono h fun _ _ ⟨r, he, h⟩ => ⟨r, he, hr r _ h⟩

/-- (elenchus/pool.Pool).last -/
def C_pool_Pool_last (p : Option Addr) (w : World) (R : Option Addr → World → Prop) : Prop :=
  Calls Try.prog 29 #[.pointer p] w fun en w1 => ∃ (r : Option Addr), en = .returned (.pointer r) ∧ R r w1
theorem C_pool_Pool_last.mono {p : Option Addr} {w : World} {R R' : Option Addr → World → Prop} (h : C_pool_Pool_last p w R) (hr : ∀ r w1, R r w1 → R' r w1) : C_pool_Pool_last p w R' :=
  Calls.mono h fun _ _ ⟨r, he, h⟩ => ⟨r, he, hr r _ h⟩

/-- slices.IndexFunc[[]elenchus/api.Row,elenchus/api.Row] -/
def C_slices_IndexFunc (sP : Option Addr) (sN : Nat) (sC : Nat) (fx : Value) (w : World) (R : Int → World → Prop) : Prop :=
  Calls Try.prog 30 #[.slice sP sN sC, fx] w fun en w1 => ∃ (r : Int), en = .returned (.int .i64 r) ∧ R r w1
theorem C_slices_IndexFunc.mono {sP : Option Addr} {sN : Nat} {sC : Nat} {fx : Value} {w : World} {R R' : Int → World → Prop} (h : C_slices_IndexFunc sP sN sC fx w R) (hr : ∀ r w1, R r w1 → R' r w1) : C_slices_IndexFunc sP sN sC fx w R' :=
  Calls.mono h fun _ _ ⟨r, he, h⟩ => ⟨r, he, hr r _ h⟩

/-- (elenchus/pool.Pool).Take-1 -/
def C_pool_Pool_Take_1 (r0 : Int) (r1 : Int) (c0 : Addr) (w : World) (R : Bool → World → Prop) : Prop :=
  Calls Try.prog 31 #[.agg #[.int .i64 r0, .int .i64 r1], .pointer (some c0)] w fun en w1 => ∃ (r : Bool), en = .returned (.bool r) ∧ R r w1
theorem C_pool_Pool_Take_1.mono {r0 : Int} {r1 : Int} {c0 : Addr} {w : World} {R R' : Bool → World → Prop} (h : C_pool_Pool_Take_1 r0 r1 c0 w R) (hr : ∀ r w1, R r w1 → R' r w1) : C_pool_Pool_Take_1 r0 r1 c0 w R' :=
  Calls.mono h fun _ _ ⟨r, he, h⟩ => ⟨r, he, hr r _ h⟩

/-- slices.Delete[[]elenchus/api.Row,elenchus/api.Row] -/
def C_slices_Delete (sP : Option Addr) (sN : Nat) (sC : Nat) (i : Int) (j : Int) (w : World) (R : Option Addr → Nat → Nat → World → Prop) : Prop :=
  Calls Try.prog 32 #[.slice sP sN sC, .int .i64 i, .int .i64 j] w fun en w1 => ∃ (rP : Option Addr) (rN : Nat) (rC : Nat), en = .returned (.slice rP rN rC) ∧ R rP rN rC w1
theorem C_slices_Delete.mono {sP : Option Addr} {sN : Nat} {sC : Nat} {i : Int} {j : Int} {w : World} {R R' : Option Addr → Nat → Nat → World → Prop} (h : C_slices_Delete sP sN sC i j w R) (hr : ∀ rP rN rC w1, R rP rN rC w1 → R' rP rN rC w1) : C_slices_Delete sP sN sC i j w R' :=
  Calls.mono h fun _ _ ⟨rP, rN, rC, he, h⟩ => ⟨rP, rN, rC, he, hr rP rN rC _ h⟩

/-- (elenchus/pool.segment).meets -/
def C_pool_segment_meets (sx : Option Addr) (atx : Int) (n : Int) (w : World) (R : Bool → World → Prop) : Prop :=
  Calls Try.prog 33 #[.pointer sx, .int .i64 atx, .int .i64 n] w fun en w1 => ∃ (r : Bool), en = .returned (.bool r) ∧ R r w1
theorem C_pool_segment_meets.mono {sx : Option Addr} {atx : Int} {n : Int} {w : World} {R R' : Bool → World → Prop} (h : C_pool_segment_meets sx atx n w R) (hr : ∀ r w1, R r w1 → R' r w1) : C_pool_segment_meets sx atx n w R' :=
  Calls.mono h fun _ _ ⟨r, he, h⟩ => ⟨r, he, hr r _ h⟩

/-- (elenchus/pool.segment).give -/
def C_pool_segment_give (sx : Option Addr) (atx : Int) (n : Int) (w : World) (R : World → Prop) : Prop :=
  Calls Try.prog 34 #[.pointer sx, .int .i64 atx, .int .i64 n] w fun en w1 => en = .returned (.tuple #[]) ∧ R w1
theorem C_pool_segment_give.mono {sx : Option Addr} {atx : Int} {n : Int} {w : World} {R R' : World → Prop} (h : C_pool_segment_give sx atx n w R) (hr : ∀ w1, R w1 → R' w1) : C_pool_segment_give sx atx n w R' :=
  Calls.mono h fun _ _ ⟨he, h⟩ => ⟨he, hr _ h⟩

/-- (elenchus/pool.segment).join -/
def C_pool_segment_join (sx : Option Addr) (i : Int) (w : World) (R : World → Prop) : Prop :=
  Calls Try.prog 35 #[.pointer sx, .int .i64 i] w fun en w1 => en = .returned (.tuple #[]) ∧ R w1
theorem C_pool_segment_join.mono {sx : Option Addr} {i : Int} {w : World} {R R' : World → Prop} (h : C_pool_segment_join sx i w R) (hr : ∀ w1, R w1 → R' w1) : C_pool_segment_join sx i w R' :=
  Calls.mono h fun _ _ ⟨he, h⟩ => ⟨he, hr _ h⟩

/-- slices.Clone[[]elenchus/api.Row,elenchus/api.Row] -/
def C_slices_Clone (sP : Option Addr) (sN : Nat) (sC : Nat) (w : World) (R : Option Addr → Nat → Nat → World → Prop) : Prop :=
  Calls Try.prog 36 #[.slice sP sN sC] w fun en w1 => ∃ (rP : Option Addr) (rN : Nat) (rC : Nat), en = .returned (.slice rP rN rC) ∧ R rP rN rC w1
theorem C_slices_Clone.mono {sP : Option Addr} {sN : Nat} {sC : Nat} {w : World} {R R' : Option Addr → Nat → Nat → World → Prop} (h : C_slices_Clone sP sN sC w R) (hr : ∀ rP rN rC w1, R rP rN rC w1 → R' rP rN rC w1) : C_slices_Clone sP sN sC w R' :=
  Calls.mono h fun _ _ ⟨rP, rN, rC, he, h⟩ => ⟨rP, rN, rC, he, hr rP rN rC _ h⟩

/-- (elenchus/elenchusref03.Pool).Take -/
def C_ref03_Pool_Take (p : Option Addr) (n : Int) (w : World) (R : Int → Int → World → Prop) : Prop :=
  Calls Try.prog 37 #[.pointer p, .int .i64 n] w fun en w1 => ∃ (r0 : Int) (r1 : Int), en = .returned (.tuple #[.int .i64 r0, .int .i64 r1]) ∧ R r0 r1 w1
theorem C_ref03_Pool_Take.mono {p : Option Addr} {n : Int} {w : World} {R R' : Int → Int → World → Prop} (h : C_ref03_Pool_Take p n w R) (hr : ∀ r0 r1 w1, R r0 r1 w1 → R' r0 r1 w1) : C_ref03_Pool_Take p n w R' :=
  Calls.mono h fun _ _ ⟨r0, r1, he, h⟩ => ⟨r0, r1, he, hr r0 r1 _ h⟩

/-- (elenchus/elenchusref03.Pool).Give -/
def C_ref03_Pool_Give (p : Option Addr) (atx : Int) (n : Int) (w : World) (R : Int → World → Prop) : Prop :=
  Calls Try.prog 38 #[.pointer p, .int .i64 atx, .int .i64 n] w fun en w1 => ∃ (r : Int), en = .returned (.int .i64 r) ∧ R r w1
theorem C_ref03_Pool_Give.mono {p : Option Addr} {atx : Int} {n : Int} {w : World} {R R' : Int → World → Prop} (h : C_ref03_Pool_Give p atx n w R) (hr : ∀ r w1, R r w1 → R' r w1) : C_ref03_Pool_Give p atx n w R' :=
  Calls.mono h fun _ _ ⟨r, he, h⟩ => ⟨r, he, hr r _ h⟩

/-- (elenchus/elenchusref03.Pool).Open -/
def C_ref03_Pool_Open (p : Option Addr) (w : World) (R : Int → World → Prop) : Prop :=
  Calls Try.prog 39 #[.pointer p] w fun en w1 => ∃ (r : Int), en = .returned (.int .i64 r) ∧ R r w1
theorem C_ref03_Pool_Open.mono {p : Option Addr} {w : World} {R R' : Int → World → Prop} (h : C_ref03_Pool_Open p w R) (hr : ∀ r w1, R r w1 → R' r w1) : C_ref03_Pool_Open p w R' :=
  Calls.mono h fun _ _ ⟨r, he, h⟩ => ⟨r, he, hr r _ h⟩

/-- (elenchus/elenchusref03.Pool).Close -/
def C_ref03_Pool_Close (p : Option Addr) (w : World) (R : Int → World → Prop) : Prop :=
  Calls Try.prog 40 #[.pointer p] w fun en w1 => ∃ (r : Int), en = .returned (.int .i64 r) ∧ R r w1
theorem C_ref03_Pool_Close.mono {p : Option Addr} {w : World} {R R' : Int → World → Prop} (h : C_ref03_Pool_Close p w R) (hr : ∀ r w1, R r w1 → R' r w1) : C_ref03_Pool_Close p w R' :=
  Calls.mono h fun _ _ ⟨r, he, h⟩ => ⟨r, he, hr r _ h⟩

/-- (elenchus/elenchusref03.Pool).Back -/
def C_ref03_Pool_Back (p : Option Addr) (w : World) (R : World → Prop) : Prop :=
  Calls Try.prog 41 #[.pointer p] w fun en w1 => en = .returned (.tuple #[]) ∧ R w1
theorem C_ref03_Pool_Back.mono {p : Option Addr} {w : World} {R R' : World → Prop} (h : C_ref03_Pool_Back p w R) (hr : ∀ w1, R w1 → R' w1) : C_ref03_Pool_Back p w R' :=
  Calls.mono h fun _ _ ⟨he, h⟩ => ⟨he, hr _ h⟩

/-- elenchus/elenchuslaw03.sweep -/
def C_law03_sweep (p : Option Addr) (x : Option Addr) (n : Int) (w : World) (R : Bool → World → Prop) : Prop :=
  Calls Try.prog 42 #[.pointer p, .pointer x, .int .i64 n] w fun en w1 => ∃ (r : Bool), en = .returned (.bool r) ∧ R r w1
theorem C_law03_sweep.mono {p : Option Addr} {x : Option Addr} {n : Int} {w : World} {R R' : Bool → World → Prop} (h : C_law03_sweep p x n w R) (hr : ∀ r w1, R r w1 → R' r w1) : C_law03_sweep p x n w R' :=
  Calls.mono h fun _ _ ⟨r, he, h⟩ => ⟨r, he, hr r _ h⟩

/-- (elenchus/elenchusref03.Pool).Left -/
def C_ref03_Pool_Left (p : Option Addr) (w : World) (R : Int → World → Prop) : Prop :=
  Calls Try.prog 43 #[.pointer p] w fun en w1 => ∃ (r : Int), en = .returned (.int .i64 r) ∧ R r w1
theorem C_ref03_Pool_Left.mono {p : Option Addr} {w : World} {R R' : Int → World → Prop} (h : C_ref03_Pool_Left p w R) (hr : ∀ r w1, R r w1 → R' r w1) : C_ref03_Pool_Left p w R' :=
  Calls.mono h fun _ _ ⟨r, he, h⟩ => ⟨r, he, hr r _ h⟩

/-- (elenchus/elenchusref03.Pool).Segment -/
def C_ref03_Pool_Segment (p : Option Addr) (atx : Int) (w : World) (R : Int → World → Prop) : Prop :=
  Calls Try.prog 44 #[.pointer p, .int .i64 atx] w fun en w1 => ∃ (r : Int), en = .returned (.int .i64 r) ∧ R r w1
theorem C_ref03_Pool_Segment.mono {p : Option Addr} {atx : Int} {w : World} {R R' : Int → World → Prop} (h : C_ref03_Pool_Segment p atx w R) (hr : ∀ r w1, R r w1 → R' r w1) : C_ref03_Pool_Segment p atx w R' :=
  Calls.mono h fun _ _ ⟨r, he, h⟩ => ⟨r, he, hr r _ h⟩

/-- (elenchus/elenchusref03.Pool).Runs -/
def C_ref03_Pool_Runs (p : Option Addr) (sx : Int) (w : World) (R : Option Addr → Nat → Nat → World → Prop) : Prop :=
  Calls Try.prog 45 #[.pointer p, .int .i64 sx] w fun en w1 => ∃ (rP : Option Addr) (rN : Nat) (rC : Nat), en = .returned (.slice rP rN rC) ∧ R rP rN rC w1
theorem C_ref03_Pool_Runs.mono {p : Option Addr} {sx : Int} {w : World} {R R' : Option Addr → Nat → Nat → World → Prop} (h : C_ref03_Pool_Runs p sx w R) (hr : ∀ rP rN rC w1, R rP rN rC w1 → R' rP rN rC w1) : C_ref03_Pool_Runs p sx w R' :=
  Calls.mono h fun _ _ ⟨rP, rN, rC, he, h⟩ => ⟨rP, rN, rC, he, hr rP rN rC _ h⟩

/-- (elenchus/pool.Pool).sweep -/
def C_pool_Pool_sweep (p : Option Addr) (i : Int) (livex : Value) (w : World) (R : Int → World → Prop) : Prop :=
  Calls Try.prog 46 #[.pointer p, .int .i64 i, livex] w fun en w1 => ∃ (r : Int), en = .returned (.int .i64 r) ∧ R r w1
theorem C_pool_Pool_sweep.mono {p : Option Addr} {i : Int} {livex : Value} {w : World} {R R' : Int → World → Prop} (h : C_pool_Pool_sweep p i livex w R) (hr : ∀ r w1, R r w1 → R' r w1) : C_pool_Pool_sweep p i livex w R' :=
  Calls.mono h fun _ _ ⟨r, he, h⟩ => ⟨r, he, hr r _ h⟩

/-- slices.BinarySearchFunc[[]elenchus/pool.segment,elenchus/pool.segment,int] -/
def C_slices_BinarySearchFunc (xP : Option Addr) (xN : Nat) (xC : Nat) (target : Int) (cmp : Value) (w : World) (R : Int → Bool → World → Prop) : Prop :=
  Calls Try.prog 47 #[.slice xP xN xC, .int .i64 target, cmp] w fun en w1 => ∃ (r0 : Int) (r1 : Bool), en = .returned (.tuple #[.int .i64 r0, .bool r1]) ∧ R r0 r1 w1
theorem C_slices_BinarySearchFunc.mono {xP : Option Addr} {xN : Nat} {xC : Nat} {target : Int} {cmp : Value} {w : World} {R R' : Int → Bool → World → Prop} (h : C_slices_BinarySearchFunc xP xN xC target cmp w R) (hr : ∀ r0 r1 w1, R r0 r1 w1 → R' r0 r1 w1) : C_slices_BinarySearchFunc xP xN xC target cmp w R' :=
  Calls.mono h fun _ _ ⟨r0, r1, he, h⟩ => ⟨r0, r1, he, hr r0 r1 _ h⟩

/-- (elenchus/pool.Pool).Segment-1 -/
def C_pool_Pool_Segment_1 (s0x : Int) (s1P : Option Addr) (s1N : Nat) (s1C : Nat) (atx : Int) (w : World) (R : Int → World → Prop) : Prop :=
  Calls Try.prog 48 #[.agg #[.int .i64 s0x, .slice s1P s1N s1C], .int .i64 atx] w fun en w1 => ∃ (r : Int), en = .returned (.int .i64 r) ∧ R r w1
theorem C_pool_Pool_Segment_1.mono {s0x : Int} {s1P : Option Addr} {s1N : Nat} {s1C : Nat} {atx : Int} {w : World} {R R' : Int → World → Prop} (h : C_pool_Pool_Segment_1 s0x s1P s1N s1C atx w R) (hr : ∀ r w1, R r w1 → R' r w1) : C_pool_Pool_Segment_1 s0x s1P s1N s1C atx w R' :=
  Calls.mono h fun _ _ ⟨r, he, h⟩ => ⟨r, he, hr r _ h⟩

/-- cmp.Compare[int] -/
def C_cmp_Compare (x : Int) (y : Int) (w : World) (R : Int → World → Prop) : Prop :=
  Calls Try.prog 49 #[.int .i64 x, .int .i64 y] w fun en w1 => ∃ (r : Int), en = .returned (.int .i64 r) ∧ R r w1
theorem C_cmp_Compare.mono {x : Int} {y : Int} {w : World} {R R' : Int → World → Prop} (h : C_cmp_Compare x y w R) (hr : ∀ r w1, R r w1 → R' r w1) : C_cmp_Compare x y w R' :=
  Calls.mono h fun _ _ ⟨r, he, h⟩ => ⟨r, he, hr r _ h⟩

/-- (elenchus/pool.segment).place -/
def C_pool_segment_place (sx : Option Addr) (atx : Int) (w : World) (R : Int → World → Prop) : Prop :=
  Calls Try.prog 50 #[.pointer sx, .int .i64 atx] w fun en w1 => ∃ (r : Int), en = .returned (.int .i64 r) ∧ R r w1
theorem C_pool_segment_place.mono {sx : Option Addr} {atx : Int} {w : World} {R R' : Int → World → Prop} (h : C_pool_segment_place sx atx w R) (hr : ∀ r w1, R r w1 → R' r w1) : C_pool_segment_place sx atx w R' :=
  Calls.mono h fun _ _ ⟨r, he, h⟩ => ⟨r, he, hr r _ h⟩

/-- slices.Insert[[]elenchus/api.Row,elenchus/api.Row] -/
def C_slices_Insert (sP : Option Addr) (sN : Nat) (sC : Nat) (i : Int) (vP : Option Addr) (vN : Nat) (vC : Nat) (w : World) (R : Option Addr → Nat → Nat → World → Prop) : Prop :=
  Calls Try.prog 51 #[.slice sP sN sC, .int .i64 i, .slice vP vN vC] w fun en w1 => ∃ (rP : Option Addr) (rN : Nat) (rC : Nat), en = .returned (.slice rP rN rC) ∧ R rP rN rC w1
theorem C_slices_Insert.mono {sP : Option Addr} {sN : Nat} {sC : Nat} {i : Int} {vP : Option Addr} {vN : Nat} {vC : Nat} {w : World} {R R' : Option Addr → Nat → Nat → World → Prop} (h : C_slices_Insert sP sN sC i vP vN vC w R) (hr : ∀ rP rN rC w1, R rP rN rC w1 → R' rP rN rC w1) : C_slices_Insert sP sN sC i vP vN vC w R' :=
  Calls.mono h fun _ _ ⟨rP, rN, rC, he, h⟩ => ⟨rP, rN, rC, he, hr rP rN rC _ h⟩

/-- (elenchus/elenchuslaw03.sweeper).live -/
def C_law03_sweeper_live (sx : Option Addr) (atx : Int) (w : World) (R : Bool → World → Prop) : Prop :=
  Calls Try.prog 52 #[.pointer sx, .int .i64 atx] w fun en w1 => ∃ (r : Bool), en = .returned (.bool r) ∧ R r w1
theorem C_law03_sweeper_live.mono {sx : Option Addr} {atx : Int} {w : World} {R R' : Bool → World → Prop} (h : C_law03_sweeper_live sx atx w R) (hr : ∀ r w1, R r w1 → R' r w1) : C_law03_sweeper_live sx atx w R' :=
  Calls.mono h fun _ _ ⟨r, he, h⟩ => ⟨r, he, hr r _ h⟩

/-- (elenchus/elenchusref03.Pool).end -/
def C_ref03_Pool_end (p : Option Addr) (sx : Int) (w : World) (R : Int → World → Prop) : Prop :=
  Calls Try.prog 53 #[.pointer p, .int .i64 sx] w fun en w1 => ∃ (r : Int), en = .returned (.int .i64 r) ∧ R r w1
theorem C_ref03_Pool_end.mono {p : Option Addr} {sx : Int} {w : World} {R R' : Int → World → Prop} (h : C_ref03_Pool_end p sx w R) (hr : ∀ r w1, R r w1 → R' r w1) : C_ref03_Pool_end p sx w R' :=
  Calls.mono h fun _ _ ⟨r, he, h⟩ => ⟨r, he, hr r _ h⟩

/-- (elenchus/pool.Pool).end -/
def C_pool_Pool_end (p : Option Addr) (i : Int) (w : World) (R : Int → World → Prop) : Prop :=
  Calls Try.prog 54 #[.pointer p, .int .i64 i] w fun en w1 => ∃ (r : Int), en = .returned (.int .i64 r) ∧ R r w1
theorem C_pool_Pool_end.mono {p : Option Addr} {i : Int} {w : World} {R R' : Int → World → Prop} (h : C_pool_Pool_end p i w R) (hr : ∀ r w1, R r w1 → R' r w1) : C_pool_Pool_end p i w R' :=
  Calls.mono h fun _ _ ⟨r, he, h⟩ => ⟨r, he, hr r _ h⟩

/-- (elenchus/pool.segment).add -/
def C_pool_segment_add (sx : Option Addr) (atx : Int) (w : World) (R : World → Prop) : Prop :=
  Calls Try.prog 55 #[.pointer sx, .int .i64 atx] w fun en w1 => en = .returned (.tuple #[]) ∧ R w1
theorem C_pool_segment_add.mono {sx : Option Addr} {atx : Int} {w : World} {R R' : World → Prop} (h : C_pool_segment_add sx atx w R) (hr : ∀ w1, R w1 → R' w1) : C_pool_segment_add sx atx w R' :=
  Calls.mono h fun _ _ ⟨he, h⟩ => ⟨he, hr _ h⟩

/-- cmp.isNaN[int] -/
def C_cmp_isNaN (x : Int) (w : World) (R : Bool → World → Prop) : Prop :=
  Calls Try.prog 56 #[.int .i64 x] w fun en w1 => ∃ (r : Bool), en = .returned (.bool r) ∧ R r w1
theorem C_cmp_isNaN.mono {x : Int} {w : World} {R R' : Bool → World → Prop} (h : C_cmp_isNaN x w R) (hr : ∀ r w1, R r w1 → R' r w1) : C_cmp_isNaN x w R' :=
  Calls.mono h fun _ _ ⟨r, he, h⟩ => ⟨r, he, hr r _ h⟩

/-- slices.BinarySearchFunc[[]elenchus/api.Row,elenchus/api.Row,int] -/
def C_slices_BinarySearchFunc__2 (xP : Option Addr) (xN : Nat) (xC : Nat) (target : Int) (cmp : Value) (w : World) (R : Int → Bool → World → Prop) : Prop :=
  Calls Try.prog 57 #[.slice xP xN xC, .int .i64 target, cmp] w fun en w1 => ∃ (r0 : Int) (r1 : Bool), en = .returned (.tuple #[.int .i64 r0, .bool r1]) ∧ R r0 r1 w1
theorem C_slices_BinarySearchFunc__2.mono {xP : Option Addr} {xN : Nat} {xC : Nat} {target : Int} {cmp : Value} {w : World} {R R' : Int → Bool → World → Prop} (h : C_slices_BinarySearchFunc__2 xP xN xC target cmp w R) (hr : ∀ r0 r1 w1, R r0 r1 w1 → R' r0 r1 w1) : C_slices_BinarySearchFunc__2 xP xN xC target cmp w R' :=
  Calls.mono h fun _ _ ⟨r0, r1, he, h⟩ => ⟨r0, r1, he, hr r0 r1 _ h⟩

/-- (elenchus/pool.segment).place-1 -/
def C_pool_segment_place_1 (r0 : Int) (r1 : Int) (atx : Int) (w : World) (R : Int → World → Prop) : Prop :=
  Calls Try.prog 58 #[.agg #[.int .i64 r0, .int .i64 r1], .int .i64 atx] w fun en w1 => ∃ (r : Int), en = .returned (.int .i64 r) ∧ R r w1
theorem C_pool_segment_place_1.mono {r0 : Int} {r1 : Int} {atx : Int} {w : World} {R R' : Int → World → Prop} (h : C_pool_segment_place_1 r0 r1 atx w R) (hr : ∀ r w1, R r w1 → R' r w1) : C_pool_segment_place_1 r0 r1 atx w R' :=
  Calls.mono h fun _ _ ⟨r, he, h⟩ => ⟨r, he, hr r _ h⟩

/-- slices.rotateRight[elenchus/api.Row] -/
def C_slices_rotateRight (sP : Option Addr) (sN : Nat) (sC : Nat) (r : Int) (w : World) (R : World → Prop) : Prop :=
  Calls Try.prog 60 #[.slice sP sN sC, .int .i64 r] w fun en w1 => en = .returned (.tuple #[]) ∧ R w1
theorem C_slices_rotateRight.mono {sP : Option Addr} {sN : Nat} {sC : Nat} {r : Int} {w : World} {R R' : World → Prop} (h : C_slices_rotateRight sP sN sC r w R) (hr : ∀ w1, R w1 → R' w1) : C_slices_rotateRight sP sN sC r w R' :=
  Calls.mono h fun _ _ ⟨he, h⟩ => ⟨he, hr _ h⟩

/-- slices.rotateLeft[elenchus/api.Row] -/
def C_slices_rotateLeft (sP : Option Addr) (sN : Nat) (sC : Nat) (r : Int) (w : World) (R : World → Prop) : Prop :=
  Calls Try.prog 61 #[.slice sP sN sC, .int .i64 r] w fun en w1 => en = .returned (.tuple #[]) ∧ R w1
theorem C_slices_rotateLeft.mono {sP : Option Addr} {sN : Nat} {sC : Nat} {r : Int} {w : World} {R R' : World → Prop} (h : C_slices_rotateLeft sP sN sC r w R) (hr : ∀ w1, R w1 → R' w1) : C_slices_rotateLeft sP sN sC r w R' :=
  Calls.mono h fun _ _ ⟨he, h⟩ => ⟨he, hr _ h⟩

/-- slices.Reverse[[]elenchus/api.Row,elenchus/api.Row] -/
def C_slices_Reverse (sP : Option Addr) (sN : Nat) (sC : Nat) (w : World) (R : World → Prop) : Prop :=
  Calls Try.prog 62 #[.slice sP sN sC] w fun en w1 => en = .returned (.tuple #[]) ∧ R w1
theorem C_slices_Reverse.mono {sP : Option Addr} {sN : Nat} {sC : Nat} {w : World} {R R' : World → Prop} (h : C_slices_Reverse sP sN sC w R) (hr : ∀ w1, R w1 → R' w1) : C_slices_Reverse sP sN sC w R' :=
  Calls.mono h fun _ _ ⟨he, h⟩ => ⟨he, hr _ h⟩

end Go.Proofs.Ytcgnligpjfhjlaa
