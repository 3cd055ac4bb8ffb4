/- The calls of this seat's functions, typed. Printed by a program. -/
import Derived.Test.YtggbmakfifllnaaDoorDen6
import Derived.Test.YtggbmakfifllnaaDoorProg
namespace Go.Proofs.YtggbmakfifllnaaDoor
open Go Go.D Go.Proofs

theorem seat_ok : AllCallable Tryd.prog := allCallable_of (by kernel_rfl)
theorem seat_mixed : Tryd.prog.follows .mixedOrders = true := by kernel_rfl

/-- gosem.cut.init -/
def C_gosem_cut_init  (w : World) (R : World → Prop) : Prop :=
  Calls Tryd.prog 2 #[] w fun en w1 => en = .returned (.tuple #[]) ∧ R w1
theorem C_gosem_cut_init.mono {w : World} {R R' : World → Prop} (h : C_gosem_cut_init  w R) (hr : ∀ w1, R w1 → R' w1) : C_gosem_cut_init  w R' :=
  Calls.mono h fun _ _ ⟨he, h⟩ => ⟨he, hr _ h⟩

/-- elenchus/elenchuslaw27.ScriptCodes -/
def C_law27_ScriptCodes (s0x : ByteArray) (s1x : ByteArray) (s2x : Int) (s3x : Int) (s4x : Int) (s5x : Int) (s6x : Int) (s7x : Int) (s8P : Option Addr) (s8N : Nat) (s8C : Nat) (w : World) (R : Bool → World → Prop) : Prop :=
  Calls Tryd.prog 3 #[.agg #[.string s0x, .string s1x, .int .i64 s2x, .int .i64 s3x, .int .i64 s4x, .int .i64 s5x, .int .i64 s6x, .int .i64 s7x, .slice s8P s8N s8C]] w fun en w1 => ∃ (r : Bool), en = .returned (.bool r) ∧ R r w1
theorem C_law27_ScriptCodes.mono {s0x : ByteArray} {s1x : ByteArray} {s2x : Int} {s3x : Int} {s4x : Int} {s5x : Int} {s6x : Int} {s7x : Int} {s8P : Option Addr} {s8N : Nat} {s8C : Nat} {w : World} {R R' : Bool → World → Prop} (h : C_law27_ScriptCodes s0x s1x s2x s3x s4x s5x s6x s7x s8P s8N s8C w R) (hr : ∀ r w1, R r w1 → R' r w1) : C_law27_ScriptCodes s0x s1x s2x s3x s4x s5x s6x s7x s8P s8N s8C w R' :=
  Calls.mono h fun _ _ ⟨r, he, h⟩ => ⟨r, he, hr r _ h⟩

/-- elenchus/elenchuslaw27.ScriptDecodes -/
def C_law27_ScriptDecodes (bP : Option Addr) (bN : Nat) (bC : Nat) (w : World) (R : Bool → World → Prop) : Prop :=
  Calls Tryd.prog 4 #[.slice bP bN bC] w fun en w1 => ∃ (r : Bool), en = .returned (.bool r) ∧ R r w1
theorem C_law27_ScriptDecodes.mono {bP : Option Addr} {bN : Nat} {bC : Nat} {w : World} {R R' : Bool → World → Prop} (h : C_law27_ScriptDecodes bP bN bC w R) (hr : ∀ r w1, R r w1 → R' r w1) : C_law27_ScriptDecodes bP bN bC w R' :=
  Calls.mono h fun _ _ ⟨r, he, h⟩ => ⟨r, he, hr r _ h⟩

/-- elenchus/elenchuslaw27.ScriptRuns -/
def C_law27_ScriptRuns (r0 : Int) (r1P : Option Addr) (r1N : Nat) (r1C : Nat) (r2 : Int) (r3 : Int) (r4 : Int) (r5 : Int) (w : World) (R : Bool → World → Prop) : Prop :=
  Calls Tryd.prog 5 #[.agg #[.int .i64 r0, .slice r1P r1N r1C, .int .i64 r2, .int .i64 r3, .int .i64 r4, .int .i64 r5]] w fun en w1 => ∃ (r : Bool), en = .returned (.bool r) ∧ R r w1
theorem C_law27_ScriptRuns.mono {r0 : Int} {r1P : Option Addr} {r1N : Nat} {r1C : Nat} {r2 : Int} {r3 : Int} {r4 : Int} {r5 : Int} {w : World} {R R' : Bool → World → Prop} (h : C_law27_ScriptRuns r0 r1P r1N r1C r2 r3 r4 r5 w R) (hr : ∀ r w1, R r w1 → R' r w1) : C_law27_ScriptRuns r0 r1P r1N r1C r2 r3 r4 r5 w R' :=
  Calls.mono h fun _ _ ⟨r, he, h⟩ => ⟨r, he, hr r _ h⟩

/-- elenchus/elenchuslaw27.ScriptReruns -/
def C_law27_ScriptReruns (bP : Option Addr) (bN : Nat) (bC : Nat) (w : World) (R : Bool → World → Prop) : Prop :=
  Calls Tryd.prog 6 #[.slice bP bN bC] w fun en w1 => ∃ (r : Bool), en = .returned (.bool r) ∧ R r w1
theorem C_law27_ScriptReruns.mono {bP : Option Addr} {bN : Nat} {bC : Nat} {w : World} {R R' : Bool → World → Prop} (h : C_law27_ScriptReruns bP bN bC w R) (hr : ∀ r w1, R r w1 → R' r w1) : C_law27_ScriptReruns bP bN bC w R' :=
  Calls.mono h fun _ _ ⟨r, he, h⟩ => ⟨r, he, hr r _ h⟩

/-- elenchus/elenchuslaw27.ScriptApart -/
def C_law27_ScriptApart (a0 : ByteArray) (a1 : ByteArray) (a2 : Int) (a3 : Int) (a4 : Int) (a5 : Int) (a6 : Int) (a7 : Int) (a8P : Option Addr) (a8N : Nat) (a8C : Nat) (b0 : ByteArray) (b1 : ByteArray) (b2 : Int) (b3 : Int) (b4 : Int) (b5 : Int) (b6 : Int) (b7 : Int) (b8P : Option Addr) (b8N : Nat) (b8C : Nat) (w : World) (R : Bool → World → Prop) : Prop :=
  Calls Tryd.prog 7 #[.agg #[.string a0, .string a1, .int .i64 a2, .int .i64 a3, .int .i64 a4, .int .i64 a5, .int .i64 a6, .int .i64 a7, .slice a8P a8N a8C], .agg #[.string b0, .string b1, .int .i64 b2, .int .i64 b3, .int .i64 b4, .int .i64 b5, .int .i64 b6, .int .i64 b7, .slice b8P b8N b8C]] w fun en w1 => ∃ (r : Bool), en = .returned (.bool r) ∧ R r w1
theorem C_law27_ScriptApart.mono {a0 : ByteArray} {a1 : ByteArray} {a2 : Int} {a3 : Int} {a4 : Int} {a5 : Int} {a6 : Int} {a7 : Int} {a8P : Option Addr} {a8N : Nat} {a8C : Nat} {b0 : ByteArray} {b1 : ByteArray} {b2 : Int} {b3 : Int} {b4 : Int} {b5 : Int} {b6 : Int} {b7 : Int} {b8P : Option Addr} {b8N : Nat} {b8C : Nat} {w : World} {R R' : Bool → World → Prop} (h : C_law27_ScriptApart a0 a1 a2 a3 a4 a5 a6 a7 a8P a8N a8C b0 b1 b2 b3 b4 b5 b6 b7 b8P b8N b8C w R) (hr : ∀ r w1, R r w1 → R' r w1) : C_law27_ScriptApart a0 a1 a2 a3 a4 a5 a6 a7 a8P a8N a8C b0 b1 b2 b3 b4 b5 b6 b7 b8P b8N b8C w R' :=
  Calls.mono h fun _ _ ⟨r, he, h⟩ => ⟨r, he, hr r _ h⟩

/-- elenchus/elenchuslaw27.lives -/
def C_law27_lives  (w : World) (R : Bool → World → Prop) : Prop :=
  Calls Tryd.prog 8 #[] w fun en w1 => ∃ (r : Bool), en = .returned (.bool r) ∧ R r w1
theorem C_law27_lives.mono {w : World} {R R' : Bool → World → Prop} (h : C_law27_lives  w R) (hr : ∀ r w1, R r w1 → R' r w1) : C_law27_lives  w R' :=
  Calls.mono h fun _ _ ⟨r, he, h⟩ => ⟨r, he, hr r _ h⟩

/-- elenchus/script.Encode -/
def C_script_Encode (s0x : ByteArray) (s1x : ByteArray) (s2x : Int) (s3x : Int) (s4x : Int) (s5x : Int) (s6x : Int) (s7x : Int) (s8P : Option Addr) (s8N : Nat) (s8C : Nat) (w : World) (R : Option Addr → Nat → Nat → Int → World → Prop) : Prop :=
  Calls Tryd.prog 9 #[.agg #[.string s0x, .string s1x, .int .i64 s2x, .int .i64 s3x, .int .i64 s4x, .int .i64 s5x, .int .i64 s6x, .int .i64 s7x, .slice s8P s8N s8C]] w fun en w1 => ∃ (r0P : Option Addr) (r0N : Nat) (r0C : Nat) (r1 : Int), en = .returned (.tuple #[.slice r0P r0N r0C, .int .i64 r1]) ∧ R r0P r0N r0C r1 w1
theorem C_script_Encode.mono {s0x : ByteArray} {s1x : ByteArray} {s2x : Int} {s3x : Int} {s4x : Int} {s5x : Int} {s6x : Int} {s7x : Int} {s8P : Option Addr} {s8N : Nat} {s8C : Nat} {w : World} {R R' : Option Addr → Nat → Nat → Int → World → Prop} (h : C_script_Encode s0x s1x s2x s3x s4x s5x s6x s7x s8P s8N s8C w R) (hr : ∀ r0P r0N r0C r1 w1, R r0P r0N r0C r1 w1 → R' r0P r0N r0C r1 w1) : C_script_Encode s0x s1x s2x s3x s4x s5x s6x s7x s8P s8N s8C w R' :=
  Calls.mono h fun _ _ ⟨r0P, r0N, r0C, r1, he, h⟩ => ⟨r0P, r0N, r0C, r1, he, hr r0P r0N r0C r1 _ h⟩

/-- elenchus/elenchusref27.Encode -/
def C_ref27_Encode (s0x : ByteArray) (s1x : ByteArray) (s2x : Int) (s3x : Int) (s4x : Int) (s5x : Int) (s6x : Int) (s7x : Int) (s8P : Option Addr) (s8N : Nat) (s8C : Nat) (w : World) (R : Option Addr → Nat → Nat → Bool → World → Prop) : Prop :=
  Calls Tryd.prog 10 #[.agg #[.string s0x, .string s1x, .int .i64 s2x, .int .i64 s3x, .int .i64 s4x, .int .i64 s5x, .int .i64 s6x, .int .i64 s7x, .slice s8P s8N s8C]] w fun en w1 => ∃ (r0P : Option Addr) (r0N : Nat) (r0C : Nat) (r1 : Bool), en = .returned (.tuple #[.slice r0P r0N r0C, .bool r1]) ∧ R r0P r0N r0C r1 w1
theorem C_ref27_Encode.mono {s0x : ByteArray} {s1x : ByteArray} {s2x : Int} {s3x : Int} {s4x : Int} {s5x : Int} {s6x : Int} {s7x : Int} {s8P : Option Addr} {s8N : Nat} {s8C : Nat} {w : World} {R R' : Option Addr → Nat → Nat → Bool → World → Prop} (h : C_ref27_Encode s0x s1x s2x s3x s4x s5x s6x s7x s8P s8N s8C w R) (hr : ∀ r0P r0N r0C r1 w1, R r0P r0N r0C r1 w1 → R' r0P r0N r0C r1 w1) : C_ref27_Encode s0x s1x s2x s3x s4x s5x s6x s7x s8P s8N s8C w R' :=
  Calls.mono h fun _ _ ⟨r0P, r0N, r0C, r1, he, h⟩ => ⟨r0P, r0N, r0C, r1, he, hr r0P r0N r0C r1 _ h⟩

/-- elenchus/script.Decode -/
def C_script_Decode (bP : Option Addr) (bN : Nat) (bC : Nat) (w : World) (R : ByteArray → ByteArray → Int → Int → Int → Int → Int → Int → Option Addr → Nat → Nat → Int → World → Prop) : Prop :=
  Calls Tryd.prog 11 #[.slice bP bN bC] w fun en w1 => ∃ (r00 : ByteArray) (r01 : ByteArray) (r02 : Int) (r03 : Int) (r04 : Int) (r05 : Int) (r06 : Int) (r07 : Int) (r08P : Option Addr) (r08N : Nat) (r08C : Nat) (r1 : Int), en = .returned (.tuple #[.agg #[.string r00, .string r01, .int .i64 r02, .int .i64 r03, .int .i64 r04, .int .i64 r05, .int .i64 r06, .int .i64 r07, .slice r08P r08N r08C], .int .i64 r1]) ∧ R r00 r01 r02 r03 r04 r05 r06 r07 r08P r08N r08C r1 w1
theorem C_script_Decode.mono {bP : Option Addr} {bN : Nat} {bC : Nat} {w : World} {R R' : ByteArray → ByteArray → Int → Int → Int → Int → Int → Int → Option Addr → Nat → Nat → Int → World → Prop} (h : C_script_Decode bP bN bC w R) (hr : ∀ r00 r01 r02 r03 r04 r05 r06 r07 r08P r08N r08C r1 w1, R r00 r01 r02 r03 r04 r05 r06 r07 r08P r08N r08C r1 w1 → R' r00 r01 r02 r03 r04 r05 r06 r07 r08P r08N r08C r1 w1) : C_script_Decode bP bN bC w R' :=
  Calls.mono h fun _ _ ⟨r00, r01, r02, r03, r04, r05, r06, r07, r08P, r08N, r08C, r1, he, h⟩ => ⟨r00, r01, r02, r03, r04, r05, r06, r07, r08P, r08N, r08C, r1, he, hr r00 r01 r02 r03 r04 r05 r06 r07 r08P r08N r08C r1 _ h⟩

/-- elenchus/elenchusref27.Same -/
def C_ref27_Same (a0 : ByteArray) (a1 : ByteArray) (a2 : Int) (a3 : Int) (a4 : Int) (a5 : Int) (a6 : Int) (a7 : Int) (a8P : Option Addr) (a8N : Nat) (a8C : Nat) (b0 : ByteArray) (b1 : ByteArray) (b2 : Int) (b3 : Int) (b4 : Int) (b5 : Int) (b6 : Int) (b7 : Int) (b8P : Option Addr) (b8N : Nat) (b8C : Nat) (w : World) (R : Bool → World → Prop) : Prop :=
  Calls Tryd.prog 12 #[.agg #[.string a0, .string a1, .int .i64 a2, .int .i64 a3, .int .i64 a4, .int .i64 a5, .int .i64 a6, .int .i64 a7, .slice a8P a8N a8C], .agg #[.string b0, .string b1, .int .i64 b2, .int .i64 b3, .int .i64 b4, .int .i64 b5, .int .i64 b6, .int .i64 b7, .slice b8P b8N b8C]] w fun en w1 => ∃ (r : Bool), en = .returned (.bool r) ∧ R r w1
theorem C_ref27_Same.mono {a0 : ByteArray} {a1 : ByteArray} {a2 : Int} {a3 : Int} {a4 : Int} {a5 : Int} {a6 : Int} {a7 : Int} {a8P : Option Addr} {a8N : Nat} {a8C : Nat} {b0 : ByteArray} {b1 : ByteArray} {b2 : Int} {b3 : Int} {b4 : Int} {b5 : Int} {b6 : Int} {b7 : Int} {b8P : Option Addr} {b8N : Nat} {b8C : Nat} {w : World} {R R' : Bool → World → Prop} (h : C_ref27_Same a0 a1 a2 a3 a4 a5 a6 a7 a8P a8N a8C b0 b1 b2 b3 b4 b5 b6 b7 b8P b8N b8C w R) (hr : ∀ r w1, R r w1 → R' r w1) : C_ref27_Same a0 a1 a2 a3 a4 a5 a6 a7 a8P a8N a8C b0 b1 b2 b3 b4 b5 b6 b7 b8P b8N b8C w R' :=
  Calls.mono h fun _ _ ⟨r, he, h⟩ => ⟨r, he, hr r _ h⟩

/-- elenchus/elenchusref27.Decode -/
def C_ref27_Decode (bP : Option Addr) (bN : Nat) (bC : Nat) (w : World) (R : ByteArray → ByteArray → Int → Int → Int → Int → Int → Int → Option Addr → Nat → Nat → Bool → World → Prop) : Prop :=
  Calls Tryd.prog 13 #[.slice bP bN bC] w fun en w1 => ∃ (r00 : ByteArray) (r01 : ByteArray) (r02 : Int) (r03 : Int) (r04 : Int) (r05 : Int) (r06 : Int) (r07 : Int) (r08P : Option Addr) (r08N : Nat) (r08C : Nat) (r1 : Bool), en = .returned (.tuple #[.agg #[.string r00, .string r01, .int .i64 r02, .int .i64 r03, .int .i64 r04, .int .i64 r05, .int .i64 r06, .int .i64 r07, .slice r08P r08N r08C], .bool r1]) ∧ R r00 r01 r02 r03 r04 r05 r06 r07 r08P r08N r08C r1 w1
theorem C_ref27_Decode.mono {bP : Option Addr} {bN : Nat} {bC : Nat} {w : World} {R R' : ByteArray → ByteArray → Int → Int → Int → Int → Int → Int → Option Addr → Nat → Nat → Bool → World → Prop} (h : C_ref27_Decode bP bN bC w R) (hr : ∀ r00 r01 r02 r03 r04 r05 r06 r07 r08P r08N r08C r1 w1, R r00 r01 r02 r03 r04 r05 r06 r07 r08P r08N r08C r1 w1 → R' r00 r01 r02 r03 r04 r05 r06 r07 r08P r08N r08C r1 w1) : C_ref27_Decode bP bN bC w R' :=
  Calls.mono h fun _ _ ⟨r00, r01, r02, r03, r04, r05, r06, r07, r08P, r08N, r08C, r1, he, h⟩ => ⟨r00, r01, r02, r03, r04, r05, r06, r07, r08P, r08N, r08C, r1, he, hr r00 r01 r02 r03 r04 r05 r06 r07 r08P r08N r08C r1 _ h⟩

/-- elenchus/script.EncodeRun -/
def C_script_EncodeRun (x0 : Int) (x1P : Option Addr) (x1N : Nat) (x1C : Nat) (x2 : Int) (x3 : Int) (x4 : Int) (x5 : Int) (w : World) (R : Option Addr → Nat → Nat → Int → World → Prop) : Prop :=
  Calls Tryd.prog 14 #[.agg #[.int .i64 x0, .slice x1P x1N x1C, .int .i64 x2, .int .i64 x3, .int .i64 x4, .int .i64 x5]] w fun en w1 => ∃ (r0P : Option Addr) (r0N : Nat) (r0C : Nat) (r1 : Int), en = .returned (.tuple #[.slice r0P r0N r0C, .int .i64 r1]) ∧ R r0P r0N r0C r1 w1
theorem C_script_EncodeRun.mono {x0 : Int} {x1P : Option Addr} {x1N : Nat} {x1C : Nat} {x2 : Int} {x3 : Int} {x4 : Int} {x5 : Int} {w : World} {R R' : Option Addr → Nat → Nat → Int → World → Prop} (h : C_script_EncodeRun x0 x1P x1N x1C x2 x3 x4 x5 w R) (hr : ∀ r0P r0N r0C r1 w1, R r0P r0N r0C r1 w1 → R' r0P r0N r0C r1 w1) : C_script_EncodeRun x0 x1P x1N x1C x2 x3 x4 x5 w R' :=
  Calls.mono h fun _ _ ⟨r0P, r0N, r0C, r1, he, h⟩ => ⟨r0P, r0N, r0C, r1, he, hr r0P r0N r0C r1 _ h⟩

/-- elenchus/elenchusref27.EncodeRun -/
def C_ref27_EncodeRun (x0 : Int) (x1P : Option Addr) (x1N : Nat) (x1C : Nat) (x2 : Int) (x3 : Int) (x4 : Int) (x5 : Int) (w : World) (R : Option Addr → Nat → Nat → Bool → World → Prop) : Prop :=
  Calls Tryd.prog 15 #[.agg #[.int .i64 x0, .slice x1P x1N x1C, .int .i64 x2, .int .i64 x3, .int .i64 x4, .int .i64 x5]] w fun en w1 => ∃ (r0P : Option Addr) (r0N : Nat) (r0C : Nat) (r1 : Bool), en = .returned (.tuple #[.slice r0P r0N r0C, .bool r1]) ∧ R r0P r0N r0C r1 w1
theorem C_ref27_EncodeRun.mono {x0 : Int} {x1P : Option Addr} {x1N : Nat} {x1C : Nat} {x2 : Int} {x3 : Int} {x4 : Int} {x5 : Int} {w : World} {R R' : Option Addr → Nat → Nat → Bool → World → Prop} (h : C_ref27_EncodeRun x0 x1P x1N x1C x2 x3 x4 x5 w R) (hr : ∀ r0P r0N r0C r1 w1, R r0P r0N r0C r1 w1 → R' r0P r0N r0C r1 w1) : C_ref27_EncodeRun x0 x1P x1N x1C x2 x3 x4 x5 w R' :=
  Calls.mono h fun _ _ ⟨r0P, r0N, r0C, r1, he, h⟩ => ⟨r0P, r0N, r0C, r1, he, hr r0P r0N r0C r1 _ h⟩

/-- elenchus/script.Listing -/
def C_script_Listing (x0 : Int) (x1P : Option Addr) (x1N : Nat) (x1C : Nat) (x2 : Int) (x3 : Int) (x4 : Int) (x5 : Int) (w : World) (R : ByteArray → World → Prop) : Prop :=
  Calls Tryd.prog 16 #[.agg #[.int .i64 x0, .slice x1P x1N x1C, .int .i64 x2, .int .i64 x3, .int .i64 x4, .int .i64 x5]] w fun en w1 => ∃ (r : ByteArray), en = .returned (.string r) ∧ R r w1
theorem C_script_Listing.mono {x0 : Int} {x1P : Option Addr} {x1N : Nat} {x1C : Nat} {x2 : Int} {x3 : Int} {x4 : Int} {x5 : Int} {w : World} {R R' : ByteArray → World → Prop} (h : C_script_Listing x0 x1P x1N x1C x2 x3 x4 x5 w R) (hr : ∀ r w1, R r w1 → R' r w1) : C_script_Listing x0 x1P x1N x1C x2 x3 x4 x5 w R' :=
  Calls.mono h fun _ _ ⟨r, he, h⟩ => ⟨r, he, hr r _ h⟩

/-- elenchus/elenchusref27.Listing -/
def C_ref27_Listing (x0 : Int) (x1P : Option Addr) (x1N : Nat) (x1C : Nat) (x2 : Int) (x3 : Int) (x4 : Int) (x5 : Int) (w : World) (R : ByteArray → World → Prop) : Prop :=
  Calls Tryd.prog 17 #[.agg #[.int .i64 x0, .slice x1P x1N x1C, .int .i64 x2, .int .i64 x3, .int .i64 x4, .int .i64 x5]] w fun en w1 => ∃ (r : ByteArray), en = .returned (.string r) ∧ R r w1
theorem C_ref27_Listing.mono {x0 : Int} {x1P : Option Addr} {x1N : Nat} {x1C : Nat} {x2 : Int} {x3 : Int} {x4 : Int} {x5 : Int} {w : World} {R R' : ByteArray → World → Prop} (h : C_ref27_Listing x0 x1P x1N x1C x2 x3 x4 x5 w R) (hr : ∀ r w1, R r w1 → R' r w1) : C_ref27_Listing x0 x1P x1N x1C x2 x3 x4 x5 w R' :=
  Calls.mono h fun _ _ ⟨r, he, h⟩ => ⟨r, he, hr r _ h⟩

/-- elenchus/script.DecodeRun -/
def C_script_DecodeRun (bP : Option Addr) (bN : Nat) (bC : Nat) (w : World) (R : Int → Option Addr → Nat → Nat → Int → Int → Int → Int → Int → World → Prop) : Prop :=
  Calls Tryd.prog 18 #[.slice bP bN bC] w fun en w1 => ∃ (r00 : Int) (r01P : Option Addr) (r01N : Nat) (r01C : Nat) (r02 : Int) (r03 : Int) (r04 : Int) (r05 : Int) (r1 : Int), en = .returned (.tuple #[.agg #[.int .i64 r00, .slice r01P r01N r01C, .int .i64 r02, .int .i64 r03, .int .i64 r04, .int .i64 r05], .int .i64 r1]) ∧ R r00 r01P r01N r01C r02 r03 r04 r05 r1 w1
theorem C_script_DecodeRun.mono {bP : Option Addr} {bN : Nat} {bC : Nat} {w : World} {R R' : Int → Option Addr → Nat → Nat → Int → Int → Int → Int → Int → World → Prop} (h : C_script_DecodeRun bP bN bC w R) (hr : ∀ r00 r01P r01N r01C r02 r03 r04 r05 r1 w1, R r00 r01P r01N r01C r02 r03 r04 r05 r1 w1 → R' r00 r01P r01N r01C r02 r03 r04 r05 r1 w1) : C_script_DecodeRun bP bN bC w R' :=
  Calls.mono h fun _ _ ⟨r00, r01P, r01N, r01C, r02, r03, r04, r05, r1, he, h⟩ => ⟨r00, r01P, r01N, r01C, r02, r03, r04, r05, r1, he, hr r00 r01P r01N r01C r02 r03 r04 r05 r1 _ h⟩

/-- elenchus/elenchusref26.SameRun -/
def C_ref26_SameRun (a0 : Int) (a1P : Option Addr) (a1N : Nat) (a1C : Nat) (a2 : Int) (a3 : Int) (a4 : Int) (a5 : Int) (b0 : Int) (b1P : Option Addr) (b1N : Nat) (b1C : Nat) (b2 : Int) (b3 : Int) (b4 : Int) (b5 : Int) (w : World) (R : Bool → World → Prop) : Prop :=
  Calls Tryd.prog 19 #[.agg #[.int .i64 a0, .slice a1P a1N a1C, .int .i64 a2, .int .i64 a3, .int .i64 a4, .int .i64 a5], .agg #[.int .i64 b0, .slice b1P b1N b1C, .int .i64 b2, .int .i64 b3, .int .i64 b4, .int .i64 b5]] w fun en w1 => ∃ (r : Bool), en = .returned (.bool r) ∧ R r w1
theorem C_ref26_SameRun.mono {a0 : Int} {a1P : Option Addr} {a1N : Nat} {a1C : Nat} {a2 : Int} {a3 : Int} {a4 : Int} {a5 : Int} {b0 : Int} {b1P : Option Addr} {b1N : Nat} {b1C : Nat} {b2 : Int} {b3 : Int} {b4 : Int} {b5 : Int} {w : World} {R R' : Bool → World → Prop} (h : C_ref26_SameRun a0 a1P a1N a1C a2 a3 a4 a5 b0 b1P b1N b1C b2 b3 b4 b5 w R) (hr : ∀ r w1, R r w1 → R' r w1) : C_ref26_SameRun a0 a1P a1N a1C a2 a3 a4 a5 b0 b1P b1N b1C b2 b3 b4 b5 w R' :=
  Calls.mono h fun _ _ ⟨r, he, h⟩ => ⟨r, he, hr r _ h⟩

/-- elenchus/elenchusref27.DecodeRun -/
def C_ref27_DecodeRun (bP : Option Addr) (bN : Nat) (bC : Nat) (w : World) (R : Int → Option Addr → Nat → Nat → Int → Int → Int → Int → Bool → World → Prop) : Prop :=
  Calls Tryd.prog 20 #[.slice bP bN bC] w fun en w1 => ∃ (r00 : Int) (r01P : Option Addr) (r01N : Nat) (r01C : Nat) (r02 : Int) (r03 : Int) (r04 : Int) (r05 : Int) (r1 : Bool), en = .returned (.tuple #[.agg #[.int .i64 r00, .slice r01P r01N r01C, .int .i64 r02, .int .i64 r03, .int .i64 r04, .int .i64 r05], .bool r1]) ∧ R r00 r01P r01N r01C r02 r03 r04 r05 r1 w1
theorem C_ref27_DecodeRun.mono {bP : Option Addr} {bN : Nat} {bC : Nat} {w : World} {R R' : Int → Option Addr → Nat → Nat → Int → Int → Int → Int → Bool → World → Prop} (h : C_ref27_DecodeRun bP bN bC w R) (hr : ∀ r00 r01P r01N r01C r02 r03 r04 r05 r1 w1, R r00 r01P r01N r01C r02 r03 r04 r05 r1 w1 → R' r00 r01P r01N r01C r02 r03 r04 r05 r1 w1) : C_ref27_DecodeRun bP bN bC w R' :=
  Calls.mono h fun _ _ ⟨r00, r01P, r01N, r01C, r02, r03, r04, r05, r1, he, h⟩ => ⟨r00, r01P, r01N, r01C, r02, r03, r04, r05, r1, he, hr r00 r01P r01N r01C r02 r03 r04 r05 r1 _ h⟩

/-- (elenchus/script.writer).text -/
def C_script_writer_text (wx : Option Addr) (sx : ByteArray) (w : World) (R : World → Prop) : Prop :=
  Calls Tryd.prog 21 #[.pointer wx, .string sx] w fun en w1 => en = .returned (.tuple #[]) ∧ R w1
theorem C_script_writer_text.mono {wx : Option Addr} {sx : ByteArray} {w : World} {R R' : World → Prop} (h : C_script_writer_text wx sx w R) (hr : ∀ w1, R w1 → R' w1) : C_script_writer_text wx sx w R' :=
  Calls.mono h fun _ _ ⟨he, h⟩ => ⟨he, hr _ h⟩

/-- (elenchus/script.writer).numbers -/
def C_script_writer_numbers (wx : Option Addr) (lP : Option Addr) (lN : Nat) (lC : Nat) (w : World) (R : World → Prop) : Prop :=
  Calls Tryd.prog 22 #[.pointer wx, .slice lP lN lC] w fun en w1 => en = .returned (.tuple #[]) ∧ R w1
theorem C_script_writer_numbers.mono {wx : Option Addr} {lP : Option Addr} {lN : Nat} {lC : Nat} {w : World} {R R' : World → Prop} (h : C_script_writer_numbers wx lP lN lC w R) (hr : ∀ w1, R w1 → R' w1) : C_script_writer_numbers wx lP lN lC w R' :=
  Calls.mono h fun _ _ ⟨he, h⟩ => ⟨he, hr _ h⟩

/-- (elenchus/script.writer).done -/
def C_script_writer_done (wx : Option Addr) (w : World) (R : Option Addr → Nat → Nat → Int → World → Prop) : Prop :=
  Calls Tryd.prog 23 #[.pointer wx] w fun en w1 => ∃ (r0P : Option Addr) (r0N : Nat) (r0C : Nat) (r1 : Int), en = .returned (.tuple #[.slice r0P r0N r0C, .int .i64 r1]) ∧ R r0P r0N r0C r1 w1
theorem C_script_writer_done.mono {wx : Option Addr} {w : World} {R R' : Option Addr → Nat → Nat → Int → World → Prop} (h : C_script_writer_done wx w R) (hr : ∀ r0P r0N r0C r1 w1, R r0P r0N r0C r1 w1 → R' r0P r0N r0C r1 w1) : C_script_writer_done wx w R' :=
  Calls.mono h fun _ _ ⟨r0P, r0N, r0C, r1, he, h⟩ => ⟨r0P, r0N, r0C, r1, he, hr r0P r0N r0C r1 _ h⟩

/-- elenchus/elenchusref27.text -/
def C_ref27_text (sx : ByteArray) (w : World) (R : Option Addr → Nat → Nat → World → Prop) : Prop :=
  Calls Tryd.prog 24 #[.string sx] w fun en w1 => ∃ (rP : Option Addr) (rN : Nat) (rC : Nat), en = .returned (.slice rP rN rC) ∧ R rP rN rC w1
theorem C_ref27_text.mono {sx : ByteArray} {w : World} {R R' : Option Addr → Nat → Nat → World → Prop} (h : C_ref27_text sx w R) (hr : ∀ rP rN rC w1, R rP rN rC w1 → R' rP rN rC w1) : C_ref27_text sx w R' :=
  Calls.mono h fun _ _ ⟨rP, rN, rC, he, h⟩ => ⟨rP, rN, rC, he, hr rP rN rC _ h⟩

/-- elenchus/elenchusref27.number -/
def C_ref27_number (n : Int) (w : World) (R : Option Addr → Nat → Nat → World → Prop) : Prop :=
  Calls Tryd.prog 25 #[.int .i64 n] w fun en w1 => ∃ (rP : Option Addr) (rN : Nat) (rC : Nat), en = .returned (.slice rP rN rC) ∧ R rP rN rC w1
theorem C_ref27_number.mono {n : Int} {w : World} {R R' : Option Addr → Nat → Nat → World → Prop} (h : C_ref27_number n w R) (hr : ∀ rP rN rC w1, R rP rN rC w1 → R' rP rN rC w1) : C_ref27_number n w R' :=
  Calls.mono h fun _ _ ⟨rP, rN, rC, he, h⟩ => ⟨rP, rN, rC, he, hr rP rN rC _ h⟩

/-- (elenchus/script.reader).text -/
def C_script_reader_text (r : Option Addr) (w : World) (R : ByteArray → World → Prop) : Prop :=
  Calls Tryd.prog 26 #[.pointer r] w fun en w1 => ∃ (r_1 : ByteArray), en = .returned (.string r_1) ∧ R r_1 w1
theorem C_script_reader_text.mono {r : Option Addr} {w : World} {R R' : ByteArray → World → Prop} (h : C_script_reader_text r w R) (hr : ∀ r_1 w1, R r_1 w1 → R' r_1 w1) : C_script_reader_text r w R' :=
  Calls.mono h fun _ _ ⟨r_1, he, h⟩ => ⟨r_1, he, hr r_1 _ h⟩

/-- (elenchus/script.reader).number -/
def C_script_reader_number (r : Option Addr) (w : World) (R : Int → World → Prop) : Prop :=
  Calls Tryd.prog 27 #[.pointer r] w fun en w1 => ∃ (r_1 : Int), en = .returned (.int .i64 r_1) ∧ R r_1 w1
theorem C_script_reader_number.mono {r : Option Addr} {w : World} {R R' : Int → World → Prop} (h : C_script_reader_number r w R) (hr : ∀ r_1 w1, R r_1 w1 → R' r_1 w1) : C_script_reader_number r w R' :=
  Calls.mono h fun _ _ ⟨r_1, he, h⟩ => ⟨r_1, he, hr r_1 _ h⟩

/-- (elenchus/script.reader).row -/
def C_script_reader_row (r : Option Addr) (mostx : Int) (one : Value) (w : World) (R : World → Prop) : Prop :=
  Calls Tryd.prog 28 #[.pointer r, .int .i64 mostx, one] w fun en w1 => en = .returned (.tuple #[]) ∧ R w1
theorem C_script_reader_row.mono {r : Option Addr} {mostx : Int} {one : Value} {w : World} {R R' : World → Prop} (h : C_script_reader_row r mostx one w R) (hr : ∀ w1, R w1 → R' w1) : C_script_reader_row r mostx one w R' :=
  Calls.mono h fun _ _ ⟨he, h⟩ => ⟨he, hr _ h⟩

/-- elenchus/script.Decode-1 -/
def C_script_Decode_1 (c0 : Addr) (c1 : Addr) (w : World) (R : World → Prop) : Prop :=
  Calls Tryd.prog 29 #[.pointer (some c0), .pointer (some c1)] w fun en w1 => en = .returned (.tuple #[]) ∧ R w1
theorem C_script_Decode_1.mono {c0 : Addr} {c1 : Addr} {w : World} {R R' : World → Prop} (h : C_script_Decode_1 c0 c1 w R) (hr : ∀ w1, R w1 → R' w1) : C_script_Decode_1 c0 c1 w R' :=
  Calls.mono h fun _ _ ⟨he, h⟩ => ⟨he, hr _ h⟩

/-- (elenchus/script.reader).whole -/
def C_script_reader_whole (r : Option Addr) (w : World) (R : Bool → World → Prop) : Prop :=
  Calls Tryd.prog 30 #[.pointer r] w fun en w1 => ∃ (r_1 : Bool), en = .returned (.bool r_1) ∧ R r_1 w1
theorem C_script_reader_whole.mono {r : Option Addr} {w : World} {R R' : Bool → World → Prop} (h : C_script_reader_whole r w R) (hr : ∀ r_1 w1, R r_1 w1 → R' r_1 w1) : C_script_reader_whole r w R' :=
  Calls.mono h fun _ _ ⟨r_1, he, h⟩ => ⟨r_1, he, hr r_1 _ h⟩

/-- (elenchus/elenchusref27.reader).text -/
def C_ref27_reader_text (r : Option Addr) (w : World) (R : ByteArray → World → Prop) : Prop :=
  Calls Tryd.prog 31 #[.pointer r] w fun en w1 => ∃ (r_1 : ByteArray), en = .returned (.string r_1) ∧ R r_1 w1
theorem C_ref27_reader_text.mono {r : Option Addr} {w : World} {R R' : ByteArray → World → Prop} (h : C_ref27_reader_text r w R) (hr : ∀ r_1 w1, R r_1 w1 → R' r_1 w1) : C_ref27_reader_text r w R' :=
  Calls.mono h fun _ _ ⟨r_1, he, h⟩ => ⟨r_1, he, hr r_1 _ h⟩

/-- (elenchus/elenchusref27.reader).number -/
def C_ref27_reader_number (r : Option Addr) (w : World) (R : Int → World → Prop) : Prop :=
  Calls Tryd.prog 32 #[.pointer r] w fun en w1 => ∃ (r_1 : Int), en = .returned (.int .i64 r_1) ∧ R r_1 w1
theorem C_ref27_reader_number.mono {r : Option Addr} {w : World} {R R' : Int → World → Prop} (h : C_ref27_reader_number r w R) (hr : ∀ r_1 w1, R r_1 w1 → R' r_1 w1) : C_ref27_reader_number r w R' :=
  Calls.mono h fun _ _ ⟨r_1, he, h⟩ => ⟨r_1, he, hr r_1 _ h⟩

/-- (elenchus/elenchusref27.reader).count -/
def C_ref27_reader_count (r : Option Addr) (mostx : Int) (w : World) (R : Int → World → Prop) : Prop :=
  Calls Tryd.prog 33 #[.pointer r, .int .i64 mostx] w fun en w1 => ∃ (r_1 : Int), en = .returned (.int .i64 r_1) ∧ R r_1 w1
theorem C_ref27_reader_count.mono {r : Option Addr} {mostx : Int} {w : World} {R R' : Int → World → Prop} (h : C_ref27_reader_count r mostx w R) (hr : ∀ r_1 w1, R r_1 w1 → R' r_1 w1) : C_ref27_reader_count r mostx w R' :=
  Calls.mono h fun _ _ ⟨r_1, he, h⟩ => ⟨r_1, he, hr r_1 _ h⟩

/-- (strings.Builder).WriteString -/
def C_strings_Builder_WriteString (b : Option Addr) (sx : ByteArray) (w : World) (R : Int → Value → World → Prop) : Prop :=
  Calls Tryd.prog 34 #[.pointer b, .string sx] w fun en w1 => ∃ (r0 : Int) (r1 : Value), en = .returned (.tuple #[.int .i64 r0, r1]) ∧ R r0 r1 w1
theorem C_strings_Builder_WriteString.mono {b : Option Addr} {sx : ByteArray} {w : World} {R R' : Int → Value → World → Prop} (h : C_strings_Builder_WriteString b sx w R) (hr : ∀ r0 r1 w1, R r0 r1 w1 → R' r0 r1 w1) : C_strings_Builder_WriteString b sx w R' :=
  Calls.mono h fun _ _ ⟨r0, r1, he, h⟩ => ⟨r0, r1, he, hr r0 r1 _ h⟩

/-- elenchus/script.line -/
def C_script_line (e0 : Int) (e1 : ByteArray) (w : World) (R : ByteArray → World → Prop) : Prop :=
  Calls Tryd.prog 35 #[.agg #[.int .i64 e0, .string e1]] w fun en w1 => ∃ (r : ByteArray), en = .returned (.string r) ∧ R r w1
theorem C_script_line.mono {e0 : Int} {e1 : ByteArray} {w : World} {R R' : ByteArray → World → Prop} (h : C_script_line e0 e1 w R) (hr : ∀ r w1, R r w1 → R' r w1) : C_script_line e0 e1 w R' :=
  Calls.mono h fun _ _ ⟨r, he, h⟩ => ⟨r, he, hr r _ h⟩

/-- elenchus/script.end -/
def C_script_end (tag : Int) (w : World) (R : ByteArray → World → Prop) : Prop :=
  Calls Tryd.prog 36 #[.int .i64 tag] w fun en w1 => ∃ (r : ByteArray), en = .returned (.string r) ∧ R r w1
theorem C_script_end.mono {tag : Int} {w : World} {R R' : ByteArray → World → Prop} (h : C_script_end tag w R) (hr : ∀ r w1, R r w1 → R' r w1) : C_script_end tag w R' :=
  Calls.mono h fun _ _ ⟨r, he, h⟩ => ⟨r, he, hr r _ h⟩

/-- (strings.Builder).String -/
def C_strings_Builder_String (b : Option Addr) (w : World) (R : ByteArray → World → Prop) : Prop :=
  Calls Tryd.prog 37 #[.pointer b] w fun en w1 => ∃ (r : ByteArray), en = .returned (.string r) ∧ R r w1
theorem C_strings_Builder_String.mono {b : Option Addr} {w : World} {R R' : ByteArray → World → Prop} (h : C_strings_Builder_String b w R) (hr : ∀ r w1, R r w1 → R' r w1) : C_strings_Builder_String b w R' :=
  Calls.mono h fun _ _ ⟨r, he, h⟩ => ⟨r, he, hr r _ h⟩

/-- elenchus/elenchusref08.Quote -/
def C_ref08_Quote (sx : ByteArray) (w : World) (R : ByteArray → World → Prop) : Prop :=
  Calls Tryd.prog 38 #[.string sx] w fun en w1 => ∃ (r : ByteArray), en = .returned (.string r) ∧ R r w1
theorem C_ref08_Quote.mono {sx : ByteArray} {w : World} {R R' : ByteArray → World → Prop} (h : C_ref08_Quote sx w R) (hr : ∀ r w1, R r w1 → R' r w1) : C_ref08_Quote sx w R' :=
  Calls.mono h fun _ _ ⟨r, he, h⟩ => ⟨r, he, hr r _ h⟩

/-- elenchus/script.DecodeRun-1 -/
def C_script_DecodeRun_1 (c0 : Addr) (c1 : Addr) (w : World) (R : World → Prop) : Prop :=
  Calls Tryd.prog 39 #[.pointer (some c0), .pointer (some c1)] w fun en w1 => en = .returned (.tuple #[]) ∧ R w1
theorem C_script_DecodeRun_1.mono {c0 : Addr} {c1 : Addr} {w : World} {R R' : World → Prop} (h : C_script_DecodeRun_1 c0 c1 w R) (hr : ∀ w1, R w1 → R' w1) : C_script_DecodeRun_1 c0 c1 w R' :=
  Calls.mono h fun _ _ ⟨he, h⟩ => ⟨he, hr _ h⟩

/-- elenchus/script.fold -/
def C_script_fold (n : Int) (w : World) (R : Int → World → Prop) : Prop :=
  Calls Tryd.prog 40 #[.int .i64 n] w fun en w1 => ∃ (r : Int), en = .returned (.int .u64 r) ∧ R r w1
theorem C_script_fold.mono {n : Int} {w : World} {R R' : Int → World → Prop} (h : C_script_fold n w R) (hr : ∀ r w1, R r w1 → R' r w1) : C_script_fold n w R' :=
  Calls.mono h fun _ _ ⟨r, he, h⟩ => ⟨r, he, hr r _ h⟩

/-- (elenchus/script.reader).count -/
def C_script_reader_count (r : Option Addr) (mostx : Int) (w : World) (R : Int → World → Prop) : Prop :=
  Calls Tryd.prog 41 #[.pointer r, .int .i64 mostx] w fun en w1 => ∃ (r_1 : Int), en = .returned (.int .i64 r_1) ∧ R r_1 w1
theorem C_script_reader_count.mono {r : Option Addr} {mostx : Int} {w : World} {R R' : Int → World → Prop} (h : C_script_reader_count r mostx w R) (hr : ∀ r_1 w1, R r_1 w1 → R' r_1 w1) : C_script_reader_count r mostx w R' :=
  Calls.mono h fun _ _ ⟨r_1, he, h⟩ => ⟨r_1, he, hr r_1 _ h⟩

/-- (elenchus/script.reader).next -/
def C_script_reader_next (r : Option Addr) (w : World) (R : Int → World → Prop) : Prop :=
  Calls Tryd.prog 42 #[.pointer r] w fun en w1 => ∃ (r_1 : Int), en = .returned (.int .u8 r_1) ∧ R r_1 w1
theorem C_script_reader_next.mono {r : Option Addr} {w : World} {R R' : Int → World → Prop} (h : C_script_reader_next r w R) (hr : ∀ r_1 w1, R r_1 w1 → R' r_1 w1) : C_script_reader_next r w R' :=
  Calls.mono h fun _ _ ⟨r_1, he, h⟩ => ⟨r_1, he, hr r_1 _ h⟩

/-- elenchus/script.unfold -/
def C_script_unfold (u : Int) (w : World) (R : Int → World → Prop) : Prop :=
  Calls Tryd.prog 43 #[.int .u64 u] w fun en w1 => ∃ (r : Int), en = .returned (.int .i64 r) ∧ R r w1
theorem C_script_unfold.mono {u : Int} {w : World} {R R' : Int → World → Prop} (h : C_script_unfold u w R) (hr : ∀ r w1, R r w1 → R' r w1) : C_script_unfold u w R' :=
  Calls.mono h fun _ _ ⟨r, he, h⟩ => ⟨r, he, hr r _ h⟩

/-- (strings.Builder).copyCheck -/
def C_strings_Builder_copyCheck (b : Option Addr) (w : World) (R : World → Prop) : Prop :=
  Calls Tryd.prog 44 #[.pointer b] w fun en w1 => en = .returned (.tuple #[]) ∧ R w1
theorem C_strings_Builder_copyCheck.mono {b : Option Addr} {w : World} {R R' : World → Prop} (h : C_strings_Builder_copyCheck b w R) (hr : ∀ w1, R w1 → R' w1) : C_strings_Builder_copyCheck b w R' :=
  Calls.mono h fun _ _ ⟨he, h⟩ => ⟨he, hr _ h⟩

/-- elenchus/token.Quote -/
def C_token_Quote (namex : ByteArray) (w : World) (R : ByteArray → World → Prop) : Prop :=
  Calls Tryd.prog 45 #[.string namex] w fun en w1 => ∃ (r : ByteArray), en = .returned (.string r) ∧ R r w1
theorem C_token_Quote.mono {namex : ByteArray} {w : World} {R R' : ByteArray → World → Prop} (h : C_token_Quote namex w R) (hr : ∀ r w1, R r w1 → R' r w1) : C_token_Quote namex w R' :=
  Calls.mono h fun _ _ ⟨r, he, h⟩ => ⟨r, he, hr r _ h⟩

/-- elenchus/elenchusref08.Plain -/
def C_ref08_Plain (sx : ByteArray) (w : World) (R : Bool → World → Prop) : Prop :=
  Calls Tryd.prog 46 #[.string sx] w fun en w1 => ∃ (r : Bool), en = .returned (.bool r) ∧ R r w1
theorem C_ref08_Plain.mono {sx : ByteArray} {w : World} {R R' : Bool → World → Prop} (h : C_ref08_Plain sx w R) (hr : ∀ r w1, R r w1 → R' r w1) : C_ref08_Plain sx w R' :=
  Calls.mono h fun _ _ ⟨r, he, h⟩ => ⟨r, he, hr r _ h⟩

/-- elenchus/token.Plain -/
def C_token_Plain (namex : ByteArray) (w : World) (R : Bool → World → Prop) : Prop :=
  Calls Tryd.prog 48 #[.string namex] w fun en w1 => ∃ (r : Bool), en = .returned (.bool r) ∧ R r w1
theorem C_token_Plain.mono {namex : ByteArray} {w : World} {R R' : Bool → World → Prop} (h : C_token_Plain namex w R) (hr : ∀ r w1, R r w1 → R' r w1) : C_token_Plain namex w R' :=
  Calls.mono h fun _ _ ⟨r, he, h⟩ => ⟨r, he, hr r _ h⟩

/-- (strings.Builder).WriteByte -/
def C_strings_Builder_WriteByte (b : Option Addr) (cx : Int) (w : World) (R : Value → World → Prop) : Prop :=
  Calls Tryd.prog 49 #[.pointer b, .int .u8 cx] w fun en w1 => ∃ (r : Value), en = .returned (r) ∧ R r w1
theorem C_strings_Builder_WriteByte.mono {b : Option Addr} {cx : Int} {w : World} {R R' : Value → World → Prop} (h : C_strings_Builder_WriteByte b cx w R) (hr : ∀ r w1, R r w1 → R' r w1) : C_strings_Builder_WriteByte b cx w R' :=
  Calls.mono h fun _ _ ⟨r, he, h⟩ => ⟨r, he, hr r _ h⟩

/-- elenchus/token.sign -/
def C_token_sign (cx : Int) (w : World) (R : ByteArray → World → Prop) : Prop :=
  Calls Tryd.prog 50 #[.int .u8 cx] w fun en w1 => ∃ (r : ByteArray), en = .returned (.string r) ∧ R r w1
theorem C_token_sign.mono {cx : Int} {w : World} {R R' : ByteArray → World → Prop} (h : C_token_sign cx w R) (hr : ∀ r w1, R r w1 → R' r w1) : C_token_sign cx w R' :=
  Calls.mono h fun _ _ ⟨r, he, h⟩ => ⟨r, he, hr r _ h⟩

/-- elenchus/elenchusref08.small -/
def C_ref08_small (cx : Int) (w : World) (R : Bool → World → Prop) : Prop :=
  Calls Tryd.prog 51 #[.int .u8 cx] w fun en w1 => ∃ (r : Bool), en = .returned (.bool r) ∧ R r w1
theorem C_ref08_small.mono {cx : Int} {w : World} {R R' : Bool → World → Prop} (h : C_ref08_small cx w R) (hr : ∀ r w1, R r w1 → R' r w1) : C_ref08_small cx w R' :=
  Calls.mono h fun _ _ ⟨r, he, h⟩ => ⟨r, he, hr r _ h⟩

/-- elenchus/elenchusref08.word -/
def C_ref08_word (cx : Int) (w : World) (R : Bool → World → Prop) : Prop :=
  Calls Tryd.prog 52 #[.int .u8 cx] w fun en w1 => ∃ (r : Bool), en = .returned (.bool r) ∧ R r w1
theorem C_ref08_word.mono {cx : Int} {w : World} {R R' : Bool → World → Prop} (h : C_ref08_word cx w R) (hr : ∀ r w1, R r w1 → R' r w1) : C_ref08_word cx w R' :=
  Calls.mono h fun _ _ ⟨r, he, h⟩ => ⟨r, he, hr r _ h⟩

/-- elenchus/elenchusref08.sign -/
def C_ref08_sign (cx : Int) (w : World) (R : Bool → World → Prop) : Prop :=
  Calls Tryd.prog 53 #[.int .u8 cx] w fun en w1 => ∃ (r : Bool), en = .returned (.bool r) ∧ R r w1
theorem C_ref08_sign.mono {cx : Int} {w : World} {R R' : Bool → World → Prop} (h : C_ref08_sign cx w R) (hr : ∀ r w1, R r w1 → R' r w1) : C_ref08_sign cx w R' :=
  Calls.mono h fun _ _ ⟨r, he, h⟩ => ⟨r, he, hr r _ h⟩

/-- strings.HasPrefix -/
def C_strings_HasPrefix (sx : ByteArray) (prefixx : ByteArray) (w : World) (R : Bool → World → Prop) : Prop :=
  Calls Tryd.prog 54 #[.string sx, .string prefixx] w fun en w1 => ∃ (r : Bool), en = .returned (.bool r) ∧ R r w1
theorem C_strings_HasPrefix.mono {sx : ByteArray} {prefixx : ByteArray} {w : World} {R R' : Bool → World → Prop} (h : C_strings_HasPrefix sx prefixx w R) (hr : ∀ r w1, R r w1 → R' r w1) : C_strings_HasPrefix sx prefixx w R' :=
  Calls.mono h fun _ _ ⟨r, he, h⟩ => ⟨r, he, hr r _ h⟩

/-- elenchus/token.in -/
def C_token_in (cx : Int) (of : ByteArray) (w : World) (R : Bool → World → Prop) : Prop :=
  Calls Tryd.prog 55 #[.int .u8 cx, .string of] w fun en w1 => ∃ (r : Bool), en = .returned (.bool r) ∧ R r w1
theorem C_token_in.mono {cx : Int} {of : ByteArray} {w : World} {R R' : Bool → World → Prop} (h : C_token_in cx of w R) (hr : ∀ r w1, R r w1 → R' r w1) : C_token_in cx of w R' :=
  Calls.mono h fun _ _ ⟨r, he, h⟩ => ⟨r, he, hr r _ h⟩

/-- elenchus/token.all -/
def C_token_all (namex : ByteArray) (of : ByteArray) (w : World) (R : Bool → World → Prop) : Prop :=
  Calls Tryd.prog 56 #[.string namex, .string of] w fun en w1 => ∃ (r : Bool), en = .returned (.bool r) ∧ R r w1
theorem C_token_all.mono {namex : ByteArray} {of : ByteArray} {w : World} {R R' : Bool → World → Prop} (h : C_token_all namex of w R) (hr : ∀ r w1, R r w1 → R' r w1) : C_token_all namex of w R' :=
  Calls.mono h fun _ _ ⟨r, he, h⟩ => ⟨r, he, hr r _ h⟩

/-- strconv.FormatUint -/
def C_strconv_FormatUint (i : Int) (basex : Int) (w : World) (R : ByteArray → World → Prop) : Prop :=
  Calls Tryd.prog 57 #[.int .u64 i, .int .i64 basex] w fun en w1 => ∃ (r : ByteArray), en = .returned (.string r) ∧ R r w1
theorem C_strconv_FormatUint.mono {i : Int} {basex : Int} {w : World} {R R' : ByteArray → World → Prop} (h : C_strconv_FormatUint i basex w R) (hr : ∀ r w1, R r w1 → R' r w1) : C_strconv_FormatUint i basex w R' :=
  Calls.mono h fun _ _ ⟨r, he, h⟩ => ⟨r, he, hr r _ h⟩

/-- internal/stringslite.HasPrefix -/
def C_internal_stringslite_HasPrefix (sx : ByteArray) (prefixx : ByteArray) (w : World) (R : Bool → World → Prop) : Prop :=
  Calls Tryd.prog 58 #[.string sx, .string prefixx] w fun en w1 => ∃ (r : Bool), en = .returned (.bool r) ∧ R r w1
theorem C_internal_stringslite_HasPrefix.mono {sx : ByteArray} {prefixx : ByteArray} {w : World} {R R' : Bool → World → Prop} (h : C_internal_stringslite_HasPrefix sx prefixx w R) (hr : ∀ r w1, R r w1 → R' r w1) : C_internal_stringslite_HasPrefix sx prefixx w R' :=
  Calls.mono h fun _ _ ⟨r, he, h⟩ => ⟨r, he, hr r _ h⟩

/-- strings.IndexByte -/
def C_strings_IndexByte (sx : ByteArray) (cx : Int) (w : World) (R : Int → World → Prop) : Prop :=
  Calls Tryd.prog 59 #[.string sx, .int .u8 cx] w fun en w1 => ∃ (r : Int), en = .returned (.int .i64 r) ∧ R r w1
theorem C_strings_IndexByte.mono {sx : ByteArray} {cx : Int} {w : World} {R R' : Int → World → Prop} (h : C_strings_IndexByte sx cx w R) (hr : ∀ r w1, R r w1 → R' r w1) : C_strings_IndexByte sx cx w R' :=
  Calls.mono h fun _ _ ⟨r, he, h⟩ => ⟨r, he, hr r _ h⟩

/-- internal/strconv.FormatUint -/
def C_internal_strconv_FormatUint (i : Int) (basex : Int) (w : World) (R : ByteArray → World → Prop) : Prop :=
  Calls Tryd.prog 60 #[.int .u64 i, .int .i64 basex] w fun en w1 => ∃ (r : ByteArray), en = .returned (.string r) ∧ R r w1
theorem C_internal_strconv_FormatUint.mono {i : Int} {basex : Int} {w : World} {R R' : ByteArray → World → Prop} (h : C_internal_strconv_FormatUint i basex w R) (hr : ∀ r w1, R r w1 → R' r w1) : C_internal_strconv_FormatUint i basex w R' :=
  Calls.mono h fun _ _ ⟨r, he, h⟩ => ⟨r, he, hr r _ h⟩

/-- internal/stringslite.IndexByte -/
def C_internal_stringslite_IndexByte (sx : ByteArray) (cx : Int) (w : World) (R : Int → World → Prop) : Prop :=
  Calls Tryd.prog 61 #[.string sx, .int .u8 cx] w fun en w1 => ∃ (r : Int), en = .returned (.int .i64 r) ∧ R r w1
theorem C_internal_stringslite_IndexByte.mono {sx : ByteArray} {cx : Int} {w : World} {R R' : Int → World → Prop} (h : C_internal_stringslite_IndexByte sx cx w R) (hr : ∀ r w1, R r w1 → R' r w1) : C_internal_stringslite_IndexByte sx cx w R' :=
  Calls.mono h fun _ _ ⟨r, he, h⟩ => ⟨r, he, hr r _ h⟩

/-- internal/strconv.small -/
def C_internal_strconv_small (i : Int) (w : World) (R : ByteArray → World → Prop) : Prop :=
  Calls Tryd.prog 62 #[.int .i64 i] w fun en w1 => ∃ (r : ByteArray), en = .returned (.string r) ∧ R r w1
theorem C_internal_strconv_small.mono {i : Int} {w : World} {R R' : ByteArray → World → Prop} (h : C_internal_strconv_small i w R) (hr : ∀ r w1, R r w1 → R' r w1) : C_internal_strconv_small i w R' :=
  Calls.mono h fun _ _ ⟨r, he, h⟩ => ⟨r, he, hr r _ h⟩

/-- internal/strconv.numDigits -/
def C_internal_strconv_numDigits (d : Int) (w : World) (R : Int → World → Prop) : Prop :=
  Calls Tryd.prog 63 #[.int .u64 d] w fun en w1 => ∃ (r : Int), en = .returned (.int .i64 r) ∧ R r w1
theorem C_internal_strconv_numDigits.mono {d : Int} {w : World} {R R' : Int → World → Prop} (h : C_internal_strconv_numDigits d w R) (hr : ∀ r w1, R r w1 → R' r w1) : C_internal_strconv_numDigits d w R' :=
  Calls.mono h fun _ _ ⟨r, he, h⟩ => ⟨r, he, hr r _ h⟩

/-- internal/strconv.formatBase10 -/
def C_internal_strconv_formatBase10 (aP : Option Addr) (aN : Nat) (aC : Nat) (u : Int) (w : World) (R : World → Prop) : Prop :=
  Calls Tryd.prog 64 #[.slice aP aN aC, .int .u64 u] w fun en w1 => en = .returned (.tuple #[]) ∧ R w1
theorem C_internal_strconv_formatBase10.mono {aP : Option Addr} {aN : Nat} {aC : Nat} {u : Int} {w : World} {R R' : World → Prop} (h : C_internal_strconv_formatBase10 aP aN aC u w R) (hr : ∀ w1, R w1 → R' w1) : C_internal_strconv_formatBase10 aP aN aC u w R' :=
  Calls.mono h fun _ _ ⟨he, h⟩ => ⟨he, hr _ h⟩

/-- internal/strconv.formatBits -/
def C_internal_strconv_formatBits (dstP : Option Addr) (dstN : Nat) (dstC : Nat) (u : Int) (basex : Int) (neg : Bool) (append : Bool) (w : World) (R : Option Addr → Nat → Nat → ByteArray → World → Prop) : Prop :=
  Calls Tryd.prog 65 #[.slice dstP dstN dstC, .int .u64 u, .int .i64 basex, .bool neg, .bool append] w fun en w1 => ∃ (r0P : Option Addr) (r0N : Nat) (r0C : Nat) (r1 : ByteArray), en = .returned (.tuple #[.slice r0P r0N r0C, .string r1]) ∧ R r0P r0N r0C r1 w1
theorem C_internal_strconv_formatBits.mono {dstP : Option Addr} {dstN : Nat} {dstC : Nat} {u : Int} {basex : Int} {neg : Bool} {append : Bool} {w : World} {R R' : Option Addr → Nat → Nat → ByteArray → World → Prop} (h : C_internal_strconv_formatBits dstP dstN dstC u basex neg append w R) (hr : ∀ r0P r0N r0C r1 w1, R r0P r0N r0C r1 w1 → R' r0P r0N r0C r1 w1) : C_internal_strconv_formatBits dstP dstN dstC u basex neg append w R' :=
  Calls.mono h fun _ _ ⟨r0P, r0N, r0C, r1, he, h⟩ => ⟨r0P, r0N, r0C, r1, he, hr r0P r0N r0C r1 _ h⟩

/-- internal/strconv.log10Pow2 -/
def C_internal_strconv_log10Pow2 (x : Int) (w : World) (R : Int → World → Prop) : Prop :=
  Calls Tryd.prog 67 #[.int .i64 x] w fun en w1 => ∃ (r : Int), en = .returned (.int .i64 r) ∧ R r w1
theorem C_internal_strconv_log10Pow2.mono {x : Int} {w : World} {R R' : Int → World → Prop} (h : C_internal_strconv_log10Pow2 x w R) (hr : ∀ r w1, R r w1 → R' r w1) : C_internal_strconv_log10Pow2 x w R' :=
  Calls.mono h fun _ _ ⟨r, he, h⟩ => ⟨r, he, hr r _ h⟩

/-- math/bits.Len64 -/
def C_math_bits_Len64 (x : Int) (w : World) (R : Int → World → Prop) : Prop :=
  Calls Tryd.prog 68 #[.int .u64 x] w fun en w1 => ∃ (r : Int), en = .returned (.int .i64 r) ∧ R r w1
theorem C_math_bits_Len64.mono {x : Int} {w : World} {R R' : Int → World → Prop} (h : C_math_bits_Len64 x w R) (hr : ∀ r w1, R r w1 → R' r w1) : C_math_bits_Len64 x w R' :=
  Calls.mono h fun _ _ ⟨r, he, h⟩ => ⟨r, he, hr r _ h⟩

/-- internal/strconv.bool2[int] -/
def C_internal_strconv_bool2 (b : Bool) (w : World) (R : Int → World → Prop) : Prop :=
  Calls Tryd.prog 69 #[.bool b] w fun en w1 => ∃ (r : Int), en = .returned (.int .i64 r) ∧ R r w1
theorem C_internal_strconv_bool2.mono {b : Bool} {w : World} {R R' : Int → World → Prop} (h : C_internal_strconv_bool2 b w R) (hr : ∀ r w1, R r w1 → R' r w1) : C_internal_strconv_bool2 b w R' :=
  Calls.mono h fun _ _ ⟨r, he, h⟩ => ⟨r, he, hr r _ h⟩

/-- internal/strconv.isPowerOfTwo -/
def C_internal_strconv_isPowerOfTwo (x : Int) (w : World) (R : Bool → World → Prop) : Prop :=
  Calls Tryd.prog 70 #[.int .i64 x] w fun en w1 => ∃ (r : Bool), en = .returned (.bool r) ∧ R r w1
theorem C_internal_strconv_isPowerOfTwo.mono {x : Int} {w : World} {R R' : Bool → World → Prop} (h : C_internal_strconv_isPowerOfTwo x w R) (hr : ∀ r w1, R r w1 → R' r w1) : C_internal_strconv_isPowerOfTwo x w R' :=
  Calls.mono h fun _ _ ⟨r, he, h⟩ => ⟨r, he, hr r _ h⟩

/-- math/bits.TrailingZeros -/
def C_math_bits_TrailingZeros (x : Int) (w : World) (R : Int → World → Prop) : Prop :=
  Calls Tryd.prog 71 #[.int .u64 x] w fun en w1 => ∃ (r : Int), en = .returned (.int .i64 r) ∧ R r w1
theorem C_math_bits_TrailingZeros.mono {x : Int} {w : World} {R R' : Int → World → Prop} (h : C_math_bits_TrailingZeros x w R) (hr : ∀ r w1, R r w1 → R' r w1) : C_math_bits_TrailingZeros x w R' :=
  Calls.mono h fun _ _ ⟨r, he, h⟩ => ⟨r, he, hr r _ h⟩

/-- math/bits.TrailingZeros32 -/
def C_math_bits_TrailingZeros32 (x : Int) (w : World) (R : Int → World → Prop) : Prop :=
  Calls Tryd.prog 72 #[.int .u32 x] w fun en w1 => ∃ (r : Int), en = .returned (.int .i64 r) ∧ R r w1
theorem C_math_bits_TrailingZeros32.mono {x : Int} {w : World} {R R' : Int → World → Prop} (h : C_math_bits_TrailingZeros32 x w R) (hr : ∀ r w1, R r w1 → R' r w1) : C_math_bits_TrailingZeros32 x w R' :=
  Calls.mono h fun _ _ ⟨r, he, h⟩ => ⟨r, he, hr r _ h⟩

/-- math/bits.TrailingZeros64 -/
def C_math_bits_TrailingZeros64 (x : Int) (w : World) (R : Int → World → Prop) : Prop :=
  Calls Tryd.prog 73 #[.int .u64 x] w fun en w1 => ∃ (r : Int), en = .returned (.int .i64 r) ∧ R r w1
theorem C_math_bits_TrailingZeros64.mono {x : Int} {w : World} {R R' : Int → World → Prop} (h : C_math_bits_TrailingZeros64 x w R) (hr : ∀ r w1, R r w1 → R' r w1) : C_math_bits_TrailingZeros64 x w R' :=
  Calls.mono h fun _ _ ⟨r, he, h⟩ => ⟨r, he, hr r _ h⟩

/-- gosem.cut.vars -/
def C_gosem_cut_vars  (w : World) (R : World → Prop) : Prop :=
  Calls Tryd.prog 96 #[] w fun en w1 => en = .returned (.tuple #[]) ∧ R w1
theorem C_gosem_cut_vars.mono {w : World} {R R' : World → Prop} (h : C_gosem_cut_vars  w R) (hr : ∀ w1, R w1 → R' w1) : C_gosem_cut_vars  w R' :=
  Calls.mono h fun _ _ ⟨he, h⟩ => ⟨he, hr _ h⟩

end Go.Proofs.YtggbmakfifllnaaDoor
