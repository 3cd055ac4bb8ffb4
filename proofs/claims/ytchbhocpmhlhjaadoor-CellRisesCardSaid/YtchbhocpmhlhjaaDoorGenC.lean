/- The calls of this seat's functions, typed. Printed by a program. -/
import Derived.Test.YtchbhocpmhlhjaaDoorDen6
import Derived.Test.YtchbhocpmhlhjaaDoorProg
namespace Go.Proofs.YtchbhocpmhlhjaaDoor
open Go Go.D Go.Proofs

theorem seat_ok : AllCallable Tryd.prog := allCallable_of (by kernel_rfl)
theorem seat_mixed : Tryd.prog.follows .mixedOrders = true := by kernel_rfl

/-- gosem.cut.init -/
def C_gosem_cut_init  (w : World) (R : World → Prop) : Prop :=
  Calls Tryd.prog 2 #[] w fun en w1 => en = .returned (.tuple #[]) ∧ R w1
theorem C_gosem_cut_init.mono {w : World} {R R' : World → Prop} (h : C_gosem_cut_init  w R) (hr : ∀ w1, R w1 → R' w1) : C_gosem_cut_init  w R' :=
  Calls.mono h fun _ _ ⟨he, h⟩ => ⟨he, hr _ h⟩

/-- elenchus/elenchuslaw01.CellMakes -/
def C_law01_CellMakes (tag : Int) (n : Int) (w : World) (R : Bool → World → Prop) : Prop :=
  Calls Tryd.prog 3 #[.int .i64 tag, .int .i64 n] w fun en w1 => ∃ (r : Bool), en = .returned (.bool r) ∧ R r w1
theorem C_law01_CellMakes.mono {tag : Int} {n : Int} {w : World} {R R' : Bool → World → Prop} (h : C_law01_CellMakes tag n w R) (hr : ∀ r w1, R r w1 → R' r w1) : C_law01_CellMakes tag n w R' :=
  Calls.mono h fun _ _ ⟨r, he, h⟩ => ⟨r, he, hr r _ h⟩

/-- elenchus/elenchuslaw01.CellReads -/
def C_law01_CellReads (wx : Int) (tag : Int) (w : World) (R : Bool → World → Prop) : Prop :=
  Calls Tryd.prog 4 #[.int .u64 wx, .int .i64 tag] w fun en w1 => ∃ (r : Bool), en = .returned (.bool r) ∧ R r w1
theorem C_law01_CellReads.mono {wx : Int} {tag : Int} {w : World} {R R' : Bool → World → Prop} (h : C_law01_CellReads wx tag w R) (hr : ∀ r w1, R r w1 → R' r w1) : C_law01_CellReads wx tag w R' :=
  Calls.mono h fun _ _ ⟨r, he, h⟩ => ⟨r, he, hr r _ h⟩

/-- elenchus/elenchuslaw01.CellTexts -/
def C_law01_CellTexts (wx : Int) (sx : ByteArray) (w : World) (R : Bool → World → Prop) : Prop :=
  Calls Tryd.prog 5 #[.int .u64 wx, .string sx] w fun en w1 => ∃ (r : Bool), en = .returned (.bool r) ∧ R r w1
theorem C_law01_CellTexts.mono {wx : Int} {sx : ByteArray} {w : World} {R R' : Bool → World → Prop} (h : C_law01_CellTexts wx sx w R) (hr : ∀ r w1, R r w1 → R' r w1) : C_law01_CellTexts wx sx w R' :=
  Calls.mono h fun _ _ ⟨r, he, h⟩ => ⟨r, he, hr r _ h⟩

/-- elenchus/elenchuslaw01.CellApart -/
def C_law01_CellApart (tag : Int) (n : Int) (other : Int) (m : Int) (w : World) (R : Bool → World → Prop) : Prop :=
  Calls Tryd.prog 6 #[.int .i64 tag, .int .i64 n, .int .i64 other, .int .i64 m] w fun en w1 => ∃ (r : Bool), en = .returned (.bool r) ∧ R r w1
theorem C_law01_CellApart.mono {tag : Int} {n : Int} {other : Int} {m : Int} {w : World} {R R' : Bool → World → Prop} (h : C_law01_CellApart tag n other m w R) (hr : ∀ r w1, R r w1 → R' r w1) : C_law01_CellApart tag n other m w R' :=
  Calls.mono h fun _ _ ⟨r, he, h⟩ => ⟨r, he, hr r _ h⟩

/-- elenchus/elenchuslaw01.CellRises -/
def C_law01_CellRises (tag : Int) (n : Int) (m : Int) (w : World) (R : Bool → World → Prop) : Prop :=
  Calls Tryd.prog 7 #[.int .i64 tag, .int .i64 n, .int .i64 m] w fun en w1 => ∃ (r : Bool), en = .returned (.bool r) ∧ R r w1
theorem C_law01_CellRises.mono {tag : Int} {n : Int} {m : Int} {w : World} {R R' : Bool → World → Prop} (h : C_law01_CellRises tag n m w R) (hr : ∀ r w1, R r w1 → R' r w1) : C_law01_CellRises tag n m w R' :=
  Calls.mono h fun _ _ ⟨r, he, h⟩ => ⟨r, he, hr r _ h⟩

/-- elenchus/cell.Make -/
def C_cell_Make (tag : Int) (n : Int) (w : World) (R : Int → Int → World → Prop) : Prop :=
  Calls Tryd.prog 8 #[.int .i64 tag, .int .i64 n] w fun en w1 => ∃ (r0 : Int) (r1 : Int), en = .returned (.tuple #[.int .u64 r0, .int .i64 r1]) ∧ R r0 r1 w1
theorem C_cell_Make.mono {tag : Int} {n : Int} {w : World} {R R' : Int → Int → World → Prop} (h : C_cell_Make tag n w R) (hr : ∀ r0 r1 w1, R r0 r1 w1 → R' r0 r1 w1) : C_cell_Make tag n w R' :=
  Calls.mono h fun _ _ ⟨r0, r1, he, h⟩ => ⟨r0, r1, he, hr r0 r1 _ h⟩

/-- elenchus/elenchuslaw01.lives -/
def C_law01_lives  (w : World) (R : Bool → World → Prop) : Prop :=
  Calls Tryd.prog 9 #[] w fun en w1 => ∃ (r : Bool), en = .returned (.bool r) ∧ R r w1
theorem C_law01_lives.mono {w : World} {R R' : Bool → World → Prop} (h : C_law01_lives  w R) (hr : ∀ r w1, R r w1 → R' r w1) : C_law01_lives  w R' :=
  Calls.mono h fun _ _ ⟨r, he, h⟩ => ⟨r, he, hr r _ h⟩

/-- elenchus/elenchusref01.May -/
def C_ref01_May (tag : Int) (n : Int) (w : World) (R : Bool → World → Prop) : Prop :=
  Calls Tryd.prog 10 #[.int .i64 tag, .int .i64 n] w fun en w1 => ∃ (r : Bool), en = .returned (.bool r) ∧ R r w1
theorem C_ref01_May.mono {tag : Int} {n : Int} {w : World} {R R' : Bool → World → Prop} (h : C_ref01_May tag n w R) (hr : ∀ r w1, R r w1 → R' r w1) : C_ref01_May tag n w R' :=
  Calls.mono h fun _ _ ⟨r, he, h⟩ => ⟨r, he, hr r _ h⟩

/-- elenchus/elenchusref01.Make -/
def C_ref01_Make (tag : Int) (n : Int) (w : World) (R : Int → World → Prop) : Prop :=
  Calls Tryd.prog 11 #[.int .i64 tag, .int .i64 n] w fun en w1 => ∃ (r : Int), en = .returned (.int .u64 r) ∧ R r w1
theorem C_ref01_Make.mono {tag : Int} {n : Int} {w : World} {R R' : Int → World → Prop} (h : C_ref01_Make tag n w R) (hr : ∀ r w1, R r w1 → R' r w1) : C_ref01_Make tag n w R' :=
  Calls.mono h fun _ _ ⟨r, he, h⟩ => ⟨r, he, hr r _ h⟩

/-- elenchus/cell.Tag -/
def C_cell_Tag (wx : Int) (w : World) (R : Int → World → Prop) : Prop :=
  Calls Tryd.prog 12 #[.int .u64 wx] w fun en w1 => ∃ (r : Int), en = .returned (.int .i64 r) ∧ R r w1
theorem C_cell_Tag.mono {wx : Int} {w : World} {R R' : Int → World → Prop} (h : C_cell_Tag wx w R) (hr : ∀ r w1, R r w1 → R' r w1) : C_cell_Tag wx w R' :=
  Calls.mono h fun _ _ ⟨r, he, h⟩ => ⟨r, he, hr r _ h⟩

/-- elenchus/cell.Number -/
def C_cell_Number (wx : Int) (w : World) (R : Int → World → Prop) : Prop :=
  Calls Tryd.prog 13 #[.int .u64 wx] w fun en w1 => ∃ (r : Int), en = .returned (.int .i64 r) ∧ R r w1
theorem C_cell_Number.mono {wx : Int} {w : World} {R R' : Int → World → Prop} (h : C_cell_Number wx w R) (hr : ∀ r w1, R r w1 → R' r w1) : C_cell_Number wx w R' :=
  Calls.mono h fun _ _ ⟨r, he, h⟩ => ⟨r, he, hr r _ h⟩

/-- elenchus/cell.Is -/
def C_cell_Is (wx : Int) (tag : Int) (w : World) (R : Bool → World → Prop) : Prop :=
  Calls Tryd.prog 14 #[.int .u64 wx, .int .i64 tag] w fun en w1 => ∃ (r : Bool), en = .returned (.bool r) ∧ R r w1
theorem C_cell_Is.mono {wx : Int} {tag : Int} {w : World} {R R' : Bool → World → Prop} (h : C_cell_Is wx tag w R) (hr : ∀ r w1, R r w1 → R' r w1) : C_cell_Is wx tag w R' :=
  Calls.mono h fun _ _ ⟨r, he, h⟩ => ⟨r, he, hr r _ h⟩

/-- elenchus/elenchusref01.Tag -/
def C_ref01_Tag (wx : Int) (w : World) (R : Int → World → Prop) : Prop :=
  Calls Tryd.prog 15 #[.int .u64 wx] w fun en w1 => ∃ (r : Int), en = .returned (.int .i64 r) ∧ R r w1
theorem C_ref01_Tag.mono {wx : Int} {w : World} {R R' : Int → World → Prop} (h : C_ref01_Tag wx w R) (hr : ∀ r w1, R r w1 → R' r w1) : C_ref01_Tag wx w R' :=
  Calls.mono h fun _ _ ⟨r, he, h⟩ => ⟨r, he, hr r _ h⟩

/-- elenchus/elenchusref01.Number -/
def C_ref01_Number (wx : Int) (w : World) (R : Int → World → Prop) : Prop :=
  Calls Tryd.prog 16 #[.int .u64 wx] w fun en w1 => ∃ (r : Int), en = .returned (.int .i64 r) ∧ R r w1
theorem C_ref01_Number.mono {wx : Int} {w : World} {R R' : Int → World → Prop} (h : C_ref01_Number wx w R) (hr : ∀ r w1, R r w1 → R' r w1) : C_ref01_Number wx w R' :=
  Calls.mono h fun _ _ ⟨r, he, h⟩ => ⟨r, he, hr r _ h⟩

/-- elenchus/cell.Text -/
def C_cell_Text (wx : Int) (w : World) (R : ByteArray → World → Prop) : Prop :=
  Calls Tryd.prog 17 #[.int .u64 wx] w fun en w1 => ∃ (r : ByteArray), en = .returned (.string r) ∧ R r w1
theorem C_cell_Text.mono {wx : Int} {w : World} {R R' : ByteArray → World → Prop} (h : C_cell_Text wx w R) (hr : ∀ r w1, R r w1 → R' r w1) : C_cell_Text wx w R' :=
  Calls.mono h fun _ _ ⟨r, he, h⟩ => ⟨r, he, hr r _ h⟩

/-- elenchus/elenchusref01.Text -/
def C_ref01_Text (wx : Int) (w : World) (R : ByteArray → World → Prop) : Prop :=
  Calls Tryd.prog 18 #[.int .u64 wx] w fun en w1 => ∃ (r : ByteArray), en = .returned (.string r) ∧ R r w1
theorem C_ref01_Text.mono {wx : Int} {w : World} {R R' : ByteArray → World → Prop} (h : C_ref01_Text wx w R) (hr : ∀ r w1, R r w1 → R' r w1) : C_ref01_Text wx w R' :=
  Calls.mono h fun _ _ ⟨r, he, h⟩ => ⟨r, he, hr r _ h⟩

/-- elenchus/cell.Name -/
def C_cell_Name (tag : Int) (w : World) (R : ByteArray → World → Prop) : Prop :=
  Calls Tryd.prog 19 #[.int .i64 tag] w fun en w1 => ∃ (r : ByteArray), en = .returned (.string r) ∧ R r w1
theorem C_cell_Name.mono {tag : Int} {w : World} {R R' : ByteArray → World → Prop} (h : C_cell_Name tag w R) (hr : ∀ r w1, R r w1 → R' r w1) : C_cell_Name tag w R' :=
  Calls.mono h fun _ _ ⟨r, he, h⟩ => ⟨r, he, hr r _ h⟩

/-- elenchus/elenchusref01.Name -/
def C_ref01_Name (tag : Int) (w : World) (R : ByteArray → World → Prop) : Prop :=
  Calls Tryd.prog 20 #[.int .i64 tag] w fun en w1 => ∃ (r : ByteArray), en = .returned (.string r) ∧ R r w1
theorem C_ref01_Name.mono {tag : Int} {w : World} {R R' : ByteArray → World → Prop} (h : C_ref01_Name tag w R) (hr : ∀ r w1, R r w1 → R' r w1) : C_ref01_Name tag w R' :=
  Calls.mono h fun _ _ ⟨r, he, h⟩ => ⟨r, he, hr r _ h⟩

/-- elenchus/cell.Parse -/
def C_cell_Parse (sx : ByteArray) (w : World) (R : Int → Int → World → Prop) : Prop :=
  Calls Tryd.prog 21 #[.string sx] w fun en w1 => ∃ (r0 : Int) (r1 : Int), en = .returned (.tuple #[.int .u64 r0, .int .i64 r1]) ∧ R r0 r1 w1
theorem C_cell_Parse.mono {sx : ByteArray} {w : World} {R R' : Int → Int → World → Prop} (h : C_cell_Parse sx w R) (hr : ∀ r0 r1 w1, R r0 r1 w1 → R' r0 r1 w1) : C_cell_Parse sx w R' :=
  Calls.mono h fun _ _ ⟨r0, r1, he, h⟩ => ⟨r0, r1, he, hr r0 r1 _ h⟩

/-- elenchus/elenchusref01.Parse -/
def C_ref01_Parse (sx : ByteArray) (w : World) (R : Int → Bool → World → Prop) : Prop :=
  Calls Tryd.prog 22 #[.string sx] w fun en w1 => ∃ (r0 : Int) (r1 : Bool), en = .returned (.tuple #[.int .u64 r0, .bool r1]) ∧ R r0 r1 w1
theorem C_ref01_Parse.mono {sx : ByteArray} {w : World} {R R' : Int → Bool → World → Prop} (h : C_ref01_Parse sx w R) (hr : ∀ r0 r1 w1, R r0 r1 w1 → R' r0 r1 w1) : C_ref01_Parse sx w R' :=
  Calls.mono h fun _ _ ⟨r0, r1, he, h⟩ => ⟨r0, r1, he, hr r0 r1 _ h⟩

/-- strconv.Itoa -/
def C_strconv_Itoa (i : Int) (w : World) (R : ByteArray → World → Prop) : Prop :=
  Calls Tryd.prog 23 #[.int .i64 i] w fun en w1 => ∃ (r : ByteArray), en = .returned (.string r) ∧ R r w1
theorem C_strconv_Itoa.mono {i : Int} {w : World} {R R' : ByteArray → World → Prop} (h : C_strconv_Itoa i w R) (hr : ∀ r w1, R r w1 → R' r w1) : C_strconv_Itoa i w R' :=
  Calls.mono h fun _ _ ⟨r, he, h⟩ => ⟨r, he, hr r _ h⟩

/-- elenchus/elenchusref01.Digits -/
def C_ref01_Digits (n : Int) (w : World) (R : ByteArray → World → Prop) : Prop :=
  Calls Tryd.prog 24 #[.int .i64 n] w fun en w1 => ∃ (r : ByteArray), en = .returned (.string r) ∧ R r w1
theorem C_ref01_Digits.mono {n : Int} {w : World} {R R' : ByteArray → World → Prop} (h : C_ref01_Digits n w R) (hr : ∀ r w1, R r w1 → R' r w1) : C_ref01_Digits n w R' :=
  Calls.mono h fun _ _ ⟨r, he, h⟩ => ⟨r, he, hr r _ h⟩

/-- strings.Cut -/
def C_strings_Cut (sx : ByteArray) (sep : ByteArray) (w : World) (R : ByteArray → ByteArray → Bool → World → Prop) : Prop :=
  Calls Tryd.prog 25 #[.string sx, .string sep] w fun en w1 => ∃ (r0 : ByteArray) (r1 : ByteArray) (r2 : Bool), en = .returned (.tuple #[.string r0, .string r1, .bool r2]) ∧ R r0 r1 r2 w1
theorem C_strings_Cut.mono {sx : ByteArray} {sep : ByteArray} {w : World} {R R' : ByteArray → ByteArray → Bool → World → Prop} (h : C_strings_Cut sx sep w R) (hr : ∀ r0 r1 r2 w1, R r0 r1 r2 w1 → R' r0 r1 r2 w1) : C_strings_Cut sx sep w R' :=
  Calls.mono h fun _ _ ⟨r0, r1, r2, he, h⟩ => ⟨r0, r1, r2, he, hr r0 r1 r2 _ h⟩

/-- strconv.ParseInt -/
def C_strconv_ParseInt (sx : ByteArray) (basex : Int) (bitSize : Int) (w : World) (R : Int → Value → World → Prop) : Prop :=
  Calls Tryd.prog 26 #[.string sx, .int .i64 basex, .int .i64 bitSize] w fun en w1 => ∃ (r0 : Int) (r1 : Value), en = .returned (.tuple #[.int .i64 r0, r1]) ∧ R r0 r1 w1
theorem C_strconv_ParseInt.mono {sx : ByteArray} {basex : Int} {bitSize : Int} {w : World} {R R' : Int → Value → World → Prop} (h : C_strconv_ParseInt sx basex bitSize w R) (hr : ∀ r0 r1 w1, R r0 r1 w1 → R' r0 r1 w1) : C_strconv_ParseInt sx basex bitSize w R' :=
  Calls.mono h fun _ _ ⟨r0, r1, he, h⟩ => ⟨r0, r1, he, hr r0 r1 _ h⟩

/-- strconv.FormatInt -/
def C_strconv_FormatInt (i : Int) (basex : Int) (w : World) (R : ByteArray → World → Prop) : Prop :=
  Calls Tryd.prog 27 #[.int .i64 i, .int .i64 basex] w fun en w1 => ∃ (r : ByteArray), en = .returned (.string r) ∧ R r w1
theorem C_strconv_FormatInt.mono {i : Int} {basex : Int} {w : World} {R R' : ByteArray → World → Prop} (h : C_strconv_FormatInt i basex w R) (hr : ∀ r w1, R r w1 → R' r w1) : C_strconv_FormatInt i basex w R' :=
  Calls.mono h fun _ _ ⟨r, he, h⟩ => ⟨r, he, hr r _ h⟩

/-- elenchus/cell.tagOf -/
def C_cell_tagOf (namex : ByteArray) (w : World) (R : Int → World → Prop) : Prop :=
  Calls Tryd.prog 28 #[.string namex] w fun en w1 => ∃ (r : Int), en = .returned (.int .i64 r) ∧ R r w1
theorem C_cell_tagOf.mono {namex : ByteArray} {w : World} {R R' : Int → World → Prop} (h : C_cell_tagOf namex w R) (hr : ∀ r w1, R r w1 → R' r w1) : C_cell_tagOf namex w R' :=
  Calls.mono h fun _ _ ⟨r, he, h⟩ => ⟨r, he, hr r _ h⟩

/-- elenchus/elenchusref01.number -/
def C_ref01_number (sx : ByteArray) (w : World) (R : Int → Bool → World → Prop) : Prop :=
  Calls Tryd.prog 29 #[.string sx] w fun en w1 => ∃ (r0 : Int) (r1 : Bool), en = .returned (.tuple #[.int .i64 r0, .bool r1]) ∧ R r0 r1 w1
theorem C_ref01_number.mono {sx : ByteArray} {w : World} {R R' : Int → Bool → World → Prop} (h : C_ref01_number sx w R) (hr : ∀ r0 r1 w1, R r0 r1 w1 → R' r0 r1 w1) : C_ref01_number sx w R' :=
  Calls.mono h fun _ _ ⟨r0, r1, he, h⟩ => ⟨r0, r1, he, hr r0 r1 _ h⟩

/-- internal/strconv.Itoa -/
def C_internal_strconv_Itoa (i : Int) (w : World) (R : ByteArray → World → Prop) : Prop :=
  Calls Tryd.prog 30 #[.int .i64 i] w fun en w1 => ∃ (r : ByteArray), en = .returned (.string r) ∧ R r w1
theorem C_internal_strconv_Itoa.mono {i : Int} {w : World} {R R' : ByteArray → World → Prop} (h : C_internal_strconv_Itoa i w R) (hr : ∀ r w1, R r w1 → R' r w1) : C_internal_strconv_Itoa i w R' :=
  Calls.mono h fun _ _ ⟨r, he, h⟩ => ⟨r, he, hr r _ h⟩

/-- internal/stringslite.Cut -/
def C_internal_stringslite_Cut (sx : ByteArray) (sep : ByteArray) (w : World) (R : ByteArray → ByteArray → Bool → World → Prop) : Prop :=
  Calls Tryd.prog 31 #[.string sx, .string sep] w fun en w1 => ∃ (r0 : ByteArray) (r1 : ByteArray) (r2 : Bool), en = .returned (.tuple #[.string r0, .string r1, .bool r2]) ∧ R r0 r1 r2 w1
theorem C_internal_stringslite_Cut.mono {sx : ByteArray} {sep : ByteArray} {w : World} {R R' : ByteArray → ByteArray → Bool → World → Prop} (h : C_internal_stringslite_Cut sx sep w R) (hr : ∀ r0 r1 r2 w1, R r0 r1 r2 w1 → R' r0 r1 r2 w1) : C_internal_stringslite_Cut sx sep w R' :=
  Calls.mono h fun _ _ ⟨r0, r1, r2, he, h⟩ => ⟨r0, r1, r2, he, hr r0 r1 r2 _ h⟩

/-- internal/strconv.ParseInt -/
def C_internal_strconv_ParseInt (sx : ByteArray) (basex : Int) (bitSize : Int) (w : World) (R : Int → Value → World → Prop) : Prop :=
  Calls Tryd.prog 32 #[.string sx, .int .i64 basex, .int .i64 bitSize] w fun en w1 => ∃ (r0 : Int) (r1 : Value), en = .returned (.tuple #[.int .i64 r0, r1]) ∧ R r0 r1 w1
theorem C_internal_strconv_ParseInt.mono {sx : ByteArray} {basex : Int} {bitSize : Int} {w : World} {R R' : Int → Value → World → Prop} (h : C_internal_strconv_ParseInt sx basex bitSize w R) (hr : ∀ r0 r1 w1, R r0 r1 w1 → R' r0 r1 w1) : C_internal_strconv_ParseInt sx basex bitSize w R' :=
  Calls.mono h fun _ _ ⟨r0, r1, he, h⟩ => ⟨r0, r1, he, hr r0 r1 _ h⟩

/-- strconv.toError -/
def C_strconv_toError (fn : ByteArray) (sx : ByteArray) (basex : Int) (bitSize : Int) (err : Value) (w : World) (R : Value → World → Prop) : Prop :=
  Calls Tryd.prog 33 #[.string fn, .string sx, .int .i64 basex, .int .i64 bitSize, err] w fun en w1 => ∃ (r : Value), en = .returned (r) ∧ R r w1
theorem C_strconv_toError.mono {fn : ByteArray} {sx : ByteArray} {basex : Int} {bitSize : Int} {err : Value} {w : World} {R R' : Value → World → Prop} (h : C_strconv_toError fn sx basex bitSize err w R) (hr : ∀ r w1, R r w1 → R' r w1) : C_strconv_toError fn sx basex bitSize err w R' :=
  Calls.mono h fun _ _ ⟨r, he, h⟩ => ⟨r, he, hr r _ h⟩

/-- internal/strconv.FormatInt -/
def C_internal_strconv_FormatInt (i : Int) (basex : Int) (w : World) (R : ByteArray → World → Prop) : Prop :=
  Calls Tryd.prog 34 #[.int .i64 i, .int .i64 basex] w fun en w1 => ∃ (r : ByteArray), en = .returned (.string r) ∧ R r w1
theorem C_internal_strconv_FormatInt.mono {i : Int} {basex : Int} {w : World} {R R' : ByteArray → World → Prop} (h : C_internal_strconv_FormatInt i basex w R) (hr : ∀ r w1, R r w1 → R' r w1) : C_internal_strconv_FormatInt i basex w R' :=
  Calls.mono h fun _ _ ⟨r, he, h⟩ => ⟨r, he, hr r _ h⟩

/-- internal/stringslite.Index -/
def C_internal_stringslite_Index (sx : ByteArray) (substr : ByteArray) (w : World) (R : Int → World → Prop) : Prop :=
  Calls Tryd.prog 35 #[.string sx, .string substr] w fun en w1 => ∃ (r : Int), en = .returned (.int .i64 r) ∧ R r w1
theorem C_internal_stringslite_Index.mono {sx : ByteArray} {substr : ByteArray} {w : World} {R R' : Int → World → Prop} (h : C_internal_stringslite_Index sx substr w R) (hr : ∀ r w1, R r w1 → R' r w1) : C_internal_stringslite_Index sx substr w R' :=
  Calls.mono h fun _ _ ⟨r, he, h⟩ => ⟨r, he, hr r _ h⟩

/-- internal/strconv.ParseUint -/
def C_internal_strconv_ParseUint (sx : ByteArray) (basex : Int) (bitSize : Int) (w : World) (R : Int → Value → World → Prop) : Prop :=
  Calls Tryd.prog 36 #[.string sx, .int .i64 basex, .int .i64 bitSize] w fun en w1 => ∃ (r0 : Int) (r1 : Value), en = .returned (.tuple #[.int .u64 r0, r1]) ∧ R r0 r1 w1
theorem C_internal_strconv_ParseUint.mono {sx : ByteArray} {basex : Int} {bitSize : Int} {w : World} {R R' : Int → Value → World → Prop} (h : C_internal_strconv_ParseUint sx basex bitSize w R) (hr : ∀ r0 r1 w1, R r0 r1 w1 → R' r0 r1 w1) : C_internal_strconv_ParseUint sx basex bitSize w R' :=
  Calls.mono h fun _ _ ⟨r0, r1, he, h⟩ => ⟨r0, r1, he, hr r0 r1 _ h⟩

/-- strconv.syntaxError -/
def C_strconv_syntaxError (fn : ByteArray) (str : ByteArray) (w : World) (R : Option Addr → World → Prop) : Prop :=
  Calls Tryd.prog 37 #[.string fn, .string str] w fun en w1 => ∃ (r : Option Addr), en = .returned (.pointer r) ∧ R r w1
theorem C_strconv_syntaxError.mono {fn : ByteArray} {str : ByteArray} {w : World} {R R' : Option Addr → World → Prop} (h : C_strconv_syntaxError fn str w R) (hr : ∀ r w1, R r w1 → R' r w1) : C_strconv_syntaxError fn str w R' :=
  Calls.mono h fun _ _ ⟨r, he, h⟩ => ⟨r, he, hr r _ h⟩

/-- strconv.rangeError -/
def C_strconv_rangeError (fn : ByteArray) (str : ByteArray) (w : World) (R : Option Addr → World → Prop) : Prop :=
  Calls Tryd.prog 38 #[.string fn, .string str] w fun en w1 => ∃ (r : Option Addr), en = .returned (.pointer r) ∧ R r w1
theorem C_strconv_rangeError.mono {fn : ByteArray} {str : ByteArray} {w : World} {R R' : Option Addr → World → Prop} (h : C_strconv_rangeError fn str w R) (hr : ∀ r w1, R r w1 → R' r w1) : C_strconv_rangeError fn str w R' :=
  Calls.mono h fun _ _ ⟨r, he, h⟩ => ⟨r, he, hr r _ h⟩

/-- strconv.baseError -/
def C_strconv_baseError (fn : ByteArray) (str : ByteArray) (basex : Int) (w : World) (R : Option Addr → World → Prop) : Prop :=
  Calls Tryd.prog 39 #[.string fn, .string str, .int .i64 basex] w fun en w1 => ∃ (r : Option Addr), en = .returned (.pointer r) ∧ R r w1
theorem C_strconv_baseError.mono {fn : ByteArray} {str : ByteArray} {basex : Int} {w : World} {R R' : Option Addr → World → Prop} (h : C_strconv_baseError fn str basex w R) (hr : ∀ r w1, R r w1 → R' r w1) : C_strconv_baseError fn str basex w R' :=
  Calls.mono h fun _ _ ⟨r, he, h⟩ => ⟨r, he, hr r _ h⟩

/-- strconv.bitSizeError -/
def C_strconv_bitSizeError (fn : ByteArray) (str : ByteArray) (bitSize : Int) (w : World) (R : Option Addr → World → Prop) : Prop :=
  Calls Tryd.prog 40 #[.string fn, .string str, .int .i64 bitSize] w fun en w1 => ∃ (r : Option Addr), en = .returned (.pointer r) ∧ R r w1
theorem C_strconv_bitSizeError.mono {fn : ByteArray} {str : ByteArray} {bitSize : Int} {w : World} {R R' : Option Addr → World → Prop} (h : C_strconv_bitSizeError fn str bitSize w R) (hr : ∀ r w1, R r w1 → R' r w1) : C_strconv_bitSizeError fn str bitSize w R' :=
  Calls.mono h fun _ _ ⟨r, he, h⟩ => ⟨r, he, hr r _ h⟩

/-- internal/strconv.small -/
def C_internal_strconv_small (i : Int) (w : World) (R : ByteArray → World → Prop) : Prop :=
  Calls Tryd.prog 41 #[.int .i64 i] w fun en w1 => ∃ (r : ByteArray), en = .returned (.string r) ∧ R r w1
theorem C_internal_strconv_small.mono {i : Int} {w : World} {R R' : ByteArray → World → Prop} (h : C_internal_strconv_small i w R) (hr : ∀ r w1, R r w1 → R' r w1) : C_internal_strconv_small i w R' :=
  Calls.mono h fun _ _ ⟨r, he, h⟩ => ⟨r, he, hr r _ h⟩

/-- internal/strconv.numDigits -/
def C_internal_strconv_numDigits (d : Int) (w : World) (R : Int → World → Prop) : Prop :=
  Calls Tryd.prog 42 #[.int .u64 d] w fun en w1 => ∃ (r : Int), en = .returned (.int .i64 r) ∧ R r w1
theorem C_internal_strconv_numDigits.mono {d : Int} {w : World} {R R' : Int → World → Prop} (h : C_internal_strconv_numDigits d w R) (hr : ∀ r w1, R r w1 → R' r w1) : C_internal_strconv_numDigits d w R' :=
  Calls.mono h fun _ _ ⟨r, he, h⟩ => ⟨r, he, hr r _ h⟩

/-- internal/strconv.formatBase10 -/
def C_internal_strconv_formatBase10 (aP : Option Addr) (aN : Nat) (aC : Nat) (u : Int) (w : World) (R : World → Prop) : Prop :=
  Calls Tryd.prog 43 #[.slice aP aN aC, .int .u64 u] w fun en w1 => en = .returned (.tuple #[]) ∧ R w1
theorem C_internal_strconv_formatBase10.mono {aP : Option Addr} {aN : Nat} {aC : Nat} {u : Int} {w : World} {R R' : World → Prop} (h : C_internal_strconv_formatBase10 aP aN aC u w R) (hr : ∀ w1, R w1 → R' w1) : C_internal_strconv_formatBase10 aP aN aC u w R' :=
  Calls.mono h fun _ _ ⟨he, h⟩ => ⟨he, hr _ h⟩

/-- internal/strconv.formatBits -/
def C_internal_strconv_formatBits (dstP : Option Addr) (dstN : Nat) (dstC : Nat) (u : Int) (basex : Int) (neg : Bool) (append : Bool) (w : World) (R : Option Addr → Nat → Nat → ByteArray → World → Prop) : Prop :=
  Calls Tryd.prog 44 #[.slice dstP dstN dstC, .int .u64 u, .int .i64 basex, .bool neg, .bool append] w fun en w1 => ∃ (r0P : Option Addr) (r0N : Nat) (r0C : Nat) (r1 : ByteArray), en = .returned (.tuple #[.slice r0P r0N r0C, .string r1]) ∧ R r0P r0N r0C r1 w1
theorem C_internal_strconv_formatBits.mono {dstP : Option Addr} {dstN : Nat} {dstC : Nat} {u : Int} {basex : Int} {neg : Bool} {append : Bool} {w : World} {R R' : Option Addr → Nat → Nat → ByteArray → World → Prop} (h : C_internal_strconv_formatBits dstP dstN dstC u basex neg append w R) (hr : ∀ r0P r0N r0C r1 w1, R r0P r0N r0C r1 w1 → R' r0P r0N r0C r1 w1) : C_internal_strconv_formatBits dstP dstN dstC u basex neg append w R' :=
  Calls.mono h fun _ _ ⟨r0P, r0N, r0C, r1, he, h⟩ => ⟨r0P, r0N, r0C, r1, he, hr r0P r0N r0C r1 _ h⟩

/-- internal/stringslite.IndexByte -/
def C_internal_stringslite_IndexByte (sx : ByteArray) (cx : Int) (w : World) (R : Int → World → Prop) : Prop :=
  Calls Tryd.prog 45 #[.string sx, .int .u8 cx] w fun en w1 => ∃ (r : Int), en = .returned (.int .i64 r) ∧ R r w1
theorem C_internal_stringslite_IndexByte.mono {sx : ByteArray} {cx : Int} {w : World} {R R' : Int → World → Prop} (h : C_internal_stringslite_IndexByte sx cx w R) (hr : ∀ r w1, R r w1 → R' r w1) : C_internal_stringslite_IndexByte sx cx w R' :=
  Calls.mono h fun _ _ ⟨r, he, h⟩ => ⟨r, he, hr r _ h⟩

/-- internal/bytealg.Cutover -/
def C_internal_bytealg_Cutover (n : Int) (w : World) (R : Int → World → Prop) : Prop :=
  Calls Tryd.prog 47 #[.int .i64 n] w fun en w1 => ∃ (r : Int), en = .returned (.int .i64 r) ∧ R r w1
theorem C_internal_bytealg_Cutover.mono {n : Int} {w : World} {R R' : Int → World → Prop} (h : C_internal_bytealg_Cutover n w R) (hr : ∀ r w1, R r w1 → R' r w1) : C_internal_bytealg_Cutover n w R' :=
  Calls.mono h fun _ _ ⟨r, he, h⟩ => ⟨r, he, hr r _ h⟩

/-- internal/bytealg.IndexRabinKarp[string] -/
def C_internal_bytealg_IndexRabinKarp (sx : ByteArray) (sep : ByteArray) (w : World) (R : Int → World → Prop) : Prop :=
  Calls Tryd.prog 48 #[.string sx, .string sep] w fun en w1 => ∃ (r : Int), en = .returned (.int .i64 r) ∧ R r w1
theorem C_internal_bytealg_IndexRabinKarp.mono {sx : ByteArray} {sep : ByteArray} {w : World} {R R' : Int → World → Prop} (h : C_internal_bytealg_IndexRabinKarp sx sep w R) (hr : ∀ r w1, R r w1 → R' r w1) : C_internal_bytealg_IndexRabinKarp sx sep w R' :=
  Calls.mono h fun _ _ ⟨r, he, h⟩ => ⟨r, he, hr r _ h⟩

/-- internal/strconv.lower -/
def C_internal_strconv_lower (cx : Int) (w : World) (R : Int → World → Prop) : Prop :=
  Calls Tryd.prog 49 #[.int .u8 cx] w fun en w1 => ∃ (r : Int), en = .returned (.int .u8 r) ∧ R r w1
theorem C_internal_strconv_lower.mono {cx : Int} {w : World} {R R' : Int → World → Prop} (h : C_internal_strconv_lower cx w R) (hr : ∀ r w1, R r w1 → R' r w1) : C_internal_strconv_lower cx w R' :=
  Calls.mono h fun _ _ ⟨r, he, h⟩ => ⟨r, he, hr r _ h⟩

/-- internal/strconv.underscoreOK -/
def C_internal_strconv_underscoreOK (sx : ByteArray) (w : World) (R : Bool → World → Prop) : Prop :=
  Calls Tryd.prog 50 #[.string sx] w fun en w1 => ∃ (r : Bool), en = .returned (.bool r) ∧ R r w1
theorem C_internal_strconv_underscoreOK.mono {sx : ByteArray} {w : World} {R R' : Bool → World → Prop} (h : C_internal_strconv_underscoreOK sx w R) (hr : ∀ r w1, R r w1 → R' r w1) : C_internal_strconv_underscoreOK sx w R' :=
  Calls.mono h fun _ _ ⟨r, he, h⟩ => ⟨r, he, hr r _ h⟩

/-- internal/stringslite.Clone -/
def C_internal_stringslite_Clone (sx : ByteArray) (w : World) (R : ByteArray → World → Prop) : Prop :=
  Calls Tryd.prog 51 #[.string sx] w fun en w1 => ∃ (r : ByteArray), en = .returned (.string r) ∧ R r w1
theorem C_internal_stringslite_Clone.mono {sx : ByteArray} {w : World} {R R' : ByteArray → World → Prop} (h : C_internal_stringslite_Clone sx w R) (hr : ∀ r w1, R r w1 → R' r w1) : C_internal_stringslite_Clone sx w R' :=
  Calls.mono h fun _ _ ⟨r, he, h⟩ => ⟨r, he, hr r _ h⟩

/-- errors.New -/
def C_errors_New (text : ByteArray) (w : World) (R : Value → World → Prop) : Prop :=
  Calls Tryd.prog 52 #[.string text] w fun en w1 => ∃ (r : Value), en = .returned (r) ∧ R r w1
theorem C_errors_New.mono {text : ByteArray} {w : World} {R R' : Value → World → Prop} (h : C_errors_New text w R) (hr : ∀ r w1, R r w1 → R' r w1) : C_errors_New text w R' :=
  Calls.mono h fun _ _ ⟨r, he, h⟩ => ⟨r, he, hr r _ h⟩

/-- internal/strconv.log10Pow2 -/
def C_internal_strconv_log10Pow2 (x : Int) (w : World) (R : Int → World → Prop) : Prop :=
  Calls Tryd.prog 53 #[.int .i64 x] w fun en w1 => ∃ (r : Int), en = .returned (.int .i64 r) ∧ R r w1
theorem C_internal_strconv_log10Pow2.mono {x : Int} {w : World} {R R' : Int → World → Prop} (h : C_internal_strconv_log10Pow2 x w R) (hr : ∀ r w1, R r w1 → R' r w1) : C_internal_strconv_log10Pow2 x w R' :=
  Calls.mono h fun _ _ ⟨r, he, h⟩ => ⟨r, he, hr r _ h⟩

/-- math/bits.Len64 -/
def C_math_bits_Len64 (x : Int) (w : World) (R : Int → World → Prop) : Prop :=
  Calls Tryd.prog 54 #[.int .u64 x] w fun en w1 => ∃ (r : Int), en = .returned (.int .i64 r) ∧ R r w1
theorem C_math_bits_Len64.mono {x : Int} {w : World} {R R' : Int → World → Prop} (h : C_math_bits_Len64 x w R) (hr : ∀ r w1, R r w1 → R' r w1) : C_math_bits_Len64 x w R' :=
  Calls.mono h fun _ _ ⟨r, he, h⟩ => ⟨r, he, hr r _ h⟩

/-- internal/strconv.bool2[int] -/
def C_internal_strconv_bool2 (b : Bool) (w : World) (R : Int → World → Prop) : Prop :=
  Calls Tryd.prog 55 #[.bool b] w fun en w1 => ∃ (r : Int), en = .returned (.int .i64 r) ∧ R r w1
theorem C_internal_strconv_bool2.mono {b : Bool} {w : World} {R R' : Int → World → Prop} (h : C_internal_strconv_bool2 b w R) (hr : ∀ r w1, R r w1 → R' r w1) : C_internal_strconv_bool2 b w R' :=
  Calls.mono h fun _ _ ⟨r, he, h⟩ => ⟨r, he, hr r _ h⟩

/-- internal/strconv.isPowerOfTwo -/
def C_internal_strconv_isPowerOfTwo (x : Int) (w : World) (R : Bool → World → Prop) : Prop :=
  Calls Tryd.prog 56 #[.int .i64 x] w fun en w1 => ∃ (r : Bool), en = .returned (.bool r) ∧ R r w1
theorem C_internal_strconv_isPowerOfTwo.mono {x : Int} {w : World} {R R' : Bool → World → Prop} (h : C_internal_strconv_isPowerOfTwo x w R) (hr : ∀ r w1, R r w1 → R' r w1) : C_internal_strconv_isPowerOfTwo x w R' :=
  Calls.mono h fun _ _ ⟨r, he, h⟩ => ⟨r, he, hr r _ h⟩

/-- math/bits.TrailingZeros -/
def C_math_bits_TrailingZeros (x : Int) (w : World) (R : Int → World → Prop) : Prop :=
  Calls Tryd.prog 57 #[.int .u64 x] w fun en w1 => ∃ (r : Int), en = .returned (.int .i64 r) ∧ R r w1
theorem C_math_bits_TrailingZeros.mono {x : Int} {w : World} {R R' : Int → World → Prop} (h : C_math_bits_TrailingZeros x w R) (hr : ∀ r w1, R r w1 → R' r w1) : C_math_bits_TrailingZeros x w R' :=
  Calls.mono h fun _ _ ⟨r, he, h⟩ => ⟨r, he, hr r _ h⟩

/-- internal/bytealg.hashStr[string] -/
def C_internal_bytealg_hashStr (sep : ByteArray) (w : World) (R : Int → Int → World → Prop) : Prop :=
  Calls Tryd.prog 59 #[.string sep] w fun en w1 => ∃ (r0 : Int) (r1 : Int), en = .returned (.tuple #[.int .u32 r0, .int .u32 r1]) ∧ R r0 r1 w1
theorem C_internal_bytealg_hashStr.mono {sep : ByteArray} {w : World} {R R' : Int → Int → World → Prop} (h : C_internal_bytealg_hashStr sep w R) (hr : ∀ r0 r1 w1, R r0 r1 w1 → R' r0 r1 w1) : C_internal_bytealg_hashStr sep w R' :=
  Calls.mono h fun _ _ ⟨r0, r1, he, h⟩ => ⟨r0, r1, he, hr r0 r1 _ h⟩

/-- math/bits.TrailingZeros32 -/
def C_math_bits_TrailingZeros32 (x : Int) (w : World) (R : Int → World → Prop) : Prop :=
  Calls Tryd.prog 60 #[.int .u32 x] w fun en w1 => ∃ (r : Int), en = .returned (.int .i64 r) ∧ R r w1
theorem C_math_bits_TrailingZeros32.mono {x : Int} {w : World} {R R' : Int → World → Prop} (h : C_math_bits_TrailingZeros32 x w R) (hr : ∀ r w1, R r w1 → R' r w1) : C_math_bits_TrailingZeros32 x w R' :=
  Calls.mono h fun _ _ ⟨r, he, h⟩ => ⟨r, he, hr r _ h⟩

/-- math/bits.TrailingZeros64 -/
def C_math_bits_TrailingZeros64 (x : Int) (w : World) (R : Int → World → Prop) : Prop :=
  Calls Tryd.prog 61 #[.int .u64 x] w fun en w1 => ∃ (r : Int), en = .returned (.int .i64 r) ∧ R r w1
theorem C_math_bits_TrailingZeros64.mono {x : Int} {w : World} {R R' : Int → World → Prop} (h : C_math_bits_TrailingZeros64 x w R) (hr : ∀ r w1, R r w1 → R' r w1) : C_math_bits_TrailingZeros64 x w R' :=
  Calls.mono h fun _ _ ⟨r, he, h⟩ => ⟨r, he, hr r _ h⟩

/-- gosem.cut.vars -/
def C_gosem_cut_vars  (w : World) (R : World → Prop) : Prop :=
  Calls Tryd.prog 89 #[] w fun en w1 => en = .returned (.tuple #[]) ∧ R w1
theorem C_gosem_cut_vars.mono {w : World} {R R' : World → Prop} (h : C_gosem_cut_vars  w R) (hr : ∀ w1, R w1 → R' w1) : C_gosem_cut_vars  w R' :=
  Calls.mono h fun _ _ ⟨he, h⟩ => ⟨he, hr _ h⟩

end Go.Proofs.YtchbhocpmhlhjaaDoor
