/- What the rows list of package variables, read. -/
import Derived.Test.YtggbmakfifllnaaDoorRows
import Derived.Test.YtggbmakfifllnaaDoorLaw3
import Derived.Test.YtggbmakfifllnaaDoorOwn16
import Derived.LaidMore
import Derived.LaidHandle
import Derived.LaidLaws
import Derived.Lib.LaidTab
import Derived.Stop.LaidErr
import Derived.OpenShut
import Derived.MakeChecks
namespace Go.Proofs.YtggbmakfifllnaaDoor
open Go Go.D Go.Proofs Go.Proofs.YtggbmakfifllnaaDoor
set_option linter.unusedSimpArgs false
set_option linter.unusedVariables false
set_option maxRecDepth 100000

/-- What every row lists. -/
def laidL : List (String × DataW Unit) := Rows.scriptCodesRow.laid

/-- The door's own heap has it. -/
theorem door_met (os : Os) (args : Array Value) : laidMetH Tryd.prog laidL ((World.doorLaid Tryd.prog 400 os).forCall (fun _ _ => 0) ⟨#[], args, []⟩).memory :=
  laidMetH_of_parts3 (fuel := 8) (laidMet_of_run' 8 (by kernel_rfl) (by kernel_rfl)) (by kernel_rfl) (by kernel_rfl)

theorem tab_of_laid {W : World} (h : laidMetH Tryd.prog laidL W) : Tab W := by
  rw [MakeChecks.laidMetH_plain _ _ _ (by kernel_rfl)] at h
  have htab : Lib.TabIs Tryd.prog W "math/bits.deBruijn64tab" .u8 [0, 1, 56, 2, 57, 49, 28, 3, 61, 58, 42, 50, 38, 29, 17, 4, 62, 47, 59, 36, 45, 43, 51, 22, 53, 39, 33, 30, 24, 18, 12, 5, 63, 55, 48, 27, 60, 41, 37, 16, 46, 35, 44, 21, 52, 32, 23, 11, 54, 26, 40, 15, 34, 20, 31, 10, 25, 14, 19, 9, 13, 8, 7, 6] := Lib.tabIs_of_head (g := 3) (t := 113) (e := 5) (n := 64) (by kernel_rfl) (by kernel_rfl) (by rfl) (by rfl) (by kernel_rfl) (by kernel_rfl) h.tail
  exact htab.cell (g := 3) (by kernel_rfl) 15 (by decide)

/-! ## What the bound of the second form gives -/

theorem bulk_mem {H : Type} : ∀ {es : List (DataW H)} {d : DataW H}, d ∈ es → Rows.uptoBulk d ≤ Rows.uptoBulkAll es
  | x :: r, d, h => by
    simp only [Rows.uptoBulkAll]
    rcases List.mem_cons.1 h with rfl | h
    · omega
    · have := bulk_mem h; omega

theorem bnd_bulk {H : Type} (P : Program) (B : Nat) : Bnd (H := H) P B (fun _ d => Rows.uptoBulk d ≤ B) where
  str t bytes _ h := by simp [Rows.uptoBulk] at h; omega
  slc t e es sp _ h d hd := by
    have := bulk_mem hd
    simp only [Rows.uptoBulk] at h; omega
  stc t fs ps _ h i f d _ hd := by
    have := bulk_mem (List.mem_of_getElem? hd)
    simp only [Rows.uptoBulk] at h; omega

theorem bulk_at {H : Type} {l : List (DataW H)} {i : Nat} {d : DataW H} (h : Rows.uptoSmall H l = true) (hd : l[i]? = some d) : Rows.uptoBulk d ≤ 1048576 := by
  have h1 : Rows.uptoBulkAll l ≤ 1048576 := of_decide_eq_true h
  have := bulk_mem (List.mem_of_getElem? hd)
  omega

end Go.Proofs.YtggbmakfifllnaaDoor
