/- What the rows list of package variables, read. -/
import Derived.Test.YtchbhocpmhlhjaaDoorRows
import Derived.Test.YtchbhocpmhlhjaaDoorLaws
import Derived.LaidMore
import Derived.LaidHandle
import Derived.LaidLaws
import Derived.Lib.LaidTab
import Derived.Stop.LaidErr
import Derived.OpenShut
import Derived.MakeChecks
namespace Go.Proofs.YtchbhocpmhlhjaaDoor
open Go Go.D Go.Proofs Go.Proofs.YtchbhocpmhlhjaaDoor
set_option linter.unusedSimpArgs false
set_option linter.unusedVariables false
set_option maxRecDepth 100000

/-- What every row lists. -/
def laidL : List (String × DataW Unit) := Rows.cellMakesRow.laid

/-- The door's own heap has it. -/
theorem door_met (os : Os) (args : Array Value) : laidMetH Tryd.prog laidL ((World.doorLaid Tryd.prog 400 os).forCall (fun _ _ => 0) ⟨#[], args, []⟩).memory :=
  laidMetH_of_parts3 (fuel := 8) (laidMet_of_run' 8 (by kernel_rfl) (by kernel_rfl)) (by kernel_rfl) (by kernel_rfl)

theorem star : "*" ++ "errors.errorString" = "*errors.errorString" := by decide
theorem row81 (u : TypeId) (h : Tryd.prog.typeName? 3 u = some "*errors.errorString") : u = 81 :=
  typeName_ptr_named (nm := "errors.errorString") (by rw [star]; kernel_rfl) (by kernel_rfl) (by decide) u (by rw [star]; exact h)

theorem vars_of_laid {W : World} (h : laidMetH Tryd.prog laidL W) : Vars W := by
  rw [MakeChecks.laidMetH_plain _ _ _ (by kernel_rfl)] at h
  have h2 := h.tail.tail
  obtain ⟨a0, s0, hv0, -, -, -⟩ := laid_sentinel (g := 3) (ti := 44) (tp := 81) (te := 83) (ts := 9) h2.tail (by kernel_rfl) (by kernel_rfl) (by rfl) row81 (by rfl) (by rfl) rfl rfl (by rfl) (by kernel_rfl) (by kernel_rfl)
  obtain ⟨a1, s1, hv1, -, -, -⟩ := laid_sentinel (g := 2) (ti := 44) (tp := 81) (te := 83) (ts := 9) h2.tail.tail (by kernel_rfl) (by kernel_rfl) (by rfl) row81 (by rfl) (by rfl) rfl rfl (by rfl) (by kernel_rfl) (by kernel_rfl)
  have htab : Lib.TabIs Tryd.prog W "internal/strconv.uint64pow10" .u64 Lib.pow10Tab := Lib.tabIs_of_head (g := 4) (t := 73) (e := 22) (n := 20) (by kernel_rfl) (by kernel_rfl) (by rfl) (by rfl) (by kernel_rfl) (by kernel_rfl) h2
  refine ⟨htab, ⟨_, _, hv1⟩, ⟨_, _, hv0⟩, ?_⟩
  obtain ⟨ps, ⟨g', t', cs, fuel, p, q, hg', ht', hvar, hd, _, _⟩, _⟩ := h2.tail.tail.tail
  obtain rfl := Option.some.inj ((show Tryd.prog.globalNamed "elenchus/cell.names" = some 0 by kernel_rfl).symm.trans hg')
  obtain rfl := Option.some.inj ((show (Tryd.prog.globals[0]?).map (·.type) = some 40 by kernel_rfl).symm.trans ht')
  obtain ⟨xs, m, _, hx, hlen, hn, hel⟩ := DataW.trod_array (n := 8) (e := 9) (by rfl) hd
  have c9 : Tryd.prog.cellsOf 9 = 1 := by kernel_rfl
  intro i hi
  have h1 := hel i hi
  rw [c9, Nat.mul_one, List.getElem?_eq_getElem (by omega)] at h1
  obtain ⟨s, e1, e2, _⟩ := DataW.trod_string (by rfl) h1
  have hxs : (xs.map (·.1))[i]? = (names.map fun l => (DataW.lit (.string l) : DataW Unit))[i]? := by
    simp only [Prod.mk.injEq] at hx
    have hx1 : (DataW.agg (names.map fun l => (DataW.lit (.string l) : DataW Unit)) : DataW Unit) = .agg (xs.map (·.1)) := hx.1
    simp only [DataW.agg.injEq] at hx1
    rw [← hx1]
  have h2 := World.var?_cell (show Tryd.prog.globalNamed "elenchus/cell.names" = some 0 by kernel_rfl) hvar i
  rw [h2]
  have h3 : cs.toList[i]? = some (.string s) := by
    have := congrArg (·[0]?) e1
    simpa [List.getElem?_take, List.getElem?_drop] using this
  have h4 : cs[i]? = some (.string s) := by simpa using h3
  rw [h4]
  rw [List.getElem?_map, List.getElem?_eq_getElem (by omega), List.getElem?_map, List.getElem?_eq_getElem (show i < names.length from hi)] at hxs
  simp only [Option.map_some, Option.some.injEq] at hxs
  rw [e2] at hxs
  simp only [DataW.lit.injEq, Lit.string.injEq] at hxs
  rw [List.getElem?_eq_getElem (show i < names.length from hi)]
  congr 2
  rw [mkL s, hxs]
  rfl

end Go.Proofs.YtchbhocpmhlhjaaDoor
