/- slices.Sort: a row of numbers, in order. -/
import Derived.Test.YtlngmelfjiemlaaSortS
import Derived.Test.YtlngmelfjiemlaaOwn11
import Derived.Test.YtlngmelfjiemlaaGenAll
namespace Go.Proofs.Ytlngmelfjiemlaa
open Go Go.D Go.Proofs
set_option linter.unusedSimpArgs false
set_option linter.unusedVariables false
set_option maxRecDepth 8000

/-- In order. -/
def sortL (E : List Int) : List Int := E.mergeSort fun x y => decide (x ≤ y)

theorem Sort_ok {w : World} {p : Option Addr} {n c : Nat} {E : List Int} {F : List Nat} {K : World → Prop} (h : SlAt w 1 p n c (E.map (.int .i64)) F) (hl : E.length < 2 ^ 40)
    (hK : ∀ w', SlAt w' 1 p n c ((sortL E).map (.int .i64)) F → Upd F w w' → K w') : C_slices_Sort p n c w K := by
  have hn : n = E.length := by have := h.1; simp at this; exact this.symm
  unfold C_slices_Sort
  by_cases h0 : E = []
  · subst h0
    simp at hn
    subst hn
    refine Calls.mono (Go.Proofs.AnyG.slices_Sort_int_none Try.sortInt p c w) fun e w' ⟨he, hw⟩ => ⟨he, ?_⟩
    subst hw
    exact hK _ (by simpa [sortL] using h) (Upd.refl _ _)
  · have hpos : 0 < E.length := List.length_pos_iff.2 h0
    have hnc := h.2.1
    rcases h.2.2 with ⟨_, hc, _⟩ | ⟨b, off, arr, hp, hF, hb, hs, hc⟩
    · omega
    subst hp hF hn
    have hH : Go.Sort.Holds (Value.int .i64) w b off E.toArray := fun j hj => by
      have hj : j < E.length := by simpa using hj
      refine ⟨?_, hb.frozen (by omega)⟩
      rw [hb.cell, hc _ (by omega), List.getElem?_map, List.getElem?_eq_getElem hj]
      simp [hj]
    refine Calls.mono (Go.Proofs.AnyG.slices_Sort_int Try.sortInt b off c E w hH hb.lt (by omega)) fun e w' ⟨he, m, os, hw⟩ => ⟨he, ?_⟩
    have hlen : (sortL E).length = E.length := by unfold sortL; rw [List.length_mergeSort]
    have hlt := hb.lt
    obtain ⟨T, fz, hobj, hfz⟩ := hb
    have e1 : w'.heap = (w.heap.modify b (Go.Sort.onCells (Go.Sort.putCells (Value.int .i64) off (sortL E).toArray))) ++ os := by rw [hw]; rfl
    have hsz : w'.heap.size = w.heap.size + os.size := by rw [e1]; simp
    have u : Upd [b] w w' := by
      refine ⟨by rw [hw]; rfl, by rw [hw]; rfl, by rw [hw]; rfl, by omega, fun k hk hkb => ?_⟩
      simp at hkb
      rw [e1, Array.getElem?_append_left (by simpa using hk), Array.getElem?_modify, if_neg (fun e => hkb e.symm)]
    refine hK w' ⟨by simp [hlen], hnc, .inr ⟨b, off, Go.Sort.putCells (Value.int .i64) off (sortL E).toArray arr, rfl, rfl, ⟨T, fz, ?_, ?_⟩, ?_, fun i hi => ?_⟩⟩ u
    · rw [e1, Array.getElem?_append_left (by simpa using hlt), Array.getElem?_modify, if_pos rfl, hobj]; rfl
    · simpa [Go.Sort.putCells] using hfz
    · simpa [Go.Sort.putCells] using hs
    · unfold Go.Sort.putCells
      rw [Array.getElem?_mapIdx, Array.getElem?_eq_getElem (by omega)]
      simp only [Option.map_some]
      rw [if_pos (by simp [hlen]; omega), List.getElem?_map, List.getElem?_eq_getElem (by omega)]
      simp [show i < (sortL E).length by omega]

theorem sortL_mem {E : List Int} {k : Int} : k ∈ sortL E ↔ k ∈ E := List.mem_mergeSort

/-- Numbers that are apart rise, in order. -/
theorem sortL_asc {E : List Int} (h : E.Nodup) : (sortL E).Pairwise (· < ·) ∧ (sortL E).Nodup := by
  have hp : (sortL E).Perm E := List.mergeSort_perm E _
  have hnd : (sortL E).Nodup := hp.nodup_iff.2 h
  have hs : (sortL E).Pairwise fun a b => decide (a ≤ b) = true := List.pairwise_mergeSort (fun a b c h1 h2 => by simp at *; omega) (fun a b => by simp; omega) E
  refine ⟨?_, hnd⟩
  have := hs.and hnd
  exact this.imp fun {a b} ⟨h1, h2⟩ => by simp at h1; omega

end Go.Proofs.Ytlngmelfjiemlaa
