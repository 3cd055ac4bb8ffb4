/- A stack of environments and choices: an environment's slots, in a row. -/
import Derived.Test.YtdmjbkpibgfeiaaAll2
namespace Go.Proofs.Ytdmjbkpibgfeiaa
open Go Go.D Go.Proofs
set_option linter.unusedSimpArgs false
set_option linter.unusedVariables false
set_option maxRecDepth 8000

/-- The slots' words. -/
def rowOf (W : List Int) (b : Int) : List Int := (W.drop (b.toNat + 4)).take (sizeOf' W b).toNat

/-- An environment, told. -/
def frameOf (W : List Int) (b : Int) : Ch := { kind := 0, c2 := wordOf W (b + 1), c3 := wordOf W (b + 2), c4 := 0, c5 := 0, c6 := 0, env := b, top := 0, args := rowOf W b }

section
variable {w : World} {d : FrD} {cur : List Int} {lev : List Level}

theorem rowOf_len {W : List Int} {b : Int} (h0 : 0 ≤ b) (h1 : 0 ≤ sizeOf' W b) (h2 : b + 4 + sizeOf' W b ≤ W.length) : (rowOf W b).length = (sizeOf' W b).toNat := by
  unfold rowOf; simp; omega

theorem row_ok {b : Int} {K : Option Addr → Nat → Nat → World → Prop} (h : Fr w d) (h0 : 0 ≤ b) (h1 : 0 ≤ sizeOf' d.W b) (h2 : b + 4 + sizeOf' d.W b ≤ d.W.length) (h3 : d.W.length ≤ 1048576)
    (hK : ∀ p n c F w', SlAt w' 1 p n c ((rowOf d.W b).map (.int .u64)) F → Fr w' d → Upd [] w w' → Since F w → K p n c w') : C_frame_Stack_row d.a b w K := by
  apply C_frame_Stack_row.of
  unfold F_frame_Stack_row F_frame_Stack_row_L1
  have hrl := rowOf_len h0 h1 h2
  refine size_ok h (by omega) (by omega) ?_
  refine ⟨fun s v => 0 ≤ s.t12 ∧ s.t12 ≤ sizeOf' d.W b ∧ ∃ F, SlAt v 1 s.outP s.outN s.outC (((rowOf d.W b).take s.t12.toNat).map (.int .u64)) F ∧ Upd [] w v ∧ Since F w, fun s _ => (sizeOf' d.W b - s.t12).toNat, ⟨by simp, by simpa using h1, [], by simpa using SlAt.nil w 1, Upd.refl _ _, by intro k hk; cases hk⟩, ?_⟩
  rintro ⟨p, n, c, i⟩ v ⟨hi0, hi1, F, hs, hu, hF⟩
  dsimp only at hi0 hi1 hs
  unfold B_frame_Stack_row_L1
  dsimp only
  have fv := h.keep hu
  refine ifC (fun hc => ?_) (fun hc => ?_)
  · simp at hc
    simp only [FrD.a, NN_some, addN, drw_cell, drw_heap, exS, exI, exB, exP, exM, exStr, exV, a0, a1, a2, a3, a4, a5, a6, a7, a8, a9, a10, a11, a12, a13, maxI_eq, Nat.zero_add, Nat.add_zero, Nat.mul_one, Option.isNone_some, Option.isNone_none, fv.blk.cell]
    rw [i64id (x := b + 4) (by omega) (by omega), i64id (x := b + 4 + i) (by omega) (by omega)]
    refine Get_ok fv.room (by omega) (by omega) ?_
    have hir : i.toNat < (rowOf d.W b).length := by omega
    have hg : ∀ hh, d.W[(b + 4 + i).toNat]'hh = (rowOf d.W b)[i.toNat]'hir := by
      intro hh
      have e : (rowOf d.W b)[i.toNat]? = d.W[(b + 4 + i).toNat]? := by
        unfold rowOf
        rw [List.getElem?_take_of_lt (by omega), List.getElem?_drop]
        congr 1; omega
      rw [List.getElem?_eq_getElem hir, List.getElem?_eq_getElem hh] at e
      exact (Option.some.inj e).symm
    rw [hg]
    have hn : n = i.toNat := by
      have := hs.1
      rw [List.length_map, List.length_take] at this; omega
    refine BSlL_rule eS_32 [.int .u64 ((rowOf d.W b)[i.toNat]'hir)] (by rfl) (by simp [Value.cells]) (by rfl) (by omega) fun w3 hs3 u3 => ?_
    refine App_rule (hE := eS_32) (hs.upd u3 (by intro k _ h; cases h)) hs3 (by simp [Value.cells, Value.oneCell']) (by omega) fun p' c' F' w4 hs4 u4 hsub => ?_
    rw [i64id (by omega) (by omega)]
    refine ⟨⟨by omega, by omega, F', ?_, (hu.after u3).fresh u4 hF, hF.step hsub (Nat.le_trans hu.size u3.size)⟩, by simp; omega⟩
    rw [show (i + 1).toNat = i.toNat + 1 by omega, List.take_succ_eq_append_getElem hir, List.map_append]
    exact hs4
  · simp at hc
    have e : (rowOf d.W b).take i.toNat = rowOf d.W b := List.take_of_length_le (by omega)
    rw [e] at hs
    exact hK p n c F v hs fv hu hF

end

end Go.Proofs.Ytdmjbkpibgfeiaa
