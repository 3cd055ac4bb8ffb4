/- A nil heap. -/
import Derived.Test.YtdaenijbokialaaGreatLives3
import Derived.Test.YtdaenijbokialaaGreatKeyT
namespace Go.Proofs.YtdaenijbokialaaGreat
open Go Go.D Go.Proofs
set_option linter.unusedSimpArgs false
set_option linter.unusedVariables false
set_option maxRecDepth 8000

section
variable {w : World}

theorem right_nil {x : Int} {K : Bool → World → Prop} (hK : K false w) : C_heap_Heap_right none x w K := by
  apply C_heap_Heap_right.of; unfold F_heap_Heap_right
  exact hmade_no (ifT rfl hK)

theorem Deref_nil {x : Int} {K : Int → World → Prop} (hK : K 0 w) : C_heap_Heap_Deref none x w K := by
  apply C_heap_Heap_Deref.of; unfold F_heap_Heap_Deref
  exact right_nil (ifT rfl hK)

theorem HeapNobody_law {t : Tm} {p : Option Addr} {c : Nat} {x i : Int} : C_law20_HeapNobody t.kind t.n t.s p t.l.length c x i w fun r w' => r = true ∧ Upd [] w w' := by
  apply C_law20_HeapNobody.of
  unfold F_law20_HeapNobody
  refine New_rule fun r w1 hr u1 b1 => ?_
  apply C_heap_Heap_Atom.of; unfold F_heap_Heap_Atom
  refine hmade_no (ifT rfl ?_)
  apply C_heap_Heap_Int.of; unfold F_heap_Heap_Int
  refine hmade_no (ifT rfl ?_)
  apply C_heap_Heap_Var.of; unfold F_heap_Heap_Var
  refine hmade_no (ifT rfl ?_)
  apply C_heap_Heap_Struct.of; unfold F_heap_Heap_Struct
  refine hmade_no (ifT rfl ?_)
  apply C_heap_Heap_Arg.of; unfold F_heap_Heap_Arg
  refine hmade_no (ifT rfl ?_)
  apply C_heap_Heap_Bind.of; unfold F_heap_Heap_Bind
  refine hmade_no (ifT rfl ?_)
  apply C_heap_Heap_Unify.of; unfold F_heap_Heap_Unify
  refine hmade_no (ifT rfl ?_)
  apply C_heap_Heap_Open.of; unfold F_heap_Heap_Open
  refine hmade_no (ifT rfl ?_)
  simp only [NN_some, addN, drw_cell, drw_heap, exS, exI, exB, exP, exM, exStr, exV, a0, a1, a2, a3, a4, a5, a6, a7, a8, a9, a10, a11, a12, a13, maxI_eq, Nat.zero_add, Nat.add_zero, Nat.mul_one, Option.isNone_some, Option.isNone_none, b1.cell]
  apply C_heap_Heap_Encode.of; unfold F_heap_Heap_Encode
  refine New_rule fun q w2 hq u2 b2 => hmade_no (ifT rfl ?_)
  refine BSlL_rule eS_36 [.int .u64 x] (by rfl) (by simp [Value.cells]) (by rfl) (by omega) fun w3 hs3 u3 => ?_
  apply C_heap_Heap_Decode.of; unfold F_heap_Heap_Decode
  refine hmade_no (ifT rfl ?_)
  refine lives_ok fun w4 u4 => ifT rfl (ifT rfl (ifT rfl (ifT rfl (ifT rfl (ifT rfl (ifT rfl (ifT rfl (ifT rfl (ifT rfl (ifT rfl ?_))))))))))
  have U4 := ((u1.after u2).after u3).after u4
  apply C_heap_Heap_Put.of; unfold F_heap_Heap_Put
  refine hmade_no (ifT rfl (ifT rfl ?_))
  refine Deref_nil (ifT rfl ?_)
  apply C_heap_Heap_Is.of; unfold F_heap_Heap_Is
  refine Deref_nil (Tag_ok (by omega) (by omega) (ifF rfl (ifF rfl (ifT rfl ?_))))
  apply C_heap_Heap_Reaches.of; unfold F_heap_Heap_Reaches
  refine Deref_nil (right_nil (ifT rfl (ifT rfl ?_)))
  apply C_heap_Heap_Undo.of; unfold F_heap_Heap_Undo
  refine hmade_no (ifT rfl (ifT rfl ?_))
  apply C_heap_Heap_Back.of; unfold F_heap_Heap_Back
  refine hmade_no (ifT rfl (ifT rfl ?_))
  apply C_heap_Heap_Close.of; unfold F_heap_Heap_Close
  refine hmade_no (ifT rfl (ifT rfl ?_))
  apply C_heap_Heap_Key.of; unfold F_heap_Heap_Key
  refine New_rule fun q5 w5 hq5 u5 b5 => Deref_nil (Tag_ok (by omega) (by omega) (ifF rfl (ifF rfl (ifF rfl ?_))))
  refine St3 b5 rfl (by simp [Value.oneCell']) fun w6 u6 b6 => ?_
  simp only [NN_some, addN, drw_cell, drw_heap, exS, exI, exB, exP, exM, exStr, exV, a0, a1, a2, a3, a4, a5, a6, a7, a8, a9, a10, a11, a12, a13, maxI_eq, Nat.zero_add, Nat.add_zero, Nat.mul_one, Option.isNone_some, Option.isNone_none, b6.cell]
  have U6 : Upd [] w w6 := (U4.after u5).fresh u6 (by intro k hk; simp at hk; have := U4.size; omega)
  refine keyEq (ifT (by simp) ?_)
  apply C_heap_Heap_Pool.of; unfold F_heap_Heap_Pool
  refine hmade_no (ifT rfl (ifT rfl ?_))
  apply C_heap_Heap_Trail.of; unfold F_heap_Heap_Trail
  refine hmade_no (ifT rfl (ifT rfl ?_))
  apply C_heap_Heap_Atoms.of; unfold F_heap_Heap_Atoms
  refine hmade_no (ifT rfl (ifT rfl ?_))
  apply C_heap_Heap_Functors.of; unfold F_heap_Heap_Functors
  refine hmade_no (ifT rfl (ifT rfl ?_))
  apply C_heap_Heap_Cell.of; unfold F_heap_Heap_Cell
  exact hmade_no (ifT rfl ⟨rfl, U6⟩)
end

end Go.Proofs.YtdaenijbokialaaGreat
