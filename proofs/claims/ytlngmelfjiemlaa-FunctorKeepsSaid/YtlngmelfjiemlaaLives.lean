/- What must come of every program. -/
import Derived.Test.YtlngmelfjiemlaaFun5
namespace Go.Proofs.Ytlngmelfjiemlaa
open Go Go.D Go.Proofs
set_option linter.unusedSimpArgs false
set_option linter.unusedVariables false
set_option maxRecDepth 8000

def la1 : List Slot := initL ++ [⟨⟨#[102]⟩, true, false⟩]
def lf1 : List Fn.Slot := [⟨(15, 2), true, false⟩]
def lf2 : List Fn.Slot := [⟨(15, 2), true, false⟩, ⟨(15, 3), true, false⟩]
def lf3 : List Fn.Slot := [⟨(15, 2), true, false⟩, ⟨(15, 3), true, true⟩]
def lf4 : List Fn.Slot := [⟨(0, 0), false, false⟩, ⟨(15, 3), true, false⟩]

theorem lives_ok {w : World} {K : Bool → World → Prop} (hK : ∀ w', Upd [] w w' → K true w') : C_law05_lives w K := by
  apply C_law05_lives.of
  unfold F_law05_lives
  refine Tl.new (w := w) (Upd.refl _ _) (by omega) (by omega) fun w1 b t1 => Bf.new t1 (by omega) (by omega) fun w2 d b2 u2 => ?_
  obtain ⟨fa, hfa⟩ : ∃ fa, fa = d.a := ⟨_, rfl⟩
  have hn : fa.isNone = false := by rw [hfa]; rfl
  rw [← hfa] at b2 ⊢
  refine ifF rfl (ifF rfl (ifF rfl (ifF hn ?_)))
  have e1 : putA 30 0 initL 5 [] ⟨#[102]⟩ 2 = ⟨0, 0, la1, 1, lf1⟩ := by kernel_rfl
  have e2 : putA 30 1 la1 5 lf1 ⟨#[102]⟩ 3 = ⟨1, 0, la1, 1, lf2⟩ := by kernel_rfl
  have e3 : getA la1 lf2 1 = (⟨#[102]⟩, 3, 0) := by kernel_rfl
  have e4 : findA la1 lf2 ⟨#[102]⟩ 2 = some 0 := by kernel_rfl
  have e5 : putA 30 1 la1 5 lf2 ⟨#[102]⟩ 0 = ⟨0, 1, la1, 1, lf2⟩ := by kernel_rfl
  have e6 : markF lf2 1 = lf3 := by kernel_rfl
  have e7 : Fn.swL lf3 lf3.length = lf4 := by kernel_rfl
  have e8 : Fn.swC lf3 lf3.length = 1 := by kernel_rfl
  have e9 : Fn.isN lf2 1 = true := by kernel_rfl
  refine b2.put (by omega) fun w3 d3 b3 _ => ?_
  rw [e1] at b3 ⊢
  refine b3.put (by simp) fun w4 d4 b4 _ => ?_
  simp only [e2] at b4 ⊢
  refine b4.get fun w5 b5 _ => ?_
  simp only [e3]
  refine b5.find fun w6 b6 _ => ?_
  simp only [e4]
  refine b6.put (by simp) fun w7 d7 b7 _ => ?_
  simp only [e5] at b7 ⊢
  refine b7.mark fun w8 d8 b8 _ => ?_
  simp only [e6, e9] at b8 ⊢
  refine b8.sweep fun w9 d9 b9 _ => ?_
  simp only [e7, e8] at b9 ⊢
  refine Fn.New_bad (.inr (.inr rfl)) ?_
  refine ifT rfl (ifT rfl (ifT rfl (ifT rfl (ifT rfl (ifT (by simp) (ifT rfl (ifT rfl (ifT rfl (ifT rfl (ifT rfl (ifT rfl ?_)))))))))))
  have f1 : Fn.cntIs lf4 = 1 := by kernel_rfl
  refine b9.len (ifT (by rw [f1]; rfl) (b9.slots (ifT (by rfl) (b9.atomsAll fun wa ba _ => ifT (by rw [f1]; rfl) (hK wa ba.U)))))

section
variable {w : World}

theorem FunctorNobody_law {o0 o2 : Int} {o1 : ByteArray} : C_law05_FunctorNobody o0 o1 o2 w fun r w' => r = true ∧ Upd [] w w' := by
  apply C_law05_FunctorNobody.of
  unfold F_law05_FunctorNobody F_law05_FunctorNobody_k1
  refine New_rule fun r w1 hr u1 hb1 => ?_
  have c1 : ∀ {w'}, Blk w' r #[.int .i64 o0, .string o1, .int .i64 o2] → w'.cell? ⟨r, 1, none⟩ = some (.string o1) := fun h => by rw [h.cell]; rfl
  have c2 : ∀ {w'}, Blk w' r #[.int .i64 o0, .string o1, .int .i64 o2] → w'.cell? ⟨r, 2, none⟩ = some (.int .i64 o2) := fun h => by rw [h.cell]; rfl
  simp only [addN, Nat.zero_add, c1 hb1, c2 hb1, exStr, exI]
  apply C_functor_Table_Put.of
  unfold F_functor_Table_Put
  refine Fn.made_no (ifT rfl ?_)
  simp only [c1 hb1, c2 hb1, exStr, exI]
  apply C_functor_Table_Find.of
  unfold F_functor_Table_Find
  refine Fn.made_no (ifT rfl ?_)
  simp only [c2 hb1, exI]
  apply C_functor_Table_Get.of
  unfold F_functor_Table_Get
  refine Fn.may_nil (ifT rfl (lives_ok fun w2 u2 => ?_))
  have hb2 := hb1.upd u2 (by simp)
  refine ifT rfl (ifT rfl (ifT rfl (ifT rfl (ifT rfl (ifT (by simp) (ifT rfl (ifT rfl ?_)))))))
  apply C_functor_Table_Len.of
  unfold F_functor_Table_Len
  refine Fn.made_no (ifT rfl (ifT rfl ?_))
  apply C_functor_Table_Slots.of
  unfold F_functor_Table_Slots
  refine Fn.made_no (ifT rfl (ifT rfl ?_))
  simp only [c2 hb2, exI]
  apply C_functor_Table_Mark.of
  unfold F_functor_Table_Mark
  refine Fn.may_nil (ifT rfl (ifT rfl ?_))
  apply C_functor_Table_Sweep.of
  unfold F_functor_Table_Sweep
  refine Fn.made_no (ifT rfl (ifT rfl ?_))
  apply C_functor_Table_Atoms.of
  unfold F_functor_Table_Atoms
  exact Fn.made_no (ifT rfl ⟨rfl, u1.after u2⟩)

theorem FunctorApart_law {a b : ByteArray} {n m : Int} : C_law05_FunctorApart a n b m w fun r w' => r = true ∧ Upd [] w w' := by
  apply C_law05_FunctorApart.of
  unfold F_law05_FunctorApart F_law05_FunctorApart_k1 F_law05_FunctorApart_k2 F_law05_FunctorApart_k3
  refine Tl.new (w := w) (Upd.refl _ _) (by omega) (by omega) fun w1 ab t1 => Bf.new t1 (by omega) (by omega) fun w2 d b2 u2 => ?_
  obtain ⟨fa, hfa⟩ : ∃ fa, fa = d.a := ⟨_, rfl⟩
  have hn : fa.isNone = false := by rw [hfa]; rfl
  rw [← hfa] at b2 ⊢
  refine lives_ok fun w3 u3 => ifF rfl (ifF rfl (ifF rfl (ifF hn ?_)))
  refine (b2.keep u3).put (by omega) fun w4 d4 b4 _ => ?_
  have hm := put_made 100 0 initL 100 [] a n
  refine b4.put (by omega) fun w5 d5 b5 _ => ?_
  obtain ⟨r1, hr1⟩ : ∃ r1, r1 = putA 100 0 initL 100 [] a n := ⟨_, rfl⟩
  rw [← hr1] at b5 ⊢
  obtain ⟨r2, hr2⟩ : ∃ r2, r2 = putA 100 r1.m r1.L 100 r1.F b m := ⟨_, rfl⟩
  rw [← hr2] at b5 ⊢
  refine ifC (fun _ => ⟨rfl, b5.U⟩) fun h1 => ifC (fun _ => ⟨rfl, b5.U⟩) fun h2 => ?_
  simp at h1 h2
  obtain ⟨i, e1, at1⟩ := put_At (by rw [← hr1]; exact h1)
  obtain ⟨j, e2, at2⟩ := put_At (by rw [← hr2]; exact h2)
  have at1' := at1.put (alim := 100) (made := r1.m) (flim := 100) (n' := b) (ar' := m)
  rw [← hr1] at e1 at1'
  rw [← hr2] at e2 at2 at1'
  refine b5.get fun w6 b6 _ => ?_
  rw [e1, e2, at1'.get]
  have hiff : i = j ↔ (a = b ∧ n = m) := by
    constructor
    · rintro rfl
      exact at1'.same at2
    · rintro ⟨rfl, rfl⟩
      have f1 := at1'.find b5.tl.atm b5.atm
      have f2 := at2.find b5.tl.atm b5.atm
      rw [f1] at f2
      exact Option.some.inj f2
  have hij : (((i : Nat) : Int) == ((j : Nat) : Int)) = decide (a = b ∧ n = m) := by
    rw [Bool.eq_iff_iff, beq_iff_eq, decide_eq_true_eq, ← hiff]; omega
  have fin : ∀ {x : Bool}, x = true → If x (If ((0 : Int) == (0 : Int)) (If (a.toList == a.toList) ((n == n) = true ∧ Upd [] w w6) (false = true ∧ Upd [] w w6)) (false = true ∧ Upd [] w w6)) (false = true ∧ Upd [] w w6) := fun h => ifT h (ifT rfl (ifT (by simp) ⟨by simp, b6.U⟩))
  rw [strEq a b]
  refine ifC (fun hab => fin ?_) (fun hab => fin ?_)
  · simp at hab
    rw [hij]
    by_cases hnm : n = m <;> simp [hab, hnm]
  · simp at hab
    rw [hij]
    simp [hab]

end

end Go.Proofs.Ytlngmelfjiemlaa
