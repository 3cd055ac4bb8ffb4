/- What must come of every program comes. -/
import Derived.Test.YtifgjlkmmbpbkaaAtom6
namespace Go.Proofs.Ytifgjlkmmbpbkaa
open Go Go.D Go.Proofs
set_option linter.unusedSimpArgs false
set_option linter.unusedVariables false
set_option maxRecDepth 8000

def lv1 : List Slot := initL ++ [⟨⟨#[97]⟩, true, false⟩]
def lv2 : List Slot := lv1 ++ [⟨⟨#[98]⟩, true, false⟩]
def lv3 : List Slot := lv1 ++ [⟨⟨#[98]⟩, true, true⟩]
def lv4 : List Slot := initL ++ [⟨⟨#[]⟩, false, false⟩, ⟨⟨#[98]⟩, true, false⟩]
def lv5 : List Slot := initL ++ [⟨⟨#[99]⟩, true, false⟩, ⟨⟨#[98]⟩, true, false⟩]

theorem lives_ok {w : World} {K : Bool → World → Prop} (hK : ∀ w', Upd [] w w' → K true w') : C_law04_lives w K := by
  apply C_law04_lives.of
  unfold F_law04_lives F_law04_lives_k1
  refine Tl.new (w := w) (Upd.refl _ _) (by omega) (by omega) fun w1 b t1 => ifF rfl (ifF rfl ?_)
  refine t1.intern_grow (by omega) (by decide) (by kernel_rfl) (by kernel_rfl) (by decide) fun w2 t2 _ => ?_
  have t2 : Tl w w2 [] (some ⟨b, 0, none⟩) lv1 1 20 := t2
  refine t2.intern_grow (by omega) (by decide) (by kernel_rfl) (by kernel_rfl) (by decide) fun w3 t3 _ => ?_
  have t3 : Tl w w3 [] (some ⟨b, 0, none⟩) lv2 2 20 := t3
  refine t3.mark (id := 16) (fun h => by have e : isN lv2 16 = true := by kernel_rfl
                                         have h : isN lv2 16 = false := h
                                         rw [e] at h; cases h) fun _ _ w4 t4 _ => ?_
  have t4 : Tl w w4 [] (some ⟨b, 0, none⟩) lv3 2 20 := t4
  refine t4.sweep fun w5 t5 _ => ?_
  have t5 : Tl w w5 [] (some ⟨b, 0, none⟩) lv4 2 20 := t5
  refine t5.intern_free (i := 15) (by omega) (by decide) (by kernel_rfl) (by kernel_rfl) fun w6 t6 _ => ?_
  have t6 : Tl w w6 [] (some ⟨b, 0, none⟩) lv5 3 20 := t6
  refine t6.name (id := 15) (fun h => by have e : isN lv5 15 = true := by kernel_rfl
                                         have h : isN lv5 15 = false := h
                                         rw [e] at h; cases h) fun _ _ w7 t7 _ => ?_
  refine t7.find fun w8 t8 _ => New_bad (by omega) fun w9 u9 => ?_
  have t9 := t8.keep u9
  refine ifT rfl (ifT rfl (ifT rfl (ifT rfl (ifT rfl (ifT (by kernel_rfl) (ifT rfl (ifT rfl (ifT rfl (ifT (by kernel_rfl) (ifT (by kernel_rfl) (ifT (by kernel_rfl) (ifT rfl ?_))))))))))))
  refine t9.len fun wa ta _ => ifT (by kernel_rfl) (ta.slots fun wb tb _ => ifT (by kernel_rfl) (tb.count fun wc tc _ => ifT rfl (tc.marked fun wd td _ => ifT (by kernel_rfl) (Reserved_ok fun we he ue => ?_))))
  exact hK we (td.keep ue).U

end Go.Proofs.Ytifgjlkmmbpbkaa
