/- Maps whose keys are structs of numbers and strings. -/
import Derived.Test.YtchbhocpmhlhjaaDoorOwn9
set_option linter.unusedSimpArgs false
set_option linter.unusedVariables false
namespace Go.D
open Go

/-- Two leaves are told apart. -/
def leafSame (P : Program) (t : TypeId) (a b : Value) : Prop :=
  P.plainKey t = true ∧ ∀ (w : World) (d : Nat), ∃ r : Bool, (Op.equalIn (d + 1) t a b).run P w = .ok r w ∧ (r = true ↔ a = b)

theorem leaf_int {P : Program} {t : TypeId} {k q : IntKind} (h : P.underlying t = some (.int q)) (a b : Int) : leafSame P t (.int k a) (.int k b) := by
  refine ⟨by unfold Program.plainKey; rw [h], fun w d => ⟨_, run_equalIn_int w d t k q a b h, by simp⟩⟩

theorem leaf_string {P : Program} {t : TypeId} (h : P.underlying t = some .string) (a b : ByteArray) : leafSame P t (.string a) (.string b) := by
  refine ⟨by unfold Program.plainKey; rw [h], fun w d => ⟨_, run_equalIn_string w d t a b h, by simp [ByteArray.toList_eq]; exact ByteArray.ext_iff.symm⟩⟩

def leafFields (P : Program) : List Field → Nat → List Value → List Value → Prop
  | [], _, [], [] => True
  | f :: fs, off, a :: as, b :: bs => f.name ≠ "_" ∧ f.offset = off ∧ leafSame P f.type a b ∧ leafFields P fs (off + 1) as bs
  | _, _, _, _ => False

theorem eqFields_leafs {P : Program} {w : World} {d : Nat} {xs ys : Array Value} : ∀ (fs : List Field) (off : Nat) (as bs : List Value), leafFields P fs off as bs →
    (∀ i, i < as.length → xs[off + i]? = as[i]?) → (∀ i, i < bs.length → ys[off + i]? = bs[i]?) →
    ∃ r : Bool, (Op.eqFields (d + 1) xs ys fs).run P w = .ok r w ∧ (r = true ↔ as = bs)
  | [], off, [], [], hf, hx, hy => ⟨true, by simp [Op.eqFields], by simp⟩
  | [], off, a :: as, bs, hf, hx, hy => by cases bs <;> exact hf.elim
  | [], off, [], b :: bs, hf, hx, hy => hf.elim
  | f :: fs, off, [], bs, hf, hx, hy => by cases bs <;> exact hf.elim
  | f :: fs, off, a :: as, [], hf, hx, hy => hf.elim
  | f :: fs, off, a :: as, b :: bs, ⟨hn, ho, ⟨hp, hl⟩, hr⟩, hx, hy => by
    have h0 := hx 0 (by simp)
    have h1 := hy 0 (by simp)
    simp at h0 h1
    obtain ⟨r, hr1, hr2⟩ := hl w d
    obtain ⟨q, ih1, ih2⟩ := eqFields_leafs (P := P) (w := w) (d := d) (xs := xs) (ys := ys) fs (off + 1) as bs hr (fun i hi => by have := hx (i + 1) (by simp; omega); rw [show off + (i + 1) = off + 1 + i by omega] at this; simpa using this)
      (fun i hi => by have := hy (i + 1) (by simp; omega); rw [show off + (i + 1) = off + 1 + i by omega] at this; simpa using this)
    unfold Op.eqFields
    rw [if_pos hn, ho]
    simp only [Sem.run_bind, run_part_plain w hp h0, run_part_plain w hp h1, Result.andThen_ok, hr1]
    cases r with
    | true => exact ⟨q, by simpa using ih1, by rw [ih2]; simp [hr2.1 rfl]⟩
    | false => exact ⟨false, by simp, by simp; intro h; simpa using hr2.2 h⟩

/-- Fields that are leaves: nothing about the values. -/
def plainFields (P : Program) : List Field → Nat → Nat → Bool
  | [], _, n => n == 0
  | _ :: _, _, 0 => false
  | f :: fs, off, n + 1 => (f.offset == off) && P.plainKey f.type && plainFields P fs (off + 1) n

theorem run_checkLeaf {P : Program} {t : TypeId} (h : P.plainKey t = true) (e : Bool) (n : Nat) (v : Value) (w : World) : (Instr.checkKey e (n + 1) t v).run P w = .ok () w := by
  unfold Program.plainKey at h
  cases hu : P.underlying t with
  | none => simp [hu] at h
  | some d => cases d <;> simp [hu] at h <;> simp [Instr.checkKey, run_underlyingD hu]

/-- Structs as keys. -/
theorem keyStruct {P : Program} {kt : TypeId} {κ : Type} [DecidableEq κ] {inj : κ → Value} (cells : κ → List Value) (m : Nat) (hi : ∀ k, inj k = .agg (cells k).toArray) (hm : ∀ k, (cells k).length = m) (hinj : ∀ a b, cells a = cells b → a = b)
    (ht : P.underlying kt = some (.struct (P.fieldsOf kt))) (hp : P.stoodInHeld kt = false) (hf : plainFields P (P.fieldsOf kt).toList 0 m = true) (hl : ∀ a b, leafFields P (P.fieldsOf kt).toList 0 (cells a) (cells b))
    (hsb : ∀ k, ∀ v ∈ cells k, ∀ n, Instr.sameBits (n + 1) v v = true) : KeyOf P kt inj := by
  have heq : ∀ (w : World) (a b : κ), (Op.equal kt (inj a) (inj b)).run P w = .ok (decide (a = b)) w := by
    intro w a b
    rw [hi, hi]
    unfold Op.equal Op.maxDepth
    rw [run_equalIn_struct w 9999 kt _ _ ht hp]
    obtain ⟨r, h1, h2⟩ := eqFields_leafs (w := w) (d := 9998) (xs := (cells a).toArray) (ys := (cells b).toArray) (P.fieldsOf kt).toList 0 (cells a) (cells b) (hl a b) (fun i hi => by simp) (fun i hi => by simp)
    rw [h1]
    congr 1
    by_cases hab : a = b
    · simp [hab]; rw [h2, hab]
    · simp [hab]
      cases r with
      | false => rfl
      | true => exact absurd (hinj a b (h2.1 rfl)) hab
  refine ⟨⟨_, ht⟩, fun e n k w => ?_, fun w k es M hM => ?_, fun a n => ?_⟩
  · rw [hi]
    unfold Instr.checkKey
    simp only [Sem.run_bind, run_underlyingD ht, Result.andThen_ok]
    rw [← Array.forIn_toList]
    have hs : 0 + m ≤ (cells k).toArray.size := by simp [hm]
    clear hsb hl heq hm
    generalize (cells k).toArray = cs at hs ⊢
    generalize (P.fieldsOf kt).toList = fs at hf ⊢
    generalize 0 = off at hf hs
    induction fs generalizing off m with
    | nil => simp
    | cons f fs ih =>
      cases m with
      | zero => simp [plainFields] at hf
      | succ m =>
        simp [plainFields] at hf
        obtain ⟨⟨ho, hp⟩, hr⟩ := hf
        have hx : cs[off]? = some cs[off] := Array.getElem?_eq_getElem (by omega)
        have ih := ih m (off + 1) hr (by omega)
        rw [List.forIn_cons, ho]
        by_cases hn : f.name = "_"
        · simp only [hn, ne_eq, not_true_eq_false, if_false, Sem.run_bind, Sem.run_pure, Result.andThen_ok]
          simpa using ih
        · simp only [ne_eq, hn, not_false_eq_true, if_true, Sem.run_bind, Sem.run_pure, Result.andThen_ok, run_part_plain w hp hx, run_checkLeaf hp]
          simpa using ih
  · have hask : ∀ (es : List MapEntry) (M : List (κ × Value)) (i : Nat), es.map (fun e => (e.key, e.val)) = M.map (fun x => (inj x.1, x.2)) → (Instr.findAsking kt (inj k) es i).run P w = .ok (spot k M i) w := by
      intro es
      induction es with
      | nil =>
        intro M i h
        cases M with
        | nil => simp [Instr.findAsking, spot]
        | cons x M => simp at h
      | cons e es ih =>
        intro M i h
        cases M with
        | nil => simp at h
        | cons x M =>
          simp only [List.map_cons, List.cons.injEq, Prod.mk.injEq] at h
          have := heq w k x.1
          rw [← h.1.1] at this
          unfold Instr.findAsking spot
          simp only [Sem.run_bind, this, Result.andThen_ok]
          by_cases hk : k = x.1
          · simp [hk, h.1.2]
          · simp only [hk, decide_false, if_false, Bool.false_eq_true]
            exact ih M (i + 1) h.2
    unfold Instr.findKey
    simp only [Sem.run_bind, run_underlyingD ht, Result.andThen_ok]
    cases es with
    | nil =>
      cases M with
      | nil => simp [Instr.findNow, spot]
      | cons x M => simp at hM
    | cons e es =>
      have : Instr.findNow (.struct (P.fieldsOf kt)) (inj k) (e :: es) 0 = none := by
        unfold Instr.findNow
        simp [Instr.sameNow]
      rw [this]
      exact hask (e :: es) M 0 hM
  · rw [hi]
    simp only [Instr.sameBits, beq_self_eq_true, Bool.true_and]
    rw [List.all_eq_true]
    rintro ⟨x, y⟩ hxy
    have h1 := List.of_mem_zip hxy
    have : x = y := by
      obtain ⟨i, hi, he⟩ := List.getElem_of_mem hxy
      rw [List.getElem_zip] at he
      simp at he
      exact he.1.symm.trans he.2
    subst this
    exact hsb a x (by simpa using h1.1) n

end Go.D
