/- Structs of numbers, compared. -/
import Derived.Test.YtchbhocpmhlhjaaDoorOwn8
import Derived.ChangeKeysEq
set_option linter.unusedSimpArgs false
set_option linter.unusedVariables false
namespace Go.D
open Go

def isIntT (P : Program) (t : TypeId) : Bool := match P.underlying t with | some (.int _) => true | _ => false

theorem isIntT_eq {P : Program} {t : TypeId} (h : isIntT P t = true) : ∃ k, P.underlying t = some (.int k) := by
  unfold isIntT at h
  split at h
  · exact ⟨_, by assumption⟩
  · cases h

/-- Fields that are numbers, one behind the other. -/
def intFields (P : Program) : List Field → Nat → Nat → Bool
  | [], _, n => n == 0
  | _ :: _, _, 0 => false
  | f :: fs, off, n + 1 => (f.name != "_") && (f.offset == off) && isIntT P f.type && intFields P fs (off + 1) n

theorem eqFields_ints {P : Program} {w : World} {d : Nat} {xs ys : Array Value} : ∀ (fs : List Field) (off : Nat) (as bs : List (IntKind × Int)), intFields P fs off as.length = true → as.map (·.1) = bs.map (·.1) →
    (∀ i, i < as.length → xs[off + i]? = (as[i]?).map fun x => .int x.1 x.2) → (∀ i, i < bs.length → ys[off + i]? = (bs[i]?).map fun x => .int x.1 x.2) →
    (Op.eqFields (d + 1) xs ys fs).run P w = .ok (decide (as.map (·.2) = bs.map (·.2))) w
  | [], off, as, bs, hf, hk, hx, hy => by
    rcases as with _ | ⟨a, as⟩
    · rcases bs with _ | ⟨b, bs⟩
      · simp [Op.eqFields]
      · simp at hk
    · simp [intFields] at hf
  | f :: fs, off, [], bs, hf, hk, hx, hy => by simp [intFields] at hf
  | f :: fs, off, a :: as, [], hf, hk, hx, hy => by simp at hk
  | f :: fs, off, a :: as, b :: bs, hf, hk, hx, hy => by
    simp [intFields] at hf
    obtain ⟨⟨⟨hn, ho⟩, hi⟩, hr⟩ := hf
    obtain ⟨k, hi⟩ := isIntT_eq hi
    have hpl : P.plainKey f.type = true := by unfold Program.plainKey; rw [hi]
    have h0 := hx 0 (by simp)
    have h1 := hy 0 (by simp)
    simp at h0 h1 hk
    obtain ⟨hk1, hk2⟩ := hk
    unfold Op.eqFields
    rw [if_pos hn, ho]
    have ih := eqFields_ints (P := P) (w := w) (d := d) (xs := xs) (ys := ys) fs (off + 1) as bs hr hk2 (fun i hi => by have := hx (i + 1) (by simp; omega); rw [show off + (i + 1) = off + 1 + i by omega] at this; simpa using this)
      (fun i hi => by have := hy (i + 1) (by simp; omega); rw [show off + (i + 1) = off + 1 + i by omega] at this; simpa using this)
    rw [← hk1] at h1
    simp only [Sem.run_bind, run_part_plain w hpl h0, run_part_plain w hpl h1, Result.andThen_ok, run_equalIn_int w d f.type a.1 k a.2 b.2 hi]
    by_cases hab : a.2 = b.2
    · simp [hab, ih]
    · simp [hab]

theorem AggEq_ints {P : Program} {t : TypeId} (as bs : List (IntKind × Int)) {xs ys : Array Value} {K : Bool → Prop} (ht : P.underlying t = some (.struct (P.fieldsOf t))) (hp : P.stoodInHeld t = false)
    (hf : intFields P (P.fieldsOf t).toList 0 as.length = true) (hk : as.map (·.1) = bs.map (·.1)) (hx : xs = (as.map fun x => Value.int x.1 x.2).toArray) (hy : ys = (bs.map fun x => Value.int x.1 x.2).toArray)
    (h : K (decide (as.map (·.2) = bs.map (·.2)))) : AggEq P t (.agg xs) (.agg ys) K := by
  refine ⟨_, fun w => ?_, h⟩
  unfold Op.equal Op.maxDepth
  rw [run_equalIn_struct w 9999 t xs ys ht hp]
  exact eqFields_ints _ 0 as bs hf hk (fun i hi => by subst hx; simp) (fun i hi => by subst hy; simp)

end Go.D
