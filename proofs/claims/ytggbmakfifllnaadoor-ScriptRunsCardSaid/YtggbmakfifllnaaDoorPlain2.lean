/- Names that may stand as they are: the program's way. -/
import Derived.Test.YtggbmakfifllnaaDoorPlain
import Derived.Test.YtggbmakfifllnaaDoorShelf
import Derived.Lib.OthersKept
namespace Go.Proofs.YtggbmakfifllnaaDoor
open Go Go.D Go.Proofs
set_option linter.unusedSimpArgs false
set_option linter.unusedVariables false
set_option maxRecDepth 8000

theorem indexByte_mem (c : UInt8) : ∀ l : List UInt8, 0 ≤ Lib.indexByte l c ↔ c ∈ l
  | [] => by simp [Lib.indexByte]
  | x :: l => by
    have ih := indexByte_mem c l
    have hg := Lib.indexByte_ge l c
    unfold Lib.indexByte
    by_cases h : x = c
    · subst h; simp
    · have hb : (x == c) = false := by simpa using h
      have hc : ¬ c = x := fun e => h e.symm
      rw [hb]
      simp only [Bool.false_eq_true, if_false, List.mem_cons, hc, false_or]
      by_cases h1 : Lib.indexByte l c = -1
      · rw [if_pos (by simpa using h1)]
        rw [h1] at ih
        exact ⟨fun h => by omega, fun h => by have := ih.2 h; omega⟩
      · rw [if_neg (by simpa using h1)]
        exact ⟨fun h => ih.1 (by omega), fun h => by have := ih.2 h; omega⟩

section
variable {w : World} {l o : List UInt8}

theorem in_ok {c : UInt8} {K : Bool → World → Prop} (hK : K (decide (c ∈ o)) w) : C_token_in (c.toNat : Int) ⟨o.toArray⟩ w K := by
  apply C_token_in.of
  unfold F_token_in
  apply C_strings_IndexByte.of
  unfold F_strings_IndexByte
  refine Calls.mono (Any.stringslite_IndexByte Tryd.layIndexByte ⟨o.toArray⟩ (c.toNat : Int) w) fun e w' ⟨he, hw⟩ => ⟨_, he, ?_⟩
  subst hw
  have e1 : ((c.toNat : Int)).toNat.toUInt8 = c := by simp
  rw [e1]
  have e2 : decide (Lib.indexByte o c ≥ 0) = decide (c ∈ o) := decide_eq_decide.2 (indexByte_mem c o)
  show K (decide (Lib.indexByte o c ≥ 0)) w'
  rw [e2]; exact hK

theorem iterAt_upd (w : World) (k : Nat) (s : ByteArray) (pos : Nat) : Upd [k] w (w.iterAt k s pos) :=
  ⟨rfl, rfl, rfl, by rw [Lib.iterAt_size]; exact Nat.le_refl _, fun j _ hj => Lib.iterAt_other w k j s pos (by simpa using hj)⟩

/-- Are all bytes some? -/
theorem all_ok {K : Bool → World → Prop} (ho : ∀ c ∈ o, c.toNat < 128) (hl : l.length < 2 ^ 40) (hK : ∀ w', Upd [] w w' → K (l.all fun c => decide (c ∈ o)) w') : C_token_all ⟨l.toArray⟩ ⟨o.toArray⟩ w K := by
  apply C_token_all.of
  unfold F_token_all
  have hrng : (Instr.range 9 (.string ⟨l.toArray⟩)).run Tryd.prog w = .ok (.pointer (some ⟨w.heap.size, 0, none⟩)) { w with heap := w.heap.push (.stringIter ⟨l.toArray⟩ 0) } := by
    have hu : Tryd.prog.underlying 9 = some .string := by kernel_rfl
    simp [Instr.range, run_underlyingD hu, newObj]
    rfl
  unfold Rng Run
  rw [hrng]
  refine ⟨_, rfl, ?_⟩
  have u0 : Upd [] w { w with heap := w.heap.push (.stringIter ⟨l.toArray⟩ 0) } := push_upd w _
  have h0 : ({ w with heap := w.heap.push (.stringIter ⟨l.toArray⟩ 0) } : World).heap[w.heap.size]? = some (.stringIter ⟨l.toArray⟩ 0) := by
    show (w.heap.push _)[_]? = _
    simp
  generalize ({ w with heap := w.heap.push (.stringIter ⟨l.toArray⟩ 0) } : World) = w1 at u0 h0
  unfold F_token_all_L1
  refine ⟨fun s v => ∃ i : Nat, i ≤ l.length ∧ v.heap[w.heap.size]? = some (.stringIter ⟨l.toArray⟩ i) ∧ Upd [] w v ∧ (l.all fun c => decide (c ∈ o)) = ((l.drop i).all fun c => decide (c ∈ o)),
    fun _ v => match v.heap[w.heap.size]? with | some (.stringIter s i) => l.length - i | _ => 0, ⟨0, by omega, h0, u0, rfl⟩, ?_⟩
  rintro ⟨⟩ v ⟨i, hi, hv, hu, hs⟩
  unfold B_token_all_L1
  by_cases hc : i < l.length
  · have hsz : i < (⟨l.toArray⟩ : ByteArray).size := by rw [sizeL]; exact hc
    have hnx := Lib.run_next_any_at (P := Tryd.prog) v w.heap.size ⟨l.toArray⟩ i 0 hv hsz
    have hgi : (⟨l.toArray⟩ : ByteArray)[i]'hsz = l[i] := rfl
    unfold Run
    rw [hnx]
    refine .inr ⟨_, _, rfl, ifT rfl ?_⟩
    have hun : ∀ pos', Upd [] w (v.iterAt w.heap.size ⟨l.toArray⟩ pos') := fun pos' => hu.fresh (iterAt_upd v _ _ _) (by simp)
    rw [List.drop_eq_getElem_cons hc, List.all_cons] at hs
    by_cases ha : l[i].toNat < 128
    · have hd := decode_ascii ⟨l.toArray⟩ i hsz (by rw [hgi]; exact ha)
      rw [hgi] at hd
      rw [hd]
      refine ifF (by simp; omega) ?_
      have e8 : IntKind.u8.wrap ((l[i].toNat : Nat) : Int) = (l[i].toNat : Int) := by rw [u8w']; omega
      rw [e8]
      refine in_ok (ifC (fun h => ?_) (fun h => ?_))
      · simp only [Bool.not_eq_true'] at h
        rw [h, Bool.false_and] at hs
        have := hK _ (hun (i + 1))
        rw [hs] at this; exact this
      · simp only [Bool.not_eq_false'] at h
        rw [h, Bool.true_and] at hs
        refine ⟨⟨i + 1, by omega, Lib.iterAt_heap v _ _ _ _ hv, hun _, hs⟩, ?_⟩
        dsimp only
        rw [Lib.iterAt_heap v _ _ _ (i + 1) hv, hv]
        dsimp only
        omega
    · have hd := decode_high ⟨l.toArray⟩ i hsz (by rw [hgi]; omega)
      refine ifT (by simp; omega) ?_
      have hno : decide (l[i] ∈ o) = false := by
        rw [decide_eq_false]
        intro h
        have := ho _ h
        omega
      rw [hno, Bool.false_and] at hs
      have := hK _ (hun (i + (Utf8.decode ⟨l.toArray⟩ i).2))
      rw [hs] at this; exact this
  · have hnx := Lib.run_next_end_at (P := Tryd.prog) v w.heap.size ⟨l.toArray⟩ i 0 hv (by rw [sizeL]; exact hc)
    unfold Run
    rw [hnx]
    refine .inl ⟨rfl, ifF rfl ?_⟩
    have he : l.drop i = [] := List.drop_of_length_le (by omega)
    rw [he] at hs
    have := hK v hu
    rw [hs] at this; exact this
end

end Go.Proofs.YtggbmakfifllnaaDoor
