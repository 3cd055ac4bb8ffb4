/- The rules of clear and of copy. -/
import Derived.Test.YtchbhocpmhlhjaaDoorOwn3
set_option linter.unusedSimpArgs false
set_option linter.unusedVariables false
namespace Go.D

/-- A slice's tail, cleared: told of the whole. -/
theorem Clr_rule {P : Program} {S E ty : TypeId} {sz by_ : Nat} {zc : Array Value} (hE : ElemOf P S E sz by_ zc) {w : World} {p : Option Addr} {n c k : Nat} {cs : List Value} {F : List Nat} (hS : SlAt w sz p n c cs F) (hk : k ≤ n)
    {K : Value → World → Prop} (hK : ∀ v w', SlAt w' sz p n c (cs.take (k * sz) ++ zeroL zc (n - k)) F → Upd F w w' → K v w') : Clr P #[S] ty #[.slice (adv p c k sz) (n - k) (c - k)] w K := by
  obtain ⟨i, hi, hsz, hby, z, hz, hzc⟩ := hE.info
  have hszp := hE.pos
  have hzv : ∀ w, (zeroValue E).run P w = .ok z w := fun w => by simp [zeroValue, typeInfo, hi, hz]
  have hmul : n * sz = k * sz + (n - k) * sz := by rw [← Nat.add_mul]; congr 1; omega
  have hzl : (zeroL zc (n - k)).length = (n - k) * sz := by rw [zeroL_length, hE.zsz]
  unfold Clr Run
  by_cases hnk : n - k = 0
  · obtain rfl : k = n := by omega
    have hrun : (Builtin.clear_ #[S] ty #[.slice (adv p c k sz) (k - k) (c - k)]).run P w = .ok (.tuple #[]) w := by
      rw [hnk]
      rcases hq : adv p c k sz with _ | a <;> simp [Builtin.clear_, run_underlyingD hE.und]
    rw [hrun]
    refine hK _ w ?_ (Upd.refl _ _)
    rw [hnk, show cs.take (k * sz) = cs from List.take_of_length_le (by rw [hS.1]; omega)]
    simpa [zeroL, Builtin.zeroCells] using hS
  · rcases hS.2.2 with ⟨rfl, rfl, rfl⟩ | ⟨b, off, arr, rfl, rfl, hblk, hs, hc⟩
    · have := hS.2.1; omega
    · have hle : n * sz ≤ c * sz := Nat.mul_le_mul_right _ hS.2.1
      have hck : ¬ (c = k) := by have := hS.2.1; omega
      obtain ⟨w', arr', hr, hu, hb', hsz', h1, h2⟩ := run_storeRow (P := P) (zeroL zc (n - k)) (off + k * sz) 0 w arr hblk (by rw [hzl]; omega) (fun v hv => hE.one v (zeroL_mem (by rw [hE.zsz]; exact hszp) hv))
      have hrun : (Builtin.clear_ #[S] ty #[.slice (adv (some ⟨b, off, none⟩) c k sz) (n - k) (c - k)]).run P w = .ok (.tuple #[]) w' := by
        have e : adv (some ⟨b, off, none⟩) c k sz = some ⟨b, off + k * sz, none⟩ := by simp [adv, hck, addN]
        rw [e]
        obtain ⟨j, hj⟩ : ∃ j, n - k = j + 1 := ⟨n - k - 1, by omega⟩
        rw [hj] at hr ⊢
        unfold zeroL at hr
        simp [Builtin.clear_, run_underlyingD hE.und, hzv, hzc, hr]
      rw [hrun]
      refine hK _ w' ⟨?_, hS.2.1, .inr ⟨b, off, arr', rfl, rfl, hb', by omega, fun i hi => ?_⟩⟩ hu
      · rw [List.length_append, List.length_take, hS.1, hzl]; omega
      · have hl : (cs.take (k * sz)).length = k * sz := by rw [List.length_take, hS.1]; omega
        rw [List.getElem?_append, hl]
        by_cases hin : i < k * sz
        · rw [if_pos hin, h2 (off + i) (.inl (by omega)), List.getElem?_take, if_pos hin]
          exact hc i (by omega)
        · rw [if_neg hin]
          have := h1 (i - k * sz) (by rw [hzl]; omega)
          rw [← this]; congr 1; omega

/-- A slice copied onto another one's head. -/
theorem Cpy_rule {P : Program} {S T E ty : TypeId} {sz by_ : Nat} {zc : Array Value} (hE : ElemOf P S E sz by_ zc) {w : World} {p q : Option Addr} {n c m d : Nat} {xs ys : List Value} {F G : List Nat}
    (hS : SlAt w sz p n c xs F) (hT : SlAt w sz q m d ys G) (hone : ∀ v ∈ ys, v.oneCell' = true) {K : Int → World → Prop}
    (hK : ∀ w', SlAt w' sz p n c (ys.take (Nat.min m n * sz) ++ xs.drop (Nat.min m n * sz)) F → Upd F w w' → K (Nat.min m n : Nat) w') :
    Cpy P #[S, T] ty #[.slice p n c, .slice q m d] w K := by
  obtain ⟨i, hi, hsz, hby, z, hz, hzc⟩ := hE.info
  have hmn : Nat.min m n ≤ m := Nat.min_le_left ..
  have hmn' : Nat.min m n ≤ n := Nat.min_le_right ..
  obtain ⟨k, hk⟩ : ∃ k, k = Nat.min m n := ⟨_, rfl⟩
  rw [← hk] at hmn hmn' hK
  have hT' := hT.take hmn
  have hy := run_firstCells (P := P) hT'
  have hkn : k * sz ≤ n * sz := Nat.mul_le_mul_right _ hmn'
  have hyl := hT'.1
  have hfc : (Builtin.firstCells sz k (.slice q m d)).run P w = .ok (ys.take (k * sz)).toArray w := by
    have : Builtin.firstCells sz k (.slice q m d) = Builtin.firstCells sz k (.slice q k d) := by
      cases q <;> simp [Builtin.firstCells]
    rw [this]; exact hy
  unfold Cpy Run
  rcases hS.2.2 with ⟨rfl, rfl, rfl⟩ | ⟨b, off, arr, rfl, rfl, hblk, hs, hc⟩
  · have hn0 : n = 0 := by have := hS.2.1; omega
    have hk0 : k = 0 := by omega
    have hrun : (Builtin.copy_ #[S, T] ty #[.slice none n 0, .slice q m d]).run P w = .ok (.int .i64 (k : Nat)) w := by
      simp [Builtin.copy_, run_underlyingD hE.und, sizeOf, typeInfo, hi, hsz, Builtin.lenOf, ← hk, hfc, goInt]
    rw [hrun]
    refine ⟨_, rfl, hK w ?_ (Upd.refl _ _)⟩
    subst hk0; simpa using hS
  · have hle : n * sz ≤ c * sz := Nat.mul_le_mul_right _ hS.2.1
    obtain ⟨w', arr', hr, hu, hb', hsz', h1, h2⟩ := run_storeRow (P := P) (ys.take (k * sz)) off 0 w arr hblk (by rw [hyl]; omega) (fun v hv => hone v (List.mem_of_mem_take hv))
    have hrun : (Builtin.copy_ #[S, T] ty #[.slice (some ⟨b, off, none⟩) n c, .slice q m d]).run P w = .ok (.int .i64 (k : Nat)) w' := by
      simp [Builtin.copy_, run_underlyingD hE.und, sizeOf, typeInfo, hi, hsz, Builtin.lenOf, ← hk, hfc, goInt, hr]
    rw [hrun]
    refine ⟨_, rfl, hK w' ⟨?_, hS.2.1, .inr ⟨b, off, arr', rfl, rfl, hb', by omega, fun i hi => ?_⟩⟩ hu⟩
    · rw [List.length_append, hyl, List.length_drop, hS.1]; omega
    · rw [List.getElem?_append, hyl]
      by_cases hin : i < k * sz
      · rw [if_pos hin]
        have := h1 i (by rw [hyl]; omega)
        rw [← this]; congr 1
      · rw [if_neg hin, h2 (off + i) (.inr (by rw [hyl]; omega)), List.getElem?_drop, hc i hi]
        congr 1; omega

end Go.D
