/- Slices: what is made anew, and what is copied into a part. -/
import Derived.Test.YtchbhocpmhlhjaaDoorOwn10
set_option linter.unusedSimpArgs false
set_option linter.unusedVariables false
namespace Go.D
open Go

theorem AppZ_grow {P : Program} {S E I ty : TypeId} {sz by_ : Nat} {zc : Array Value} (hE : ElemOf P S E sz by_ zc) (hI : ∃ k, P.underlying I = some (.int k)) {w : World} {p : Option Addr} {n c : Nat} {m : Int} {xs : List Value} {F : List Nat}
    (hS : SlAt w sz p n c xs F) (hm0 : 0 ≤ m) (hroom : ¬ n + m.toNat ≤ c) (hb : (n + m.toNat) * by_ ≤ 2 ^ 46) {K : Option Addr → Nat → Nat → World → Prop}
    (hK : ∀ c' w', SlAt w' sz (some ⟨w.heap.size, 0, none⟩) (n + m.toNat) c' (xs ++ zeroL zc m.toNat) [w.heap.size] → Upd [] w w' → K (some ⟨w.heap.size, 0, none⟩) (n + m.toNat) c' w') :
    App P #[S, I] ty #[.slice p n c, .int .i64 m] w K := by
  obtain ⟨m, rfl⟩ := Int.eq_ofNat_of_zero_le hm0
  simp only [Int.toNat_natCast] at hb hK hroom
  obtain ⟨i, hi, hsz, hby, z, hz, hzc⟩ := hE.info
  obtain ⟨ki, hI⟩ := hI
  have hbp := hE.bpos
  have hszp := hE.pos
  have hbm := hE.bmax
  have hb0 : by_ ≠ 0 := by omega
  have hnm : n + m ≤ 2 ^ 46 := by
    have : (n + m) * 1 ≤ (n + m) * by_ := Nat.mul_le_mul_left _ hbp
    omega
  have hmb : m * by_ ≤ (n + m) * by_ := Nat.mul_le_mul_right _ (by omega)
  have hzv : ∀ w, (zeroValue E).run P w = .ok z w := fun w => by simp [zeroValue, typeInfo, hi, hz]
  have hwrap : IntKind.i64.wrap (m : Int) = m := i64w m (by omega)
  have hneg : ¬ ((m : Int) < 0) := by omega
  have hmake : ¬ (281474976710656 < (m : Int) * (by_ : Int)) := by
    have : ((m * by_ : Nat) : Int) = (m : Int) * by_ := by simp
    omega
  have hmul : (n + m) * sz = n * sz + m * sz := Nat.add_mul ..
  have hzl : (zeroL zc m).length = m * sz := by rw [zeroL_length, hE.zsz]
  unfold App Run
  have hcap : ¬ Builtin.nextslicecap (n + m) c * by_ > 2 ^ 48 := by
    have h1 := nextslicecap_le (n + m) c (by omega)
    have h2 : Builtin.nextslicecap (n + m) c * by_ ≤ (2 * (n + m) + 192) * by_ := Nat.mul_le_mul_right _ h1
    have h3 : (2 * (n + m) + 192) * by_ = 2 * ((n + m) * by_) + 192 * by_ := by rw [Nat.add_mul, Nat.mul_assoc]
    have h4 : 192 * by_ ≤ 192 * 4096 := Nat.mul_le_mul_left _ hbm
    omega
  have hnb : ¬ (((n + m : Nat) : Int) > IntKind.i64.max) := by simp [IntKind.max, IntKind.signed, IntKind.bits]; omega
  have hnb' : ¬ (9223372036854775807 < (n : Int) + (m : Int)) := by omega
  have hforced : ∀ a b t, (Question.appendCap a b t).forced = false := fun _ _ _ => rfl
  obtain ⟨N, hN⟩ : ∃ N, N = Question.cut (.appendCap (n + m) c E) (w.tape w.drawn (.appendCap (n + m) c E)) := ⟨_, rfl⟩
  have hNge : n + m ≤ N := by rw [hN]; simp only [Question.cut]; omega
  obtain ⟨arr, harr⟩ : ∃ arr : Array Value, arr = xs.toArray ++ (Builtin.zeroCells zc m ++ Builtin.zeroCells z.cells (N - (n + m))) := ⟨_, rfl⟩
  have hu0 : Upd [] w w.drew := drw_upd w
  have hrun : (Builtin.append_ #[S, I] ty #[.slice p n c, .int .i64 (m : Int)]).run P w = .ok (.slice (some ⟨w.heap.size, 0, none⟩) (n + m) N) { w.drew with heap := w.drew.heap.push (.cells arr E) } := by
    have hx1 := run_firstCells (P := P) (SlAt.drw hS)
    have e1 : drw w = w.drew := rfl
    rw [e1] at hx1
    rw [harr, hN]
    by_cases hm : m = 0
    · subst hm
      exact absurd (by have := hS.2.1; omega) hroom
    · have h5 : ¬ (m = 0 ∨ sz = 0) := by omega
      have h4 : m * sz ≠ 0 := Nat.mul_ne_zero hm (by omega)
      simp [Builtin.append_, run_underlyingD hE.und, run_underlyingD hI, sizeOf, typeInfo, hi, hsz, hby, asInt, asIntOf, hwrap, hneg, hmake, hroom, h4, h5, hzv, hzc, hcap, hnb', hb0, hforced, hx1, newRow]
      rfl
  rw [hrun]
  have hblk : Blk ({ w.drew with heap := w.drew.heap.push (.cells arr E) } : World) w.heap.size arr := by
    refine ⟨E, (0, 0), ?_, .inl (Nat.le_refl _)⟩
    show (w.heap.push _)[_]? = _
    simp
  have hNmul : N * sz = (n + m) * sz + (N - (n + m)) * sz := by rw [← Nat.add_mul]; congr 1; omega
  have hasz : arr.size = N * sz := by
    rw [harr, hNmul]
    simp only [Array.size_append, List.size_toArray, size_zeroCells, hS.1, hzc, hE.zsz]
    omega
  refine ⟨_, _, _, rfl, hK N _ ?_ (hu0.before (push_upd w.drew _))⟩
  refine ⟨by rw [List.length_append, hS.1, hzl, hmul], hNge, .inr ⟨w.heap.size, 0, arr, rfl, rfl, hblk, by omega, fun i hi => ?_⟩⟩
  have hxl := hS.1
  have hzs : (Builtin.zeroCells zc m).size = m * sz := by rw [size_zeroCells, hE.zsz]
  rw [Nat.zero_add, harr, List.getElem?_append, Array.getElem?_append]
  by_cases hin : i < n * sz
  · simp [hxl, hin]
  · have h2 : i - n * sz < m * sz := by omega
    simp [hxl, hin, Array.getElem?_append, hzs, h2, zeroL]


/-- A slice whose spare places are taken too. -/
theorem SlAt.widen {w : World} {sz : Nat} {p : Option Addr} {n c k : Nat} {cs : List Value} {F : List Nat} (h : SlAt w sz p n c cs F) (hn : n ≤ k) (hk : k ≤ c) : ∃ xs, SlAt w sz p k c (cs ++ xs) F ∧ xs.length = (k - n) * sz := by
  have h1 : n * sz ≤ k * sz := Nat.mul_le_mul_right _ hn
  have h2 : k * sz ≤ c * sz := Nat.mul_le_mul_right _ hk
  have hl := h.1
  have h3 : (k - n) * sz = k * sz - n * sz := Nat.sub_mul ..
  rcases h.2.2 with ⟨rfl, rfl, rfl⟩ | ⟨b, off, arr, rfl, rfl, hb, hs, hc⟩
  · have : k = 0 := by omega
    have : n = 0 := by omega
    subst k; subst n
    exact ⟨[], by simpa using h, by simp⟩
  · refine ⟨(arr.toList.drop (off + n * sz)).take ((k - n) * sz), ⟨?_, hk, .inr ⟨b, off, arr, rfl, rfl, hb, hs, fun i hi => ?_⟩⟩, by simp; omega⟩
    · simp; omega
    · by_cases hin : i < n * sz
      · rw [List.getElem?_append_left (by omega)]; exact hc i hin
      · rw [List.getElem?_append_right (by omega), List.getElem?_take_of_lt (by omega), List.getElem?_drop, Array.getElem?_toList]
        congr 1; omega

/-- Copied into a slice, from a place on, as much as fits. -/
theorem CpyMin_rule {P : Program} {S T E ty : TypeId} {sz by_ : Nat} {zc : Array Value} (hE : ElemOf P S E sz by_ zc) {w : World} {p q : Option Addr} {n c m d k : Nat} {xs ys : List Value} {F G : List Nat} (j : Nat)
    (hS : SlAt w sz p n c xs F) (hkn : k ≤ n) (hj : Nat.min m (n - k) = j) (hT : SlAt w sz q m d ys G) (hone : ∀ v ∈ ys.take (j * sz), v.oneCell' = true) {K : Int → World → Prop}
    (hK : ∀ w', SlAt w' sz p n c (xs.take (k * sz) ++ ys.take (j * sz) ++ xs.drop ((k + j) * sz)) F → Upd F w w' → K (j : Nat) w') :
    Cpy P #[S, T] ty #[.slice (adv p c k sz) (n - k) (c - k), .slice q m d] w K := by
  obtain ⟨i, hi, hsz, hby, z, hz, hzc⟩ := hE.info
  have hjm : j ≤ m := by rw [← hj]; exact Nat.min_le_left ..
  have hjn : j ≤ n - k := by rw [← hj]; exact Nat.min_le_right ..
  have hT' := hT.take hjm
  have hy := run_firstCells (P := P) hT'
  have hyl := hT'.1
  have hxl := hS.1
  have h1 : (k + j) * sz = k * sz + j * sz := Nat.add_mul ..
  have h2 : (k + j) * sz ≤ n * sz := Nat.mul_le_mul_right _ (by omega)
  have h21 := hS.2.1
  have h3 : n * sz ≤ c * sz := Nat.mul_le_mul_right _ h21
  have hfc : (Builtin.firstCells sz j (.slice q m d)).run P w = .ok (ys.take (j * sz)).toArray w := by
    have : Builtin.firstCells sz j (.slice q m d) = Builtin.firstCells sz j (.slice q j d) := by
      cases q <;> simp [Builtin.firstCells]
    rw [this]; exact hy
  have hj' : min m (n - k) = j := hj
  have hj2 : min (n - k) m = j := by rw [Nat.min_comm]; exact hj
  unfold Cpy Run
  by_cases hm0 : j = 0
  · subst hm0
    have hrun : (Builtin.copy_ #[S, T] ty #[.slice (adv p c k sz) (n - k) (c - k), .slice q m d]).run P w = .ok (.int .i64 (0 : Nat)) w := by
      have hfc : (Builtin.firstCells sz 0 (.slice q m d)).run P w = .ok ([] : List Value).toArray w := by simpa using hfc
      rcases hp : adv p c k sz with _ | a
      · simp [Builtin.copy_, run_underlyingD hE.und, sizeOf, typeInfo, hi, hsz, Builtin.lenOf, hj', hj2, hfc, goInt]
      · simp [Builtin.copy_, run_underlyingD hE.und, sizeOf, typeInfo, hi, hsz, Builtin.lenOf, hj', hj2, hfc, goInt, storeCells]
    rw [hrun]
    exact ⟨_, rfl, hK w (by simpa using hS) (Upd.refl _ _)⟩
  · rcases hS.2.2 with ⟨rfl, rfl, rfl⟩ | ⟨b, off, arr, rfl, rfl, hblk, hs, hc⟩
    · omega
    · have hadv : adv (some ⟨b, off, none⟩) c k sz = some ⟨b, off + k * sz, none⟩ := by unfold adv; rw [if_neg (by omega)]; simp [addN]
      rw [hadv]
      obtain ⟨w', arr', hr, hu, hb', hsz', g1, g2⟩ := run_storeRow (P := P) (ys.take (j * sz)) (off + k * sz) 0 w arr hblk (by omega) hone
      have hrun : (Builtin.copy_ #[S, T] ty #[.slice (some ⟨b, off + k * sz, none⟩) (n - k) (c - k), .slice q m d]).run P w = .ok (.int .i64 (j : Nat)) w' := by
        simp [Builtin.copy_, run_underlyingD hE.und, sizeOf, typeInfo, hi, hsz, Builtin.lenOf, hj', hj2, hfc, goInt, hr]
      rw [hrun]
      refine ⟨_, rfl, hK w' ⟨?_, h21, .inr ⟨b, off, arr', rfl, rfl, hb', by omega, fun i hi => ?_⟩⟩ hu⟩
      · rw [List.length_append, List.length_append, hyl, List.length_take, List.length_drop]; omega
      · have htl : (xs.take (k * sz)).length = k * sz := by rw [List.length_take]; omega
        by_cases ha : i < k * sz
        · rw [List.append_assoc, List.getElem?_append_left (by omega), List.getElem?_take_of_lt ha, g2 (off + i) (.inl (by omega))]
          exact hc i hi
        · by_cases hb2 : i < (k + j) * sz
          · rw [List.append_assoc, List.getElem?_append_right (by omega), List.getElem?_append_left (by omega)]
            have := g1 (i - k * sz) (by omega)
            rw [show off + k * sz + 0 + (i - k * sz) = off + i by omega] at this
            rw [this, htl]
          · rw [List.getElem?_append_right (by rw [List.length_append]; omega), List.getElem?_drop, g2 (off + i) (.inr (by omega)), hc i hi, List.length_append, htl, hyl]
            congr 1; omega

/-- Copied into a slice, from a place on. -/
theorem CpyAt_rule {P : Program} {S T E ty : TypeId} {sz by_ : Nat} {zc : Array Value} (hE : ElemOf P S E sz by_ zc) {w : World} {p q : Option Addr} {n c m d k : Nat} {xs ys : List Value} {F G : List Nat}
    (hS : SlAt w sz p n c xs F) (hk : k + m ≤ n) (hT : SlAt w sz q m d ys G) (hone : ∀ v ∈ ys, v.oneCell' = true) {K : Int → World → Prop}
    (hK : ∀ w', SlAt w' sz p n c (xs.take (k * sz) ++ ys ++ xs.drop ((k + m) * sz)) F → Upd F w w' → K (m : Nat) w') :
    Cpy P #[S, T] ty #[.slice (adv p c k sz) (n - k) (c - k), .slice q m d] w K :=
  CpyMin_rule hE m hS (by omega) (Nat.min_eq_left (by omega)) hT (fun v hv => hone v (List.mem_of_mem_take hv)) fun w' h u => hK w' (by rw [List.take_of_length_le (l := ys) (by rw [hT.1]; exact Nat.le_refl _)] at h; exact h) u

/-- A block that was made by the program, and is no string's. -/
def Plain (w : World) (b : Nat) : Prop := ∃ arr T, w.heap[b]? = some (.cells arr T (0, 0))

theorem Plain.upd {w w' : World} {b : Nat} {F : List Nat} (h : Plain w b) (u : Upd F w w') (hb : b ∉ F) : Plain w' b := by
  obtain ⟨arr, T, h⟩ := h
  exact ⟨arr, T, by rw [u.blk b (Array.getElem?_eq_some_iff.1 h).1 hb]; exact h⟩

/-- A slice that is built of its elements, in a plain block. -/
theorem BSlP0_rule {P : Program} {S E : TypeId} {sz by_ : Nat} {zc : Array Value} (hE : ElemOf P S E sz by_ zc) {w : World} {len : Nat} {ps : List (Nat × Value)} {cs : List Value}
    (hf : Instr.fill (fun i => some (i * sz, sz)) ((Array.range (len * sz)).map (zc[· % zc.size]!)) ps = some cs.toArray) (hl : cs.length = len * sz) (hb : len * sz ≤ 2 ^ 24)
    {K : Option Addr → Nat → Nat → World → Prop}
    (hK : ∀ w', SlAt w' sz (some ⟨w.heap.size, 0, none⟩) len len cs [w.heap.size] → Plain w' w.heap.size → Upd [] w w' → K (some ⟨w.heap.size, 0, none⟩) len len w') : BSl P S len ps w K := by
  obtain ⟨i, hi, hsz, hby, z, hz, hzc⟩ := hE.info
  have hszp := hE.pos
  have hzv : ∀ w, (zeroValue E).run P w = .ok z w := fun w => by simp [zeroValue, typeInfo, hi, hz]
  have hlb : ¬ len * sz > 2 ^ 24 := by omega
  have hrun : (Instr.buildSlice S len ps.toArray).run P w = .ok (.slice (some ⟨w.heap.size, 0, none⟩) len len) { w with heap := w.heap.push (.cells cs.toArray E) } := by
    by_cases h0 : len * sz = 0
    · have hr : ∀ f : Nat → Value, (Array.range 0).map f = #[] := fun f => Array.eq_empty_of_size_eq_zero (by simp)
      rw [h0, hr] at hf
      simp [Instr.buildSlice, run_underlyingD hE.und, sizeOf, typeInfo, hi, hsz, hr, h0, hf, newRow]
    · simp [Instr.buildSlice, run_underlyingD hE.und, sizeOf, typeInfo, hi, hsz, hlb, h0, hzv, hzc]
      simp [hf, newRow]
  unfold BSl Run
  rw [hrun]
  have hblk : Blk ({ w with heap := w.heap.push (.cells cs.toArray E) } : World) w.heap.size cs.toArray := by
    refine ⟨E, (0, 0), ?_, .inl (Nat.le_refl _)⟩
    show (w.heap.push _)[_]? = _
    simp
  exact ⟨_, _, _, rfl, hK _ ⟨hl, Nat.le_refl _, .inr ⟨_, _, _, rfl, rfl, hblk, by simp [hl], fun i hi => by simp⟩⟩ ⟨cs.toArray, E, by show (w.heap.push _)[_]? = _; simp⟩ (push_upd w _)⟩

theorem BSlP_rule {P : Program} {S E : TypeId} {sz by_ : Nat} {zc : Array Value} (hE : ElemOf P S E sz by_ zc) {w : World} {len : Nat} {ps : List (Nat × Value)} (vs : List Value) (hps : ps = (vs.zipIdx 0).map fun x => (x.2, x.1)) (hv : ∀ v ∈ vs, v.cells.size = sz) (hl : len = vs.length) (hb : len * sz ≤ 2 ^ 24)
    {K : Option Addr → Nat → Nat → World → Prop}
    (hK : ∀ w', SlAt w' sz (some ⟨w.heap.size, 0, none⟩) len len (vs.flatMap (fun v => v.cells.toList)) [w.heap.size] → Plain w' w.heap.size → Upd [] w w' → K (some ⟨w.heap.size, 0, none⟩) len len w') : BSl P S len ps w K := by
  subst hl
  have hs : ∀ l : List Value, (∀ v ∈ l, v.cells.size = sz) → (l.flatMap (fun v => v.cells.toList)).length = l.length * sz := by
    intro l hl
    induction l with
    | nil => simp
    | cons x l ih => rw [List.flatMap_cons, List.length_append, ih (fun v hv => hl v (by simp [hv])), List.length_cons, Nat.add_mul]; simp [hl x (by simp)]; omega
  refine BSlP0_rule (cs := vs.flatMap (fun v => v.cells.toList)) hE ?_ (hs vs hv) hb hK
  rw [hps, fill_seq sz vs 0 _ hv (by simp)]
  simp

/-- Two slice types of one element type. -/
theorem App2_rule {P : Program} {S T E ty : TypeId} {sz by_ : Nat} {zc : Array Value} (hE : ElemOf P S E sz by_ zc) (hTu : P.underlying T = some (.slice E)) {w : World} {p q : Option Addr} {n c m d : Nat} {xs ys : List Value} {F G : List Nat}
    (hS : SlAt w sz p n c xs F) (hT : SlAt w sz q m d ys G) (hone : ∀ v ∈ ys, v.oneCell' = true) (hb : (n + m) * by_ ≤ 2 ^ 46) {K : Option Addr → Nat → Nat → World → Prop}
    (hK : ∀ p' c' F' w', SlAt w' sz p' (n + m) c' (xs ++ ys) F' → Upd F w w' → Sub F' F w → K p' (n + m) c' w') :
    App P #[S, T] ty #[.slice p n c, .slice q m d] w K := by
  obtain ⟨i, hi, hsz, hby, z, hz, hzc⟩ := hE.info
  have hbp := hE.bpos
  have hnm : n + m ≤ 2 ^ 46 := by
    have : (n + m) * 1 ≤ (n + m) * by_ := Nat.mul_le_mul_left _ hbp
    omega
  have hzer : ((match P.underlying S with | some d => pure d | none => stuck "no such type" : Sem TypeDesc)).run P w = .ok (.slice E) w := by rw [hE.und]; rfl
  unfold App Run
  by_cases hroom : n + m ≤ c
  · -- there is room
    have hw : ∃ p' w' F', (Builtin.append_ #[S, T] ty #[.slice p n c, .slice q m d]).run P w = .ok (.slice p' (n + m) c) w' ∧ SlAt w' sz p' (n + m) c (xs ++ ys) F' ∧ Upd F w w' ∧ Sub F' F w := by
      rcases hS.2.2 with ⟨rfl, rfl, rfl⟩ | ⟨b, off, arr, rfl, rfl, hblk, hs, hc⟩
      · obtain rfl : n = 0 := by omega
        obtain rfl : m = 0 := by omega
        have hxs : xs = [] := by have := hS.1; simpa using this
        have hys : ys = [] := by have := hT.1; simpa using this
        subst hxs; subst hys
        refine ⟨none, w, [], ?_, SlAt.nil w sz, Upd.refl _ _, Sub.refl _ _⟩
        have := run_firstCells (P := P) hT
        simp [Builtin.append_, run_underlyingD hE.und, run_underlyingD hTu, sizeOf, typeInfo, hi, hsz, Builtin.lenOf, this]
      · have hy := run_firstCells (P := P) hT
        have hmul : (n + m) * sz = n * sz + m * sz := Nat.add_mul ..
        have hle : (n + m) * sz ≤ c * sz := Nat.mul_le_mul_right _ hroom
        obtain ⟨w', arr', hr, hu, hb', hsz', h1, h2⟩ := run_storeRow (P := P) ys (off + n * sz) 0 w arr hblk (by rw [hT.1]; omega) hone
        refine ⟨some ⟨b, off, none⟩, w', [b], ?_, ?_, hu, Sub.refl _ _⟩
        · simp [Builtin.append_, run_underlyingD hE.und, run_underlyingD hTu, sizeOf, typeInfo, hi, hsz, Builtin.lenOf, hroom, hy, addN, hr]
        · refine ⟨by rw [List.length_append, hS.1, hT.1, hmul], hroom, .inr ⟨b, off, arr', rfl, rfl, hb', by omega, fun i hi => ?_⟩⟩
          rw [List.getElem?_append]
          by_cases hin : i < n * sz
          · rw [if_pos (by rw [hS.1]; exact hin), h2 (off + i) (.inl (by omega))]
            exact hc i hin
          · rw [if_neg (by rw [hS.1]; exact hin)]
            have := h1 (i - n * sz) (by rw [hT.1]; omega)
            rw [← show off + n * sz + 0 + (i - n * sz) = off + i by omega, this, hS.1]
    obtain ⟨p', w', F', hrun, hsl, hu, hsub⟩ := hw
    rw [hrun]
    exact ⟨p', n + m, c, rfl, hK p' c F' w' hsl hu hsub⟩
  · -- a new array
    have hx := run_firstCells (P := P) hS
    have hy := run_firstCells (P := P) hT
    have hbm := hE.bmax
    have hcap : ¬ Builtin.nextslicecap (n + m) c * by_ > 2 ^ 48 := by
      have h1 := nextslicecap_le (n + m) c (by omega)
      have h2 : Builtin.nextslicecap (n + m) c * by_ ≤ (2 * (n + m) + 192) * by_ := Nat.mul_le_mul_right _ h1
      have h3 : (2 * (n + m) + 192) * by_ = 2 * ((n + m) * by_) + 192 * by_ := by rw [Nat.add_mul, Nat.mul_assoc]
      have h4 : 192 * by_ ≤ 192 * 4096 := Nat.mul_le_mul_left _ hbm
      omega
    have hb0 : by_ ≠ 0 := by omega
    have hzv : ∀ w, (zeroValue E).run P w = .ok z w := fun w => by simp [zeroValue, typeInfo, hi, hz]
    have hforced : ∀ a b t, (Question.appendCap a b t).forced = false := fun _ _ _ => rfl
    -- how much there is room for then
    obtain ⟨N, hN⟩ : ∃ N, N = Question.cut (.appendCap (n + m) c E) (w.tape w.drawn (.appendCap (n + m) c E)) := ⟨_, rfl⟩
    have hNge : n + m ≤ N := by rw [hN]; simp only [Question.cut]; omega
    obtain ⟨arr, harr⟩ : ∃ arr : Array Value, arr = xs.toArray ++ (ys.toArray ++ Builtin.zeroCells z.cells (N - (n + m))) := ⟨_, rfl⟩
    have hu0 : Upd [] w w.drew := drw_upd w
    have hrun : (Builtin.append_ #[S, T] ty #[.slice p n c, .slice q m d]).run P w = .ok (.slice (some ⟨w.heap.size, 0, none⟩) (n + m) N) { w.drew with heap := w.drew.heap.push (.cells arr E) } := by
      have hx1 := run_firstCells (P := P) (SlAt.drw hS)
      have hy1 := run_firstCells (P := P) (SlAt.drw hT)
      have e1 : drw w = w.drew := rfl
      rw [e1] at hx1 hy1
      rw [harr, hN]
      simp [Builtin.append_, run_underlyingD hE.und, run_underlyingD hTu, sizeOf, typeInfo, hi, hsz, hby, Builtin.lenOf, hroom, hcap, hb0, hzv, hforced, hx1, hy1, newRow]
      rfl
    rw [hrun]
    have hblk : Blk ({ w.drew with heap := w.drew.heap.push (.cells arr E) } : World) w.heap.size arr := by
      refine ⟨E, (0, 0), ?_, .inl (Nat.le_refl _)⟩
      show (w.heap.push _)[_]? = _
      simp
    have hmul : (n + m) * sz = n * sz + m * sz := Nat.add_mul ..
    have hNmul : N * sz = (n + m) * sz + (N - (n + m)) * sz := by rw [← Nat.add_mul]; congr 1; omega
    have hasz : arr.size = N * sz := by
      rw [harr, hNmul]
      simp only [Array.size_append, List.size_toArray, size_zeroCells, hS.1, hT.1, hzc, hE.zsz]
      omega
    refine ⟨_, _, _, rfl, hK _ N [w.heap.size] _ ?_ ((hu0.before (push_upd w.drew _)).mono (by simp)) (fun k hk => .inr (by simp at hk; omega))⟩
    refine ⟨by rw [List.length_append, hS.1, hT.1, hmul], hNge, .inr ⟨w.heap.size, 0, arr, rfl, rfl, hblk, by omega, fun i hi => ?_⟩⟩
    have hxl := hS.1
    have hyl := hT.1
    rw [Nat.zero_add, harr, List.getElem?_append, Array.getElem?_append]
    by_cases hin : i < n * sz
    · simp [hxl, hin]
    · have h2 : i - n * sz < m * sz := by omega
      simp [hxl, hin, Array.getElem?_append, hyl, h2]


/-- Appended where there is room, within a greater slice. -/
theorem AppIn_rule {P : Program} {S E ty : TypeId} {sz by_ : Nat} {zc : Array Value} (hE : ElemOf P S E sz by_ zc) {w : World} {p q : Option Addr} {N n c m d : Nat} {xs ys : List Value} {F G : List Nat}
    (hS : SlAt w sz p N c xs F) (hn : n + m ≤ N) (hT : SlAt w sz q m d ys G) (hone : ∀ v ∈ ys, v.oneCell' = true) {K : Option Addr → Nat → Nat → World → Prop}
    (hK : ∀ w', SlAt w' sz p N c (xs.take (n * sz) ++ ys ++ xs.drop ((n + m) * sz)) F → Upd F w w' → K p (n + m) c w') :
    App P #[S, S] ty #[.slice p n c, .slice q m d] w K := by
  obtain ⟨i, hi, hsz, hby, z, hz, hzc⟩ := hE.info
  have hy := run_firstCells (P := P) hT
  have hyl := hT.1
  have hxl := hS.1
  have h1 : (n + m) * sz = n * sz + m * sz := Nat.add_mul ..
  have h2 : (n + m) * sz ≤ N * sz := Nat.mul_le_mul_right _ hn
  have h21 := hS.2.1
  have h3 : N * sz ≤ c * sz := Nat.mul_le_mul_right _ h21
  have hroom : n + m ≤ c := by omega
  unfold App Run
  rcases hS.2.2 with ⟨rfl, rfl, rfl⟩ | ⟨b, off, arr, rfl, rfl, hblk, hs, hc⟩
  · obtain rfl : n = 0 := by omega
    obtain rfl : m = 0 := by omega
    have hys : ys = [] := by simpa using hyl
    subst hys
    have hrun : (Builtin.append_ #[S, S] ty #[.slice none 0 0, .slice q 0 d]).run P w = .ok (.slice none 0 0) w := by
      simp [Builtin.append_, run_underlyingD hE.und, sizeOf, typeInfo, hi, hsz, Builtin.lenOf, hy]
    rw [hrun]
    exact ⟨_, _, _, rfl, hK w (by simpa using hS) (Upd.refl _ _)⟩
  · obtain ⟨w', arr', hr, hu, hb', hsz', g1, g2⟩ := run_storeRow (P := P) ys (off + n * sz) 0 w arr hblk (by omega) hone
    have hrun : (Builtin.append_ #[S, S] ty #[.slice (some ⟨b, off, none⟩) n c, .slice q m d]).run P w = .ok (.slice (some ⟨b, off, none⟩) (n + m) c) w' := by
      simp [Builtin.append_, run_underlyingD hE.und, sizeOf, typeInfo, hi, hsz, Builtin.lenOf, hroom, hy, addN, hr]
    rw [hrun]
    refine ⟨_, _, _, rfl, hK w' ⟨?_, h21, .inr ⟨b, off, arr', rfl, rfl, hb', by omega, fun i hi => ?_⟩⟩ hu⟩
    · rw [List.length_append, List.length_append, hyl, List.length_take, List.length_drop]; omega
    · have htl : (xs.take (n * sz)).length = n * sz := by rw [List.length_take]; omega
      by_cases ha : i < n * sz
      · rw [List.append_assoc, List.getElem?_append_left (by omega), List.getElem?_take_of_lt ha, g2 (off + i) (.inl (by omega))]
        exact hc i hi
      · by_cases hb2 : i < (n + m) * sz
        · rw [List.append_assoc, List.getElem?_append_right (by omega), List.getElem?_append_left (by omega)]
          have := g1 (i - n * sz) (by omega)
          rw [show off + n * sz + 0 + (i - n * sz) = off + i by omega] at this
          rw [this, htl]
        · rw [List.getElem?_append_right (by rw [List.length_append]; omega), List.getElem?_drop, g2 (off + i) (.inr (by omega)), hc i hi, List.length_append, htl, hyl]
          congr 1; omega

end Go.D
