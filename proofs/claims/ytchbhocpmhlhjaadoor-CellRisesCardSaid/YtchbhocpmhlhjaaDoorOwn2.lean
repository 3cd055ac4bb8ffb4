/- The rules of append, of slices that are built, made, cleared, copied. -/
import Derived.Test.YtchbhocpmhlhjaaDoorOwn1
set_option linter.unusedSimpArgs false
set_option linter.unusedVariables false
namespace Go.D

/-- What a slice's element type is: its cells, its bytes, its zero cells. -/
structure ElemOf (P : Program) (S E : TypeId) (sz by_ : Nat) (zc : Array Value) : Prop where
  und : P.underlying S = some (.slice E)
  info : ∃ i, P.info? E = some i ∧ i.size = sz ∧ i.bytes = by_ ∧ ∃ z, i.zero = some z ∧ z.cells = zc
  zsz : zc.size = sz
  pos : 0 < sz
  bpos : 0 < by_
  bmax : by_ ≤ 4096
  one : ∀ v ∈ zc.toList, v.oneCell' = true

/-- The same, held by the kernel. -/
def elemB (P : Program) (S E sz by_ : Nat) (zc : List Value) : Bool :=
  match P.underlying S, P.info? E with
  | some (.slice E'), some i => Nat.beq E' E && Nat.beq i.size sz && Nat.beq i.bytes by_ && Nat.blt 0 sz && Nat.blt 0 by_ && Nat.ble by_ 4096 && Nat.beq zc.length sz && zc.all (fun v => v.oneCell')
  | _, _ => false

theorem elemOf_mk {P : Program} {S E sz by_ : Nat} {zc : List Value} (h : elemB P S E sz by_ zc = true) {i : TypeInfo} {z : Value} (hi : P.info? E = some i) (hz : i.zero = some z) (hzc : z.cells = zc.toArray) :
    ElemOf P S E sz by_ zc.toArray := by
  unfold elemB at h
  split at h
  · rename_i E' i' hu hi'
    simp only [Bool.and_eq_true, List.all_eq_true] at h
    obtain ⟨⟨⟨⟨⟨⟨⟨h1, h2⟩, h3⟩, h4⟩, h5⟩, h8⟩, h6⟩, h7⟩ := h
    obtain rfl := Nat.eq_of_beq_eq_true h1
    obtain rfl : i' = i := by rw [hi] at hi'; simpa using hi'.symm
    exact ⟨hu, ⟨i', hi, Nat.eq_of_beq_eq_true h2, Nat.eq_of_beq_eq_true h3, z, hz, hzc⟩, by simpa using Nat.eq_of_beq_eq_true h6, Nat.le_of_ble_eq_true h4, Nat.le_of_ble_eq_true h5, Nat.le_of_ble_eq_true h8, by simpa using h7⟩
  · cases h

theorem size_zeroCells (zc : Array Value) (n : Nat) : (Builtin.zeroCells zc n).size = n * zc.size := by simp [Builtin.zeroCells]

theorem growBy_le (need : Nat) : ∀ (r c : Nat), c ≤ 2 * need → Builtin.growBy need r c ≤ 2 * need + 192
  | 0, c, h => by simp [Builtin.growBy]; omega
  | r + 1, c, h => by
    unfold Builtin.growBy
    split
    · omega
    · rename_i hlt
      by_cases h2 : c + (c + 768) / 4 ≤ 2 * need
      · exact growBy_le need r _ h2
      · have : Builtin.growBy need r (c + (c + 768) / 4) = c + (c + 768) / 4 := by
          cases r with
          | zero => rfl
          | succ r => unfold Builtin.growBy; rw [if_pos (by omega)]
        rw [this]; omega

theorem nextslicecap_le (need old : Nat) (h : old < need) : Builtin.nextslicecap need old ≤ 2 * need + 192 := by
  unfold Builtin.nextslicecap
  split
  · omega
  · split
    · omega
    · exact growBy_le need 4 old (by omega)

/-- What append comes to, at a slice whose blocks are ours: the elements, and the new ones behind. -/
theorem App_rule {P : Program} {S E ty : TypeId} {sz by_ : Nat} {zc : Array Value} (hE : ElemOf P S E sz by_ zc) {w : World} {p q : Option Addr} {n c m d : Nat} {xs ys : List Value} {F G : List Nat}
    (hS : SlAt w sz p n c xs F) (hT : SlAt w sz q m d ys G) (hone : ∀ v ∈ ys, v.oneCell' = true) (hb : (n + m) * by_ ≤ 2 ^ 46) {K : Option Addr → Nat → Nat → World → Prop}
    (hK : ∀ p' c' F' w', SlAt w' sz p' (n + m) c' (xs ++ ys) F' → Upd F w w' → Sub F' F w → K p' (n + m) c' w') :
    App P #[S, S] ty #[.slice p n c, .slice q m d] w K := by
  obtain ⟨i, hi, hsz, hby, z, hz, hzc⟩ := hE.info
  have hbp := hE.bpos
  have hnm : n + m ≤ 2 ^ 46 := by
    have : (n + m) * 1 ≤ (n + m) * by_ := Nat.mul_le_mul_left _ hbp
    omega
  have hzer : ((match P.underlying S with | some d => pure d | none => stuck "no such type" : Sem TypeDesc)).run P w = .ok (.slice E) w := by rw [hE.und]; rfl
  unfold App Run
  by_cases hroom : n + m ≤ c
  · -- there is room
    have hw : ∃ p' w' F', (Builtin.append_ #[S, S] ty #[.slice p n c, .slice q m d]).run P w = .ok (.slice p' (n + m) c) w' ∧ SlAt w' sz p' (n + m) c (xs ++ ys) F' ∧ Upd F w w' ∧ Sub F' F w := by
      rcases hS.2.2 with ⟨rfl, rfl, rfl⟩ | ⟨b, off, arr, rfl, rfl, hblk, hs, hc⟩
      · obtain rfl : n = 0 := by omega
        obtain rfl : m = 0 := by omega
        have hxs : xs = [] := by have := hS.1; simpa using this
        have hys : ys = [] := by have := hT.1; simpa using this
        subst hxs; subst hys
        refine ⟨none, w, [], ?_, SlAt.nil w sz, Upd.refl _ _, Sub.refl _ _⟩
        have := run_firstCells (P := P) hT
        simp [Builtin.append_, run_underlyingD hE.und, sizeOf, typeInfo, hi, hsz, Builtin.lenOf, this]
      · have hy := run_firstCells (P := P) hT
        have hmul : (n + m) * sz = n * sz + m * sz := Nat.add_mul ..
        have hle : (n + m) * sz ≤ c * sz := Nat.mul_le_mul_right _ hroom
        obtain ⟨w', arr', hr, hu, hb', hsz', h1, h2⟩ := run_storeRow (P := P) ys (off + n * sz) 0 w arr hblk (by rw [hT.1]; omega) hone
        refine ⟨some ⟨b, off, none⟩, w', [b], ?_, ?_, hu, Sub.refl _ _⟩
        · simp [Builtin.append_, run_underlyingD hE.und, sizeOf, typeInfo, hi, hsz, Builtin.lenOf, hroom, hy, addN, hr]
        · refine ⟨by rw [List.length_append, hS.1, hT.1, hmul], hroom, .inr ⟨b, off, arr', rfl, rfl, hb', by omega, fun i hi => ?_⟩⟩
          rw [List.getElem?_append]
          by_cases hin : i < n * sz
          · rw [if_pos (by rw [hS.1]; exact hin), h2 (off + i) (.inl (by omega))]
            exact hc i hin
          · rw [if_neg (by rw [hS.1]; exact hin)]
            have := h1 (i - n * sz) (by rw [hT.1]; omega)
            rw [← show off + n * sz + 0 + (i - n * sz) = off + i by omega, this, hS.1]
    obtain ⟨p', w', F', hrun, hsl, hu, hsub⟩ := hw
    rw [hrun]
    exact ⟨p', n + m, c, rfl, hK p' c F' w' hsl hu hsub⟩
  · -- a new array
    have hx := run_firstCells (P := P) hS
    have hy := run_firstCells (P := P) hT
    have hbm := hE.bmax
    have hcap : ¬ Builtin.nextslicecap (n + m) c * by_ > 2 ^ 48 := by
      have h1 := nextslicecap_le (n + m) c (by omega)
      have h2 : Builtin.nextslicecap (n + m) c * by_ ≤ (2 * (n + m) + 192) * by_ := Nat.mul_le_mul_right _ h1
      have h3 : (2 * (n + m) + 192) * by_ = 2 * ((n + m) * by_) + 192 * by_ := by rw [Nat.add_mul, Nat.mul_assoc]
      have h4 : 192 * by_ ≤ 192 * 4096 := Nat.mul_le_mul_left _ hbm
      omega
    have hb0 : by_ ≠ 0 := by omega
    have hzv : ∀ w, (zeroValue E).run P w = .ok z w := fun w => by simp [zeroValue, typeInfo, hi, hz]
    have hforced : ∀ a b t, (Question.appendCap a b t).forced = false := fun _ _ _ => rfl
    -- how much there is room for then
    obtain ⟨N, hN⟩ : ∃ N, N = Question.cut (.appendCap (n + m) c E) (w.tape w.drawn (.appendCap (n + m) c E)) := ⟨_, rfl⟩
    have hNge : n + m ≤ N := by rw [hN]; simp only [Question.cut]; omega
    obtain ⟨arr, harr⟩ : ∃ arr : Array Value, arr = xs.toArray ++ (ys.toArray ++ Builtin.zeroCells z.cells (N - (n + m))) := ⟨_, rfl⟩
    have hu0 : Upd [] w w.drew := drw_upd w
    have hrun : (Builtin.append_ #[S, S] ty #[.slice p n c, .slice q m d]).run P w = .ok (.slice (some ⟨w.heap.size, 0, none⟩) (n + m) N) { w.drew with heap := w.drew.heap.push (.cells arr E) } := by
      have hx1 := run_firstCells (P := P) (SlAt.drw hS)
      have hy1 := run_firstCells (P := P) (SlAt.drw hT)
      have e1 : drw w = w.drew := rfl
      rw [e1] at hx1 hy1
      rw [harr, hN]
      simp [Builtin.append_, run_underlyingD hE.und, sizeOf, typeInfo, hi, hsz, hby, Builtin.lenOf, hroom, hcap, hb0, hzv, hforced, hx1, hy1, newRow]
      rfl
    rw [hrun]
    have hblk : Blk ({ w.drew with heap := w.drew.heap.push (.cells arr E) } : World) w.heap.size arr := by
      refine ⟨E, (0, 0), ?_, .inl (Nat.le_refl _)⟩
      show (w.heap.push _)[_]? = _
      simp
    have hmul : (n + m) * sz = n * sz + m * sz := Nat.add_mul ..
    have hNmul : N * sz = (n + m) * sz + (N - (n + m)) * sz := by rw [← Nat.add_mul]; congr 1; omega
    have hasz : arr.size = N * sz := by
      rw [harr, hNmul]
      simp only [Array.size_append, List.size_toArray, size_zeroCells, hS.1, hT.1, hzc, hE.zsz]
      omega
    refine ⟨_, _, _, rfl, hK _ N [w.heap.size] _ ?_ ((hu0.before (push_upd w.drew _)).mono (by simp)) (fun k hk => .inr (by simp at hk; omega))⟩
    refine ⟨by rw [List.length_append, hS.1, hT.1, hmul], hNge, .inr ⟨w.heap.size, 0, arr, rfl, rfl, hblk, by omega, fun i hi => ?_⟩⟩
    have hxl := hS.1
    have hyl := hT.1
    rw [Nat.zero_add, harr, List.getElem?_append, Array.getElem?_append]
    by_cases hin : i < n * sz
    · simp [hxl, hin]
    · have h2 : i - n * sz < m * sz := by omega
      simp [hxl, hin, Array.getElem?_append, hyl, h2]

/-- The cells of n zero elements. -/
def zeroL (zc : Array Value) (n : Nat) : List Value := (Builtin.zeroCells zc n).toList

theorem zeroL_length (zc : Array Value) (n : Nat) : (zeroL zc n).length = n * zc.size := by simp [zeroL, Builtin.zeroCells]

theorem zeroL_one (z : Value) (n : Nat) : zeroL #[z] n = List.replicate n z := by
  simp only [zeroL, Builtin.zeroCells]
  apply List.ext_getElem
  · simp
  · intro i h1 h2
    simp [Nat.mod_one]

theorem zeroL_mem {zc : Array Value} {n : Nat} {v : Value} (hz : 0 < zc.size) (h : v ∈ zeroL zc n) : v ∈ zc.toList := by
  simp only [zeroL, Builtin.zeroCells, Array.toList_map, List.mem_map] at h
  obtain ⟨i, _, rfl⟩ := h
  have := Nat.mod_lt i hz
  simp [this]

theorem i64w (k : Nat) (hk : k ≤ 2 ^ 46) : IntKind.i64.wrap (k : Int) = k := by
  have hf : ((k : Int) % 2 ^ 64 ≥ 2 ^ (64 - 1)) = False := by apply eq_false; omega
  simp only [IntKind.wrap, IntKind.bits, IntKind.signed, hf]
  simp; omega

/-- Append of so many zero elements. -/
theorem AppZ_rule {P : Program} {S E I ty : TypeId} {sz by_ : Nat} {zc : Array Value} (hE : ElemOf P S E sz by_ zc) (hI : ∃ k, P.underlying I = some (.int k)) {w : World} {p : Option Addr} {n c : Nat} {m : Int} {xs : List Value} {F : List Nat}
    (hS : SlAt w sz p n c xs F) (hm0 : 0 ≤ m) (hb : (n + m.toNat) * by_ ≤ 2 ^ 46) {K : Option Addr → Nat → Nat → World → Prop}
    (hK : ∀ p' c' F' w', SlAt w' sz p' (n + m.toNat) c' (xs ++ zeroL zc m.toNat) F' → Upd F w w' → Sub F' F w → K p' (n + m.toNat) c' w') :
    App P #[S, I] ty #[.slice p n c, .int .i64 m] w K := by
  obtain ⟨m, rfl⟩ := Int.eq_ofNat_of_zero_le hm0
  simp only [Int.toNat_natCast] at hb hK
  obtain ⟨i, hi, hsz, hby, z, hz, hzc⟩ := hE.info
  obtain ⟨ki, hI⟩ := hI
  have hbp := hE.bpos
  have hszp := hE.pos
  have hbm := hE.bmax
  have hb0 : by_ ≠ 0 := by omega
  have hnm : n + m ≤ 2 ^ 46 := by
    have : (n + m) * 1 ≤ (n + m) * by_ := Nat.mul_le_mul_left _ hbp
    omega
  have hmb : m * by_ ≤ (n + m) * by_ := Nat.mul_le_mul_right _ (by omega)
  have hzv : ∀ w, (zeroValue E).run P w = .ok z w := fun w => by simp [zeroValue, typeInfo, hi, hz]
  have hwrap : IntKind.i64.wrap (m : Int) = m := i64w m (by omega)
  have hneg : ¬ ((m : Int) < 0) := by omega
  have hmake : ¬ (281474976710656 < (m : Int) * (by_ : Int)) := by
    have : ((m * by_ : Nat) : Int) = (m : Int) * by_ := by simp
    omega
  have hmul : (n + m) * sz = n * sz + m * sz := Nat.add_mul ..
  have hzl : (zeroL zc m).length = m * sz := by rw [zeroL_length, hE.zsz]
  unfold App Run
  by_cases hroom : n + m ≤ c
  · have hw : ∃ p' w' F', (Builtin.append_ #[S, I] ty #[.slice p n c, .int .i64 (m : Int)]).run P w = .ok (.slice p' (n + m) c) w' ∧ SlAt w' sz p' (n + m) c (xs ++ zeroL zc m) F' ∧ Upd F w w' ∧ Sub F' F w := by
      rcases hS.2.2 with ⟨rfl, rfl, rfl⟩ | ⟨b, off, arr, rfl, rfl, hblk, hs, hc⟩
      · obtain rfl : n = 0 := by omega
        obtain rfl : m = 0 := by omega
        have hxs : xs = [] := by have := hS.1; simpa using this
        subst hxs
        refine ⟨none, w, [], ?_, by simpa [zeroL, Builtin.zeroCells] using SlAt.nil w sz, Upd.refl _ _, Sub.refl _ _⟩
        have e0 : IntKind.i64.wrap 0 = 0 := by simpa using hwrap
        simp [Builtin.append_, run_underlyingD hE.und, run_underlyingD hI, sizeOf, typeInfo, hi, hsz, asInt, asIntOf, e0]
      · have hle : (n + m) * sz ≤ c * sz := Nat.mul_le_mul_right _ hroom
        obtain ⟨w', arr', hr, hu, hb', hsz', h1, h2⟩ := run_storeRow (P := P) (zeroL zc m) (off + n * sz) 0 w arr hblk (by rw [hzl]; omega) (fun v hv => hE.one v (zeroL_mem (by rw [hE.zsz]; exact hszp) hv))
        refine ⟨some ⟨b, off, none⟩, w', [b], ?_, ?_, hu, Sub.refl _ _⟩
        · by_cases hm : m = 0
          · subst hm
            have e1 : w = w' := by simpa [zeroL, Builtin.zeroCells, storeCells] using hr
            have e0 : IntKind.i64.wrap 0 = 0 := by simpa using hwrap
            have h3 : n ≤ c := by omega
            simp [Builtin.append_, run_underlyingD hE.und, run_underlyingD hI, sizeOf, typeInfo, hi, hsz, asInt, asIntOf, e0, h3, storeCells, e1]
          · have h4 : m * sz ≠ 0 := Nat.mul_ne_zero hm (by omega)
            have h5 : ¬ (m = 0 ∨ sz = 0) := by omega
            unfold zeroL at hr
            simp [Builtin.append_, run_underlyingD hE.und, run_underlyingD hI, sizeOf, typeInfo, hi, hsz, hby, asInt, asIntOf, hwrap, hneg, hmake, hroom, h4, h5, hzv, hzc, addN, hr]
        · refine ⟨by rw [List.length_append, hS.1, hzl, hmul], hroom, .inr ⟨b, off, arr', rfl, rfl, hb', by omega, fun i hi => ?_⟩⟩
          rw [List.getElem?_append]
          by_cases hin : i < n * sz
          · rw [if_pos (by rw [hS.1]; exact hin), h2 (off + i) (.inl (by omega))]
            exact hc i hin
          · rw [if_neg (by rw [hS.1]; exact hin)]
            have := h1 (i - n * sz) (by rw [hzl]; omega)
            rw [← show off + n * sz + 0 + (i - n * sz) = off + i by omega, this, hS.1]
    obtain ⟨p', w', F', hrun, hsl, hu, hsub⟩ := hw
    rw [hrun]
    exact ⟨p', n + m, c, rfl, hK p' c F' w' hsl hu hsub⟩
  · have hcap : ¬ Builtin.nextslicecap (n + m) c * by_ > 2 ^ 48 := by
      have h1 := nextslicecap_le (n + m) c (by omega)
      have h2 : Builtin.nextslicecap (n + m) c * by_ ≤ (2 * (n + m) + 192) * by_ := Nat.mul_le_mul_right _ h1
      have h3 : (2 * (n + m) + 192) * by_ = 2 * ((n + m) * by_) + 192 * by_ := by rw [Nat.add_mul, Nat.mul_assoc]
      have h4 : 192 * by_ ≤ 192 * 4096 := Nat.mul_le_mul_left _ hbm
      omega
    have hnb : ¬ (((n + m : Nat) : Int) > IntKind.i64.max) := by simp [IntKind.max, IntKind.signed, IntKind.bits]; omega
    have hnb' : ¬ (9223372036854775807 < (n : Int) + (m : Int)) := by omega
    have hforced : ∀ a b t, (Question.appendCap a b t).forced = false := fun _ _ _ => rfl
    obtain ⟨N, hN⟩ : ∃ N, N = Question.cut (.appendCap (n + m) c E) (w.tape w.drawn (.appendCap (n + m) c E)) := ⟨_, rfl⟩
    have hNge : n + m ≤ N := by rw [hN]; simp only [Question.cut]; omega
    obtain ⟨arr, harr⟩ : ∃ arr : Array Value, arr = xs.toArray ++ (Builtin.zeroCells zc m ++ Builtin.zeroCells z.cells (N - (n + m))) := ⟨_, rfl⟩
    have hu0 : Upd [] w w.drew := drw_upd w
    have hrun : (Builtin.append_ #[S, I] ty #[.slice p n c, .int .i64 (m : Int)]).run P w = .ok (.slice (some ⟨w.heap.size, 0, none⟩) (n + m) N) { w.drew with heap := w.drew.heap.push (.cells arr E) } := by
      have hx1 := run_firstCells (P := P) (SlAt.drw hS)
      have e1 : drw w = w.drew := rfl
      rw [e1] at hx1
      rw [harr, hN]
      by_cases hm : m = 0
      · subst hm
        exact absurd (by have := hS.2.1; omega) hroom
      · have h5 : ¬ (m = 0 ∨ sz = 0) := by omega
        have h4 : m * sz ≠ 0 := Nat.mul_ne_zero hm (by omega)
        simp [Builtin.append_, run_underlyingD hE.und, run_underlyingD hI, sizeOf, typeInfo, hi, hsz, hby, asInt, asIntOf, hwrap, hneg, hmake, hroom, h4, h5, hzv, hzc, hcap, hnb', hb0, hforced, hx1, newRow]
        rfl
    rw [hrun]
    have hblk : Blk ({ w.drew with heap := w.drew.heap.push (.cells arr E) } : World) w.heap.size arr := by
      refine ⟨E, (0, 0), ?_, .inl (Nat.le_refl _)⟩
      show (w.heap.push _)[_]? = _
      simp
    have hNmul : N * sz = (n + m) * sz + (N - (n + m)) * sz := by rw [← Nat.add_mul]; congr 1; omega
    have hasz : arr.size = N * sz := by
      rw [harr, hNmul]
      simp only [Array.size_append, List.size_toArray, size_zeroCells, hS.1, hzc, hE.zsz]
      omega
    refine ⟨_, _, _, rfl, hK _ N [w.heap.size] _ ?_ ((hu0.before (push_upd w.drew _)).mono (by simp)) (fun k hk => .inr (by simp at hk; omega))⟩
    refine ⟨by rw [List.length_append, hS.1, hzl, hmul], hNge, .inr ⟨w.heap.size, 0, arr, rfl, rfl, hblk, by omega, fun i hi => ?_⟩⟩
    have hxl := hS.1
    have hzs : (Builtin.zeroCells zc m).size = m * sz := by rw [size_zeroCells, hE.zsz]
    rw [Nat.zero_add, harr, List.getElem?_append, Array.getElem?_append]
    by_cases hin : i < n * sz
    · simp [hxl, hin]
    · have h2 : i - n * sz < m * sz := by omega
      simp [hxl, hin, Array.getElem?_append, hzs, h2, zeroL]

/-- A slice that is built of its elements. -/
theorem BSl_rule {P : Program} {S E : TypeId} {sz by_ : Nat} {zc : Array Value} (hE : ElemOf P S E sz by_ zc) {w : World} {len : Nat} {ps : List (Nat × Value)} {cs : List Value}
    (hf : Instr.fill (fun i => some (i * sz, sz)) ((Array.range (len * sz)).map (zc[· % zc.size]!)) ps = some cs.toArray) (hl : cs.length = len * sz) (hb : len * sz ≤ 2 ^ 24)
    {K : Option Addr → Nat → Nat → World → Prop}
    (hK : ∀ w', SlAt w' sz (some ⟨w.heap.size, 0, none⟩) len len cs [w.heap.size] → Upd [] w w' → K (some ⟨w.heap.size, 0, none⟩) len len w') : BSl P S len ps w K := by
  obtain ⟨i, hi, hsz, hby, z, hz, hzc⟩ := hE.info
  have hszp := hE.pos
  have hzv : ∀ w, (zeroValue E).run P w = .ok z w := fun w => by simp [zeroValue, typeInfo, hi, hz]
  have hlb : ¬ len * sz > 2 ^ 24 := by omega
  have hrun : (Instr.buildSlice S len ps.toArray).run P w = .ok (.slice (some ⟨w.heap.size, 0, none⟩) len len) { w with heap := w.heap.push (.cells cs.toArray E) } := by
    by_cases h0 : len * sz = 0
    · have hr : ∀ f : Nat → Value, (Array.range 0).map f = #[] := fun f => Array.eq_empty_of_size_eq_zero (by simp)
      rw [h0, hr] at hf
      simp [Instr.buildSlice, run_underlyingD hE.und, sizeOf, typeInfo, hi, hsz, hr, h0, hf, newRow]
    · simp [Instr.buildSlice, run_underlyingD hE.und, sizeOf, typeInfo, hi, hsz, hlb, h0, hzv, hzc]
      simp [hf, newRow]
  unfold BSl Run
  rw [hrun]
  have hblk : Blk ({ w with heap := w.heap.push (.cells cs.toArray E) } : World) w.heap.size cs.toArray := by
    refine ⟨E, (0, 0), ?_, .inl (Nat.le_refl _)⟩
    show (w.heap.push _)[_]? = _
    simp
  exact ⟨_, _, _, rfl, hK _ ⟨hl, Nat.le_refl _, .inr ⟨_, _, _, rfl, rfl, hblk, by simp [hl], fun i hi => by simp⟩⟩ (push_upd w _)⟩

/-- A slice that is made. -/
theorem MkSl_rule {P : Program} {S E : TypeId} {sz by_ : Nat} {zc : Array Value} (hE : ElemOf P S E sz by_ zc) {w : World} {n c : Int} (h0 : 0 ≤ n) (h1 : n ≤ c) (hb : c.toNat * by_ ≤ 2 ^ 46)
    {K : Option Addr → Nat → Nat → World → Prop}
    (hK : ∀ w', SlAt w' sz (some ⟨w.heap.size, 0, none⟩) n.toNat c.toNat (zeroL zc n.toNat) [w.heap.size] → Upd [] w w' → K (some ⟨w.heap.size, 0, none⟩) n.toNat c.toNat w') :
    MkSl P S (.int .i64 n) (.int .i64 c) w K := by
  obtain ⟨n, rfl⟩ := Int.eq_ofNat_of_zero_le h0
  obtain ⟨c, rfl⟩ := Int.eq_ofNat_of_zero_le (show 0 ≤ c by omega)
  simp only [Int.toNat_natCast] at hb hK
  obtain ⟨i, hi, hsz, hby, z, hz, hzc⟩ := hE.info
  have hszp := hE.pos
  have hbp := hE.bpos
  have hzv : ∀ w, (zeroValue E).run P w = .ok z w := fun w => by simp [zeroValue, typeInfo, hi, hz]
  have hc46 : c ≤ 2 ^ 46 := by
    have : c * 1 ≤ c * by_ := Nat.mul_le_mul_left _ hbp
    omega
  have wr : ∀ k : Nat, k ≤ 2 ^ 46 → IntKind.i64.wrap (k : Int) = k := i64w
  have hmake : ¬ ((by_ : Int) * (c : Int) > 2 ^ 48) := by
    have : ((c * by_ : Nat) : Int) = (by_ : Int) * c := by rw [Nat.mul_comm]; simp
    omega
  have t1 : ¬ (281474976710656 < (by_ : Int) * (c : Int)) := by omega
  have t2 : ¬ ((c : Int) < (n : Int)) := by omega
  have t3 : ¬ ((c : Int) < 0) := by omega
  have t4 : ¬ ((n : Int) < 0) := by omega
  have t5 : ¬ (c < n) := by omega
  have harr : ((Array.range (c * sz)).map fun x => zc[x % zc.size]!) = Builtin.zeroCells zc c := by
    simp only [Builtin.zeroCells, hE.zsz]
  have hrun : (Instr.makeSlice S (.int .i64 (n : Int)) (.int .i64 (c : Int))).run P w = .ok (.slice (some ⟨w.heap.size, 0, none⟩) n c) { w with heap := w.heap.push (.cells (Builtin.zeroCells zc c) E) } := by
    by_cases h0 : c = 0
    · subst h0
      obtain rfl : n = 0 := by omega
      have e0 : IntKind.i64.wrap 0 = 0 := wr 0 (by omega)
      have r0 : ∀ f : Nat → Value, (Array.range 0).map f = #[] := fun f => Array.eq_empty_of_size_eq_zero (by simp)
      simp [Instr.makeSlice, run_underlyingD hE.und, asInt, asIntOf, typeInfo, hi, e0, newRow, Builtin.zeroCells, sizeOf, r0]
    · have h5 : c * sz ≠ 0 := Nat.mul_ne_zero h0 (by omega)
      simp [Instr.makeSlice, run_underlyingD hE.und, asInt, asIntOf, typeInfo, hi, hsz, hby, wr c hc46, wr n (by omega), t1, t2, t3, t4, t5, h5, hzv, hzc, newRow, sizeOf]
      rw [← harr]
  unfold MkSl Run
  rw [hrun]
  have hblk : Blk ({ w with heap := w.heap.push (.cells (Builtin.zeroCells zc c) E) } : World) w.heap.size (Builtin.zeroCells zc c) := by
    refine ⟨E, (0, 0), ?_, .inl (Nat.le_refl _)⟩
    show (w.heap.push _)[_]? = _
    simp
  have hle : n * sz ≤ c * sz := Nat.mul_le_mul_right _ (by omega)
  refine ⟨_, _, _, rfl, hK _ ⟨by rw [zeroL_length, hE.zsz], by omega, .inr ⟨_, _, _, rfl, rfl, hblk, by rw [size_zeroCells, hE.zsz]; omega, fun i hi => ?_⟩⟩ (push_upd w _)⟩
  have h6 : i < c * sz := by omega
  simp only [zeroL, Builtin.zeroCells, Nat.zero_add]
  rw [Array.getElem?_eq_getElem (by simp [hE.zsz, h6])]
  simp [hE.zsz, hi]

/-- One element's place, taken. -/
theorem elem_rule {w : World} {sz : Nat} {p : Option Addr} {n c : Nat} {cs : List Value} {F : List Nat} (h : SlAt w sz p n c cs F) {j : Int} (h0 : 0 ≤ j) (h1 : j < (n : Int)) (hsz : 0 < sz) {K : Addr → Prop}
    (hK : ∀ b off arr, p = some ⟨b, off, none⟩ → Blk w b arr → F = [b] → (∀ i, i < n * sz → w.cell? ⟨b, off + i, none⟩ = cs[i]?) → K ⟨b, off, none⟩) : 0 ≤ j ∧ j < (n : Int) ∧ NN p K := by
  refine ⟨h0, h1, ?_⟩
  rcases h.2.2 with ⟨rfl, rfl, rfl⟩ | ⟨b, off, arr, rfl, hF, hb, hs, hc⟩
  · have := h.2.1; omega
  · exact ⟨_, rfl, hK b off arr rfl hb hF fun i hi => by rw [hb.cell]; exact hc i hi⟩

/-- A store into an element's cell. -/
theorem St_elem {w : World} {sz : Nat} {p : Option Addr} {n c : Nat} {cs : List Value} {F : List Nat} (h : SlAt w sz p n c cs F) {b off k : Nat} (hp : p = some ⟨b, off, none⟩) (hk : k < n * sz) {v : Value} (hv : v.oneCell' = true)
    {K : World → Prop} (hK : ∀ w', SlAt w' sz p n c (cs.set k v) F → Upd F w w' → K w') : St w ⟨b, off + k, none⟩ v K := by
  rcases h.2.2 with ⟨rfl, _⟩ | ⟨b', off', arr, hp', hF, hb, hs, hc⟩
  · cases hp
  · have e := hp'.symm.trans hp
    simp only [Option.some.injEq, Addr.mk.injEq, and_true] at e
    obtain ⟨rfl, rfl⟩ := e
    have hle : n * sz ≤ c * sz := Nat.mul_le_mul_right _ h.2.1
    refine St_rule hb (by omega) hv fun w' hu hb' => hK w' ⟨by simpa using h.1, h.2.1, .inr ⟨b', off', _, hp', hF, hb', by simpa using hs, fun i hi => ?_⟩⟩ (by rw [hF]; exact hu)
    by_cases hik : i = k
    · subst hik
      have hlt : off' + i < arr.size := by omega
      rw [List.getElem?_set_self (by rw [h.1]; exact hk)]
      simp [hlt]
    · rw [List.getElem?_set_ne (Ne.symm hik), Array.getElem?_setIfInBounds_ne (by omega)]
      exact hc i hi

end Go.D
