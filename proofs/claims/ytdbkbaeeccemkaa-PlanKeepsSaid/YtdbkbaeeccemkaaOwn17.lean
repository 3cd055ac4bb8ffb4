/- Bytes: appended, and turned into strings. -/
import Derived.Test.YtdbkbaeeccemkaaOwn12
import Derived.Laws.IdiomStrings
import Derived.Laws.BytesArg
import Derived.Test.YtdbkbaeeccemkaaOwn6
import GoSem.ClaimJoined
namespace Go.D
open Go
set_option linter.unusedSimpArgs false
set_option linter.unusedVariables false
set_option maxRecDepth 8000

/-- The cells of bytes. -/
def bc (l : List UInt8) : List Value := l.map fun c => .int .u8 (c.toNat : Int)

theorem bc_len (l : List UInt8) : (bc l).length = l.length := by simp [bc]
theorem bc_one (l : List UInt8) : ∀ v ∈ bc l, v.oneCell' = true := by
  intro v hv; simp only [bc, List.mem_map] at hv; obtain ⟨c, _, rfl⟩ := hv; rfl
theorem bc_append (a b : List UInt8) : bc (a ++ b) = bc a ++ bc b := by simp [bc]

theorem firstCells_str {P : Program} (s : ByteArray) (w : World) : (Builtin.firstCells 1 s.size (.string s)).run P w = .ok (bc s.data.toList).toArray w := by
  have e : (s.extract 0 s.size).data = s.data := by
    rw [ByteArray.extract_zero_size]
  simp only [Builtin.firstCells]
  rw [e]
  have : (s.data.map fun b => Value.int .u8 b.toNat) = (bc s.data.toList).toArray := by
    apply Array.ext'
    simp [bc]
  rw [this]
  rfl

/-- A string is put behind bytes. -/
theorem AppS_gen {P : Program} {S T E ty : TypeId} {sz by_ : Nat} {zc : Array Value} (hE : ElemOf P S E sz by_ zc) (hTu : P.underlying T = some .string) {w : World} {p : Option Addr} {n c m : Nat} {xs ys : List Value} {F : List Nat} {s : ByteArray}
    (hS : SlAt w sz p n c xs F) (hsm : s.size = m) (hfc : ∀ w, (Builtin.firstCells sz m (.string s)).run P w = .ok ys.toArray w) (hT1 : ys.length = m * sz) (hone : ∀ v ∈ ys, v.oneCell' = true) (hb : (n + m) * by_ ≤ 2 ^ 46) {K : Option Addr → Nat → Nat → World → Prop}
    (hK : ∀ p' c' F' w', SlAt w' sz p' (n + m) c' (xs ++ ys) F' → Upd F w w' → Sub F' F w → K p' (n + m) c' w') :
    App P #[S, T] ty #[.slice p n c, .string s] w K := by
  obtain ⟨i, hi, hsz, hby, z, hz, hzc⟩ := hE.info
  have hbp := hE.bpos
  have hnm : n + m ≤ 2 ^ 46 := by
    have : (n + m) * 1 ≤ (n + m) * by_ := Nat.mul_le_mul_left _ hbp
    omega
  have hzer : ((match P.underlying S with | some d => pure d | none => stuck "no such type" : Sem TypeDesc)).run P w = .ok (.slice E) w := by rw [hE.und]; rfl
  unfold App Run
  by_cases hroom : n + m ≤ c
  · -- there is room
    have hw : ∃ p' w' F', (Builtin.append_ #[S, T] ty #[.slice p n c, .string s]).run P w = .ok (.slice p' (n + m) c) w' ∧ SlAt w' sz p' (n + m) c (xs ++ ys) F' ∧ Upd F w w' ∧ Sub F' F w := by
      rcases hS.2.2 with ⟨rfl, rfl, rfl⟩ | ⟨b, off, arr, rfl, rfl, hblk, hs, hc⟩
      · obtain rfl : n = 0 := by omega
        obtain rfl : m = 0 := by omega
        have hxs : xs = [] := by have := hS.1; simpa using this
        have hys : ys = [] := by have := hT1; simpa using this
        subst hxs; subst hys
        refine ⟨none, w, [], ?_, SlAt.nil w sz, Upd.refl _ _, Sub.refl _ _⟩
        have := hfc w
        simp [Builtin.append_, run_underlyingD hE.und, run_underlyingD hTu, sizeOf, typeInfo, hi, hsz, Builtin.lenOf, hsm, this]
      · have hy := hfc w
        have hmul : (n + m) * sz = n * sz + m * sz := Nat.add_mul ..
        have hle : (n + m) * sz ≤ c * sz := Nat.mul_le_mul_right _ hroom
        obtain ⟨w', arr', hr, hu, hb', hsz', h1, h2⟩ := run_storeRow (P := P) ys (off + n * sz) 0 w arr hblk (by rw [hT1]; omega) hone
        refine ⟨some ⟨b, off, none⟩, w', [b], ?_, ?_, hu, Sub.refl _ _⟩
        · simp [Builtin.append_, run_underlyingD hE.und, run_underlyingD hTu, sizeOf, typeInfo, hi, hsz, Builtin.lenOf, hsm, hroom, hy, addN, hr]
        · refine ⟨by rw [List.length_append, hS.1, hT1, hmul], hroom, .inr ⟨b, off, arr', rfl, rfl, hb', by omega, fun i hi => ?_⟩⟩
          rw [List.getElem?_append]
          by_cases hin : i < n * sz
          · rw [if_pos (by rw [hS.1]; exact hin), h2 (off + i) (.inl (by omega))]
            exact hc i hin
          · rw [if_neg (by rw [hS.1]; exact hin)]
            have := h1 (i - n * sz) (by rw [hT1]; omega)
            rw [← show off + n * sz + 0 + (i - n * sz) = off + i by omega, this, hS.1]
    obtain ⟨p', w', F', hrun, hsl, hu, hsub⟩ := hw
    rw [hrun]
    exact ⟨p', n + m, c, rfl, hK p' c F' w' hsl hu hsub⟩
  · -- a new array
    have hx := run_firstCells (P := P) hS
    have hy := hfc w
    have hbm := hE.bmax
    have hcap : ¬ Builtin.nextslicecap (n + m) c * by_ > 2 ^ 48 := by
      have h1 := nextslicecap_le (n + m) c (by omega)
      have h2 : Builtin.nextslicecap (n + m) c * by_ ≤ (2 * (n + m) + 192) * by_ := Nat.mul_le_mul_right _ h1
      have h3 : (2 * (n + m) + 192) * by_ = 2 * ((n + m) * by_) + 192 * by_ := by rw [Nat.add_mul, Nat.mul_assoc]
      have h4 : 192 * by_ ≤ 192 * 4096 := Nat.mul_le_mul_left _ hbm
      omega
    have hb0 : by_ ≠ 0 := by omega
    have hzv : ∀ w, (zeroValue E).run P w = .ok z w := fun w => by simp [zeroValue, typeInfo, hi, hz]
    have hforced : ∀ a b t, (Question.appendCap a b t).forced = false := fun _ _ _ => rfl
    -- how much there is room for then
    obtain ⟨N, hN⟩ : ∃ N, N = Question.cut (.appendCap (n + m) c E) (w.tape w.drawn (.appendCap (n + m) c E)) := ⟨_, rfl⟩
    have hNge : n + m ≤ N := by rw [hN]; simp only [Question.cut]; omega
    obtain ⟨arr, harr⟩ : ∃ arr : Array Value, arr = xs.toArray ++ (ys.toArray ++ Builtin.zeroCells z.cells (N - (n + m))) := ⟨_, rfl⟩
    have hu0 : Upd [] w w.drew := drw_upd w
    have hrun : (Builtin.append_ #[S, T] ty #[.slice p n c, .string s]).run P w = .ok (.slice (some ⟨w.heap.size, 0, none⟩) (n + m) N) { w.drew with heap := w.drew.heap.push (.cells arr E) } := by
      have hx1 := run_firstCells (P := P) (SlAt.drw hS)
      have hy1 := hfc w.drew
      have e1 : drw w = w.drew := rfl
      rw [e1] at hx1
      rw [harr, hN]
      simp [Builtin.append_, run_underlyingD hE.und, run_underlyingD hTu, sizeOf, typeInfo, hi, hsz, hby, Builtin.lenOf, hsm, hroom, hcap, hb0, hzv, hforced, hx1, hy1, newRow]
      rfl
    rw [hrun]
    have hblk : Blk ({ w.drew with heap := w.drew.heap.push (.cells arr E) } : World) w.heap.size arr := by
      refine ⟨E, (0, 0), ?_, .inl (Nat.le_refl _)⟩
      show (w.heap.push _)[_]? = _
      simp
    have hmul : (n + m) * sz = n * sz + m * sz := Nat.add_mul ..
    have hNmul : N * sz = (n + m) * sz + (N - (n + m)) * sz := by rw [← Nat.add_mul]; congr 1; omega
    have hasz : arr.size = N * sz := by
      rw [harr, hNmul]
      simp only [Array.size_append, List.size_toArray, size_zeroCells, hS.1, hT1, hzc, hE.zsz]
      omega
    refine ⟨_, _, _, rfl, hK _ N [w.heap.size] _ ?_ ((hu0.before (push_upd w.drew _)).mono (by simp)) (fun k hk => .inr (by simp at hk; omega))⟩
    refine ⟨by rw [List.length_append, hS.1, hT1, hmul], hNge, .inr ⟨w.heap.size, 0, arr, rfl, rfl, hblk, by omega, fun i hi => ?_⟩⟩
    have hxl := hS.1
    have hyl := hT1
    rw [Nat.zero_add, harr, List.getElem?_append, Array.getElem?_append]
    by_cases hin : i < n * sz
    · simp [hxl, hin]
    · have h2 : i - n * sz < m * sz := by omega
      simp [hxl, hin, Array.getElem?_append, hyl, h2]

/-- A row that is only read is put behind. -/
theorem AppR_gen {P : Program} {S T E ty : TypeId} {sz by_ : Nat} {zc : Array Value} (hE : ElemOf P S E sz by_ zc) (hTu : P.underlying T = some (.slice E)) {w : World} {p : Option Addr} {n c m : Nat} {xs ys : List Value} {F : List Nat} {q : Option Addr} {d : Nat}
    (hS : SlAt w sz p n c xs F) (hfc : ∀ w', w' = w ∨ w' = w.drew → (Builtin.firstCells sz m (.slice q m d)).run P w' = .ok ys.toArray w') (hT1 : ys.length = m * sz) (hone : ∀ v ∈ ys, v.oneCell' = true) (hb : (n + m) * by_ ≤ 2 ^ 46) {K : Option Addr → Nat → Nat → World → Prop}
    (hK : ∀ p' c' F' w', SlAt w' sz p' (n + m) c' (xs ++ ys) F' → Upd F w w' → Sub F' F w → K p' (n + m) c' w') :
    App P #[S, T] ty #[.slice p n c, .slice q m d] w K := by
  obtain ⟨i, hi, hsz, hby, z, hz, hzc⟩ := hE.info
  have hbp := hE.bpos
  have hnm : n + m ≤ 2 ^ 46 := by
    have : (n + m) * 1 ≤ (n + m) * by_ := Nat.mul_le_mul_left _ hbp
    omega
  have hzer : ((match P.underlying S with | some d => pure d | none => stuck "no such type" : Sem TypeDesc)).run P w = .ok (.slice E) w := by rw [hE.und]; rfl
  unfold App Run
  by_cases hroom : n + m ≤ c
  · -- there is room
    have hw : ∃ p' w' F', (Builtin.append_ #[S, T] ty #[.slice p n c, .slice q m d]).run P w = .ok (.slice p' (n + m) c) w' ∧ SlAt w' sz p' (n + m) c (xs ++ ys) F' ∧ Upd F w w' ∧ Sub F' F w := by
      rcases hS.2.2 with ⟨rfl, rfl, rfl⟩ | ⟨b, off, arr, rfl, rfl, hblk, hs, hc⟩
      · obtain rfl : n = 0 := by omega
        obtain rfl : m = 0 := by omega
        have hxs : xs = [] := by have := hS.1; simpa using this
        have hys : ys = [] := by have := hT1; simpa using this
        subst hxs; subst hys
        refine ⟨none, w, [], ?_, SlAt.nil w sz, Upd.refl _ _, Sub.refl _ _⟩
        have := hfc w (.inl rfl)
        simp [Builtin.append_, run_underlyingD hE.und, run_underlyingD hTu, sizeOf, typeInfo, hi, hsz, Builtin.lenOf,  this]
      · have hy := hfc w (.inl rfl)
        have hmul : (n + m) * sz = n * sz + m * sz := Nat.add_mul ..
        have hle : (n + m) * sz ≤ c * sz := Nat.mul_le_mul_right _ hroom
        obtain ⟨w', arr', hr, hu, hb', hsz', h1, h2⟩ := run_storeRow (P := P) ys (off + n * sz) 0 w arr hblk (by rw [hT1]; omega) hone
        refine ⟨some ⟨b, off, none⟩, w', [b], ?_, ?_, hu, Sub.refl _ _⟩
        · simp [Builtin.append_, run_underlyingD hE.und, run_underlyingD hTu, sizeOf, typeInfo, hi, hsz, Builtin.lenOf,  hroom, hy, addN, hr]
        · refine ⟨by rw [List.length_append, hS.1, hT1, hmul], hroom, .inr ⟨b, off, arr', rfl, rfl, hb', by omega, fun i hi => ?_⟩⟩
          rw [List.getElem?_append]
          by_cases hin : i < n * sz
          · rw [if_pos (by rw [hS.1]; exact hin), h2 (off + i) (.inl (by omega))]
            exact hc i hin
          · rw [if_neg (by rw [hS.1]; exact hin)]
            have := h1 (i - n * sz) (by rw [hT1]; omega)
            rw [← show off + n * sz + 0 + (i - n * sz) = off + i by omega, this, hS.1]
    obtain ⟨p', w', F', hrun, hsl, hu, hsub⟩ := hw
    rw [hrun]
    exact ⟨p', n + m, c, rfl, hK p' c F' w' hsl hu hsub⟩
  · -- a new array
    have hx := run_firstCells (P := P) hS
    have hy := hfc w (.inl rfl)
    have hbm := hE.bmax
    have hcap : ¬ Builtin.nextslicecap (n + m) c * by_ > 2 ^ 48 := by
      have h1 := nextslicecap_le (n + m) c (by omega)
      have h2 : Builtin.nextslicecap (n + m) c * by_ ≤ (2 * (n + m) + 192) * by_ := Nat.mul_le_mul_right _ h1
      have h3 : (2 * (n + m) + 192) * by_ = 2 * ((n + m) * by_) + 192 * by_ := by rw [Nat.add_mul, Nat.mul_assoc]
      have h4 : 192 * by_ ≤ 192 * 4096 := Nat.mul_le_mul_left _ hbm
      omega
    have hb0 : by_ ≠ 0 := by omega
    have hzv : ∀ w, (zeroValue E).run P w = .ok z w := fun w => by simp [zeroValue, typeInfo, hi, hz]
    have hforced : ∀ a b t, (Question.appendCap a b t).forced = false := fun _ _ _ => rfl
    -- how much there is room for then
    obtain ⟨N, hN⟩ : ∃ N, N = Question.cut (.appendCap (n + m) c E) (w.tape w.drawn (.appendCap (n + m) c E)) := ⟨_, rfl⟩
    have hNge : n + m ≤ N := by rw [hN]; simp only [Question.cut]; omega
    obtain ⟨arr, harr⟩ : ∃ arr : Array Value, arr = xs.toArray ++ (ys.toArray ++ Builtin.zeroCells z.cells (N - (n + m))) := ⟨_, rfl⟩
    have hu0 : Upd [] w w.drew := drw_upd w
    have hrun : (Builtin.append_ #[S, T] ty #[.slice p n c, .slice q m d]).run P w = .ok (.slice (some ⟨w.heap.size, 0, none⟩) (n + m) N) { w.drew with heap := w.drew.heap.push (.cells arr E) } := by
      have hx1 := run_firstCells (P := P) (SlAt.drw hS)
      have hy1 := hfc w.drew (.inr rfl)
      have e1 : drw w = w.drew := rfl
      rw [e1] at hx1
      rw [harr, hN]
      simp [Builtin.append_, run_underlyingD hE.und, run_underlyingD hTu, sizeOf, typeInfo, hi, hsz, hby, Builtin.lenOf,  hroom, hcap, hb0, hzv, hforced, hx1, hy1, newRow]
      rfl
    rw [hrun]
    have hblk : Blk ({ w.drew with heap := w.drew.heap.push (.cells arr E) } : World) w.heap.size arr := by
      refine ⟨E, (0, 0), ?_, .inl (Nat.le_refl _)⟩
      show (w.heap.push _)[_]? = _
      simp
    have hmul : (n + m) * sz = n * sz + m * sz := Nat.add_mul ..
    have hNmul : N * sz = (n + m) * sz + (N - (n + m)) * sz := by rw [← Nat.add_mul]; congr 1; omega
    have hasz : arr.size = N * sz := by
      rw [harr, hNmul]
      simp only [Array.size_append, List.size_toArray, size_zeroCells, hS.1, hT1, hzc, hE.zsz]
      omega
    refine ⟨_, _, _, rfl, hK _ N [w.heap.size] _ ?_ ((hu0.before (push_upd w.drew _)).mono (by simp)) (fun k hk => .inr (by simp at hk; omega))⟩
    refine ⟨by rw [List.length_append, hS.1, hT1, hmul], hNge, .inr ⟨w.heap.size, 0, arr, rfl, rfl, hblk, by omega, fun i hi => ?_⟩⟩
    have hxl := hS.1
    have hyl := hT1
    rw [Nat.zero_add, harr, List.getElem?_append, Array.getElem?_append]
    by_cases hin : i < n * sz
    · simp [hxl, hin]
    · have h2 : i - n * sz < m * sz := by omega
      simp [hxl, hin, Array.getElem?_append, hyl, h2]

theorem firstCells_rd {P : Program} {w : World} {sz : Nat} {q : Option Addr} {m d : Nat} {ys : List Value} (h : Rd w sz q m ys) : (Builtin.firstCells sz m (.slice q m d)).run P w = .ok ys.toArray w := by
  rcases q with _ | a
  · rcases h.2 with h0 | ⟨x, hx, _⟩
    · have hy : ys = [] := by have := h.1; rw [h0] at this; simpa using this
      subst hy
      simp [Builtin.firstCells]
    · cases hx
  · simp only [Builtin.firstCells]
    rw [← h.1]
    have := run_loadCellsFrom (P := P) (w := w) (a := a) ys.length 0 #[] ys rfl (fun j hj => by
      rcases h.2 with h0 | ⟨x, hx, hc⟩
      · have := h.1; rw [h0] at this; simp at this; subst this; simp at hj
      · cases hx
        have := hc j (by rw [← h.1]; exact hj)
        rw [Nat.zero_add, this]; simp [hj])
    simpa [loadCells] using this

theorem AppR_rule {P : Program} {S T E ty : TypeId} {sz by_ : Nat} {zc : Array Value} (hE : ElemOf P S E sz by_ zc) (hTu : P.underlying T = some (.slice E)) {w : World} {p q : Option Addr} {n c m d : Nat} {xs ys : List Value} {F : List Nat}
    (hS : SlAt w sz p n c xs F) (hT : Rd w sz q m ys) (hone : ∀ v ∈ ys, v.oneCell' = true) (hb : (n + m) * by_ ≤ 2 ^ 46) {K : Option Addr → Nat → Nat → World → Prop}
    (hK : ∀ p' c' F' w', SlAt w' sz p' (n + m) c' (xs ++ ys) F' → Upd F w w' → Sub F' F w → K p' (n + m) c' w') :
    App P #[S, T] ty #[.slice p n c, .slice q m d] w K :=
  AppR_gen hE hTu hS (fun w' h => by
    rcases h with rfl | rfl
    · exact firstCells_rd hT
    · exact firstCells_rd (hT.keep (drw_upd w))) hT.1 hone hb hK

theorem AppS_rule {P : Program} {S T E ty : TypeId} {by_ : Nat} {zc : Array Value} (hE : ElemOf P S E 1 by_ zc) (hTu : P.underlying T = some .string) {w : World} {p : Option Addr} {n c : Nat} {xs : List Value} {F : List Nat} {s : ByteArray}
    (hS : SlAt w 1 p n c xs F) (hb : (n + s.size) * by_ ≤ 2 ^ 46) {K : Option Addr → Nat → Nat → World → Prop}
    (hK : ∀ p' c' F' w', SlAt w' 1 p' (n + s.size) c' (xs ++ bc s.data.toList) F' → Upd F w w' → Sub F' F w → K p' (n + s.size) c' w') :
    App P #[S, T] ty #[.slice p n c, .string s] w K :=
  AppS_gen hE hTu hS rfl (firstCells_str s) (by rw [bc_len]; simp) (bc_one _) hb hK

/-- A string of bytes. -/
theorem Str_rule {P : Program} {src dst e : TypeId} (hs : P.underlying src = some (.slice e)) (he : P.underlying e = some (.int .u8)) (hd : P.underlying dst = some .string) {w : World} {p : Option Addr} {n c : Nat} {l : List UInt8} (h : Rd w 1 p n (bc l)) {K : Value → World → Prop}
    (hK : K (.string ⟨l.toArray⟩) w) : Run P (convert src dst (.slice p n c)) w K := by
  have hl : l.length = n := by have := h.1; rw [bc_len] at this; omega
  have hrun : (convert src dst (.slice p n c)).run P w = .ok (.string ⟨l.toArray⟩) w := by
    subst hl
    rcases p with _ | a
    · rcases h.2 with h0 | ⟨x, hx, _⟩
      · have : l = [] := List.length_eq_zero_iff.1 h0
        subst this
        exact run_convert_bytes_nil w src e hs he 0 c dst hd
      · cases hx
    · refine run_convert_bytes_back w src dst e a c l hs he hd fun j hj => ?_
      rcases h.2 with h0 | ⟨x, hx, hc⟩
      · omega
      · cases hx
        rw [hc j (by omega)]
        simp [bc, List.getElem?_eq_getElem hj]
  unfold Run
  rw [hrun]
  exact hK

end Go.D

/- Bytes that are appended, and the type of their row. -/
namespace Go.D
open Go
set_option linter.unusedSimpArgs false
set_option linter.unusedVariables false
set_option maxRecDepth 8000

/-- A row's elements are of a type. -/
def TyAt (w : World) (p : Option Addr) (E : TypeId) : Prop := ∀ x, p = some x → x.off = 0 ∧ ∃ arr fr, w.heap[x.block]? = some (.cells arr E fr)

theorem TyAt.upd {w w' : World} {p : Option Addr} {E : TypeId} {F : List Nat} (h : TyAt w p E) (u : Upd F w w') (hd : ∀ x, p = some x → x.block ∉ F) : TyAt w' p E := fun x hx => by
  obtain ⟨h0, arr, fr, hb⟩ := h x hx
  exact ⟨h0, arr, fr, by rw [u.blk _ (Array.getElem?_eq_some_iff.1 hb).1 (hd x hx)]; exact hb⟩

theorem setCell_ty {w : World} {b o : Nat} {v : Value} {E : TypeId} {k : Nat} (h : ∃ arr fr, w.heap[k]? = some (.cells arr E fr)) : ∃ arr fr, (w.setCell ⟨b, o, none⟩ v).heap[k]? = some (.cells arr E fr) := by
  obtain ⟨arr, fr, h⟩ := h
  by_cases hk : b = k
  · subst hk
    refine ⟨arr.setIfInBounds o v, fr, ?_⟩
    simp [World.setCell, Array.getElem?_modify, h]
  · exact ⟨arr, fr, by simp only [World.setCell, Array.getElem?_modify]; rw [if_neg hk]; exact h⟩

theorem run_storeRowT {P : Program} {b : Nat} : ∀ (vs : List Value) (off i : Nat) (w : World) (arr : Array Value), Blk w b arr → off + i + vs.length ≤ arr.size → (∀ v ∈ vs, v.oneCell' = true) →
    ∃ w' arr', (storeCells ⟨b, off, none⟩ vs i).run P w = .ok () w' ∧ Upd [b] w w' ∧ Blk w' b arr' ∧ arr'.size = arr.size ∧
      (∀ j, j < vs.length → arr'[off + i + j]? = vs[j]?) ∧ (∀ j, (j < off + i ∨ off + i + vs.length ≤ j) → arr'[j]? = arr[j]?) ∧
      ∀ (k : Nat) (E : TypeId), (∃ a fr, w.heap[k]? = some (.cells a E fr)) → ∃ a fr, w'.heap[k]? = some (.cells a E fr)
  | [], off, i, w, arr, hb, _, _ => ⟨w, arr, rfl, Upd.refl _ _, hb, rfl, fun j hj => absurd hj (by simp), fun j _ => rfl, fun _ _ h => h⟩
  | v :: vs, off, i, w, arr, hb, hs, hv => by
    simp only [List.length_cons] at hs
    have hlt : off + i < arr.size := by omega
    obtain ⟨w', arr', hr, hu, hb', hsz, h1, h2, h3⟩ := run_storeRowT (P := P) vs off (i + 1) _ _ (hb.set (off + i) v) (by simp; omega) (fun x hx => hv x (by simp [hx]))
    refine ⟨w', arr', ?_, (setCell_upd w b (off + i) v).both hu, hb', by simpa using hsz, fun j hj => ?_, fun j hj => ?_, fun k E h => h3 k E (setCell_ty h)⟩
    · simp [storeCells, run_store P w _ _ _ (hv v (by simp)), addN, hb.cell, hb.frozen hlt, hlt, hr]
    · cases j with
      | zero => rw [Nat.add_zero, h2 (off + i) (.inl (by omega))]; simp [hlt]
      | succ j =>
        have := h1 j (by simpa using hj)
        rw [show off + i + (j + 1) = off + (i + 1) + j by omega, this]
        simp
    · simp only [List.length_cons] at hj
      rw [h2 j (by omega), Array.getElem?_setIfInBounds_ne (by omega)]

/-- A string is put behind bytes. -/
theorem AppS_genT {P : Program} {S T E ty : TypeId} {sz by_ : Nat} {zc : Array Value} (hE : ElemOf P S E sz by_ zc) (hTu : P.underlying T = some .string) {w : World} {p : Option Addr} {n c m : Nat} {xs ys : List Value} {F : List Nat} {s : ByteArray}
    (hS : SlAt w sz p n c xs F) (hsm : s.size = m) (hfc : ∀ w, (Builtin.firstCells sz m (.string s)).run P w = .ok ys.toArray w) (hT1 : ys.length = m * sz) (hone : ∀ v ∈ ys, v.oneCell' = true) (hTy : TyAt w p E) (hb : (n + m) * by_ ≤ 2 ^ 46) {K : Option Addr → Nat → Nat → World → Prop}
    (hK : ∀ p' c' F' w', SlAt w' sz p' (n + m) c' (xs ++ ys) F' → Upd F w w' → Sub F' F w → TyAt w' p' E → K p' (n + m) c' w') :
    App P #[S, T] ty #[.slice p n c, .string s] w K := by
  obtain ⟨i, hi, hsz, hby, z, hz, hzc⟩ := hE.info
  have hbp := hE.bpos
  have hnm : n + m ≤ 2 ^ 46 := by
    have : (n + m) * 1 ≤ (n + m) * by_ := Nat.mul_le_mul_left _ hbp
    omega
  have hzer : ((match P.underlying S with | some d => pure d | none => stuck "no such type" : Sem TypeDesc)).run P w = .ok (.slice E) w := by rw [hE.und]; rfl
  unfold App Run
  by_cases hroom : n + m ≤ c
  · -- there is room
    have hw : ∃ p' w' F', (Builtin.append_ #[S, T] ty #[.slice p n c, .string s]).run P w = .ok (.slice p' (n + m) c) w' ∧ SlAt w' sz p' (n + m) c (xs ++ ys) F' ∧ Upd F w w' ∧ Sub F' F w ∧ TyAt w' p' E := by
      rcases hS.2.2 with ⟨rfl, rfl, rfl⟩ | ⟨b, off, arr, rfl, rfl, hblk, hs, hc⟩
      · obtain rfl : n = 0 := by omega
        obtain rfl : m = 0 := by omega
        have hxs : xs = [] := by have := hS.1; simpa using this
        have hys : ys = [] := by have := hT1; simpa using this
        subst hxs; subst hys
        refine ⟨none, w, [], ?_, SlAt.nil w sz, Upd.refl _ _, Sub.refl _ _, fun _ h => by cases h⟩
        have := hfc w
        simp [Builtin.append_, run_underlyingD hE.und, run_underlyingD hTu, sizeOf, typeInfo, hi, hsz, Builtin.lenOf, hsm, this]
      · have hy := hfc w
        have hmul : (n + m) * sz = n * sz + m * sz := Nat.add_mul ..
        have hle : (n + m) * sz ≤ c * sz := Nat.mul_le_mul_right _ hroom
        obtain ⟨w', arr', hr, hu, hb', hsz', h1, h2, h3⟩ := run_storeRowT (P := P) ys (off + n * sz) 0 w arr hblk (by rw [hT1]; omega) hone
        refine ⟨some ⟨b, off, none⟩, w', [b], ?_, ?_, hu, Sub.refl _ _, fun x hx => by cases hx; exact ⟨(hTy _ rfl).1, h3 _ _ (hTy _ rfl).2⟩⟩
        · simp [Builtin.append_, run_underlyingD hE.und, run_underlyingD hTu, sizeOf, typeInfo, hi, hsz, Builtin.lenOf, hsm, hroom, hy, addN, hr]
        · refine ⟨by rw [List.length_append, hS.1, hT1, hmul], hroom, .inr ⟨b, off, arr', rfl, rfl, hb', by omega, fun i hi => ?_⟩⟩
          rw [List.getElem?_append]
          by_cases hin : i < n * sz
          · rw [if_pos (by rw [hS.1]; exact hin), h2 (off + i) (.inl (by omega))]
            exact hc i hin
          · rw [if_neg (by rw [hS.1]; exact hin)]
            have := h1 (i - n * sz) (by rw [hT1]; omega)
            rw [← show off + n * sz + 0 + (i - n * sz) = off + i by omega, this, hS.1]
    obtain ⟨p', w', F', hrun, hsl, hu, hsub, hty⟩ := hw
    rw [hrun]
    exact ⟨p', n + m, c, rfl, hK p' c F' w' hsl hu hsub hty⟩
  · -- a new array
    have hx := run_firstCells (P := P) hS
    have hy := hfc w
    have hbm := hE.bmax
    have hcap : ¬ Builtin.nextslicecap (n + m) c * by_ > 2 ^ 48 := by
      have h1 := nextslicecap_le (n + m) c (by omega)
      have h2 : Builtin.nextslicecap (n + m) c * by_ ≤ (2 * (n + m) + 192) * by_ := Nat.mul_le_mul_right _ h1
      have h3 : (2 * (n + m) + 192) * by_ = 2 * ((n + m) * by_) + 192 * by_ := by rw [Nat.add_mul, Nat.mul_assoc]
      have h4 : 192 * by_ ≤ 192 * 4096 := Nat.mul_le_mul_left _ hbm
      omega
    have hb0 : by_ ≠ 0 := by omega
    have hzv : ∀ w, (zeroValue E).run P w = .ok z w := fun w => by simp [zeroValue, typeInfo, hi, hz]
    have hforced : ∀ a b t, (Question.appendCap a b t).forced = false := fun _ _ _ => rfl
    -- how much there is room for then
    obtain ⟨N, hN⟩ : ∃ N, N = Question.cut (.appendCap (n + m) c E) (w.tape w.drawn (.appendCap (n + m) c E)) := ⟨_, rfl⟩
    have hNge : n + m ≤ N := by rw [hN]; simp only [Question.cut]; omega
    obtain ⟨arr, harr⟩ : ∃ arr : Array Value, arr = xs.toArray ++ (ys.toArray ++ Builtin.zeroCells z.cells (N - (n + m))) := ⟨_, rfl⟩
    have hu0 : Upd [] w w.drew := drw_upd w
    have hrun : (Builtin.append_ #[S, T] ty #[.slice p n c, .string s]).run P w = .ok (.slice (some ⟨w.heap.size, 0, none⟩) (n + m) N) { w.drew with heap := w.drew.heap.push (.cells arr E) } := by
      have hx1 := run_firstCells (P := P) (SlAt.drw hS)
      have hy1 := hfc w.drew
      have e1 : drw w = w.drew := rfl
      rw [e1] at hx1
      rw [harr, hN]
      simp [Builtin.append_, run_underlyingD hE.und, run_underlyingD hTu, sizeOf, typeInfo, hi, hsz, hby, Builtin.lenOf, hsm, hroom, hcap, hb0, hzv, hforced, hx1, hy1, newRow]
      rfl
    rw [hrun]
    have hblk : Blk ({ w.drew with heap := w.drew.heap.push (.cells arr E) } : World) w.heap.size arr := by
      refine ⟨E, (0, 0), ?_, .inl (Nat.le_refl _)⟩
      show (w.heap.push _)[_]? = _
      simp
    have hmul : (n + m) * sz = n * sz + m * sz := Nat.add_mul ..
    have hNmul : N * sz = (n + m) * sz + (N - (n + m)) * sz := by rw [← Nat.add_mul]; congr 1; omega
    have hasz : arr.size = N * sz := by
      rw [harr, hNmul]
      simp only [Array.size_append, List.size_toArray, size_zeroCells, hS.1, hT1, hzc, hE.zsz]
      omega
    refine ⟨_, _, _, rfl, hK _ N [w.heap.size] _ ?_ ((hu0.before (push_upd w.drew _)).mono (by simp)) (fun k hk => .inr (by simp at hk; omega)) (fun x hx => by cases hx; exact ⟨rfl, arr, (0, 0), by show (w.heap.push _)[_]? = _; simp⟩)⟩
    refine ⟨by rw [List.length_append, hS.1, hT1, hmul], hNge, .inr ⟨w.heap.size, 0, arr, rfl, rfl, hblk, by omega, fun i hi => ?_⟩⟩
    have hxl := hS.1
    have hyl := hT1
    rw [Nat.zero_add, harr, List.getElem?_append, Array.getElem?_append]
    by_cases hin : i < n * sz
    · simp [hxl, hin]
    · have h2 : i - n * sz < m * sz := by omega
      simp [hxl, hin, Array.getElem?_append, hyl, h2]

/-- A row that is only read is put behind. -/
theorem AppR_genT {P : Program} {S T E ty : TypeId} {sz by_ : Nat} {zc : Array Value} (hE : ElemOf P S E sz by_ zc) (hTu : P.underlying T = some (.slice E)) {w : World} {p : Option Addr} {n c m : Nat} {xs ys : List Value} {F : List Nat} {q : Option Addr} {d : Nat}
    (hS : SlAt w sz p n c xs F) (hfc : ∀ w', w' = w ∨ w' = w.drew → (Builtin.firstCells sz m (.slice q m d)).run P w' = .ok ys.toArray w') (hT1 : ys.length = m * sz) (hone : ∀ v ∈ ys, v.oneCell' = true) (hTy : TyAt w p E) (hb : (n + m) * by_ ≤ 2 ^ 46) {K : Option Addr → Nat → Nat → World → Prop}
    (hK : ∀ p' c' F' w', SlAt w' sz p' (n + m) c' (xs ++ ys) F' → Upd F w w' → Sub F' F w → TyAt w' p' E → K p' (n + m) c' w') :
    App P #[S, T] ty #[.slice p n c, .slice q m d] w K := by
  obtain ⟨i, hi, hsz, hby, z, hz, hzc⟩ := hE.info
  have hbp := hE.bpos
  have hnm : n + m ≤ 2 ^ 46 := by
    have : (n + m) * 1 ≤ (n + m) * by_ := Nat.mul_le_mul_left _ hbp
    omega
  have hzer : ((match P.underlying S with | some d => pure d | none => stuck "no such type" : Sem TypeDesc)).run P w = .ok (.slice E) w := by rw [hE.und]; rfl
  unfold App Run
  by_cases hroom : n + m ≤ c
  · -- there is room
    have hw : ∃ p' w' F', (Builtin.append_ #[S, T] ty #[.slice p n c, .slice q m d]).run P w = .ok (.slice p' (n + m) c) w' ∧ SlAt w' sz p' (n + m) c (xs ++ ys) F' ∧ Upd F w w' ∧ Sub F' F w ∧ TyAt w' p' E := by
      rcases hS.2.2 with ⟨rfl, rfl, rfl⟩ | ⟨b, off, arr, rfl, rfl, hblk, hs, hc⟩
      · obtain rfl : n = 0 := by omega
        obtain rfl : m = 0 := by omega
        have hxs : xs = [] := by have := hS.1; simpa using this
        have hys : ys = [] := by have := hT1; simpa using this
        subst hxs; subst hys
        refine ⟨none, w, [], ?_, SlAt.nil w sz, Upd.refl _ _, Sub.refl _ _, fun _ h => by cases h⟩
        have := hfc w (.inl rfl)
        simp [Builtin.append_, run_underlyingD hE.und, run_underlyingD hTu, sizeOf, typeInfo, hi, hsz, Builtin.lenOf,  this]
      · have hy := hfc w (.inl rfl)
        have hmul : (n + m) * sz = n * sz + m * sz := Nat.add_mul ..
        have hle : (n + m) * sz ≤ c * sz := Nat.mul_le_mul_right _ hroom
        obtain ⟨w', arr', hr, hu, hb', hsz', h1, h2, h3⟩ := run_storeRowT (P := P) ys (off + n * sz) 0 w arr hblk (by rw [hT1]; omega) hone
        refine ⟨some ⟨b, off, none⟩, w', [b], ?_, ?_, hu, Sub.refl _ _, fun x hx => by cases hx; exact ⟨(hTy _ rfl).1, h3 _ _ (hTy _ rfl).2⟩⟩
        · simp [Builtin.append_, run_underlyingD hE.und, run_underlyingD hTu, sizeOf, typeInfo, hi, hsz, Builtin.lenOf,  hroom, hy, addN, hr]
        · refine ⟨by rw [List.length_append, hS.1, hT1, hmul], hroom, .inr ⟨b, off, arr', rfl, rfl, hb', by omega, fun i hi => ?_⟩⟩
          rw [List.getElem?_append]
          by_cases hin : i < n * sz
          · rw [if_pos (by rw [hS.1]; exact hin), h2 (off + i) (.inl (by omega))]
            exact hc i hin
          · rw [if_neg (by rw [hS.1]; exact hin)]
            have := h1 (i - n * sz) (by rw [hT1]; omega)
            rw [← show off + n * sz + 0 + (i - n * sz) = off + i by omega, this, hS.1]
    obtain ⟨p', w', F', hrun, hsl, hu, hsub, hty⟩ := hw
    rw [hrun]
    exact ⟨p', n + m, c, rfl, hK p' c F' w' hsl hu hsub hty⟩
  · -- a new array
    have hx := run_firstCells (P := P) hS
    have hy := hfc w (.inl rfl)
    have hbm := hE.bmax
    have hcap : ¬ Builtin.nextslicecap (n + m) c * by_ > 2 ^ 48 := by
      have h1 := nextslicecap_le (n + m) c (by omega)
      have h2 : Builtin.nextslicecap (n + m) c * by_ ≤ (2 * (n + m) + 192) * by_ := Nat.mul_le_mul_right _ h1
      have h3 : (2 * (n + m) + 192) * by_ = 2 * ((n + m) * by_) + 192 * by_ := by rw [Nat.add_mul, Nat.mul_assoc]
      have h4 : 192 * by_ ≤ 192 * 4096 := Nat.mul_le_mul_left _ hbm
      omega
    have hb0 : by_ ≠ 0 := by omega
    have hzv : ∀ w, (zeroValue E).run P w = .ok z w := fun w => by simp [zeroValue, typeInfo, hi, hz]
    have hforced : ∀ a b t, (Question.appendCap a b t).forced = false := fun _ _ _ => rfl
    -- how much there is room for then
    obtain ⟨N, hN⟩ : ∃ N, N = Question.cut (.appendCap (n + m) c E) (w.tape w.drawn (.appendCap (n + m) c E)) := ⟨_, rfl⟩
    have hNge : n + m ≤ N := by rw [hN]; simp only [Question.cut]; omega
    obtain ⟨arr, harr⟩ : ∃ arr : Array Value, arr = xs.toArray ++ (ys.toArray ++ Builtin.zeroCells z.cells (N - (n + m))) := ⟨_, rfl⟩
    have hu0 : Upd [] w w.drew := drw_upd w
    have hrun : (Builtin.append_ #[S, T] ty #[.slice p n c, .slice q m d]).run P w = .ok (.slice (some ⟨w.heap.size, 0, none⟩) (n + m) N) { w.drew with heap := w.drew.heap.push (.cells arr E) } := by
      have hx1 := run_firstCells (P := P) (SlAt.drw hS)
      have hy1 := hfc w.drew (.inr rfl)
      have e1 : drw w = w.drew := rfl
      rw [e1] at hx1
      rw [harr, hN]
      simp [Builtin.append_, run_underlyingD hE.und, run_underlyingD hTu, sizeOf, typeInfo, hi, hsz, hby, Builtin.lenOf,  hroom, hcap, hb0, hzv, hforced, hx1, hy1, newRow]
      rfl
    rw [hrun]
    have hblk : Blk ({ w.drew with heap := w.drew.heap.push (.cells arr E) } : World) w.heap.size arr := by
      refine ⟨E, (0, 0), ?_, .inl (Nat.le_refl _)⟩
      show (w.heap.push _)[_]? = _
      simp
    have hmul : (n + m) * sz = n * sz + m * sz := Nat.add_mul ..
    have hNmul : N * sz = (n + m) * sz + (N - (n + m)) * sz := by rw [← Nat.add_mul]; congr 1; omega
    have hasz : arr.size = N * sz := by
      rw [harr, hNmul]
      simp only [Array.size_append, List.size_toArray, size_zeroCells, hS.1, hT1, hzc, hE.zsz]
      omega
    refine ⟨_, _, _, rfl, hK _ N [w.heap.size] _ ?_ ((hu0.before (push_upd w.drew _)).mono (by simp)) (fun k hk => .inr (by simp at hk; omega)) (fun x hx => by cases hx; exact ⟨rfl, arr, (0, 0), by show (w.heap.push _)[_]? = _; simp⟩)⟩
    refine ⟨by rw [List.length_append, hS.1, hT1, hmul], hNge, .inr ⟨w.heap.size, 0, arr, rfl, rfl, hblk, by omega, fun i hi => ?_⟩⟩
    have hxl := hS.1
    have hyl := hT1
    rw [Nat.zero_add, harr, List.getElem?_append, Array.getElem?_append]
    by_cases hin : i < n * sz
    · simp [hxl, hin]
    · have h2 : i - n * sz < m * sz := by omega
      simp [hxl, hin, Array.getElem?_append, hyl, h2]

/-- A string put behind bytes of a row of this type. -/
theorem AppS_ty {P : Program} {S T E ty : TypeId} {by_ : Nat} {zc : Array Value} (hE : ElemOf P S E 1 by_ zc) (hTu : P.underlying T = some .string) {w : World} {p : Option Addr} {n c : Nat} {xs : List Value} {F : List Nat} {s : ByteArray}
    (hS : SlAt w 1 p n c xs F) (hTy : TyAt w p E) (hb : (n + s.size) * by_ ≤ 2 ^ 46) {K : Option Addr → Nat → Nat → World → Prop}
    (hK : ∀ p' c' F' w', SlAt w' 1 p' (n + s.size) c' (xs ++ bc s.data.toList) F' → Upd F w w' → Sub F' F w → TyAt w' p' E → K p' (n + s.size) c' w') :
    App P #[S, T] ty #[.slice p n c, .string s] w K :=
  AppS_genT hE hTu hS rfl (firstCells_str s) (by rw [bc_len]; simp) (bc_one _) hTy hb hK

theorem AppR_ty {P : Program} {S T E ty : TypeId} {sz by_ : Nat} {zc : Array Value} (hE : ElemOf P S E sz by_ zc) (hTu : P.underlying T = some (.slice E)) {w : World} {p q : Option Addr} {n c m d : Nat} {xs ys : List Value} {F : List Nat}
    (hS : SlAt w sz p n c xs F) (hTy : TyAt w p E) (hT : Rd w sz q m ys) (hone : ∀ v ∈ ys, v.oneCell' = true) (hb : (n + m) * by_ ≤ 2 ^ 46) {K : Option Addr → Nat → Nat → World → Prop}
    (hK : ∀ p' c' F' w', SlAt w' sz p' (n + m) c' (xs ++ ys) F' → Upd F w w' → Sub F' F w → TyAt w' p' E → K p' (n + m) c' w') :
    App P #[S, T] ty #[.slice p n c, .slice q m d] w K :=
  AppR_genT hE hTu hS (fun w' h => by
    rcases h with rfl | rfl
    · exact firstCells_rd hT
    · exact firstCells_rd (hT.keep (drw_upd w))) hT.1 hone hTy hb hK

end Go.D

/- Bytes of a string. -/
namespace Go.D
open Go
set_option linter.unusedVariables false

/-- `[]byte(s)`: a new row. -/
theorem Byt_rule {P : Program} {src dst e : TypeId} (hs : P.underlying src = some .string) (hd : P.underlying dst = some (.slice e)) (he : P.underlying e = some (.int .u8)) {w : World} {s : ByteArray} {K : Value → World → Prop}
    (hK : ∀ c w', Upd [] w w' → Rd w' 1 (some ⟨w.heap.size, 0, none⟩) s.size (bc s.data.toList) → w.heap.size < w'.heap.size → K (.slice (some ⟨w.heap.size, 0, none⟩) s.size c) w') : Run P (convert src dst (.string s)) w K := by
  unfold Run
  rw [run_bytes_of_string w src dst e s hs hd he]
  refine hK _ _ ?_ ?_ (by show w.heap.size < ((drw w).heap.push _).size; simp)
  · exact (drw_upd w).after (push_upd (drw w) _)
  · refine ⟨by rw [bc_len]; simp, .inr ⟨_, rfl, fun i hi => ?_⟩⟩
    have hi' : i < s.size := by simpa using hi
    have hne : ∀ (o : Obj), ((drw w).heap.push o)[w.heap.size]? = some o := fun o => by
      show (w.heap.push o)[w.heap.size]? = _
      simp
    rw [addN]
    show (match ((drw w).heap.push _)[w.heap.size]? with | some (.cells c _ _) => c[0 + i]? | _ => none) = _
    rw [hne]
    simp [bytesRow, bc, Array.getElem?_append]
    intro h
    omega

end Go.D

/- Bounds of the strings that come in: out of what the statement's reading weighs. -/
namespace Go.D
set_option linter.unusedSimpArgs false
set_option linter.unusedVariables false

/-- All strings within are of at most so many bytes. -/
def SeesB (B : Nat) (P : Program) (w : World) : Nat → TypeId → List Value → Prop
  | 0, _, _ => False
  | f + 1, t, cs =>
    match P.underlying t with
    | some .string => ∃ s : ByteArray, cs = [.string s] ∧ s.size ≤ B
    | some (.slice e) => ∃ p n c cs', cs = [.slice p n c] ∧ Rd w (P.cellsOf e) p n cs' ∧ ∀ i, i < n → SeesB B P w f e ((cs'.drop (i * P.cellsOf e)).take (P.cellsOf e))
    | some (.struct fs) => ∀ (i : Nat) (x : Field), fs[i]? = some x → SeesB B P w f x.type ((cs.drop x.offset).take (P.cellsOf x.type))
    | _ => True

/-- A bound on data that goes down to the parts. -/
structure Bnd {H : Type} (P : Program) (B : Nat) (Q : TypeId → DataW H → Prop) : Prop where
  str : ∀ t bytes, P.underlying t = some .string → Q t (.lit (.string bytes)) → bytes.length ≤ B
  slc : ∀ t e es sp, P.underlying t = some (.slice e) → Q t (.slice es sp) → ∀ d ∈ es, Q e d
  stc : ∀ t fs ps, P.underlying t = some (.struct fs) → Q t (.agg ps) → ∀ (i : Nat) (f : Field) d, fs[i]? = some f → ps[i]? = some d → Q f.type d

theorem seesB_of_trod {H : Type} {enc : TypeId × Value → H} {P : Program} {w : World} {base : Nat} {spare : Nat → Bool} {held : Bool} {B : Nat} {Q : TypeId → DataW H → Prop} (hQ : Bnd P B Q) :
    ∀ (f : Nat) (t : TypeId) (cs : List Value) (x : DataW H × List MemPlace), DataW.trod enc P w base spare held f t cs = some x → Q t x.1 → SeesB B P w f t cs
  | 0, _, _, _, h, _ => by simp [DataW.trod] at h
  | f + 1, t, cs, x, h, hq => by
    unfold SeesB
    split
    · rename_i hu
      obtain ⟨s, rfl, rfl, hw⟩ := DataW.trod_string hu h
      exact ⟨s, rfl, by simpa using hQ.str _ _ hu hq⟩
    · rename_i e hu
      rcases DataW.trod_slice hu h with ⟨rfl, _⟩ | ⟨a, len, cap, elems, rest, n, hn, rfl, rfl, hb, hl, hm, hlen, hel, _⟩
      · exact ⟨none, 0, 0, [], rfl, ⟨by simp, .inl rfl⟩, fun i hi => absurd hi (by omega)⟩
      · obtain rfl : f = n := by omega
        have hqe := hQ.slc _ _ _ _ hu hq
        have hsee : ∀ i, i < len → ∃ ci, w.cells? base (a.add (i * P.cellsOf e)) (P.cellsOf e) = some ci ∧ ∃ y, DataW.trod enc P w base spare held f e ci = some y ∧ Q e y.1 := by
          intro i hi
          have h1 := hel i hi
          rw [List.getElem?_eq_getElem (by omega)] at h1
          obtain ⟨ci, h2, h3⟩ := Option.bind_eq_some_iff.1 h1
          exact ⟨ci, h2, _, h3, hqe _ (List.mem_map.2 ⟨_, List.getElem_mem _, rfl⟩)⟩
        have hcell : ∀ k, k < len * P.cellsOf e → ∃ v, w.cell? (a.add k) = some v := by
          intro k hk
          have hpos : 0 < P.cellsOf e := by
            rcases Nat.eq_zero_or_pos (P.cellsOf e) with h0 | h0
            · rw [h0] at hk; simp at hk
            · exact h0
          have hi : k / P.cellsOf e < len := Nat.div_lt_of_lt_mul (by rw [Nat.mul_comm]; exact hk)
          obtain ⟨ci, h2, _⟩ := hsee _ hi
          obtain ⟨_, h4, h5⟩ := World.cells?_some h2
          have hj := Nat.mod_lt k hpos
          have h6 := h5 (k % P.cellsOf e) hj
          rw [addA, show k / P.cellsOf e * P.cellsOf e + k % P.cellsOf e = k by rw [Nat.mul_comm]; exact Nat.div_add_mod k _] at h6
          exact ⟨_, h6.trans (List.getElem?_eq_getElem (by omega))⟩
        refine ⟨some a, len, cap, (List.range (len * P.cellsOf e)).map fun k => (w.cell? (a.add k)).getD default, rfl, ⟨by simp, .inr ⟨a, rfl, fun k hk => ?_⟩⟩, fun i hi => ?_⟩
        · obtain ⟨v, hv⟩ := hcell k hk
          simp [hk, hv]
        · obtain ⟨ci, h2, y, h3, hy⟩ := hsee i hi
          obtain ⟨_, h4, h5⟩ := World.cells?_some h2
          have hle : (i + 1) * P.cellsOf e ≤ len * P.cellsOf e := Nat.mul_le_mul_right _ hi
          rw [Nat.add_mul, Nat.one_mul] at hle
          have e1 : (((List.range (len * P.cellsOf e)).map fun k => (w.cell? (a.add k)).getD default).drop (i * P.cellsOf e)).take (P.cellsOf e) = ci := by
            apply List.ext_getElem?
            intro j
            rw [List.getElem?_take]
            by_cases hj : j < P.cellsOf e
            · rw [if_pos hj, List.getElem?_drop, ← h5 j hj, addA]
              obtain ⟨v, hv⟩ := hcell (i * P.cellsOf e + j) (by omega)
              simp [hv, show i * P.cellsOf e + j < len * P.cellsOf e by omega]
            · rw [if_neg hj, List.getElem?_eq_none (by omega)]
          rw [e1]
          exact seesB_of_trod hQ f _ _ _ h3 hy
    · rename_i fs hu
      obtain ⟨xs, n, hn, rfl, hl, hxl, hf⟩ := DataW.trod_struct hu h
      obtain rfl : f = n := by omega
      intro i fd hi
      have h1 := hf i fd hi
      have hlt := (Array.getElem?_eq_some_iff.1 hi).1
      rw [List.getElem?_eq_getElem (by omega)] at h1
      exact seesB_of_trod hQ f _ _ _ h1 (hQ.stc _ _ _ hu hq i fd _ hi (by simp [List.getElem?_eq_getElem (show i < xs.length by omega)]))
    · trivial

theorem seesB_of_Trod {H : Type} {enc : TypeId × Value → H} {P : Program} {w : World} {base : Nat} {spare : Nat → Bool} {held : Bool} {t : TypeId} {v : Value} {d : DataW H} {ps : List MemPlace} {B : Nat} {Q : TypeId → DataW H → Prop} (hQ : Bnd P B Q)
    (h : DataW.Trod enc P w base spare held t v d ps) (hq : Q t d) : ∃ f, SeesB B P w f t v.cells.toList := by
  obtain ⟨f, h⟩ := h
  exact ⟨f, seesB_of_trod hQ f _ _ _ h hq⟩

/-! ## The form's own weights -/

def WQ {H : Type} (P : Program) (B : Nat) (t : TypeId) (d : DataW H) : Prop := ∀ n ∈ d.weights P t, n ≤ B

theorem wAll {H : Type} {P : Program} {e : TypeId} : ∀ {es : List (DataW H)} {d : DataW H} {n : Nat}, d ∈ es → n ∈ d.weights P e → n ∈ DataW.weightsAll P e es
  | x :: r, d, n, hd, hn => by
    unfold DataW.weightsAll
    rcases List.mem_cons.1 hd with rfl | hd
    · exact List.mem_append_left _ hn
    · exact List.mem_append_right _ (wAll hd hn)

theorem wEach {H : Type} {P : Program} : ∀ {ts : List TypeId} {es : List (DataW H)} {i n : Nat} {t : TypeId} {d : DataW H}, ts[i]? = some t → es[i]? = some d → n ∈ d.weights P t → n ∈ DataW.weightsEach P ts es
  | [], _, _, _, _, _, ht, _, _ => by simp at ht
  | _ :: _, [], _, _, _, _, _, hd, _ => by simp at hd
  | t' :: ts, d' :: es, i, n, t, d, ht, hd, hn => by
    unfold DataW.weightsEach
    cases i with
    | zero =>
      simp at ht hd
      subst ht hd
      exact List.mem_append_left _ hn
    | succ i =>
      simp at ht hd
      exact List.mem_append_right _ (wEach ht hd hn)

theorem bnd_weights {H : Type} (P : Program) (B : Nat) : Bnd (H := H) P B (WQ P B) where
  str t bytes ht h := h _ (by unfold DataW.weights; simp)
  slc t e es sp ht h d hd n hn := h n (by
    unfold DataW.weights
    rw [ht]
    exact List.mem_cons_of_mem _ (List.mem_append_left _ (wAll hd hn)))
  stc t fs ps ht h i f d hi hd n hn := h n (by
    unfold DataW.weights
    rw [ht]
    refine wEach (i := i) (t := f.type) ?_ hd hn
    rw [List.getElem?_map]
    have : fs.toList[i]? = some f := by simpa using hi
    rw [this]; rfl)

theorem wq_of_each {H : Type} {P : Program} {ts : List TypeId} {ds : List (DataW H)} {B : Nat} (h : (DataW.weightsEach P ts ds).all (· ≤ B) = true) {i : Nat} {t : TypeId} {d : DataW H} (ht : ts[i]? = some t) (hd : ds[i]? = some d) : WQ P B t d := fun n hn => by
  have := List.all_eq_true.1 h n (wEach ht hd hn)
  simpa using this

/-! ## Taken apart -/

theorem seeB_string {B : Nat} {P : Program} {w : World} {f : Nat} {t : TypeId} {s : ByteArray} (ht : P.underlying t = some .string) (h : SeesB B P w f t [.string s]) : s.size ≤ B := by
  cases f with
  | zero => exact h.elim
  | succ f =>
    unfold SeesB at h; rw [ht] at h
    obtain ⟨s', e, h⟩ := h
    simp at e; subst e; exact h

theorem seeB_field {B : Nat} {P : Program} {w : World} {f : Nat} {t : TypeId} {fs : Array Field} {cs : List Value} (ht : P.underlying t = some (.struct fs)) (h : SeesB B P w f t cs) (i : Nat) {x : Field} (hi : fs[i]? = some x) {sz : Nat} (hsz : P.cellsOf x.type = sz) : ∃ g, SeesB B P w g x.type ((cs.drop x.offset).take sz) := by
  subst hsz
  cases f with
  | zero => exact h.elim
  | succ f =>
    unfold SeesB at h; rw [ht] at h
    exact ⟨f, h i x hi⟩

theorem Rd.one {w : World} {sz : Nat} {p : Option Addr} {n : Nat} {cs ds : List Value} (h : Rd w sz p n cs) (k : Rd w sz p n ds) : cs = ds := by
  apply List.ext_getElem?
  intro i
  by_cases hi : i < n * sz
  · obtain ⟨x, hx, hc⟩ := h.at hi
    obtain ⟨y, hy, hd⟩ := k.at hi
    rw [hx] at hy; cases hy
    rw [← hc, ← hd]
  · rw [List.getElem?_eq_none (by have := h.1; omega), List.getElem?_eq_none (by have := k.1; omega)]

theorem seeB_elem {B : Nat} {P : Program} {w : World} {f : Nat} {t e : TypeId} {sz : Nat} {p : Option Addr} {n c : Nat} {cs : List Value} (ht : P.underlying t = some (.slice e)) (hsz : P.cellsOf e = sz) (h : SeesB B P w f t [.slice p n c]) (hr : Rd w sz p n cs) :
    ∀ i, i < n → ∃ g, SeesB B P w g e ((cs.drop (i * sz)).take sz) := by
  subst hsz
  cases f with
  | zero => exact h.elim
  | succ f =>
    unfold SeesB at h; rw [ht] at h
    obtain ⟨p', n', c', cs', e1, hr', h⟩ := h
    simp at e1
    obtain ⟨rfl, rfl, rfl⟩ := e1
    obtain rfl := hr.one hr'
    exact fun i hi => ⟨f, h i hi⟩

end Go.D

/- Maps whose keys are pairs of numbers. -/
set_option linter.unusedSimpArgs false
set_option linter.unusedVariables false
namespace Go.D
open Go

/-- Pairs of numbers as keys. -/
theorem keyPair {P : Program} {kt et : TypeId} {k : IntKind} {i : TypeInfo} (ht : P.underlying kt = some (.array 2 et)) (he : P.underlying et = some (.int k)) (hi : P.info? et = some i) (hc : P.cellsOf et = 1) : KeyOf P kt (fun x : Int × Int => .agg #[.int k x.1, .int k x.2]) := by
  have hpl : P.plainKey et = true := by unfold Program.plainKey; rw [he]
  have heq : ∀ (w : World) (a b : Int × Int), (Op.equal kt (.agg #[.int k a.1, .int k a.2]) (.agg #[.int k b.1, .int k b.2])).run P w = .ok (decide (a = b)) w := by
    intro w a b
    unfold Op.equal Op.maxDepth
    rw [run_equalIn_array w 9999 _ _ ht hi, hc]
    have p0 : ∀ (x y : Value), (part et #[x, y] 0).run P w = .ok x w := fun x y => run_part_plain w hpl (by simp)
    have p1 : ∀ (x y : Value), (part et #[x, y] 1).run P w = .ok y w := fun x y => run_part_plain w hpl (by simp)
    have r2 : List.range 2 = [0, 1] := rfl
    rw [r2]
    simp only [Op.eqItems, Nat.mul_one, Sem.run_bind, p0, p1, Result.andThen_ok, run_equalIn_int w 9998 et k k _ _ he]
    rcases a with ⟨a1, a2⟩
    rcases b with ⟨b1, b2⟩
    have q2 : ∀ (x y : Int), (Op.equalIn 9999 et (.int k x) (.int k y)).run P w = .ok (x == y) w := fun x y => run_equalIn_int w 9998 et k k x y he
    by_cases h1 : a1 = b1
    · by_cases h2 : a2 = b2
      · simp [h1, h2, p0, p1, q2]
      · simp [h1, h2, p0, p1, q2]
    · simp [h1, p0, p1, q2]
  refine ⟨⟨_, ht⟩, fun f n x w => ?_, fun w x es M hM => ?_, fun a n => ?_⟩
  · unfold Instr.checkKey
    simp only [Sem.run_bind, run_underlyingD ht, Result.andThen_ok]
    have p0 : ∀ (x y : Value), (part et #[x, y] 0).run P w = .ok x w := fun x y => run_part_plain w hpl (by simp)
    have p1 : ∀ (x y : Value), (part et #[x, y] 1).run P w = .ok y w := fun x y => run_part_plain w hpl (by simp)
    have hs := run_sizeOf (P := P) (w := w) hi
    rw [hc] at hs
    simp only [Std.Legacy.Range.forIn_eq_forIn_range', Std.Legacy.Range.size, Nat.sub_zero, Nat.add_one_sub_one, Nat.div_one]
    have r2 : List.range' 0 2 = [0, 1] := rfl
    rw [r2]
    simp only [List.forIn_cons, List.forIn_nil, Sem.run_bind, hs, Result.andThen_ok, Nat.mul_one, p0, p1, run_checkLeaf hpl, Sem.run_pure]
  · have hask : ∀ (es : List MapEntry) (M : List ((Int × Int) × Value)) (i : Nat), es.map (fun e => (e.key, e.val)) = M.map (fun x => ((Value.agg #[.int k x.1.1, .int k x.1.2]), x.2)) → (Instr.findAsking kt (.agg #[.int k x.1, .int k x.2]) es i).run P w = .ok (spot x M i) w := by
      intro es
      induction es with
      | nil =>
        intro M i h
        cases M with
        | nil => simp [Instr.findAsking, spot]
        | cons x M => simp at h
      | cons e es ih =>
        intro M i h
        cases M with
        | nil => simp at h
        | cons y M =>
          simp only [List.map_cons, List.cons.injEq, Prod.mk.injEq] at h
          have := heq w x y.1
          rw [← h.1.1] at this
          unfold Instr.findAsking spot
          simp only [Sem.run_bind, this, Result.andThen_ok]
          by_cases hk : x = y.1
          · simp [hk, h.1.2]
          · simp only [hk, decide_false, if_false, Bool.false_eq_true]
            exact ih M (i + 1) h.2
    unfold Instr.findKey
    simp only [Sem.run_bind, run_underlyingD ht, Result.andThen_ok]
    cases es with
    | nil =>
      cases M with
      | nil => simp [Instr.findNow, spot]
      | cons x M => simp at hM
    | cons e es =>
      have : Instr.findNow (.array 2 et) (.agg #[.int k x.1, .int k x.2]) (e :: es) 0 = none := by
        unfold Instr.findNow
        simp [Instr.sameNow]
      rw [this]
      exact hask (e :: es) M 0 hM
  · simp only [Instr.sameBits, beq_self_eq_true, Bool.true_and]
    simp [Instr.sameBits]

end Go.D
