import Derived.Test.YtlndgaijekihiaaOwn12
import Derived.Laws.IdiomStrings
import Derived.Laws.BytesArg
import Derived.Test.YtlndgaijekihiaaOwn6
import GoSem.ClaimJoined
namespace Go.D
open Go
set_option linter.unusedSimpArgs false
set_option linter.unusedVariables false
set_option maxRecDepth 8000
def bc (l : List UInt8) : List Value := l.map fun c => .int .u8 (c.toNat : Int)
theorem AppR_gen {P : Program} {S T E ty : TypeId} {sz by_ : Nat} {zc : Array Value} (hE : ElemOf P S E sz by_ zc) (hTu : P.underlying T = some (.slice E)) {w : World} {p : Option Addr} {n c m : Nat} {xs ys : List Value} {F : List Nat} {q : Option Addr} {d : Nat}
  (hS : SlAt w sz p n c xs F) (hfc : ∀ w', w' = w ∨ w' = w.drew → (Builtin.firstCells sz m (.slice q m d)).run P w' = .ok ys.toArray w') (hT1 : ys.length = m * sz) (hone : ∀ v ∈ ys, v.oneCell' = true) (hb : (n + m) * by_ ≤ 2 ^ 46) {K : Option Addr → Nat → Nat → World → Prop}
  (hK : ∀ p' c' F' w', SlAt w' sz p' (n + m) c' (xs ++ ys) F' → Upd F w w' → Sub F' F w → K p' (n + m) c' w') :
  App P #[S, T] ty #[.slice p n c, .slice q m d] w K := by
 obtain ⟨i, hi, hsz, hby, z, hz, hzc⟩ := hE.info
 have hbp := hE.bpos
 have hnm : n + m ≤ 2 ^ 46 := by
  have : (n + m) * 1 ≤ (n + m) * by_ := Nat.mul_le_mul_left _ hbp
  omega
 have hzer : ((match P.underlying S with | some d => pure d | none => stuck "no such type" : Sem TypeDesc)).run P w = .ok (.slice E) w := by rw [hE.und]; rfl
 unfold App Run
 by_cases hroom : n + m ≤ c
 ·-- there is room
  have hw : ∃ p' w' F', (Builtin.append_ #[S, T] ty #[.slice p n c, .slice q m d]).run P w = .ok (.slice p' (n + m) c) w' ∧ SlAt w' sz p' (n + m) c (xs ++ ys) F' ∧ Upd F w w' ∧ Sub F' F w := by
   rcases hS.2.2 with ⟨rfl, rfl, rfl⟩ | ⟨b, off, arr, rfl, rfl, hblk, hs, hc⟩
   ·obtain rfl : n = 0 := by omega
    obtain rfl : m = 0 := by omega
    have hxs : xs = [] := by have := hS.1; simpa using this
    have hys : ys = [] := by have := hT1; simpa using this
    subst hxs; subst hys
    refine ⟨none, w, [], ?_, SlAt.nil w sz, Upd.refl _ _, Sub.refl _ _⟩
    have := hfc w (.inl rfl)
    simp [Builtin.append_, run_underlyingD hE.und, run_underlyingD hTu, sizeOf, typeInfo, hi, hsz, Builtin.lenOf,  this]
   ·have hy := hfc w (.inl rfl)
    have hmul : (n + m) * sz = n * sz + m * sz := Nat.add_mul ..
    have hle : (n + m) * sz ≤ c * sz := Nat.mul_le_mul_right _ hroom
    obtain ⟨w', arr', hr, hu, hb', hsz', h1, h2⟩ := run_storeRow (P := P) ys (off + n * sz) 0 w arr hblk (by rw [hT1]; omega) hone
    refine ⟨some ⟨b, off, none⟩, w', [b], ?_, ?_, hu, Sub.refl _ _⟩
    ·simp [Builtin.append_, run_underlyingD hE.und, run_underlyingD hTu, sizeOf, typeInfo, hi, hsz, Builtin.lenOf,  hroom, hy, addN, hr]
    ·refine ⟨by rw [List.length_append, hS.1, hT1, hmul], hroom, .inr ⟨b, off, arr', rfl, rfl, hb', by omega, fun i hi => ?_⟩⟩
     rw [List.getElem?_append]
     by_cases hin : i < n * sz
     ·rw [if_pos (by rw [hS.1]; exact hin), h2 (off + i) (.inl (by omega))]
      exact hc i hin
     ·rw [if_neg (by rw [hS.1]; exact hin)]
      have := h1 (i - n * sz) (by rw [hT1]; omega)
      rw [← show off + n * sz + 0 + (i - n * sz) = off + i by omega, this, hS.1]
  obtain ⟨p', w', F', hrun, hsl, hu, hsub⟩ := hw
  rw [hrun]
  exact ⟨p', n + m, c, rfl, hK p' c F' w' hsl hu hsub⟩
 ·-- a new array
  have hx := run_firstCells (P := P) hS
  have hy := hfc w (.inl rfl)
  have hbm := hE.bmax
  have hcap : ¬ Builtin.nextslicecap (n + m) c * by_ > 2 ^ 48 := by
   have h1 := nextslicecap_le (n + m) c (by omega)
   have h2 : Builtin.nextslicecap (n + m) c * by_ ≤ (2 * (n + m) + 192) * by_ := Nat.mul_le_mul_right _ h1
   have h3 : (2 * (n + m) + 192) * by_ = 2 * ((n + m) * by_) + 192 * by_ := by rw [Nat.add_mul, Nat.mul_assoc]
   have h4 : 192 * by_ ≤ 192 * 4096 := Nat.mul_le_mul_left _ hbm
   omega
  have hb0 : by_ ≠ 0 := by omega
  have hzv : ∀ w, (zeroValue E).run P w = .ok z w := fun w => by simp [zeroValue, typeInfo, hi, hz]
  have hforced : ∀ a b t, (Question.appendCap a b t).forced = false := fun _ _ _ => rfl
  obtain ⟨N, hN⟩ : ∃ N, N = Question.cut (.appendCap (n + m) c E) (w.tape w.drawn (.appendCap (n + m) c E)) := ⟨_, rfl⟩
  have hNge : n + m ≤ N := by rw [hN]; simp only [Question.cut]; omega
  obtain ⟨arr, harr⟩ : ∃ arr : Array Value, arr = xs.toArray ++ (ys.toArray ++ Builtin.zeroCells z.cells (N - (n + m))) := ⟨_, rfl⟩
  have hu0 : Upd [] w w.drew := drw_upd w
  have hrun : (Builtin.append_ #[S, T] ty #[.slice p n c, .slice q m d]).run P w = .ok (.slice (some ⟨w.heap.size, 0, none⟩) (n + m) N) { w.drew with heap := w.drew.heap.push (.cells arr E) } := by
   have hx1 := run_firstCells (P := P) (SlAt.drw hS)
   have hy1 := hfc w.drew (.inr rfl)
   have e1 : drw w = w.drew := rfl
   rw [e1] at hx1
   rw [harr, hN]
   simp [Builtin.append_, run_underlyingD hE.und, run_underlyingD hTu, sizeOf, typeInfo, hi, hsz, hby, Builtin.lenOf,  hroom, hcap, hb0, hzv, hforced, hx1, hy1, newRow]
   rfl
  rw [hrun]
  have hblk : Blk ({ w.drew with heap := w.drew.heap.push (.cells arr E) } : World) w.heap.size arr := by
   refine ⟨E, (0, 0), ?_, .inl (Nat.le_refl _)⟩
   show (w.heap.push _)[_]? = _
   simp
  have hmul : (n + m) * sz = n * sz + m * sz := Nat.add_mul ..
  have hNmul : N * sz = (n + m) * sz + (N - (n + m)) * sz := by rw [← Nat.add_mul]; congr 1; omega
  have hasz : arr.size = N * sz := by
   rw [harr, hNmul]
   simp only [Array.size_append, List.size_toArray, size_zeroCells, hS.1, hT1, hzc, hE.zsz]
   omega
  refine ⟨_, _, _, rfl, hK _ N [w.heap.size] _ ?_ ((hu0.before (push_upd w.drew _)).mono (by simp)) (fun k hk => .inr (by simp at hk; omega))⟩
  refine ⟨by rw [List.length_append, hS.1, hT1, hmul], hNge, .inr ⟨w.heap.size, 0, arr, rfl, rfl, hblk, by omega, fun i hi => ?_⟩⟩
  have hxl := hS.1
  have hyl := hT1
  rw [Nat.zero_add, harr, List.getElem?_append, Array.getElem?_append]
  by_cases hin : i < n * sz
  ·simp [hxl, hin]
  ·have h2 : i - n * sz < m * sz := by omega
   simp [hxl, hin, Array.getElem?_append, hyl, h2]
theorem firstCells_rd {P : Program} {w : World} {sz : Nat} {q : Option Addr} {m d : Nat} {ys : List Value} (h : Rd w sz q m ys) : (Builtin.firstCells sz m (.slice q m d)).run P w = .ok ys.toArray w := by
 rcases q with _ | a
 ·rcases h.2 with h0 | ⟨x, hx, _⟩
  ·have hy : ys = [] := by have := h.1; rw [h0] at this; simpa using this
   subst hy
   simp [Builtin.firstCells]
  ·cases hx
 ·simp only [Builtin.firstCells]
  rw [← h.1]
  have := run_loadCellsFrom (P := P) (w := w) (a := a) ys.length 0 #[] ys rfl (fun j hj => by
   rcases h.2 with h0 | ⟨x, hx, hc⟩
   ·have := h.1; rw [h0] at this; simp at this; subst this; simp at hj
   ·cases hx
    have := hc j (by rw [← h.1]; exact hj)
    rw [Nat.zero_add, this]; simp [hj])
  simpa [loadCells] using this
theorem AppR_rule {P : Program} {S T E ty : TypeId} {sz by_ : Nat} {zc : Array Value} (hE : ElemOf P S E sz by_ zc) (hTu : P.underlying T = some (.slice E)) {w : World} {p q : Option Addr} {n c m d : Nat} {xs ys : List Value} {F : List Nat}
  (hS : SlAt w sz p n c xs F) (hT : Rd w sz q m ys) (hone : ∀ v ∈ ys, v.oneCell' = true) (hb : (n + m) * by_ ≤ 2 ^ 46) {K : Option Addr → Nat → Nat → World → Prop}
  (hK : ∀ p' c' F' w', SlAt w' sz p' (n + m) c' (xs ++ ys) F' → Upd F w w' → Sub F' F w → K p' (n + m) c' w') :
  App P #[S, T] ty #[.slice p n c, .slice q m d] w K :=
 AppR_gen hE hTu hS (fun w' h => by
  rcases h with rfl | rfl
  ·exact firstCells_rd hT
  ·exact firstCells_rd (hT.keep (drw_upd w))) hT.1 hone hb hK
end Go.D
namespace Go.D
open Go
set_option linter.unusedSimpArgs false
set_option linter.unusedVariables false
set_option maxRecDepth 8000
end Go.D
namespace Go.D
open Go
set_option linter.unusedVariables false
end Go.D
namespace Go.D
set_option linter.unusedSimpArgs false
set_option linter.unusedVariables false
theorem Rd.one {w : World} {sz : Nat} {p : Option Addr} {n : Nat} {cs ds : List Value} (h : Rd w sz p n cs) (k : Rd w sz p n ds) : cs = ds := by
 apply List.ext_getElem?
 intro i
 by_cases hi : i < n * sz
 ·obtain ⟨x, hx, hc⟩ := h.at hi
  obtain ⟨y, hy, hd⟩ := k.at hi
  rw [hx] at hy; cases hy
  rw [← hc, ← hd]
 ·rw [List.getElem?_eq_none (by have := h.1; omega), List.getElem?_eq_none (by have := k.1; omega)]
end Go.D
set_option linter.unusedSimpArgs false
set_option linter.unusedVariables false
namespace Go.D
open Go
end Go.D
