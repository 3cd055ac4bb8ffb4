/- What came in: rows that are only read. -/
import Derived.Test.YtchbhocpmhlhjaaDoorOwn4
import Derived.Below
set_option linter.unusedSimpArgs false
set_option linter.unusedVariables false
namespace Go.D

theorem addA (a : Addr) (m n : Nat) : (a.add m).add n = a.add (m + n) := by
  unfold Addr.add
  by_cases hm : m = 0
  · by_cases hn : n = 0 <;> simp [hm, hn]
  · by_cases hn : n = 0
    · simp [hm, hn]
    · simp [hm, hn, Nat.add_assoc]

theorem cell_block {w : World} {a : Addr} {v : Value} (h : w.cell? a = some v) : a.block < w.heap.size := by
  unfold World.cell? at h
  split at h
  · rename_i hb
    exact (Array.getElem?_eq_some_iff.1 hb).1
  · cases h

theorem Upd.cell {w w' : World} {F : List Nat} (u : Upd F w w') {a : Addr} {v : Value} (h : w.cell? a = some v) (hF : a.block ∉ F) : w'.cell? a = some v := by
  have hb := u.blk a.block (cell_block h) hF
  rw [← h]
  unfold World.cell?
  rw [hb]

theorem Upd.below {w w' : World} (u : Upd [] w w') : Go.RowKit.Below w.heap.size w w' := ⟨u.os, u.tape, u.output, u.size, fun k hk => u.blk k hk (by simp)⟩

/-- A row that is only read: n elements of sz cells, the cells cs. -/
def Rd (w : World) (sz : Nat) (p : Option Addr) (n : Nat) (cs : List Value) : Prop :=
  cs.length = n * sz ∧ (n = 0 ∨ ∃ x, p = some x ∧ ∀ i, i < n * sz → w.cell? (x.add i) = cs[i]?)

theorem add_block (a : Addr) (n : Nat) : (a.add n).block = a.block := by unfold Addr.add; split <;> rfl

theorem Rd.upd {w w' : World} {sz : Nat} {p : Option Addr} {n : Nat} {cs : List Value} {F : List Nat} (h : Rd w sz p n cs) (u : Upd F w w') (hd : ∀ x, p = some x → n ≠ 0 → x.block ∉ F) : Rd w' sz p n cs := by
  obtain ⟨hl, h⟩ := h
  refine ⟨hl, ?_⟩
  rcases h with h | ⟨x, hp, hc⟩
  · exact .inl h
  · by_cases hn : n = 0
    · exact .inl hn
    refine .inr ⟨x, hp, fun i hi => ?_⟩
    have h1 := hc i hi
    rw [List.getElem?_eq_getElem (by omega)] at h1 ⊢
    exact u.cell h1 (by rw [add_block]; exact hd x hp hn)

/-- Nothing that was there has been turned. -/
theorem Rd.keep {w w' : World} {sz : Nat} {p : Option Addr} {n : Nat} {cs : List Value} (h : Rd w sz p n cs) (u : Upd [] w w') : Rd w' sz p n cs := h.upd u (by intros; simp)

theorem SlAt.rd {w : World} {sz : Nat} {p : Option Addr} {n c : Nat} {cs : List Value} {F : List Nat} (h : SlAt w sz p n c cs F) : Rd w sz p n cs := by
  refine ⟨h.1, ?_⟩
  rcases h.2.2 with ⟨rfl, rfl, rfl⟩ | ⟨b, off, arr, rfl, rfl, hb, hs, hc⟩
  · left; have := h.2.1; omega
  · exact .inr ⟨_, rfl, fun i hi => by rw [addN, hb.cell]; exact hc i hi⟩

/-- A cell of it. -/
theorem Rd.at {w : World} {sz : Nat} {p : Option Addr} {n : Nat} {cs : List Value} (h : Rd w sz p n cs) {i : Nat} (hi : i < n * sz) : ∃ x, p = some x ∧ w.cell? (x.add i) = cs[i]? := by
  rcases h.2 with h0 | ⟨x, hp, hc⟩
  · subst h0; simp at hi
  · exact ⟨x, hp, hc i hi⟩

/-- One element's cells. -/
theorem Rd.elem {w : World} {sz : Nat} {p : Option Addr} {n : Nat} {cs : List Value} (h : Rd w sz p n cs) {i : Nat} (hi : i < n) : ∃ x, p = some x ∧ ∀ j, j < sz → w.cell? (x.add (i * sz + j)) = cs[i * sz + j]? := by
  have h1 : (i + 1) * sz ≤ n * sz := Nat.mul_le_mul_right _ hi
  rw [Nat.add_mul, Nat.one_mul] at h1
  rcases h.2 with h0 | ⟨x, hp, hc⟩
  · omega
  · exact ⟨x, hp, fun j hj => hc _ (by omega)⟩

theorem Rd.ofRow {k : IntKind} {w : World} {a : Option Addr} {len cap B : Nat} {zs : List Int} {Q : Prop} (h : (a = none ∧ len = 0 ∧ cap = 0 ∧ zs = []) ∨ ∃ x, a = some x ∧ len ≤ cap ∧ cap ≤ B ∧ zs.length = cap ∧ (∀ i, i < zs.length → w.cell? (x.add i) = some (.int k (zs.getD i 0))) ∧ Q) : Rd w 1 a len ((zs.take len).map (.int k)) := by
  rcases h with ⟨rfl, rfl, rfl, rfl⟩ | ⟨x, rfl, hl, _, hz, hc, _⟩
  · exact ⟨rfl, .inl rfl⟩
  · refine ⟨by simp; omega, .inr ⟨x, rfl, fun i hi => ?_⟩⟩
    rw [hc i (by omega), List.getElem?_map, List.getElem?_take, if_pos (by omega), List.getElem?_eq_getElem (by omega)]
    simp [List.getD, List.getElem?_eq_getElem (show i < zs.length by omega)]

end Go.D
