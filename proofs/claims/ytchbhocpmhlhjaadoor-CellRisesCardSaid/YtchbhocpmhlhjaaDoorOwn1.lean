/- Memory told by blocks and by what may have been turned; the rules of the formulas' words. -/
import Derived.Test.YtchbhocpmhlhjaaDoorDen6
set_option linter.unusedSimpArgs false
set_option linter.unusedVariables false
namespace Go.D

/-! ## What may have been turned -/

/-- From w to w', of the blocks that were there those of F alone may have been turned. -/
structure Upd (F : List Nat) (w w' : World) : Prop where
  os : w'.os = w.os
  tape : w'.tape = w.tape
  output : w'.output = w.output
  size : w.heap.size ≤ w'.heap.size
  blk : ∀ k, k < w.heap.size → k ∉ F → w'.heap[k]? = w.heap[k]?

theorem Upd.refl (F : List Nat) (w : World) : Upd F w w := ⟨rfl, rfl, rfl, Nat.le_refl _, fun _ _ _ => rfl⟩

theorem Upd.mono {F G : List Nat} {w w' : World} (h : Upd F w w') (hs : ∀ k ∈ F, k ∈ G ∨ w.heap.size ≤ k) : Upd G w w' :=
  ⟨h.os, h.tape, h.output, h.size, fun k hk hG => h.blk k hk fun hF => by
    rcases hs k hF with h1 | h1
    · exact hG h1
    · omega⟩

theorem Upd.trans {F G H : List Nat} {a b c : World} (h : Upd F a b) (k : Upd G b c) (hF : ∀ x ∈ F, x ∈ H ∨ a.heap.size ≤ x) (hG : ∀ x ∈ G, x ∈ H ∨ a.heap.size ≤ x) : Upd H a c :=
  ⟨k.os.trans h.os, k.tape.trans h.tape, k.output.trans h.output, Nat.le_trans h.size k.size, fun x hx hH => by
    rw [k.blk x (Nat.lt_of_lt_of_le hx h.size) fun hg => by
      rcases hG x hg with h1 | h1
      · exact hH h1
      · omega]
    exact h.blk x hx fun hf => by
      rcases hF x hf with h1 | h1
      · exact hH h1
      · omega⟩

/-- Nothing, then these. -/
theorem Upd.after {F : List Nat} {a b c : World} (h : Upd [] a b) (k : Upd F b c) : Upd F a c := h.trans k (by simp) (fun _ hx => .inl hx)
/-- These, then nothing. -/
theorem Upd.before {F : List Nat} {a b c : World} (h : Upd F a b) (k : Upd [] b c) : Upd F a c := h.trans k (fun _ hx => .inl hx) (by simp)
theorem Upd.both {F : List Nat} {a b c : World} (h : Upd F a b) (k : Upd F b c) : Upd F a c := h.trans k (fun _ hx => .inl hx) (fun _ hx => .inl hx)

/-- What is new may be turned as one likes. -/
theorem Upd.fresh {F : List Nat} {a b c : World} (h : Upd [] a b) (k : Upd F b c) (hF : ∀ x ∈ F, a.heap.size ≤ x) : Upd [] a c :=
  h.trans k (by simp) (fun x hx => .inr (hF x hx))

/-- A footprint that has grown by new blocks alone. -/
def Sub (F' F : List Nat) (w : World) : Prop := ∀ k ∈ F', k ∈ F ∨ w.heap.size ≤ k

theorem Sub.refl (F : List Nat) (w : World) : Sub F F w := fun _ h => .inl h
theorem Sub.trans {F G H : List Nat} {a b : World} (h : Sub G F a) (k : Sub H G b) (hs : a.heap.size ≤ b.heap.size) : Sub H F a := fun x hx => by
  rcases k x hx with h1 | h1
  · exact h x h1
  · exact .inr (by omega)
theorem Sub.old {F' F : List Nat} {a b : World} (k : Sub F' F b) (hs : a.heap.size ≤ b.heap.size) : Sub F' F a := fun x hx => (k x hx).imp id (by omega)

/-- Apart. -/
def Dis (F G : List Nat) : Prop := ∀ k ∈ F, k ∉ G

theorem Dis.symm {F G : List Nat} (h : Dis F G) : Dis G F := fun k hg hf => h k hf hg

/-- All there. -/
def In (F : List Nat) (w : World) : Prop := ∀ k ∈ F, k < w.heap.size

theorem In.upd {F G : List Nat} {w w' : World} (h : In F w) (u : Upd G w w') : In F w' := fun k hk => Nat.lt_of_lt_of_le (h k hk) u.size

theorem Dis.step {F F' G : List Nat} {w : World} (h : Dis F G) (s : Sub F' F w) (hG : In G w) : Dis F' G := fun k hk hg => by
  rcases s k hk with h1 | h1
  · exact h k h1 hg
  · have := hG k hg; omega

/-- All new, since w. -/
def Since (F : List Nat) (w : World) : Prop := ∀ k ∈ F, w.heap.size ≤ k

theorem Since.step {F F' : List Nat} {w a : World} (h : Since F w) (s : Sub F' F a) (hs : w.heap.size ≤ a.heap.size) : Since F' w := fun k hk => by
  rcases s k hk with h1 | h1
  · exact h k h1
  · omega

theorem addN (b o n : Nat) : (⟨b, o, none⟩ : Addr).add n = ⟨b, o + n, none⟩ := by
  unfold Addr.add
  split
  · rename_i h; simp [h]
  · rfl

/-! ## Blocks -/

def Blk (w : World) (b : Nat) (arr : Array Value) : Prop := ∃ T fz, w.heap[b]? = some (.cells arr T fz) ∧ (fz.2 ≤ fz.1 ∨ arr.size ≤ fz.1)

theorem Blk.lt {w : World} {b : Nat} {arr : Array Value} (h : Blk w b arr) : b < w.heap.size := by
  obtain ⟨T, fz, h, _⟩ := h
  exact (Array.getElem?_eq_some_iff.1 h).1

theorem Blk.upd {w w' : World} {b : Nat} {arr : Array Value} {F : List Nat} (h : Blk w b arr) (u : Upd F w w') (hb : b ∉ F) : Blk w' b arr := by
  have hlt := h.lt
  obtain ⟨T, fz, h, hf⟩ := h
  exact ⟨T, fz, by rw [u.blk b hlt hb]; exact h, hf⟩

theorem Blk.cell {w : World} {b : Nat} {arr : Array Value} (h : Blk w b arr) (o : Nat) : w.cell? ⟨b, o, none⟩ = arr[o]? := by
  obtain ⟨T, fz, h, _⟩ := h
  simp [World.cell?, h]

theorem Blk.frozen {w : World} {b : Nat} {arr : Array Value} (h : Blk w b arr) {o : Nat} (ho : o < arr.size) : w.frozen? ⟨b, o, none⟩ = false := by
  obtain ⟨T, fz, h, hf⟩ := h
  simp only [World.frozen?, h, Bool.and_eq_false_iff, decide_eq_false_iff_not]
  omega

@[simp] theorem drw_heap (w : World) : (drw w).heap = w.heap := rfl
@[simp] theorem drw_cell (w : World) (a : Addr) : (drw w).cell? a = w.cell? a := rfl
theorem drw_upd (w : World) : Upd [] w (drw w) := ⟨rfl, rfl, rfl, Nat.le_refl _, fun _ _ _ => rfl⟩
theorem Blk.drw {w : World} {b : Nat} {arr : Array Value} (h : Blk w b arr) : Blk (drw w) b arr := h

theorem setCell_upd (w : World) (b o : Nat) (v : Value) : Upd [b] w (w.setCell ⟨b, o, none⟩ v) := by
  refine ⟨rfl, rfl, rfl, by simp [World.setCell], fun k _ hk => ?_⟩
  simp only [List.mem_singleton] at hk
  simp only [World.setCell, Array.getElem?_modify]
  rw [if_neg (fun e => hk e.symm)]

theorem Blk.set {w : World} {b : Nat} {arr : Array Value} (h : Blk w b arr) (o : Nat) (v : Value) : Blk (w.setCell ⟨b, o, none⟩ v) b (arr.setIfInBounds o v) := by
  obtain ⟨T, fz, h, hf⟩ := h
  refine ⟨T, fz, ?_, by simpa using hf⟩
  simp [World.setCell, Array.getElem?_modify, h]

/-- A store into a block that is known. -/
theorem St_rule {w : World} {b o : Nat} {arr : Array Value} {v : Value} {K : World → Prop} (h : Blk w b arr) (ho : o < arr.size) (hv : v.oneCell' = true)
    (hK : ∀ w', Upd [b] w w' → Blk w' b (arr.setIfInBounds o v) → K w') : St w ⟨b, o, none⟩ v K :=
  ⟨hv, ⟨arr[o], by rw [h.cell]; simp [ho]⟩, h.frozen ho, hK _ (setCell_upd w b o v) (h.set o v)⟩

theorem push_upd (w : World) (o : Obj) : Upd [] w { w with heap := w.heap.push o } := by
  refine ⟨rfl, rfl, rfl, by simp, fun k hk _ => ?_⟩
  show (w.heap.push o)[k]? = _
  rw [Array.getElem?_push, if_neg (by omega)]

/-- A new block. -/
theorem New_rule {w : World} {arr : Array Value} {T : TypeId} {K : Nat → World → Prop}
    (hK : ∀ b w', b = w.heap.size → Upd [] w w' → Blk w' b arr → K b w') : New w (.cells arr T) K := by
  refine hK _ _ rfl (push_upd w _) ⟨T, (0, 0), ?_, .inl (Nat.le_refl _)⟩
  show (w.heap.push _)[_]? = _
  simp

theorem New_map {w : World} {K : Nat → World → Prop}
    (hK : ∀ b w', b = w.heap.size → Upd [] w w' → w'.heap[b]? = some (.map #[] 0) → K b w') : New w (.map #[] 0) K := by
  refine hK _ _ rfl (push_upd w _) ?_
  show (w.heap.push _)[_]? = _
  simp

/-! ## Slices -/

/-- A slice value's parts: n elements of sz cells each, the cells cs; the blocks that it lies in. -/
def SlAt (w : World) (sz : Nat) (p : Option Addr) (n c : Nat) (cs : List Value) (F : List Nat) : Prop :=
  cs.length = n * sz ∧ n ≤ c ∧
  ((p = none ∧ c = 0 ∧ F = []) ∨
   (∃ b off arr, p = some ⟨b, off, none⟩ ∧ F = [b] ∧ Blk w b arr ∧ off + c * sz ≤ arr.size ∧ ∀ i, i < n * sz → arr[off + i]? = cs[i]?))

theorem SlAt.nil (w : World) (sz : Nat) : SlAt w sz none 0 0 [] [] := ⟨by simp, Nat.le_refl _, .inl ⟨rfl, rfl, rfl⟩⟩

theorem SlAt.inn {w : World} {sz : Nat} {p : Option Addr} {n c : Nat} {cs : List Value} {F : List Nat} (h : SlAt w sz p n c cs F) : In F w := by
  rcases h.2.2 with ⟨_, _, rfl⟩ | ⟨b, off, arr, _, rfl, hb, _⟩
  · intro k hk; cases hk
  · intro k hk; rw [List.mem_singleton] at hk; rw [hk]; exact hb.lt

theorem SlAt.upd {w w' : World} {sz : Nat} {p : Option Addr} {n c : Nat} {cs : List Value} {F G : List Nat} (h : SlAt w sz p n c cs F) (u : Upd G w w') (hd : Dis F G) : SlAt w' sz p n c cs F := by
  refine ⟨h.1, h.2.1, ?_⟩
  rcases h.2.2 with h1 | ⟨b, off, arr, hp, rfl, hb, hs, hc⟩
  · exact .inl h1
  · exact .inr ⟨b, off, arr, hp, rfl, hb.upd u (hd b (by simp)), hs, hc⟩

theorem SlAt.drw {w : World} {sz : Nat} {p : Option Addr} {n c : Nat} {cs : List Value} {F : List Nat} (h : SlAt w sz p n c cs F) : SlAt (drw w) sz p n c cs F := h.upd (drw_upd w) (fun _ _ h => by cases h)

/-- The elements' cells. -/
theorem SlAt.cell {w : World} {sz : Nat} {p : Option Addr} {n c : Nat} {cs : List Value} {F : List Nat} (h : SlAt w sz p n c cs F) {i : Nat} (hi : i < n * sz) :
    ∃ b off, p = some ⟨b, off, none⟩ ∧ w.cell? ⟨b, off + i, none⟩ = cs[i]? := by
  rcases h.2.2 with ⟨_, hc, _⟩ | ⟨b, off, arr, hp, _, hb, _, hc⟩
  · have : n = 0 := by have := h.2.1; omega
    subst this; simp at hi
  · exact ⟨b, off, hp, by rw [hb.cell]; exact hc i hi⟩

/-- The lowest ones. -/
theorem SlAt.take {w : World} {sz : Nat} {p : Option Addr} {n c : Nat} {cs : List Value} {F : List Nat} (h : SlAt w sz p n c cs F) {k : Nat} (hk : k ≤ n) : SlAt w sz p k c (cs.take (k * sz)) F := by
  have hkn : k * sz ≤ n * sz := Nat.mul_le_mul_right _ hk
  refine ⟨by rw [List.length_take, h.1]; omega, Nat.le_trans hk h.2.1, ?_⟩
  rcases h.2.2 with h1 | ⟨b, off, arr, hp, hF, hb, hs, hc⟩
  · exact .inl h1
  · refine .inr ⟨b, off, arr, hp, hF, hb, hs, fun i hi => ?_⟩
    rw [hc i (by omega), List.getElem?_take, if_pos hi]

/-- Those from a place on. -/
theorem SlAt.drop {w : World} {sz : Nat} {p : Option Addr} {n c : Nat} {cs : List Value} {F : List Nat} (h : SlAt w sz p n c cs F) {k : Nat} (hk : k ≤ n) :
    SlAt w sz (adv p c k sz) (n - k) (c - k) (cs.drop (k * sz)) F := by
  have hkn : k * sz ≤ n * sz := Nat.mul_le_mul_right _ hk
  have h21 := h.2.1
  refine ⟨by rw [List.length_drop, h.1, Nat.sub_mul], by omega, ?_⟩
  rcases h.2.2 with ⟨rfl, rfl, rfl⟩ | ⟨b, off, arr, rfl, rfl, hb, hs, hc⟩
  · refine .inl ⟨?_, by omega, rfl⟩
    unfold adv; split <;> rfl
  · unfold adv
    split
    · rename_i hck
      subst hck
      have : n = c := by omega
      subst this
      refine .inr ⟨b, off, arr, rfl, rfl, hb, by simp at hs ⊢; omega, fun i hi => ?_⟩
      simp at hi
    · refine .inr ⟨b, off + k * sz, arr, by simp [addN], rfl, hb, ?_, fun i hi => ?_⟩
      · have : k * sz + (c - k) * sz = c * sz := by rw [← Nat.add_mul]; congr 1; omega
        omega
      · have : k * sz + (n - k) * sz = n * sz := by rw [← Nat.add_mul]; congr 1; omega
        rw [Nat.add_assoc, hc (k * sz + i) (by omega), List.getElem?_drop]

/-- The cells of the first n elements, read. -/
theorem run_loadRow {P : Program} {w : World} {b off : Nat} {cs : List Value} (h : ∀ i, i < cs.length → w.cell? ⟨b, off + i, none⟩ = cs[i]?) :
    (loadCells ⟨b, off, none⟩ cs.length).run P w = .ok cs.toArray w := by
  have := run_loadCellsFrom (P := P) (w := w) (a := ⟨b, off, none⟩) cs.length 0 #[] cs rfl (fun j hj => by
    have := h j hj
    rw [addN, Nat.zero_add, this]; simp [hj])
  simpa [loadCells] using this

theorem run_firstCells {P : Program} {w : World} {sz : Nat} {p : Option Addr} {n c : Nat} {cs : List Value} {F : List Nat} (h : SlAt w sz p n c cs F) :
    (Builtin.firstCells sz n (.slice p n c)).run P w = .ok cs.toArray w := by
  rcases h.2.2 with ⟨rfl, hc, _⟩ | ⟨b, off, arr, rfl, _, hb, _, hc⟩
  · have hn : n = 0 := by have := h.2.1; omega
    subst hn
    have : cs = [] := by have := h.1; simpa using this
    subst this
    simp [Builtin.firstCells]
  · simp only [Builtin.firstCells]
    rw [← h.1]
    exact run_loadRow fun i hi => by rw [hb.cell]; exact hc i (by rw [← h.1]; exact hi)

/-- A row of cells is stored. -/
theorem run_storeRow {P : Program} {b : Nat} : ∀ (vs : List Value) (off i : Nat) (w : World) (arr : Array Value), Blk w b arr → off + i + vs.length ≤ arr.size → (∀ v ∈ vs, v.oneCell' = true) →
    ∃ w' arr', (storeCells ⟨b, off, none⟩ vs i).run P w = .ok () w' ∧ Upd [b] w w' ∧ Blk w' b arr' ∧ arr'.size = arr.size ∧
      (∀ j, j < vs.length → arr'[off + i + j]? = vs[j]?) ∧ (∀ j, (j < off + i ∨ off + i + vs.length ≤ j) → arr'[j]? = arr[j]?)
  | [], off, i, w, arr, hb, _, _ => ⟨w, arr, rfl, Upd.refl _ _, hb, rfl, fun j hj => absurd hj (by simp), fun j _ => rfl⟩
  | v :: vs, off, i, w, arr, hb, hs, hv => by
    simp only [List.length_cons] at hs
    have hlt : off + i < arr.size := by omega
    obtain ⟨w', arr', hr, hu, hb', hsz, h1, h2⟩ := run_storeRow (P := P) vs off (i + 1) _ _ (hb.set (off + i) v) (by simp; omega) (fun x hx => hv x (by simp [hx]))
    refine ⟨w', arr', ?_, (setCell_upd w b (off + i) v).both hu, hb', by simpa using hsz, fun j hj => ?_, fun j hj => ?_⟩
    · simp [storeCells, run_store P w _ _ _ (hv v (by simp)), addN, hb.cell, hb.frozen hlt, hlt, hr]
    · cases j with
      | zero => rw [Nat.add_zero, h2 (off + i) (.inl (by omega))]; simp [hlt]
      | succ j =>
        have := h1 j (by simpa using hj)
        rw [show off + i + (j + 1) = off + (i + 1) + j by omega, this]
        simp
    · simp only [List.length_cons] at hj
      rw [h2 j (by omega), Array.getElem?_setIfInBounds_ne (by omega)]

end Go.D
