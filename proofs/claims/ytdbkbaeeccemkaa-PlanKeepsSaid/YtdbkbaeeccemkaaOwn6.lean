/- Memory told by blocks and by what may have been turned; the rules of the formulas' words. -/
import Derived.Test.YtdbkbaeeccemkaaDen6
import Derived.Below
import Derived.ChangeArms
import Derived.DataReads
import Derived.Deep.Slices
set_option linter.unusedSimpArgs false
set_option linter.unusedVariables false
namespace Go.D

/-! ## What may have been turned -/

/-- From w to w', of the blocks that were there those of F alone may have been turned. -/
structure Upd (F : List Nat) (w w' : World) : Prop where
  os : w'.os = w.os
  tape : w'.tape = w.tape
  output : w'.output = w.output
  size : w.heap.size ≤ w'.heap.size
  blk : ∀ k, k < w.heap.size → k ∉ F → w'.heap[k]? = w.heap[k]?

theorem Upd.refl (F : List Nat) (w : World) : Upd F w w := ⟨rfl, rfl, rfl, Nat.le_refl _, fun _ _ _ => rfl⟩

theorem Upd.mono {F G : List Nat} {w w' : World} (h : Upd F w w') (hs : ∀ k ∈ F, k ∈ G ∨ w.heap.size ≤ k) : Upd G w w' :=
  ⟨h.os, h.tape, h.output, h.size, fun k hk hG => h.blk k hk fun hF => by
    rcases hs k hF with h1 | h1
    · exact hG h1
    · omega⟩

theorem Upd.trans {F G H : List Nat} {a b c : World} (h : Upd F a b) (k : Upd G b c) (hF : ∀ x ∈ F, x ∈ H ∨ a.heap.size ≤ x) (hG : ∀ x ∈ G, x ∈ H ∨ a.heap.size ≤ x) : Upd H a c :=
  ⟨k.os.trans h.os, k.tape.trans h.tape, k.output.trans h.output, Nat.le_trans h.size k.size, fun x hx hH => by
    rw [k.blk x (Nat.lt_of_lt_of_le hx h.size) fun hg => by
      rcases hG x hg with h1 | h1
      · exact hH h1
      · omega]
    exact h.blk x hx fun hf => by
      rcases hF x hf with h1 | h1
      · exact hH h1
      · omega⟩

/-- Nothing, then these. -/
theorem Upd.after {F : List Nat} {a b c : World} (h : Upd [] a b) (k : Upd F b c) : Upd F a c := h.trans k (by simp) (fun _ hx => .inl hx)
/-- These, then nothing. -/
theorem Upd.before {F : List Nat} {a b c : World} (h : Upd F a b) (k : Upd [] b c) : Upd F a c := h.trans k (fun _ hx => .inl hx) (by simp)
theorem Upd.both {F : List Nat} {a b c : World} (h : Upd F a b) (k : Upd F b c) : Upd F a c := h.trans k (fun _ hx => .inl hx) (fun _ hx => .inl hx)

/-- What is new may be turned as one likes. -/
theorem Upd.fresh {F : List Nat} {a b c : World} (h : Upd [] a b) (k : Upd F b c) (hF : ∀ x ∈ F, a.heap.size ≤ x) : Upd [] a c :=
  h.trans k (by simp) (fun x hx => .inr (hF x hx))

/-- A footprint that has grown by new blocks alone. -/
def Sub (F' F : List Nat) (w : World) : Prop := ∀ k ∈ F', k ∈ F ∨ w.heap.size ≤ k

theorem Sub.refl (F : List Nat) (w : World) : Sub F F w := fun _ h => .inl h
theorem Sub.trans {F G H : List Nat} {a b : World} (h : Sub G F a) (k : Sub H G b) (hs : a.heap.size ≤ b.heap.size) : Sub H F a := fun x hx => by
  rcases k x hx with h1 | h1
  · exact h x h1
  · exact .inr (by omega)
theorem Sub.old {F' F : List Nat} {a b : World} (k : Sub F' F b) (hs : a.heap.size ≤ b.heap.size) : Sub F' F a := fun x hx => (k x hx).imp id (by omega)

/-- Apart. -/
def Dis (F G : List Nat) : Prop := ∀ k ∈ F, k ∉ G

theorem Dis.symm {F G : List Nat} (h : Dis F G) : Dis G F := fun k hg hf => h k hf hg

/-- All there. -/
def In (F : List Nat) (w : World) : Prop := ∀ k ∈ F, k < w.heap.size

theorem In.upd {F G : List Nat} {w w' : World} (h : In F w) (u : Upd G w w') : In F w' := fun k hk => Nat.lt_of_lt_of_le (h k hk) u.size

theorem Dis.step {F F' G : List Nat} {w : World} (h : Dis F G) (s : Sub F' F w) (hG : In G w) : Dis F' G := fun k hk hg => by
  rcases s k hk with h1 | h1
  · exact h k h1 hg
  · have := hG k hg; omega

/-- All new, since w. -/
def Since (F : List Nat) (w : World) : Prop := ∀ k ∈ F, w.heap.size ≤ k

theorem Since.step {F F' : List Nat} {w a : World} (h : Since F w) (s : Sub F' F a) (hs : w.heap.size ≤ a.heap.size) : Since F' w := fun k hk => by
  rcases s k hk with h1 | h1
  · exact h k h1
  · omega

theorem addN (b o n : Nat) : (⟨b, o, none⟩ : Addr).add n = ⟨b, o + n, none⟩ := by
  unfold Addr.add
  split
  · rename_i h; simp [h]
  · rfl

/-! ## Blocks -/

def Blk (w : World) (b : Nat) (arr : Array Value) : Prop := ∃ T fz, w.heap[b]? = some (.cells arr T fz) ∧ (fz.2 ≤ fz.1 ∨ arr.size ≤ fz.1)

theorem Blk.lt {w : World} {b : Nat} {arr : Array Value} (h : Blk w b arr) : b < w.heap.size := by
  obtain ⟨T, fz, h, _⟩ := h
  exact (Array.getElem?_eq_some_iff.1 h).1

theorem Blk.upd {w w' : World} {b : Nat} {arr : Array Value} {F : List Nat} (h : Blk w b arr) (u : Upd F w w') (hb : b ∉ F) : Blk w' b arr := by
  have hlt := h.lt
  obtain ⟨T, fz, h, hf⟩ := h
  exact ⟨T, fz, by rw [u.blk b hlt hb]; exact h, hf⟩

theorem Blk.cell {w : World} {b : Nat} {arr : Array Value} (h : Blk w b arr) (o : Nat) : w.cell? ⟨b, o, none⟩ = arr[o]? := by
  obtain ⟨T, fz, h, _⟩ := h
  simp [World.cell?, h]

theorem Blk.frozen {w : World} {b : Nat} {arr : Array Value} (h : Blk w b arr) {o : Nat} (ho : o < arr.size) : w.frozen? ⟨b, o, none⟩ = false := by
  obtain ⟨T, fz, h, hf⟩ := h
  simp only [World.frozen?, h, Bool.and_eq_false_iff, decide_eq_false_iff_not]
  omega

@[simp] theorem drw_heap (w : World) : (drw w).heap = w.heap := rfl
@[simp] theorem drw_cell (w : World) (a : Addr) : (drw w).cell? a = w.cell? a := rfl
theorem drw_upd (w : World) : Upd [] w (drw w) := ⟨rfl, rfl, rfl, Nat.le_refl _, fun _ _ _ => rfl⟩
theorem Blk.drw {w : World} {b : Nat} {arr : Array Value} (h : Blk w b arr) : Blk (drw w) b arr := h

theorem setCell_upd (w : World) (b o : Nat) (v : Value) : Upd [b] w (w.setCell ⟨b, o, none⟩ v) := by
  refine ⟨rfl, rfl, rfl, by simp [World.setCell], fun k _ hk => ?_⟩
  simp only [List.mem_singleton] at hk
  simp only [World.setCell, Array.getElem?_modify]
  rw [if_neg (fun e => hk e.symm)]

theorem Blk.set {w : World} {b : Nat} {arr : Array Value} (h : Blk w b arr) (o : Nat) (v : Value) : Blk (w.setCell ⟨b, o, none⟩ v) b (arr.setIfInBounds o v) := by
  obtain ⟨T, fz, h, hf⟩ := h
  refine ⟨T, fz, ?_, by simpa using hf⟩
  simp [World.setCell, Array.getElem?_modify, h]

/-- A store into a block that is known. -/
theorem St_rule {w : World} {b o : Nat} {arr : Array Value} {v : Value} {K : World → Prop} (h : Blk w b arr) (ho : o < arr.size) (hv : v.oneCell' = true)
    (hK : ∀ w', Upd [b] w w' → Blk w' b (arr.setIfInBounds o v) → K w') : St w ⟨b, o, none⟩ v K :=
  ⟨hv, ⟨arr[o], by rw [h.cell]; simp [ho]⟩, h.frozen ho, hK _ (setCell_upd w b o v) (h.set o v)⟩

theorem push_upd (w : World) (o : Obj) : Upd [] w { w with heap := w.heap.push o } := by
  refine ⟨rfl, rfl, rfl, by simp, fun k hk _ => ?_⟩
  show (w.heap.push o)[k]? = _
  rw [Array.getElem?_push, if_neg (by omega)]

/-- A new block. -/
theorem New_rule {w : World} {arr : Array Value} {T : TypeId} {K : Nat → World → Prop}
    (hK : ∀ b w', b = w.heap.size → Upd [] w w' → Blk w' b arr → K b w') : New w (.cells arr T) K := by
  refine hK _ _ rfl (push_upd w _) ⟨T, (0, 0), ?_, .inl (Nat.le_refl _)⟩
  show (w.heap.push _)[_]? = _
  simp

theorem New_map {w : World} {K : Nat → World → Prop}
    (hK : ∀ b w', b = w.heap.size → Upd [] w w' → w'.heap[b]? = some (.map #[] 0) → K b w') : New w (.map #[] 0) K := by
  refine hK _ _ rfl (push_upd w _) ?_
  show (w.heap.push _)[_]? = _
  simp

/-! ## Slices -/

/-- A slice value's parts: n elements of sz cells each, the cells cs; the blocks that it lies in. -/
def SlAt (w : World) (sz : Nat) (p : Option Addr) (n c : Nat) (cs : List Value) (F : List Nat) : Prop :=
  cs.length = n * sz ∧ n ≤ c ∧
  ((p = none ∧ c = 0 ∧ F = []) ∨
   (∃ b off arr, p = some ⟨b, off, none⟩ ∧ F = [b] ∧ Blk w b arr ∧ off + c * sz ≤ arr.size ∧ ∀ i, i < n * sz → arr[off + i]? = cs[i]?))

theorem SlAt.nil (w : World) (sz : Nat) : SlAt w sz none 0 0 [] [] := ⟨by simp, Nat.le_refl _, .inl ⟨rfl, rfl, rfl⟩⟩

theorem SlAt.inn {w : World} {sz : Nat} {p : Option Addr} {n c : Nat} {cs : List Value} {F : List Nat} (h : SlAt w sz p n c cs F) : In F w := by
  rcases h.2.2 with ⟨_, _, rfl⟩ | ⟨b, off, arr, _, rfl, hb, _⟩
  · intro k hk; cases hk
  · intro k hk; rw [List.mem_singleton] at hk; rw [hk]; exact hb.lt

theorem SlAt.upd {w w' : World} {sz : Nat} {p : Option Addr} {n c : Nat} {cs : List Value} {F G : List Nat} (h : SlAt w sz p n c cs F) (u : Upd G w w') (hd : Dis F G) : SlAt w' sz p n c cs F := by
  refine ⟨h.1, h.2.1, ?_⟩
  rcases h.2.2 with h1 | ⟨b, off, arr, hp, rfl, hb, hs, hc⟩
  · exact .inl h1
  · exact .inr ⟨b, off, arr, hp, rfl, hb.upd u (hd b (by simp)), hs, hc⟩

theorem SlAt.drw {w : World} {sz : Nat} {p : Option Addr} {n c : Nat} {cs : List Value} {F : List Nat} (h : SlAt w sz p n c cs F) : SlAt (drw w) sz p n c cs F := h.upd (drw_upd w) (fun _ _ h => by cases h)

/-- The elements' cells. -/
theorem SlAt.cell {w : World} {sz : Nat} {p : Option Addr} {n c : Nat} {cs : List Value} {F : List Nat} (h : SlAt w sz p n c cs F) {i : Nat} (hi : i < n * sz) :
    ∃ b off, p = some ⟨b, off, none⟩ ∧ w.cell? ⟨b, off + i, none⟩ = cs[i]? := by
  rcases h.2.2 with ⟨_, hc, _⟩ | ⟨b, off, arr, hp, _, hb, _, hc⟩
  · have : n = 0 := by have := h.2.1; omega
    subst this; simp at hi
  · exact ⟨b, off, hp, by rw [hb.cell]; exact hc i hi⟩

/-- The lowest ones. -/
theorem SlAt.take {w : World} {sz : Nat} {p : Option Addr} {n c : Nat} {cs : List Value} {F : List Nat} (h : SlAt w sz p n c cs F) {k : Nat} (hk : k ≤ n) : SlAt w sz p k c (cs.take (k * sz)) F := by
  have hkn : k * sz ≤ n * sz := Nat.mul_le_mul_right _ hk
  refine ⟨by rw [List.length_take, h.1]; omega, Nat.le_trans hk h.2.1, ?_⟩
  rcases h.2.2 with h1 | ⟨b, off, arr, hp, hF, hb, hs, hc⟩
  · exact .inl h1
  · refine .inr ⟨b, off, arr, hp, hF, hb, hs, fun i hi => ?_⟩
    rw [hc i (by omega), List.getElem?_take, if_pos hi]

/-- Those from a place on. -/
theorem SlAt.drop {w : World} {sz : Nat} {p : Option Addr} {n c : Nat} {cs : List Value} {F : List Nat} (h : SlAt w sz p n c cs F) {k : Nat} (hk : k ≤ n) :
    SlAt w sz (adv p c k sz) (n - k) (c - k) (cs.drop (k * sz)) F := by
  have hkn : k * sz ≤ n * sz := Nat.mul_le_mul_right _ hk
  have h21 := h.2.1
  refine ⟨by rw [List.length_drop, h.1, Nat.sub_mul], by omega, ?_⟩
  rcases h.2.2 with ⟨rfl, rfl, rfl⟩ | ⟨b, off, arr, rfl, rfl, hb, hs, hc⟩
  · refine .inl ⟨?_, by omega, rfl⟩
    unfold adv; split <;> rfl
  · unfold adv
    split
    · rename_i hck
      subst hck
      have : n = c := by omega
      subst this
      refine .inr ⟨b, off, arr, rfl, rfl, hb, by simp at hs ⊢; omega, fun i hi => ?_⟩
      simp at hi
    · refine .inr ⟨b, off + k * sz, arr, by simp [addN], rfl, hb, ?_, fun i hi => ?_⟩
      · have : k * sz + (c - k) * sz = c * sz := by rw [← Nat.add_mul]; congr 1; omega
        omega
      · have : k * sz + (n - k) * sz = n * sz := by rw [← Nat.add_mul]; congr 1; omega
        rw [Nat.add_assoc, hc (k * sz + i) (by omega), List.getElem?_drop]

/-- The cells of the first n elements, read. -/
theorem run_loadRow {P : Program} {w : World} {b off : Nat} {cs : List Value} (h : ∀ i, i < cs.length → w.cell? ⟨b, off + i, none⟩ = cs[i]?) :
    (loadCells ⟨b, off, none⟩ cs.length).run P w = .ok cs.toArray w := by
  have := run_loadCellsFrom (P := P) (w := w) (a := ⟨b, off, none⟩) cs.length 0 #[] cs rfl (fun j hj => by
    have := h j hj
    rw [addN, Nat.zero_add, this]; simp [hj])
  simpa [loadCells] using this

theorem run_firstCells {P : Program} {w : World} {sz : Nat} {p : Option Addr} {n c : Nat} {cs : List Value} {F : List Nat} (h : SlAt w sz p n c cs F) :
    (Builtin.firstCells sz n (.slice p n c)).run P w = .ok cs.toArray w := by
  rcases h.2.2 with ⟨rfl, hc, _⟩ | ⟨b, off, arr, rfl, _, hb, _, hc⟩
  · have hn : n = 0 := by have := h.2.1; omega
    subst hn
    have : cs = [] := by have := h.1; simpa using this
    subst this
    simp [Builtin.firstCells]
  · simp only [Builtin.firstCells]
    rw [← h.1]
    exact run_loadRow fun i hi => by rw [hb.cell]; exact hc i (by rw [← h.1]; exact hi)

/-- A row of cells is stored. -/
theorem run_storeRow {P : Program} {b : Nat} : ∀ (vs : List Value) (off i : Nat) (w : World) (arr : Array Value), Blk w b arr → off + i + vs.length ≤ arr.size → (∀ v ∈ vs, v.oneCell' = true) →
    ∃ w' arr', (storeCells ⟨b, off, none⟩ vs i).run P w = .ok () w' ∧ Upd [b] w w' ∧ Blk w' b arr' ∧ arr'.size = arr.size ∧
      (∀ j, j < vs.length → arr'[off + i + j]? = vs[j]?) ∧ (∀ j, (j < off + i ∨ off + i + vs.length ≤ j) → arr'[j]? = arr[j]?)
  | [], off, i, w, arr, hb, _, _ => ⟨w, arr, rfl, Upd.refl _ _, hb, rfl, fun j hj => absurd hj (by simp), fun j _ => rfl⟩
  | v :: vs, off, i, w, arr, hb, hs, hv => by
    simp only [List.length_cons] at hs
    have hlt : off + i < arr.size := by omega
    obtain ⟨w', arr', hr, hu, hb', hsz, h1, h2⟩ := run_storeRow (P := P) vs off (i + 1) _ _ (hb.set (off + i) v) (by simp; omega) (fun x hx => hv x (by simp [hx]))
    refine ⟨w', arr', ?_, (setCell_upd w b (off + i) v).both hu, hb', by simpa using hsz, fun j hj => ?_, fun j hj => ?_⟩
    · simp [storeCells, run_store P w _ _ _ (hv v (by simp)), addN, hb.cell, hb.frozen hlt, hlt, hr]
    · cases j with
      | zero => rw [Nat.add_zero, h2 (off + i) (.inl (by omega))]; simp [hlt]
      | succ j =>
        have := h1 j (by simpa using hj)
        rw [show off + i + (j + 1) = off + (i + 1) + j by omega, this]
        simp
    · simp only [List.length_cons] at hj
      rw [h2 j (by omega), Array.getElem?_setIfInBounds_ne (by omega)]

end Go.D

/- The rules of append, of slices that are built, made, cleared, copied. -/
set_option linter.unusedSimpArgs false
set_option linter.unusedVariables false
namespace Go.D

/-- What a slice's element type is: its cells, its bytes, its zero cells. -/
structure ElemOf (P : Program) (S E : TypeId) (sz by_ : Nat) (zc : Array Value) : Prop where
  und : P.underlying S = some (.slice E)
  info : ∃ i, P.info? E = some i ∧ i.size = sz ∧ i.bytes = by_ ∧ ∃ z, i.zero = some z ∧ z.cells = zc
  zsz : zc.size = sz
  pos : 0 < sz
  bpos : 0 < by_
  bmax : by_ ≤ 4096
  one : ∀ v ∈ zc.toList, v.oneCell' = true

/-- The same, held by the kernel. -/
def elemB (P : Program) (S E sz by_ : Nat) (zc : List Value) : Bool :=
  match P.underlying S, P.info? E with
  | some (.slice E'), some i => Nat.beq E' E && Nat.beq i.size sz && Nat.beq i.bytes by_ && Nat.blt 0 sz && Nat.blt 0 by_ && Nat.ble by_ 4096 && Nat.beq zc.length sz && zc.all (fun v => v.oneCell')
  | _, _ => false

theorem elemOf_mk {P : Program} {S E sz by_ : Nat} {zc : List Value} (h : elemB P S E sz by_ zc = true) {i : TypeInfo} {z : Value} (hi : P.info? E = some i) (hz : i.zero = some z) (hzc : z.cells = zc.toArray) :
    ElemOf P S E sz by_ zc.toArray := by
  unfold elemB at h
  split at h
  · rename_i E' i' hu hi'
    simp only [Bool.and_eq_true, List.all_eq_true] at h
    obtain ⟨⟨⟨⟨⟨⟨⟨h1, h2⟩, h3⟩, h4⟩, h5⟩, h8⟩, h6⟩, h7⟩ := h
    obtain rfl := Nat.eq_of_beq_eq_true h1
    obtain rfl : i' = i := by rw [hi] at hi'; simpa using hi'.symm
    exact ⟨hu, ⟨i', hi, Nat.eq_of_beq_eq_true h2, Nat.eq_of_beq_eq_true h3, z, hz, hzc⟩, by simpa using Nat.eq_of_beq_eq_true h6, Nat.le_of_ble_eq_true h4, Nat.le_of_ble_eq_true h5, Nat.le_of_ble_eq_true h8, by simpa using h7⟩
  · cases h

theorem size_zeroCells (zc : Array Value) (n : Nat) : (Builtin.zeroCells zc n).size = n * zc.size := by simp [Builtin.zeroCells]

theorem growBy_le (need : Nat) : ∀ (r c : Nat), c ≤ 2 * need → Builtin.growBy need r c ≤ 2 * need + 192
  | 0, c, h => by simp [Builtin.growBy]; omega
  | r + 1, c, h => by
    unfold Builtin.growBy
    split
    · omega
    · rename_i hlt
      by_cases h2 : c + (c + 768) / 4 ≤ 2 * need
      · exact growBy_le need r _ h2
      · have : Builtin.growBy need r (c + (c + 768) / 4) = c + (c + 768) / 4 := by
          cases r with
          | zero => rfl
          | succ r => unfold Builtin.growBy; rw [if_pos (by omega)]
        rw [this]; omega

theorem nextslicecap_le (need old : Nat) (h : old < need) : Builtin.nextslicecap need old ≤ 2 * need + 192 := by
  unfold Builtin.nextslicecap
  split
  · omega
  · split
    · omega
    · exact growBy_le need 4 old (by omega)

/-- What append comes to, at a slice whose blocks are ours: the elements, and the new ones behind. -/
theorem App_rule {P : Program} {S E ty : TypeId} {sz by_ : Nat} {zc : Array Value} (hE : ElemOf P S E sz by_ zc) {w : World} {p q : Option Addr} {n c m d : Nat} {xs ys : List Value} {F G : List Nat}
    (hS : SlAt w sz p n c xs F) (hT : SlAt w sz q m d ys G) (hone : ∀ v ∈ ys, v.oneCell' = true) (hb : (n + m) * by_ ≤ 2 ^ 46) {K : Option Addr → Nat → Nat → World → Prop}
    (hK : ∀ p' c' F' w', SlAt w' sz p' (n + m) c' (xs ++ ys) F' → Upd F w w' → Sub F' F w → K p' (n + m) c' w') :
    App P #[S, S] ty #[.slice p n c, .slice q m d] w K := by
  obtain ⟨i, hi, hsz, hby, z, hz, hzc⟩ := hE.info
  have hbp := hE.bpos
  have hnm : n + m ≤ 2 ^ 46 := by
    have : (n + m) * 1 ≤ (n + m) * by_ := Nat.mul_le_mul_left _ hbp
    omega
  have hzer : ((match P.underlying S with | some d => pure d | none => stuck "no such type" : Sem TypeDesc)).run P w = .ok (.slice E) w := by rw [hE.und]; rfl
  unfold App Run
  by_cases hroom : n + m ≤ c
  · -- there is room
    have hw : ∃ p' w' F', (Builtin.append_ #[S, S] ty #[.slice p n c, .slice q m d]).run P w = .ok (.slice p' (n + m) c) w' ∧ SlAt w' sz p' (n + m) c (xs ++ ys) F' ∧ Upd F w w' ∧ Sub F' F w := by
      rcases hS.2.2 with ⟨rfl, rfl, rfl⟩ | ⟨b, off, arr, rfl, rfl, hblk, hs, hc⟩
      · obtain rfl : n = 0 := by omega
        obtain rfl : m = 0 := by omega
        have hxs : xs = [] := by have := hS.1; simpa using this
        have hys : ys = [] := by have := hT.1; simpa using this
        subst hxs; subst hys
        refine ⟨none, w, [], ?_, SlAt.nil w sz, Upd.refl _ _, Sub.refl _ _⟩
        have := run_firstCells (P := P) hT
        simp [Builtin.append_, run_underlyingD hE.und, sizeOf, typeInfo, hi, hsz, Builtin.lenOf, this]
      · have hy := run_firstCells (P := P) hT
        have hmul : (n + m) * sz = n * sz + m * sz := Nat.add_mul ..
        have hle : (n + m) * sz ≤ c * sz := Nat.mul_le_mul_right _ hroom
        obtain ⟨w', arr', hr, hu, hb', hsz', h1, h2⟩ := run_storeRow (P := P) ys (off + n * sz) 0 w arr hblk (by rw [hT.1]; omega) hone
        refine ⟨some ⟨b, off, none⟩, w', [b], ?_, ?_, hu, Sub.refl _ _⟩
        · simp [Builtin.append_, run_underlyingD hE.und, sizeOf, typeInfo, hi, hsz, Builtin.lenOf, hroom, hy, addN, hr]
        · refine ⟨by rw [List.length_append, hS.1, hT.1, hmul], hroom, .inr ⟨b, off, arr', rfl, rfl, hb', by omega, fun i hi => ?_⟩⟩
          rw [List.getElem?_append]
          by_cases hin : i < n * sz
          · rw [if_pos (by rw [hS.1]; exact hin), h2 (off + i) (.inl (by omega))]
            exact hc i hin
          · rw [if_neg (by rw [hS.1]; exact hin)]
            have := h1 (i - n * sz) (by rw [hT.1]; omega)
            rw [← show off + n * sz + 0 + (i - n * sz) = off + i by omega, this, hS.1]
    obtain ⟨p', w', F', hrun, hsl, hu, hsub⟩ := hw
    rw [hrun]
    exact ⟨p', n + m, c, rfl, hK p' c F' w' hsl hu hsub⟩
  · -- a new array
    have hx := run_firstCells (P := P) hS
    have hy := run_firstCells (P := P) hT
    have hbm := hE.bmax
    have hcap : ¬ Builtin.nextslicecap (n + m) c * by_ > 2 ^ 48 := by
      have h1 := nextslicecap_le (n + m) c (by omega)
      have h2 : Builtin.nextslicecap (n + m) c * by_ ≤ (2 * (n + m) + 192) * by_ := Nat.mul_le_mul_right _ h1
      have h3 : (2 * (n + m) + 192) * by_ = 2 * ((n + m) * by_) + 192 * by_ := by rw [Nat.add_mul, Nat.mul_assoc]
      have h4 : 192 * by_ ≤ 192 * 4096 := Nat.mul_le_mul_left _ hbm
      omega
    have hb0 : by_ ≠ 0 := by omega
    have hzv : ∀ w, (zeroValue E).run P w = .ok z w := fun w => by simp [zeroValue, typeInfo, hi, hz]
    have hforced : ∀ a b t, (Question.appendCap a b t).forced = false := fun _ _ _ => rfl
    -- how much there is room for then
    obtain ⟨N, hN⟩ : ∃ N, N = Question.cut (.appendCap (n + m) c E) (w.tape w.drawn (.appendCap (n + m) c E)) := ⟨_, rfl⟩
    have hNge : n + m ≤ N := by rw [hN]; simp only [Question.cut]; omega
    obtain ⟨arr, harr⟩ : ∃ arr : Array Value, arr = xs.toArray ++ (ys.toArray ++ Builtin.zeroCells z.cells (N - (n + m))) := ⟨_, rfl⟩
    have hu0 : Upd [] w w.drew := drw_upd w
    have hrun : (Builtin.append_ #[S, S] ty #[.slice p n c, .slice q m d]).run P w = .ok (.slice (some ⟨w.heap.size, 0, none⟩) (n + m) N) { w.drew with heap := w.drew.heap.push (.cells arr E) } := by
      have hx1 := run_firstCells (P := P) (SlAt.drw hS)
      have hy1 := run_firstCells (P := P) (SlAt.drw hT)
      have e1 : drw w = w.drew := rfl
      rw [e1] at hx1 hy1
      rw [harr, hN]
      simp [Builtin.append_, run_underlyingD hE.und, sizeOf, typeInfo, hi, hsz, hby, Builtin.lenOf, hroom, hcap, hb0, hzv, hforced, hx1, hy1, newRow]
      rfl
    rw [hrun]
    have hblk : Blk ({ w.drew with heap := w.drew.heap.push (.cells arr E) } : World) w.heap.size arr := by
      refine ⟨E, (0, 0), ?_, .inl (Nat.le_refl _)⟩
      show (w.heap.push _)[_]? = _
      simp
    have hmul : (n + m) * sz = n * sz + m * sz := Nat.add_mul ..
    have hNmul : N * sz = (n + m) * sz + (N - (n + m)) * sz := by rw [← Nat.add_mul]; congr 1; omega
    have hasz : arr.size = N * sz := by
      rw [harr, hNmul]
      simp only [Array.size_append, List.size_toArray, size_zeroCells, hS.1, hT.1, hzc, hE.zsz]
      omega
    refine ⟨_, _, _, rfl, hK _ N [w.heap.size] _ ?_ ((hu0.before (push_upd w.drew _)).mono (by simp)) (fun k hk => .inr (by simp at hk; omega))⟩
    refine ⟨by rw [List.length_append, hS.1, hT.1, hmul], hNge, .inr ⟨w.heap.size, 0, arr, rfl, rfl, hblk, by omega, fun i hi => ?_⟩⟩
    have hxl := hS.1
    have hyl := hT.1
    rw [Nat.zero_add, harr, List.getElem?_append, Array.getElem?_append]
    by_cases hin : i < n * sz
    · simp [hxl, hin]
    · have h2 : i - n * sz < m * sz := by omega
      simp [hxl, hin, Array.getElem?_append, hyl, h2]

/-- The cells of n zero elements. -/
def zeroL (zc : Array Value) (n : Nat) : List Value := (Builtin.zeroCells zc n).toList

theorem zeroL_length (zc : Array Value) (n : Nat) : (zeroL zc n).length = n * zc.size := by simp [zeroL, Builtin.zeroCells]

theorem zeroL_one (z : Value) (n : Nat) : zeroL #[z] n = List.replicate n z := by
  simp only [zeroL, Builtin.zeroCells]
  apply List.ext_getElem
  · simp
  · intro i h1 h2
    simp [Nat.mod_one]

theorem zeroL_mem {zc : Array Value} {n : Nat} {v : Value} (hz : 0 < zc.size) (h : v ∈ zeroL zc n) : v ∈ zc.toList := by
  simp only [zeroL, Builtin.zeroCells, Array.toList_map, List.mem_map] at h
  obtain ⟨i, _, rfl⟩ := h
  have := Nat.mod_lt i hz
  simp [this]

theorem i64w (k : Nat) (hk : k ≤ 2 ^ 46) : IntKind.i64.wrap (k : Int) = k := by
  have hf : ((k : Int) % 2 ^ 64 ≥ 2 ^ (64 - 1)) = False := by apply eq_false; omega
  simp only [IntKind.wrap, IntKind.bits, IntKind.signed, hf]
  simp; omega

/-- Append of so many zero elements. -/
theorem AppZ_rule {P : Program} {S E I ty : TypeId} {sz by_ : Nat} {zc : Array Value} (hE : ElemOf P S E sz by_ zc) (hI : ∃ k, P.underlying I = some (.int k)) {w : World} {p : Option Addr} {n c : Nat} {m : Int} {xs : List Value} {F : List Nat}
    (hS : SlAt w sz p n c xs F) (hm0 : 0 ≤ m) (hb : (n + m.toNat) * by_ ≤ 2 ^ 46) {K : Option Addr → Nat → Nat → World → Prop}
    (hK : ∀ p' c' F' w', SlAt w' sz p' (n + m.toNat) c' (xs ++ zeroL zc m.toNat) F' → Upd F w w' → Sub F' F w → K p' (n + m.toNat) c' w') :
    App P #[S, I] ty #[.slice p n c, .int .i64 m] w K := by
  obtain ⟨m, rfl⟩ := Int.eq_ofNat_of_zero_le hm0
  simp only [Int.toNat_natCast] at hb hK
  obtain ⟨i, hi, hsz, hby, z, hz, hzc⟩ := hE.info
  obtain ⟨ki, hI⟩ := hI
  have hbp := hE.bpos
  have hszp := hE.pos
  have hbm := hE.bmax
  have hb0 : by_ ≠ 0 := by omega
  have hnm : n + m ≤ 2 ^ 46 := by
    have : (n + m) * 1 ≤ (n + m) * by_ := Nat.mul_le_mul_left _ hbp
    omega
  have hmb : m * by_ ≤ (n + m) * by_ := Nat.mul_le_mul_right _ (by omega)
  have hzv : ∀ w, (zeroValue E).run P w = .ok z w := fun w => by simp [zeroValue, typeInfo, hi, hz]
  have hwrap : IntKind.i64.wrap (m : Int) = m := i64w m (by omega)
  have hneg : ¬ ((m : Int) < 0) := by omega
  have hmake : ¬ (281474976710656 < (m : Int) * (by_ : Int)) := by
    have : ((m * by_ : Nat) : Int) = (m : Int) * by_ := by simp
    omega
  have hmul : (n + m) * sz = n * sz + m * sz := Nat.add_mul ..
  have hzl : (zeroL zc m).length = m * sz := by rw [zeroL_length, hE.zsz]
  unfold App Run
  by_cases hroom : n + m ≤ c
  · have hw : ∃ p' w' F', (Builtin.append_ #[S, I] ty #[.slice p n c, .int .i64 (m : Int)]).run P w = .ok (.slice p' (n + m) c) w' ∧ SlAt w' sz p' (n + m) c (xs ++ zeroL zc m) F' ∧ Upd F w w' ∧ Sub F' F w := by
      rcases hS.2.2 with ⟨rfl, rfl, rfl⟩ | ⟨b, off, arr, rfl, rfl, hblk, hs, hc⟩
      · obtain rfl : n = 0 := by omega
        obtain rfl : m = 0 := by omega
        have hxs : xs = [] := by have := hS.1; simpa using this
        subst hxs
        refine ⟨none, w, [], ?_, by simpa [zeroL, Builtin.zeroCells] using SlAt.nil w sz, Upd.refl _ _, Sub.refl _ _⟩
        have e0 : IntKind.i64.wrap 0 = 0 := by simpa using hwrap
        simp [Builtin.append_, run_underlyingD hE.und, run_underlyingD hI, sizeOf, typeInfo, hi, hsz, asInt, asIntOf, e0]
      · have hle : (n + m) * sz ≤ c * sz := Nat.mul_le_mul_right _ hroom
        obtain ⟨w', arr', hr, hu, hb', hsz', h1, h2⟩ := run_storeRow (P := P) (zeroL zc m) (off + n * sz) 0 w arr hblk (by rw [hzl]; omega) (fun v hv => hE.one v (zeroL_mem (by rw [hE.zsz]; exact hszp) hv))
        refine ⟨some ⟨b, off, none⟩, w', [b], ?_, ?_, hu, Sub.refl _ _⟩
        · by_cases hm : m = 0
          · subst hm
            have e1 : w = w' := by simpa [zeroL, Builtin.zeroCells, storeCells] using hr
            have e0 : IntKind.i64.wrap 0 = 0 := by simpa using hwrap
            have h3 : n ≤ c := by omega
            simp [Builtin.append_, run_underlyingD hE.und, run_underlyingD hI, sizeOf, typeInfo, hi, hsz, asInt, asIntOf, e0, h3, storeCells, e1]
          · have h4 : m * sz ≠ 0 := Nat.mul_ne_zero hm (by omega)
            have h5 : ¬ (m = 0 ∨ sz = 0) := by omega
            unfold zeroL at hr
            simp [Builtin.append_, run_underlyingD hE.und, run_underlyingD hI, sizeOf, typeInfo, hi, hsz, hby, asInt, asIntOf, hwrap, hneg, hmake, hroom, h4, h5, hzv, hzc, addN, hr]
        · refine ⟨by rw [List.length_append, hS.1, hzl, hmul], hroom, .inr ⟨b, off, arr', rfl, rfl, hb', by omega, fun i hi => ?_⟩⟩
          rw [List.getElem?_append]
          by_cases hin : i < n * sz
          · rw [if_pos (by rw [hS.1]; exact hin), h2 (off + i) (.inl (by omega))]
            exact hc i hin
          · rw [if_neg (by rw [hS.1]; exact hin)]
            have := h1 (i - n * sz) (by rw [hzl]; omega)
            rw [← show off + n * sz + 0 + (i - n * sz) = off + i by omega, this, hS.1]
    obtain ⟨p', w', F', hrun, hsl, hu, hsub⟩ := hw
    rw [hrun]
    exact ⟨p', n + m, c, rfl, hK p' c F' w' hsl hu hsub⟩
  · have hcap : ¬ Builtin.nextslicecap (n + m) c * by_ > 2 ^ 48 := by
      have h1 := nextslicecap_le (n + m) c (by omega)
      have h2 : Builtin.nextslicecap (n + m) c * by_ ≤ (2 * (n + m) + 192) * by_ := Nat.mul_le_mul_right _ h1
      have h3 : (2 * (n + m) + 192) * by_ = 2 * ((n + m) * by_) + 192 * by_ := by rw [Nat.add_mul, Nat.mul_assoc]
      have h4 : 192 * by_ ≤ 192 * 4096 := Nat.mul_le_mul_left _ hbm
      omega
    have hnb : ¬ (((n + m : Nat) : Int) > IntKind.i64.max) := by simp [IntKind.max, IntKind.signed, IntKind.bits]; omega
    have hnb' : ¬ (9223372036854775807 < (n : Int) + (m : Int)) := by omega
    have hforced : ∀ a b t, (Question.appendCap a b t).forced = false := fun _ _ _ => rfl
    obtain ⟨N, hN⟩ : ∃ N, N = Question.cut (.appendCap (n + m) c E) (w.tape w.drawn (.appendCap (n + m) c E)) := ⟨_, rfl⟩
    have hNge : n + m ≤ N := by rw [hN]; simp only [Question.cut]; omega
    obtain ⟨arr, harr⟩ : ∃ arr : Array Value, arr = xs.toArray ++ (Builtin.zeroCells zc m ++ Builtin.zeroCells z.cells (N - (n + m))) := ⟨_, rfl⟩
    have hu0 : Upd [] w w.drew := drw_upd w
    have hrun : (Builtin.append_ #[S, I] ty #[.slice p n c, .int .i64 (m : Int)]).run P w = .ok (.slice (some ⟨w.heap.size, 0, none⟩) (n + m) N) { w.drew with heap := w.drew.heap.push (.cells arr E) } := by
      have hx1 := run_firstCells (P := P) (SlAt.drw hS)
      have e1 : drw w = w.drew := rfl
      rw [e1] at hx1
      rw [harr, hN]
      by_cases hm : m = 0
      · subst hm
        exact absurd (by have := hS.2.1; omega) hroom
      · have h5 : ¬ (m = 0 ∨ sz = 0) := by omega
        have h4 : m * sz ≠ 0 := Nat.mul_ne_zero hm (by omega)
        simp [Builtin.append_, run_underlyingD hE.und, run_underlyingD hI, sizeOf, typeInfo, hi, hsz, hby, asInt, asIntOf, hwrap, hneg, hmake, hroom, h4, h5, hzv, hzc, hcap, hnb', hb0, hforced, hx1, newRow]
        rfl
    rw [hrun]
    have hblk : Blk ({ w.drew with heap := w.drew.heap.push (.cells arr E) } : World) w.heap.size arr := by
      refine ⟨E, (0, 0), ?_, .inl (Nat.le_refl _)⟩
      show (w.heap.push _)[_]? = _
      simp
    have hNmul : N * sz = (n + m) * sz + (N - (n + m)) * sz := by rw [← Nat.add_mul]; congr 1; omega
    have hasz : arr.size = N * sz := by
      rw [harr, hNmul]
      simp only [Array.size_append, List.size_toArray, size_zeroCells, hS.1, hzc, hE.zsz]
      omega
    refine ⟨_, _, _, rfl, hK _ N [w.heap.size] _ ?_ ((hu0.before (push_upd w.drew _)).mono (by simp)) (fun k hk => .inr (by simp at hk; omega))⟩
    refine ⟨by rw [List.length_append, hS.1, hzl, hmul], hNge, .inr ⟨w.heap.size, 0, arr, rfl, rfl, hblk, by omega, fun i hi => ?_⟩⟩
    have hxl := hS.1
    have hzs : (Builtin.zeroCells zc m).size = m * sz := by rw [size_zeroCells, hE.zsz]
    rw [Nat.zero_add, harr, List.getElem?_append, Array.getElem?_append]
    by_cases hin : i < n * sz
    · simp [hxl, hin]
    · have h2 : i - n * sz < m * sz := by omega
      simp [hxl, hin, Array.getElem?_append, hzs, h2, zeroL]

/-- A slice that is built of its elements. -/
theorem BSl_rule {P : Program} {S E : TypeId} {sz by_ : Nat} {zc : Array Value} (hE : ElemOf P S E sz by_ zc) {w : World} {len : Nat} {ps : List (Nat × Value)} {cs : List Value}
    (hf : Instr.fill (fun i => some (i * sz, sz)) ((Array.range (len * sz)).map (zc[· % zc.size]!)) ps = some cs.toArray) (hl : cs.length = len * sz) (hb : len * sz ≤ 2 ^ 24)
    {K : Option Addr → Nat → Nat → World → Prop}
    (hK : ∀ w', SlAt w' sz (some ⟨w.heap.size, 0, none⟩) len len cs [w.heap.size] → Upd [] w w' → K (some ⟨w.heap.size, 0, none⟩) len len w') : BSl P S len ps w K := by
  obtain ⟨i, hi, hsz, hby, z, hz, hzc⟩ := hE.info
  have hszp := hE.pos
  have hzv : ∀ w, (zeroValue E).run P w = .ok z w := fun w => by simp [zeroValue, typeInfo, hi, hz]
  have hlb : ¬ len * sz > 2 ^ 24 := by omega
  have hrun : (Instr.buildSlice S len ps.toArray).run P w = .ok (.slice (some ⟨w.heap.size, 0, none⟩) len len) { w with heap := w.heap.push (.cells cs.toArray E) } := by
    by_cases h0 : len * sz = 0
    · have hr : ∀ f : Nat → Value, (Array.range 0).map f = #[] := fun f => Array.eq_empty_of_size_eq_zero (by simp)
      rw [h0, hr] at hf
      simp [Instr.buildSlice, run_underlyingD hE.und, sizeOf, typeInfo, hi, hsz, hr, h0, hf, newRow]
    · simp [Instr.buildSlice, run_underlyingD hE.und, sizeOf, typeInfo, hi, hsz, hlb, h0, hzv, hzc]
      simp [hf, newRow]
  unfold BSl Run
  rw [hrun]
  have hblk : Blk ({ w with heap := w.heap.push (.cells cs.toArray E) } : World) w.heap.size cs.toArray := by
    refine ⟨E, (0, 0), ?_, .inl (Nat.le_refl _)⟩
    show (w.heap.push _)[_]? = _
    simp
  exact ⟨_, _, _, rfl, hK _ ⟨hl, Nat.le_refl _, .inr ⟨_, _, _, rfl, rfl, hblk, by simp [hl], fun i hi => by simp⟩⟩ (push_upd w _)⟩

/-- A slice that is made. -/
theorem MkSl_rule {P : Program} {S E : TypeId} {sz by_ : Nat} {zc : Array Value} (hE : ElemOf P S E sz by_ zc) {w : World} {n c : Int} (h0 : 0 ≤ n) (h1 : n ≤ c) (hb : c.toNat * by_ ≤ 2 ^ 46)
    {K : Option Addr → Nat → Nat → World → Prop}
    (hK : ∀ w', SlAt w' sz (some ⟨w.heap.size, 0, none⟩) n.toNat c.toNat (zeroL zc n.toNat) [w.heap.size] → Upd [] w w' → K (some ⟨w.heap.size, 0, none⟩) n.toNat c.toNat w') :
    MkSl P S (.int .i64 n) (.int .i64 c) w K := by
  obtain ⟨n, rfl⟩ := Int.eq_ofNat_of_zero_le h0
  obtain ⟨c, rfl⟩ := Int.eq_ofNat_of_zero_le (show 0 ≤ c by omega)
  simp only [Int.toNat_natCast] at hb hK
  obtain ⟨i, hi, hsz, hby, z, hz, hzc⟩ := hE.info
  have hszp := hE.pos
  have hbp := hE.bpos
  have hzv : ∀ w, (zeroValue E).run P w = .ok z w := fun w => by simp [zeroValue, typeInfo, hi, hz]
  have hc46 : c ≤ 2 ^ 46 := by
    have : c * 1 ≤ c * by_ := Nat.mul_le_mul_left _ hbp
    omega
  have wr : ∀ k : Nat, k ≤ 2 ^ 46 → IntKind.i64.wrap (k : Int) = k := i64w
  have hmake : ¬ ((by_ : Int) * (c : Int) > 2 ^ 48) := by
    have : ((c * by_ : Nat) : Int) = (by_ : Int) * c := by rw [Nat.mul_comm]; simp
    omega
  have t1 : ¬ (281474976710656 < (by_ : Int) * (c : Int)) := by omega
  have t2 : ¬ ((c : Int) < (n : Int)) := by omega
  have t3 : ¬ ((c : Int) < 0) := by omega
  have t4 : ¬ ((n : Int) < 0) := by omega
  have t5 : ¬ (c < n) := by omega
  have harr : ((Array.range (c * sz)).map fun x => zc[x % zc.size]!) = Builtin.zeroCells zc c := by
    simp only [Builtin.zeroCells, hE.zsz]
  have hrun : (Instr.makeSlice S (.int .i64 (n : Int)) (.int .i64 (c : Int))).run P w = .ok (.slice (some ⟨w.heap.size, 0, none⟩) n c) { w with heap := w.heap.push (.cells (Builtin.zeroCells zc c) E) } := by
    by_cases h0 : c = 0
    · subst h0
      obtain rfl : n = 0 := by omega
      have e0 : IntKind.i64.wrap 0 = 0 := wr 0 (by omega)
      have r0 : ∀ f : Nat → Value, (Array.range 0).map f = #[] := fun f => Array.eq_empty_of_size_eq_zero (by simp)
      simp [Instr.makeSlice, run_underlyingD hE.und, asInt, asIntOf, typeInfo, hi, e0, newRow, Builtin.zeroCells, sizeOf, r0]
    · have h5 : c * sz ≠ 0 := Nat.mul_ne_zero h0 (by omega)
      simp [Instr.makeSlice, run_underlyingD hE.und, asInt, asIntOf, typeInfo, hi, hsz, hby, wr c hc46, wr n (by omega), t1, t2, t3, t4, t5, h5, hzv, hzc, newRow, sizeOf]
      rw [← harr]
  unfold MkSl Run
  rw [hrun]
  have hblk : Blk ({ w with heap := w.heap.push (.cells (Builtin.zeroCells zc c) E) } : World) w.heap.size (Builtin.zeroCells zc c) := by
    refine ⟨E, (0, 0), ?_, .inl (Nat.le_refl _)⟩
    show (w.heap.push _)[_]? = _
    simp
  have hle : n * sz ≤ c * sz := Nat.mul_le_mul_right _ (by omega)
  refine ⟨_, _, _, rfl, hK _ ⟨by rw [zeroL_length, hE.zsz], by omega, .inr ⟨_, _, _, rfl, rfl, hblk, by rw [size_zeroCells, hE.zsz]; omega, fun i hi => ?_⟩⟩ (push_upd w _)⟩
  have h6 : i < c * sz := by omega
  simp only [zeroL, Builtin.zeroCells, Nat.zero_add]
  rw [Array.getElem?_eq_getElem (by simp [hE.zsz, h6])]
  simp [hE.zsz, hi]

/-- One element's place, taken. -/
theorem elem_rule {w : World} {sz : Nat} {p : Option Addr} {n c : Nat} {cs : List Value} {F : List Nat} (h : SlAt w sz p n c cs F) {j : Int} (h0 : 0 ≤ j) (h1 : j < (n : Int)) (hsz : 0 < sz) {K : Addr → Prop}
    (hK : ∀ b off arr, p = some ⟨b, off, none⟩ → Blk w b arr → F = [b] → (∀ i, i < n * sz → w.cell? ⟨b, off + i, none⟩ = cs[i]?) → K ⟨b, off, none⟩) : 0 ≤ j ∧ j < (n : Int) ∧ NN p K := by
  refine ⟨h0, h1, ?_⟩
  rcases h.2.2 with ⟨rfl, rfl, rfl⟩ | ⟨b, off, arr, rfl, hF, hb, hs, hc⟩
  · have := h.2.1; omega
  · exact ⟨_, rfl, hK b off arr rfl hb hF fun i hi => by rw [hb.cell]; exact hc i hi⟩

/-- A store into an element's cell. -/
theorem St_elem {w : World} {sz : Nat} {p : Option Addr} {n c : Nat} {cs : List Value} {F : List Nat} (h : SlAt w sz p n c cs F) {b off k : Nat} (hp : p = some ⟨b, off, none⟩) (hk : k < n * sz) {v : Value} (hv : v.oneCell' = true)
    {K : World → Prop} (hK : ∀ w', SlAt w' sz p n c (cs.set k v) F → Upd F w w' → K w') : St w ⟨b, off + k, none⟩ v K := by
  rcases h.2.2 with ⟨rfl, _⟩ | ⟨b', off', arr, hp', hF, hb, hs, hc⟩
  · cases hp
  · have e := hp'.symm.trans hp
    simp only [Option.some.injEq, Addr.mk.injEq, and_true] at e
    obtain ⟨rfl, rfl⟩ := e
    have hle : n * sz ≤ c * sz := Nat.mul_le_mul_right _ h.2.1
    refine St_rule hb (by omega) hv fun w' hu hb' => hK w' ⟨by simpa using h.1, h.2.1, .inr ⟨b', off', _, hp', hF, hb', by simpa using hs, fun i hi => ?_⟩⟩ (by rw [hF]; exact hu)
    by_cases hik : i = k
    · subst hik
      have hlt : off' + i < arr.size := by omega
      rw [List.getElem?_set_self (by rw [h.1]; exact hk)]
      simp [hlt]
    · rw [List.getElem?_set_ne (Ne.symm hik), Array.getElem?_setIfInBounds_ne (by omega)]
      exact hc i hi

end Go.D

/- Small rules that take a formula's words apart. -/
set_option linter.unusedSimpArgs false
set_option linter.unusedVariables false
namespace Go.D

theorem ifT {b : Bool} {A B : Prop} (h : b = true) (k : A) : If b A B := by subst h; rw [If_true]; exact k
theorem ifF {b : Bool} {A B : Prop} (h : b = false) (k : B) : If b A B := by subst h; rw [If_false]; exact k
theorem ifC {b : Bool} {A B : Prop} (h : b = true → A) (k : b = false → B) : If b A B := ⟨h, k⟩

theorem exS {p : Option Addr} {n c : Nat} {Q : Option Addr → Nat → Nat → Prop} : (∃ a b d, some (Value.slice p n c) = some (.slice a b d) ∧ Q a b d) = Q p n c := by
  apply propext; constructor
  · rintro ⟨a, b, d, h, q⟩; cases h; exact q
  · intro q; exact ⟨p, n, c, rfl, q⟩
theorem exI {k : IntKind} {v : Int} {Q : Int → Prop} : (∃ x, some (Value.int k v) = some (.int k x) ∧ Q x) = Q v := by
  apply propext; constructor
  · rintro ⟨a, h, q⟩; cases h; exact q
  · intro q; exact ⟨v, rfl, q⟩
theorem exB {v : Bool} {Q : Bool → Prop} : (∃ x, some (Value.bool v) = some (.bool x) ∧ Q x) = Q v := by
  apply propext; constructor
  · rintro ⟨a, h, q⟩; cases h; exact q
  · intro q; exact ⟨v, rfl, q⟩
theorem exP {v : Option Addr} {Q : Option Addr → Prop} : (∃ x, some (Value.pointer v) = some (.pointer x) ∧ Q x) = Q v := by
  apply propext; constructor
  · rintro ⟨a, h, q⟩; cases h; exact q
  · intro q; exact ⟨v, rfl, q⟩
theorem exM {v : Option Nat} {Q : Option Nat → Prop} : (∃ x, some (Value.map v) = some (.map x) ∧ Q x) = Q v := by
  apply propext; constructor
  · rintro ⟨a, h, q⟩; cases h; exact q
  · intro q; exact ⟨v, rfl, q⟩
theorem exStr {v : ByteArray} {Q : ByteArray → Prop} : (∃ x, some (Value.string v) = some (.string x) ∧ Q x) = Q v := by
  apply propext; constructor
  · rintro ⟨a, h, q⟩; cases h; exact q
  · intro q; exact ⟨v, rfl, q⟩
theorem exV {v : Value} {Q : Value → Prop} : (∃ x, some v = some x ∧ Q x) = Q v := by
  apply propext; constructor
  · rintro ⟨a, h, q⟩; cases h; exact q
  · intro q; exact ⟨v, rfl, q⟩

theorem a0 {α : Type} {a : α} {l : List α} : (a :: l).toArray[0]? = some a := by simp
theorem a1 {α : Type} {a b : α} {l : List α} : (a :: b :: l).toArray[1]? = some b := by simp
theorem a2 {α : Type} {a b c : α} {l : List α} : (a :: b :: c :: l).toArray[2]? = some c := by simp
theorem a3 {α : Type} {a b c d : α} {l : List α} : (a :: b :: c :: d :: l).toArray[3]? = some d := by simp
theorem a4 {α : Type} {a b c d e : α} {l : List α} : (a :: b :: c :: d :: e :: l).toArray[4]? = some e := by simp
theorem a5 {α : Type} {a b c d e f : α} {l : List α} : (a :: b :: c :: d :: e :: f :: l).toArray[5]? = some f := by simp
theorem a6 {α : Type} {a b c d e f g : α} {l : List α} : (a :: b :: c :: d :: e :: f :: g :: l).toArray[6]? = some g := by simp
theorem a7 {α : Type} {a b c d e f g h : α} {l : List α} : (a :: b :: c :: d :: e :: f :: g :: h :: l).toArray[7]? = some h := by simp
theorem a8 {α : Type} {x0 x1 x2 x3 x4 x5 x6 x7 x8 : α} {l : List α} : (x0 :: x1 :: x2 :: x3 :: x4 :: x5 :: x6 :: x7 :: x8 :: l).toArray[8]? = some x8 := by simp
theorem a9 {α : Type} {x0 x1 x2 x3 x4 x5 x6 x7 x8 x9 : α} {l : List α} : (x0 :: x1 :: x2 :: x3 :: x4 :: x5 :: x6 :: x7 :: x8 :: x9 :: l).toArray[9]? = some x9 := by simp
theorem a10 {α : Type} {x0 x1 x2 x3 x4 x5 x6 x7 x8 x9 x10 : α} {l : List α} : (x0 :: x1 :: x2 :: x3 :: x4 :: x5 :: x6 :: x7 :: x8 :: x9 :: x10 :: l).toArray[10]? = some x10 := by simp
theorem a11 {α : Type} {x0 x1 x2 x3 x4 x5 x6 x7 x8 x9 x10 x11 : α} {l : List α} : (x0 :: x1 :: x2 :: x3 :: x4 :: x5 :: x6 :: x7 :: x8 :: x9 :: x10 :: x11 :: l).toArray[11]? = some x11 := by simp
theorem a12 {α : Type} {x0 x1 x2 x3 x4 x5 x6 x7 x8 x9 x10 x11 x12 : α} {l : List α} : (x0 :: x1 :: x2 :: x3 :: x4 :: x5 :: x6 :: x7 :: x8 :: x9 :: x10 :: x11 :: x12 :: l).toArray[12]? = some x12 := by simp
theorem a13 {α : Type} {x0 x1 x2 x3 x4 x5 x6 x7 x8 x9 x10 x11 x12 x13 : α} {l : List α} : (x0 :: x1 :: x2 :: x3 :: x4 :: x5 :: x6 :: x7 :: x8 :: x9 :: x10 :: x11 :: x12 :: x13 :: l).toArray[13]? = some x13 := by simp

/-- A store, the turns gathered. -/
theorem St_acc {w0 w : World} {b o : Nat} {arr : Array Value} {v : Value} {K : World → Prop} (U : Upd [b] w0 w) (h : Blk w b arr) (ho : o < arr.size) (hv : v.oneCell' = true)
    (hK : ∀ w', Upd [b] w0 w' → Blk w' b (arr.setIfInBounds o v) → K w') : St w ⟨b, o, none⟩ v K :=
  St_rule h ho hv fun w' u hb => hK w' (U.both u) hb

theorem maxI_eq (x y : Int) : maxI x y = max x y := by unfold maxI; split <;> omega

/-- Wrapping nothing. -/
theorem i64id {x : Int} (h0 : -2 ^ 63 ≤ x) (h1 : x < 2 ^ 63) : IntKind.i64.wrap x = x := by
  by_cases h : 0 ≤ x
  · have hf : (x % 2 ^ 64 ≥ 2 ^ (64 - 1)) = False := by apply eq_false; omega
    simp only [IntKind.wrap, IntKind.bits, IntKind.signed, hf]
    simp; omega
  · have hf : (x % 2 ^ 64 ≥ 2 ^ (64 - 1)) = True := by apply eq_true; omega
    simp only [IntKind.wrap, IntKind.bits, IntKind.signed, hf]
    simp; omega

theorem fill_one {z v : Value} (hv : v.cells = #[v]) : Instr.fill (fun i => some (i * 1, 1)) ((Array.range (1 * 1)).map ((#[z] : Array Value)[· % (#[z] : Array Value).size]!)) [(0, v)] = some ([v] : List Value).toArray := by
  simp [Instr.fill, hv, Array.range]
  apply Array.ext
  · simp
  · intro i h1 h2
    simp at h2
    subst h2
    simp

end Go.D

/- The rules of clear and of copy. -/
set_option linter.unusedSimpArgs false
set_option linter.unusedVariables false
namespace Go.D

/-- A slice's tail, cleared: told of the whole. -/
theorem Clr_rule {P : Program} {S E ty : TypeId} {sz by_ : Nat} {zc : Array Value} (hE : ElemOf P S E sz by_ zc) {w : World} {p : Option Addr} {n c k : Nat} {cs : List Value} {F : List Nat} (hS : SlAt w sz p n c cs F) (hk : k ≤ n)
    {K : Value → World → Prop} (hK : ∀ v w', SlAt w' sz p n c (cs.take (k * sz) ++ zeroL zc (n - k)) F → Upd F w w' → K v w') : Clr P #[S] ty #[.slice (adv p c k sz) (n - k) (c - k)] w K := by
  obtain ⟨i, hi, hsz, hby, z, hz, hzc⟩ := hE.info
  have hszp := hE.pos
  have hzv : ∀ w, (zeroValue E).run P w = .ok z w := fun w => by simp [zeroValue, typeInfo, hi, hz]
  have hmul : n * sz = k * sz + (n - k) * sz := by rw [← Nat.add_mul]; congr 1; omega
  have hzl : (zeroL zc (n - k)).length = (n - k) * sz := by rw [zeroL_length, hE.zsz]
  unfold Clr Run
  by_cases hnk : n - k = 0
  · obtain rfl : k = n := by omega
    have hrun : (Builtin.clear_ #[S] ty #[.slice (adv p c k sz) (k - k) (c - k)]).run P w = .ok (.tuple #[]) w := by
      rw [hnk]
      rcases hq : adv p c k sz with _ | a <;> simp [Builtin.clear_, run_underlyingD hE.und]
    rw [hrun]
    refine hK _ w ?_ (Upd.refl _ _)
    rw [hnk, show cs.take (k * sz) = cs from List.take_of_length_le (by rw [hS.1]; omega)]
    simpa [zeroL, Builtin.zeroCells] using hS
  · rcases hS.2.2 with ⟨rfl, rfl, rfl⟩ | ⟨b, off, arr, rfl, rfl, hblk, hs, hc⟩
    · have := hS.2.1; omega
    · have hle : n * sz ≤ c * sz := Nat.mul_le_mul_right _ hS.2.1
      have hck : ¬ (c = k) := by have := hS.2.1; omega
      obtain ⟨w', arr', hr, hu, hb', hsz', h1, h2⟩ := run_storeRow (P := P) (zeroL zc (n - k)) (off + k * sz) 0 w arr hblk (by rw [hzl]; omega) (fun v hv => hE.one v (zeroL_mem (by rw [hE.zsz]; exact hszp) hv))
      have hrun : (Builtin.clear_ #[S] ty #[.slice (adv (some ⟨b, off, none⟩) c k sz) (n - k) (c - k)]).run P w = .ok (.tuple #[]) w' := by
        have e : adv (some ⟨b, off, none⟩) c k sz = some ⟨b, off + k * sz, none⟩ := by simp [adv, hck, addN]
        rw [e]
        obtain ⟨j, hj⟩ : ∃ j, n - k = j + 1 := ⟨n - k - 1, by omega⟩
        rw [hj] at hr ⊢
        unfold zeroL at hr
        simp [Builtin.clear_, run_underlyingD hE.und, hzv, hzc, hr]
      rw [hrun]
      refine hK _ w' ⟨?_, hS.2.1, .inr ⟨b, off, arr', rfl, rfl, hb', by omega, fun i hi => ?_⟩⟩ hu
      · rw [List.length_append, List.length_take, hS.1, hzl]; omega
      · have hl : (cs.take (k * sz)).length = k * sz := by rw [List.length_take, hS.1]; omega
        rw [List.getElem?_append, hl]
        by_cases hin : i < k * sz
        · rw [if_pos hin, h2 (off + i) (.inl (by omega)), List.getElem?_take, if_pos hin]
          exact hc i (by omega)
        · rw [if_neg hin]
          have := h1 (i - k * sz) (by rw [hzl]; omega)
          rw [← this]; congr 1; omega

/-- A slice copied onto another one's head. -/
theorem Cpy_rule {P : Program} {S T E ty : TypeId} {sz by_ : Nat} {zc : Array Value} (hE : ElemOf P S E sz by_ zc) {w : World} {p q : Option Addr} {n c m d : Nat} {xs ys : List Value} {F G : List Nat}
    (hS : SlAt w sz p n c xs F) (hT : SlAt w sz q m d ys G) (hone : ∀ v ∈ ys, v.oneCell' = true) {K : Int → World → Prop}
    (hK : ∀ w', SlAt w' sz p n c (ys.take (Nat.min m n * sz) ++ xs.drop (Nat.min m n * sz)) F → Upd F w w' → K (Nat.min m n : Nat) w') :
    Cpy P #[S, T] ty #[.slice p n c, .slice q m d] w K := by
  obtain ⟨i, hi, hsz, hby, z, hz, hzc⟩ := hE.info
  have hmn : Nat.min m n ≤ m := Nat.min_le_left ..
  have hmn' : Nat.min m n ≤ n := Nat.min_le_right ..
  obtain ⟨k, hk⟩ : ∃ k, k = Nat.min m n := ⟨_, rfl⟩
  rw [← hk] at hmn hmn' hK
  have hT' := hT.take hmn
  have hy := run_firstCells (P := P) hT'
  have hkn : k * sz ≤ n * sz := Nat.mul_le_mul_right _ hmn'
  have hyl := hT'.1
  have hfc : (Builtin.firstCells sz k (.slice q m d)).run P w = .ok (ys.take (k * sz)).toArray w := by
    have : Builtin.firstCells sz k (.slice q m d) = Builtin.firstCells sz k (.slice q k d) := by
      cases q <;> simp [Builtin.firstCells]
    rw [this]; exact hy
  unfold Cpy Run
  rcases hS.2.2 with ⟨rfl, rfl, rfl⟩ | ⟨b, off, arr, rfl, rfl, hblk, hs, hc⟩
  · have hn0 : n = 0 := by have := hS.2.1; omega
    have hk0 : k = 0 := by omega
    have hrun : (Builtin.copy_ #[S, T] ty #[.slice none n 0, .slice q m d]).run P w = .ok (.int .i64 (k : Nat)) w := by
      simp [Builtin.copy_, run_underlyingD hE.und, sizeOf, typeInfo, hi, hsz, Builtin.lenOf, ← hk, hfc, goInt]
    rw [hrun]
    refine ⟨_, rfl, hK w ?_ (Upd.refl _ _)⟩
    subst hk0; simpa using hS
  · have hle : n * sz ≤ c * sz := Nat.mul_le_mul_right _ hS.2.1
    obtain ⟨w', arr', hr, hu, hb', hsz', h1, h2⟩ := run_storeRow (P := P) (ys.take (k * sz)) off 0 w arr hblk (by rw [hyl]; omega) (fun v hv => hone v (List.mem_of_mem_take hv))
    have hrun : (Builtin.copy_ #[S, T] ty #[.slice (some ⟨b, off, none⟩) n c, .slice q m d]).run P w = .ok (.int .i64 (k : Nat)) w' := by
      simp [Builtin.copy_, run_underlyingD hE.und, sizeOf, typeInfo, hi, hsz, Builtin.lenOf, ← hk, hfc, goInt, hr]
    rw [hrun]
    refine ⟨_, rfl, hK w' ⟨?_, hS.2.1, .inr ⟨b, off, arr', rfl, rfl, hb', by omega, fun i hi => ?_⟩⟩ hu⟩
    · rw [List.length_append, hyl, List.length_drop, hS.1]; omega
    · rw [List.getElem?_append, hyl]
      by_cases hin : i < k * sz
      · rw [if_pos hin]
        have := h1 i (by rw [hyl]; omega)
        rw [← this]; congr 1
      · rw [if_neg hin, h2 (off + i) (.inr (by rw [hyl]; omega)), List.getElem?_drop, hc i hi]
        congr 1; omega

end Go.D

/- What came in: rows that are only read. -/
set_option linter.unusedSimpArgs false
set_option linter.unusedVariables false
namespace Go.D

theorem addA (a : Addr) (m n : Nat) : (a.add m).add n = a.add (m + n) := by
  unfold Addr.add
  by_cases hm : m = 0
  · by_cases hn : n = 0 <;> simp [hm, hn]
  · by_cases hn : n = 0
    · simp [hm, hn]
    · simp [hm, hn, Nat.add_assoc]

theorem cell_block {w : World} {a : Addr} {v : Value} (h : w.cell? a = some v) : a.block < w.heap.size := by
  unfold World.cell? at h
  split at h
  · rename_i hb
    exact (Array.getElem?_eq_some_iff.1 hb).1
  · cases h

theorem Upd.cell {w w' : World} {F : List Nat} (u : Upd F w w') {a : Addr} {v : Value} (h : w.cell? a = some v) (hF : a.block ∉ F) : w'.cell? a = some v := by
  have hb := u.blk a.block (cell_block h) hF
  rw [← h]
  unfold World.cell?
  rw [hb]

theorem Upd.below {w w' : World} (u : Upd [] w w') : Go.RowKit.Below w.heap.size w w' := ⟨u.os, u.tape, u.output, u.size, fun k hk => u.blk k hk (by simp)⟩

/-- A row that is only read: n elements of sz cells, the cells cs. -/
def Rd (w : World) (sz : Nat) (p : Option Addr) (n : Nat) (cs : List Value) : Prop :=
  cs.length = n * sz ∧ (n = 0 ∨ ∃ x, p = some x ∧ ∀ i, i < n * sz → w.cell? (x.add i) = cs[i]?)

theorem add_block (a : Addr) (n : Nat) : (a.add n).block = a.block := by unfold Addr.add; split <;> rfl

theorem Rd.upd {w w' : World} {sz : Nat} {p : Option Addr} {n : Nat} {cs : List Value} {F : List Nat} (h : Rd w sz p n cs) (u : Upd F w w') (hd : ∀ x, p = some x → n ≠ 0 → x.block ∉ F) : Rd w' sz p n cs := by
  obtain ⟨hl, h⟩ := h
  refine ⟨hl, ?_⟩
  rcases h with h | ⟨x, hp, hc⟩
  · exact .inl h
  · by_cases hn : n = 0
    · exact .inl hn
    refine .inr ⟨x, hp, fun i hi => ?_⟩
    have h1 := hc i hi
    rw [List.getElem?_eq_getElem (by omega)] at h1 ⊢
    exact u.cell h1 (by rw [add_block]; exact hd x hp hn)

/-- Nothing that was there has been turned. -/
theorem Rd.keep {w w' : World} {sz : Nat} {p : Option Addr} {n : Nat} {cs : List Value} (h : Rd w sz p n cs) (u : Upd [] w w') : Rd w' sz p n cs := h.upd u (by intros; simp)

theorem SlAt.rd {w : World} {sz : Nat} {p : Option Addr} {n c : Nat} {cs : List Value} {F : List Nat} (h : SlAt w sz p n c cs F) : Rd w sz p n cs := by
  refine ⟨h.1, ?_⟩
  rcases h.2.2 with ⟨rfl, rfl, rfl⟩ | ⟨b, off, arr, rfl, rfl, hb, hs, hc⟩
  · left; have := h.2.1; omega
  · exact .inr ⟨_, rfl, fun i hi => by rw [addN, hb.cell]; exact hc i hi⟩

/-- A cell of it. -/
theorem Rd.at {w : World} {sz : Nat} {p : Option Addr} {n : Nat} {cs : List Value} (h : Rd w sz p n cs) {i : Nat} (hi : i < n * sz) : ∃ x, p = some x ∧ w.cell? (x.add i) = cs[i]? := by
  rcases h.2 with h0 | ⟨x, hp, hc⟩
  · subst h0; simp at hi
  · exact ⟨x, hp, hc i hi⟩

/-- One element's cells. -/
theorem Rd.elem {w : World} {sz : Nat} {p : Option Addr} {n : Nat} {cs : List Value} (h : Rd w sz p n cs) {i : Nat} (hi : i < n) : ∃ x, p = some x ∧ ∀ j, j < sz → w.cell? (x.add (i * sz + j)) = cs[i * sz + j]? := by
  have h1 : (i + 1) * sz ≤ n * sz := Nat.mul_le_mul_right _ hi
  rw [Nat.add_mul, Nat.one_mul] at h1
  rcases h.2 with h0 | ⟨x, hp, hc⟩
  · omega
  · exact ⟨x, hp, fun j hj => hc _ (by omega)⟩

theorem Rd.ofRow {k : IntKind} {w : World} {a : Option Addr} {len cap B : Nat} {zs : List Int} {Q : Prop} (h : (a = none ∧ len = 0 ∧ cap = 0 ∧ zs = []) ∨ ∃ x, a = some x ∧ len ≤ cap ∧ cap ≤ B ∧ zs.length = cap ∧ (∀ i, i < zs.length → w.cell? (x.add i) = some (.int k (zs.getD i 0))) ∧ Q) : Rd w 1 a len ((zs.take len).map (.int k)) := by
  rcases h with ⟨rfl, rfl, rfl, rfl⟩ | ⟨x, rfl, hl, _, hz, hc, _⟩
  · exact ⟨rfl, .inl rfl⟩
  · refine ⟨by simp; omega, .inr ⟨x, rfl, fun i hi => ?_⟩⟩
    rw [hc i (by omega), List.getElem?_map, List.getElem?_take, if_pos (by omega), List.getElem?_eq_getElem (by omega)]
    simp [List.getD, List.getElem?_eq_getElem (show i < zs.length by omega)]

end Go.D

/- What a value that came in looks like: out of the statement's own reading. -/
set_option linter.unusedSimpArgs false
set_option linter.unusedVariables false
namespace Go.D

/-- A value's cells, seen by its type: so deep. -/
def Sees (P : Program) (w : World) : Nat → TypeId → List Value → Prop
  | 0, _, _ => False
  | f + 1, t, cs =>
    match P.underlying t with
    | some .bool => ∃ b, cs = [.bool b]
    | some (.int k) => ∃ n, cs = [.int k n] ∧ (Lit.int k n).wf = true
    | some .string => ∃ s : ByteArray, cs = [.string s] ∧ s.size ≤ maxLen
    | some (.slice e) => ∃ p n c cs', cs = [.slice p n c] ∧ n ≤ c ∧ c ≤ maxLen ∧ Rd w (P.cellsOf e) p n cs' ∧ ∀ i, i < n → Sees P w f e ((cs'.drop (i * P.cellsOf e)).take (P.cellsOf e))
    | some (.struct fs) => cs.length = P.cellsOf t ∧ ∀ (i : Nat) (x : Field), fs[i]? = some x → Sees P w f x.type ((cs.drop x.offset).take (P.cellsOf x.type))
    | _ => True

theorem Sees.keep {P : Program} {w w' : World} (u : Upd [] w w') : ∀ (f : Nat) (t : TypeId) (cs : List Value), Sees P w f t cs → Sees P w' f t cs
  | 0, _, _, h => h
  | f + 1, t, cs, h => by
    unfold Sees at h ⊢
    split
    · rename_i hu; rw [hu] at h; exact h
    · rename_i hu; rw [hu] at h; exact h
    · rename_i hu; rw [hu] at h; exact h
    · rename_i hu; rw [hu] at h
      obtain ⟨p, n, c, cs', h1, h2, h3, h4, h5⟩ := h
      exact ⟨p, n, c, cs', h1, h2, h3, h4.keep u, fun i hi => Sees.keep u f _ _ (h5 i hi)⟩
    · rename_i hu; rw [hu] at h
      exact ⟨h.1, fun i x hx => Sees.keep u f _ _ (h.2 i x hx)⟩
    · trivial

theorem sees_of_trod {H : Type} {enc : TypeId × Value → H} {P : Program} {w : World} {base : Nat} {spare : Nat → Bool} {held : Bool} : ∀ (f : Nat) (t : TypeId) (cs : List Value) (x : DataW H × List MemPlace), DataW.trod enc P w base spare held f t cs = some x → Sees P w f t cs
  | 0, _, _, _, h => by simp [DataW.trod] at h
  | f + 1, t, cs, x, h => by
    unfold Sees
    split
    · rename_i hu
      obtain ⟨b, rfl, _⟩ := DataW.trod_bool hu h
      exact ⟨b, rfl⟩
    · rename_i k hu
      obtain ⟨n, rfl, _, hw⟩ := DataW.trod_int hu h
      exact ⟨n, rfl, hw⟩
    · rename_i hu
      obtain ⟨s, rfl, _, hw⟩ := DataW.trod_string hu h
      exact ⟨s, rfl, hw⟩
    · rename_i e hu
      rcases DataW.trod_slice hu h with ⟨rfl, _⟩ | ⟨a, len, cap, elems, rest, n, hn, rfl, _, hb, hl, hm, hlen, hel, _⟩
      · exact ⟨none, 0, 0, [], rfl, Nat.le_refl _, Nat.zero_le _, ⟨by simp, .inl rfl⟩, fun i hi => absurd hi (by omega)⟩
      · obtain rfl : f = n := by omega
        have hsee : ∀ i, i < len → ∃ ci, w.cells? base (a.add (i * P.cellsOf e)) (P.cellsOf e) = some ci ∧ ∃ y, DataW.trod enc P w base spare held f e ci = some y := by
          intro i hi
          have h1 := hel i hi
          rw [List.getElem?_eq_getElem (by omega)] at h1
          obtain ⟨ci, h2, h3⟩ := Option.bind_eq_some_iff.1 h1
          exact ⟨ci, h2, _, h3⟩
        -- every cell is there
        have hcell : ∀ k, k < len * P.cellsOf e → ∃ v, w.cell? (a.add k) = some v := by
          intro k hk
          have hpos : 0 < P.cellsOf e := by
            rcases Nat.eq_zero_or_pos (P.cellsOf e) with h0 | h0
            · rw [h0] at hk; simp at hk
            · exact h0
          have hi : k / P.cellsOf e < len := Nat.div_lt_of_lt_mul (by rw [Nat.mul_comm]; exact hk)
          obtain ⟨ci, h2, _⟩ := hsee _ hi
          obtain ⟨_, h4, h5⟩ := World.cells?_some h2
          have hj := Nat.mod_lt k hpos
          have h6 := h5 (k % P.cellsOf e) hj
          rw [addA, show k / P.cellsOf e * P.cellsOf e + k % P.cellsOf e = k by rw [Nat.mul_comm]; exact Nat.div_add_mod k _] at h6
          exact ⟨_, h6.trans (List.getElem?_eq_getElem (by omega))⟩
        refine ⟨some a, len, cap, (List.range (len * P.cellsOf e)).map fun k => (w.cell? (a.add k)).getD default, rfl, hl, hm, ⟨by simp, .inr ⟨a, rfl, fun k hk => ?_⟩⟩, fun i hi => ?_⟩
        · obtain ⟨v, hv⟩ := hcell k hk
          simp [hk, hv]
        · obtain ⟨ci, h2, y, h3⟩ := hsee i hi
          obtain ⟨_, h4, h5⟩ := World.cells?_some h2
          have hle : (i + 1) * P.cellsOf e ≤ len * P.cellsOf e := Nat.mul_le_mul_right _ hi
          rw [Nat.add_mul, Nat.one_mul] at hle
          have e1 : (((List.range (len * P.cellsOf e)).map fun k => (w.cell? (a.add k)).getD default).drop (i * P.cellsOf e)).take (P.cellsOf e) = ci := by
            apply List.ext_getElem?
            intro j
            rw [List.getElem?_take]
            by_cases hj : j < P.cellsOf e
            · rw [if_pos hj, List.getElem?_drop, ← h5 j hj, addA]
              obtain ⟨v, hv⟩ := hcell (i * P.cellsOf e + j) (by omega)
              simp [hv, show i * P.cellsOf e + j < len * P.cellsOf e by omega]
            · rw [if_neg hj, List.getElem?_eq_none (by omega)]
          rw [e1]
          exact sees_of_trod f _ _ _ h3
    · rename_i fs hu
      obtain ⟨xs, n, hn, _, hl, hxl, hf⟩ := DataW.trod_struct hu h
      obtain rfl : f = n := by omega
      refine ⟨hl, fun i fd hi => ?_⟩
      have h1 := hf i fd hi
      have hlt := (Array.getElem?_eq_some_iff.1 hi).1
      rw [List.getElem?_eq_getElem (by omega)] at h1
      exact sees_of_trod f _ _ _ h1
    · trivial

theorem sees_of_Trod {H : Type} {enc : TypeId × Value → H} {P : Program} {w : World} {base : Nat} {spare : Nat → Bool} {held : Bool} {t : TypeId} {v : Value} {d : DataW H} {ps : List MemPlace} (h : DataW.Trod enc P w base spare held t v d ps) : ∃ f, Sees P w f t v.cells.toList := by
  obtain ⟨f, h⟩ := h
  exact ⟨f, sees_of_trod f _ _ _ h⟩

/-! ## Taken apart at a type that is known -/

theorem see_bool {P : Program} {w : World} {f : Nat} {t : TypeId} {cs : List Value} (ht : P.underlying t = some .bool) (h : Sees P w f t cs) : ∃ b, cs = [.bool b] := by
  cases f with
  | zero => exact h.elim
  | succ f => unfold Sees at h; rw [ht] at h; exact h
theorem see_int {P : Program} {w : World} {f : Nat} {t : TypeId} {k : IntKind} {cs : List Value} (ht : P.underlying t = some (.int k)) (h : Sees P w f t cs) : ∃ n, cs = [.int k n] ∧ (Lit.int k n).wf = true := by
  cases f with
  | zero => exact h.elim
  | succ f => unfold Sees at h; rw [ht] at h; exact h
theorem see_string {P : Program} {w : World} {f : Nat} {t : TypeId} {cs : List Value} (ht : P.underlying t = some .string) (h : Sees P w f t cs) : ∃ s : ByteArray, cs = [.string s] ∧ s.size ≤ maxLen := by
  cases f with
  | zero => exact h.elim
  | succ f => unfold Sees at h; rw [ht] at h; exact h
theorem see_slice {P : Program} {w : World} {f : Nat} {t e : TypeId} {sz : Nat} {cs : List Value} (ht : P.underlying t = some (.slice e)) (hsz : P.cellsOf e = sz) (h : Sees P w f t cs) :
    ∃ p n c cs' g, f = g + 1 ∧ cs = [.slice p n c] ∧ n ≤ c ∧ c ≤ maxLen ∧ Rd w sz p n cs' ∧ ∀ i, i < n → Sees P w g e ((cs'.drop (i * sz)).take sz) := by
  subst hsz
  cases f with
  | zero => exact h.elim
  | succ f =>
    unfold Sees at h; rw [ht] at h
    obtain ⟨p, n, c, cs', h1, h2, h3, h4, h5⟩ := h
    exact ⟨p, n, c, cs', f, rfl, h1, h2, h3, h4, h5⟩
theorem see_struct {P : Program} {w : World} {f : Nat} {t : TypeId} {fs : Array Field} {sz : Nat} {cs : List Value} (ht : P.underlying t = some (.struct fs)) (hsz : P.cellsOf t = sz) (h : Sees P w f t cs) :
    ∃ g, f = g + 1 ∧ cs.length = sz ∧ ∀ (i : Nat) (x : Field), fs[i]? = some x → Sees P w g x.type ((cs.drop x.offset).take (P.cellsOf x.type)) := by
  subst hsz
  cases f with
  | zero => exact h.elim
  | succ f =>
    unfold Sees at h; rw [ht] at h
    exact ⟨f, rfl, h⟩

theorem pick {α : Type} [Inhabited α] {n : Nat} {p : Nat → α → Prop} (h : ∀ i, i < n → ∃ a, p i a) : ∃ l : List α, l.length = n ∧ ∀ i (hi : i < l.length), p i l[i] := by
  refine ⟨(List.range n).map fun i => if hi : i < n then (h i hi).choose else default, by simp, fun i hi => ?_⟩
  simp at hi
  have := (h i hi).choose_spec
  simpa [hi] using this

/-- A slice of whole numbers. -/
theorem see_ints {P : Program} {w : World} {f : Nat} {t e : TypeId} {k : IntKind} {cs : List Value} (ht : P.underlying t = some (.slice e)) (he : P.underlying e = some (.int k)) (hsz : P.cellsOf e = 1) (h : Sees P w f t cs) :
    ∃ p n c, ∃ L : List Int, cs = [.slice p n c] ∧ n ≤ c ∧ c ≤ maxLen ∧ Rd w 1 p n (L.map (.int k)) ∧ ∀ x ∈ L, (Lit.int k x).wf = true := by
  obtain ⟨p, n, c, cs', g, _, h1, h2, h3, h4, h5⟩ := see_slice ht hsz h
  obtain ⟨L, hL, hp⟩ := pick (p := fun i a => cs'[i]? = some (.int k a) ∧ (Lit.int k a).wf = true) (n := n) (fun i hi => by
    obtain ⟨a, ha, hw⟩ := see_int he (h5 i hi)
    refine ⟨a, ?_, hw⟩
    have : ((cs'.drop (i * 1)).take 1)[0]? = some (.int k a) := by rw [ha]; rfl
    rw [List.getElem?_take, if_pos (by omega), List.getElem?_drop] at this
    simpa using this)
  have e : cs' = L.map (.int k) := by
    apply List.ext_getElem?
    intro i
    have hl := h4.1
    by_cases hi : i < n
    · rw [List.getElem?_map, List.getElem?_eq_getElem (show i < L.length by omega), (hp i (by omega)).1]; rfl
    · rw [List.getElem?_eq_none (by omega), List.getElem?_eq_none (by simp; omega)]
  subst e
  refine ⟨p, n, c, L, h1, h2, h3, h4, fun x hx => ?_⟩
  obtain ⟨i, hi, rfl⟩ := List.getElem_of_mem hx
  exact (hp i hi).2

/-- A slice of strings. -/
theorem see_strings {P : Program} {w : World} {f : Nat} {t e : TypeId} {cs : List Value} (ht : P.underlying t = some (.slice e)) (he : P.underlying e = some .string) (hsz : P.cellsOf e = 1) (h : Sees P w f t cs) :
    ∃ p n c, ∃ L : List ByteArray, cs = [.slice p n c] ∧ n ≤ c ∧ c ≤ maxLen ∧ Rd w 1 p n (L.map .string) ∧ ∀ x ∈ L, x.size ≤ maxLen := by
  obtain ⟨p, n, c, cs', g, _, h1, h2, h3, h4, h5⟩ := see_slice ht hsz h
  obtain ⟨L, hL, hp⟩ := pick (p := fun i (a : ByteArray) => cs'[i]? = some (.string a) ∧ a.size ≤ maxLen) (n := n) (fun i hi => by
    obtain ⟨a, ha, hw⟩ := see_string he (h5 i hi)
    refine ⟨a, ?_, hw⟩
    have : ((cs'.drop (i * 1)).take 1)[0]? = some (.string a) := by rw [ha]; rfl
    rw [List.getElem?_take, if_pos (by omega), List.getElem?_drop] at this
    simpa using this)
  have e : cs' = L.map .string := by
    apply List.ext_getElem?
    intro i
    have hl := h4.1
    by_cases hi : i < n
    · rw [List.getElem?_map, List.getElem?_eq_getElem (show i < L.length by omega), (hp i (by omega)).1]; rfl
    · rw [List.getElem?_eq_none (by omega), List.getElem?_eq_none (by simp; omega)]
  subst e
  refine ⟨p, n, c, L, h1, h2, h3, h4, fun x hx => ?_⟩
  obtain ⟨i, hi, rfl⟩ := List.getElem_of_mem hx
  exact (hp i hi).2

end Go.D
