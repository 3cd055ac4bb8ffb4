/- slices.SortFunc at structs: rows of elements of k cells. -/
import Derived.Shelf.SlSortCmp.WholeK
import Derived.Test.YtlndgaijekihiaaGreatOwn12
import Derived.Test.YtlndgaijekihiaaGreatOwn6
import Derived.Test.YtlndgaijekihiaaGreatGenC
import Derived.Test.YtlndgaijekihiaaGreatBs5
import Derived.Shelf.SlSortCmp.Insertion
import Derived.Ground.SlsfProg
import Derived.Test.YtlndgaijekihiaaGreatBs10
import Derived.Shelf.SlSortCmp.NoneTotal
set_option linter.unusedSimpArgs false
set_option linter.unusedVariables false
namespace Go.D
open Go

theorem flatK_get {α : Type} [Inhabited α] {enc : α → List Value} {k : Nat} (hk : ∀ x, (enc x).length = k) (E : List α) {t : Nat} (ht : t < E.length * k) : (Go.Sort.flatK enc k E.toArray)[t]! = (E.flatMap enc)[t]'(by rw [flat_len hk]; exact ht) := by
  have k0 : 0 < k := by
    rcases Nat.eq_zero_or_pos k with h | h
    · subst h; simp at ht
    · exact h
  rw [Go.Sort.get_flatK _ _ _ _ (by simpa using ht)]
  have hd : t / k < E.length := (Nat.div_lt_iff_lt_mul k0).2 ht
  have hm : t % k < k := Nat.mod_lt _ k0
  have e := flat_at hk (l := E) hd hm
  rw [show t / k * k + t % k = t by have := Nat.div_add_mod t k; rw [Nat.mul_comm] at this; omega] at e
  rw [List.getElem?_eq_getElem (by rw [flat_len hk]; exact ht), List.getElem?_eq_getElem (by rw [hk]; exact hm)] at e
  have e := Option.some.inj e
  rw [e]
  have e2 : (E.toArray)[t / k]! = E[t / k] := by rw [getElem!_pos _ _ (by simpa using hd)]; simp
  rw [e2, getElem!_pos _ _ (by rw [hk]; exact hm)]

theorem holdsK_of {α : Type} [Inhabited α] {enc : α → List Value} {k : Nat} (hk : ∀ x, (enc x).length = k) {w : World} {b off : Nat} {arr : Array Value} {E : List α} (hb : Blk w b arr) (hs : off + E.length * k ≤ arr.size) (hc : ∀ i, i < E.length * k → arr[off + i]? = (E.flatMap enc)[i]?) : Go.Sort.HoldsK enc k w b off E.toArray := by
  intro j hj
  have hj : j < E.length * k := by simpa using hj
  refine ⟨?_, hb.frozen (by omega)⟩
  rw [hb.cell, hc j hj, List.getElem?_eq_getElem (by rw [flat_len hk]; exact hj), flatK_get hk E hj]
  rfl

theorem sortK_back {α : Type} [Inhabited α] {enc : α → List Value} {k : Nat} (hk : ∀ x, (enc x).length = k) {w : World} {p : Option Addr} {n c b off : Nat} {arr : Array Value} {E E' : List α} {m : Nat} {os : Array Obj} (hn : n = E.length) (hnc : n ≤ c) (hl : E'.length = E.length) (hp : p = some ⟨b, off, none⟩) (hb : Blk w b arr) (hs : off + c * k ≤ arr.size) :
    SlAt (Go.Proofs.sortWorldK enc k w b off m E'.toArray os) k p n c (E'.flatMap enc) [b] ∧ Upd [b] w (Go.Proofs.sortWorldK enc k w b off m E'.toArray os) := by
  obtain ⟨w', hw⟩ : ∃ w', w' = Go.Proofs.sortWorldK enc k w b off m E'.toArray os := ⟨_, rfl⟩
  rw [← hw]
  have hlt := hb.lt
  obtain ⟨T, fz, hobj, hfz⟩ := hb
  have e1 : w'.heap = (w.heap.modify b (Go.Sort.onCells (Go.Sort.putCells id off (Go.Sort.flatK enc k E'.toArray)))) ++ os := by rw [hw]; rfl
  have hsz : w'.heap.size = w.heap.size + os.size := by rw [e1]; simp
  have hck : n * k ≤ c * k := Nat.mul_le_mul_right _ hnc
  refine ⟨⟨by rw [flat_len hk, hl, hn], hnc, .inr ⟨b, off, Go.Sort.putCells id off (Go.Sort.flatK enc k E'.toArray) arr, hp, rfl, ⟨T, fz, ?_, ?_⟩, ?_, fun i hi => ?_⟩⟩, ⟨by rw [hw]; rfl, by rw [hw]; rfl, by rw [hw]; rfl, by omega, fun j hj hjb => ?_⟩⟩
  · rw [e1, Array.getElem?_append_left (by simpa using hlt), Array.getElem?_modify, if_pos rfl, hobj]; rfl
  · simpa [Go.Sort.putCells] using hfz
  · simpa [Go.Sort.putCells] using hs
  · unfold Go.Sort.putCells
    rw [Array.getElem?_mapIdx, Array.getElem?_eq_getElem (by omega)]
    simp only [Option.map_some]
    have hi' : i < E'.length * k := by rw [hl, ← hn]; exact hi
    rw [if_pos (by simp only [Go.Sort.size_flatK, List.size_toArray]; omega), List.getElem?_eq_getElem (by rw [flat_len hk]; exact hi')]
    rw [show off + i - off = i by omega, flatK_get hk E' hi']
    rfl
  · simp at hjb
    rw [e1, Array.getElem?_append_left (by simpa using hj), Array.getElem?_modify, if_neg (fun e => hjb e.symm)]

/-- A world that has grown: draws, and new blocks. -/
def Gr (W w : World) : Prop := ∃ (q : Nat) (os : Array Obj), w = Go.Sort.grow (W.drewN q) os

theorem Gr.refl (W : World) : Gr W W := ⟨0, #[], by simp [Go.Sort.grow, World.drewN]⟩
theorem Gr.drw {W w : World} (h : Gr W w) : Gr W (drw w) := by
  obtain ⟨q, os, rfl⟩ := h
  exact ⟨q + 1, os, by simp [Go.Sort.grow, World.drewN, Go.D.drw, Nat.add_assoc]⟩
theorem Gr.push {W w : World} (h : Gr W w) (o : Obj) : Gr W { w with heap := w.heap.push o } := by
  obtain ⟨q, os, rfl⟩ := h
  exact ⟨q, os.push o, by simp [Go.Sort.grow, World.drewN]⟩

theorem New_ruleG {W w : World} {arr : Array Value} {T : TypeId} {K : Nat → World → Prop} (g : Gr W w)
    (hK : ∀ b w', b = w.heap.size → Upd [] w w' → Blk w' b arr → Gr W w' → K b w') : New w (.cells arr T) K := by
  refine hK _ _ rfl (push_upd w _) ⟨T, (0, 0), ?_, .inl (Nat.le_refl _)⟩ (g.push _)
  show (w.heap.push _)[_]? = _
  simp

theorem BSl_ruleG {P : Program} {S E : TypeId} {sz by_ : Nat} {zc : Array Value} (hE : ElemOf P S E sz by_ zc) {W w : World} {len : Nat} {ps : List (Nat × Value)} {cs : List Value} (g : Gr W w)
    (hf : Instr.fill (fun i => some (i * sz, sz)) ((Array.range (len * sz)).map (zc[· % zc.size]!)) ps = some cs.toArray) (hl : cs.length = len * sz) (hb : len * sz ≤ 2 ^ 24)
    {K : Option Addr → Nat → Nat → World → Prop}
    (hK : ∀ w', SlAt w' sz (some ⟨w.heap.size, 0, none⟩) len len cs [w.heap.size] → Upd [] w w' → Gr W w' → K (some ⟨w.heap.size, 0, none⟩) len len w') : BSl P S len ps w K := by
  obtain ⟨i, hi, hsz, hby, z, hz, hzc⟩ := hE.info
  have hszp := hE.pos
  have hzv : ∀ w, (zeroValue E).run P w = .ok z w := fun w => by simp [zeroValue, typeInfo, hi, hz]
  have hlb : ¬ len * sz > 2 ^ 24 := by omega
  have hrun : (Instr.buildSlice S len ps.toArray).run P w = .ok (.slice (some ⟨w.heap.size, 0, none⟩) len len) { w with heap := w.heap.push (.cells cs.toArray E) } := by
    by_cases h0 : len * sz = 0
    · have hr : ∀ f : Nat → Value, (Array.range 0).map f = #[] := fun f => Array.eq_empty_of_size_eq_zero (by simp)
      rw [h0, hr] at hf
      simp [Instr.buildSlice, run_underlyingD hE.und, sizeOf, typeInfo, hi, hsz, hr, h0, hf, newRow]
    · simp [Instr.buildSlice, run_underlyingD hE.und, sizeOf, typeInfo, hi, hsz, hlb, h0, hzv, hzc]
      simp [hf, newRow]
  unfold BSl Run
  rw [hrun]
  have hblk : Blk ({ w with heap := w.heap.push (.cells cs.toArray E) } : World) w.heap.size cs.toArray := by
    refine ⟨E, (0, 0), ?_, .inl (Nat.le_refl _)⟩
    show (w.heap.push _)[_]? = _
    simp
  exact ⟨_, _, _, rfl, hK _ ⟨hl, Nat.le_refl _, .inr ⟨_, _, _, rfl, rfl, hblk, by simp [hl], fun i hi => by simp⟩⟩ (push_upd w _) (g.push _)⟩

theorem BSlL_ruleG {P : Program} {S E : TypeId} {sz by_ : Nat} {zc : Array Value} (hE : ElemOf P S E sz by_ zc) {W w : World} {len : Nat} {ps : List (Nat × Value)} (vs : List Value) (g : Gr W w) (hps : ps = (vs.zipIdx 0).map fun x => (x.2, x.1)) (hv : ∀ v ∈ vs, v.cells.size = sz) (hl : len = vs.length) (hb : len * sz ≤ 2 ^ 24)
    {K : Option Addr → Nat → Nat → World → Prop}
    (hK : ∀ w', SlAt w' sz (some ⟨w.heap.size, 0, none⟩) len len (vs.flatMap (fun v => v.cells.toList)) [w.heap.size] → Upd [] w w' → Gr W w' → K (some ⟨w.heap.size, 0, none⟩) len len w') : BSl P S len ps w K := by
  subst hl
  have hs : ∀ l : List Value, (∀ v ∈ l, v.cells.size = sz) → (l.flatMap (fun v => v.cells.toList)).length = l.length * sz := by
    intro l hl
    induction l with
    | nil => simp
    | cons x l ih => rw [List.flatMap_cons, List.length_append, ih (fun v hv => hl v (by simp [hv])), List.length_cons, Nat.add_mul]; simp [hl x (by simp)]; omega
  refine BSl_ruleG (cs := vs.flatMap (fun v => v.cells.toList)) hE g ?_ (hs vs hv) hb hK
  rw [hps, fill_seq sz vs 0 _ hv (by simp)]
  simp

end Go.D

/- Predicates in order: plain. -/
namespace Go.Proofs.YtlndgaijekihiaaGreat
open Go Go.D Go.Proofs
set_option linter.unusedSimpArgs false
set_option linter.unusedVariables false
set_option maxRecDepth 8000

theorem bl_irrefl : ∀ x : List UInt8, Op.bytesLess x x = false
  | [] => rfl
  | a :: x => by simp [Op.bytesLess, bl_irrefl x]

theorem bl_trans : ∀ {x y z : List UInt8}, Op.bytesLess x y = true → Op.bytesLess y z = true → Op.bytesLess x z = true
  | [], y, [], h1, h2 => by cases y <;> simp [Op.bytesLess] at h1 h2
  | [], _, _ :: _, _, _ => by simp [Op.bytesLess]
  | _ :: _, [], _, h1, _ => by simp [Op.bytesLess] at h1
  | _ :: _, _ :: _, [], _, h2 => by simp [Op.bytesLess] at h2
  | a :: x, b :: y, c :: z, h1, h2 => by
    simp only [Op.bytesLess, Bool.or_eq_true, Bool.and_eq_true, decide_eq_true_eq, beq_iff_eq] at h1 h2 ⊢
    simp only [UInt8.lt_iff_toNat_lt] at h1 h2 ⊢
    rcases h1 with h1 | ⟨rfl, h1⟩
    · rcases h2 with h2 | ⟨rfl, h2⟩
      · left; omega
      · left; omega
    · rcases h2 with h2 | ⟨rfl, h2⟩
      · left; omega
      · exact .inr ⟨rfl, bl_trans h1 h2⟩

theorem bl_ntrans : ∀ {x y z : List UInt8}, Op.bytesLess x y = false → Op.bytesLess y z = false → Op.bytesLess x z = false := by
  intro x
  induction x with
  | nil =>
    intro y z h1 h2
    cases z with
    | nil => rfl
    | cons c z =>
      cases y with
      | nil => simp [Op.bytesLess] at h2
      | cons b y => simp [Op.bytesLess] at h1
  | cons a x ih =>
    intro y z h1 h2
    cases z with
    | nil => rfl
    | cons c z =>
      cases y with
      | nil => simp [Op.bytesLess] at h2
      | cons b y =>
        simp only [Op.bytesLess, Bool.or_eq_false_iff, decide_eq_false_iff_not, Bool.and_eq_false_iff, beq_eq_false_iff_ne, ne_eq] at h1 h2 ⊢
        simp only [UInt8.lt_iff_toNat_lt] at h1 h2 ⊢
        obtain ⟨h1, g1⟩ := h1
        obtain ⟨h2, g2⟩ := h2
        refine ⟨by omega, ?_⟩
        by_cases e : a = c
        · subst e
          have : b = a := UInt8.toNat_inj.1 (by omega)
          subst this
          exact .inr (ih (g1.resolve_left fun h => h rfl) (g2.resolve_left fun h => h rfl))
        · exact .inl e

abbrev PrT := ByteArray × Int × Int
def prC (x : PrT) : List Value := [.string x.1, .int .i64 x.2.1, .int .i64 x.2.2]
theorem prC_len (x : PrT) : (prC x).length = 3 := rfl
theorem prC_one' (x : PrT) : ∀ v ∈ prC x, v.oneCell' = true := by
  intro v hv
  simp [prC] at hv
  rcases hv with rfl | rfl | rfl <;> rfl

def cmpB (a b : ByteArray) : Int := if Op.bytesLess a.toList b.toList then -1 else if Op.bytesLess b.toList a.toList then 1 else 0
def cmpI (a b : Int) : Int := if a < b then -1 else if b < a then 1 else 0
def cfP (x y : PrT) : Int := if cmpB x.1 y.1 ≠ 0 then cmpB x.1 y.1 else cmpI x.2.1 y.2.1

theorem ltP (x y : PrT) : Go.Proofs.ltOf cfP x y = (Op.bytesLess x.1.toList y.1.toList || (!Op.bytesLess y.1.toList x.1.toList && decide (x.2.1 < y.2.1))) := by
  unfold Go.Proofs.ltOf cfP cmpB cmpI
  rcases h1 : Op.bytesLess x.1.toList y.1.toList with _ | _
  · rcases h2 : Op.bytesLess y.1.toList x.1.toList with _ | _
    · by_cases h3 : x.2.1 < y.2.1
      · simp [h3]
      · by_cases h4 : y.2.1 < x.2.1 <;> simp [h3, h4]
    · simp
  · simp

theorem swoP : Go.Sort.SWO (Go.Proofs.ltOf cfP) where
  irrefl x := by rw [ltP, bl_irrefl]; simp
  trans x y z h1 h2 := by
    rw [ltP] at h1 h2 ⊢
    rcases a : Op.bytesLess x.1.toList z.1.toList with _ | _
    · simp only [Bool.false_or, Bool.and_eq_true, Bool.not_eq_true', decide_eq_true_eq]
      rcases b : Op.bytesLess x.1.toList y.1.toList with _ | _
      · rcases c : Op.bytesLess y.1.toList z.1.toList with _ | _
        · rw [b] at h1; rw [c] at h2
          simp at h1 h2
          exact ⟨bl_ntrans h2.1 h1.1, by omega⟩
        · rw [b] at h1
          simp at h1
          have := bl_ntrans h1.1 a
          rw [c] at this; cases this
      · rcases c : Op.bytesLess z.1.toList y.1.toList with _ | _
        · have := bl_ntrans a c
          rw [b] at this; cases this
        · rcases e : Op.bytesLess y.1.toList z.1.toList with _ | _
          · rw [e, c] at h2; simp at h2
          · rw [bl_trans b e] at a; cases a
    · simp
  ntrans x y z h1 h2 := by
    rw [ltP] at h1 h2 ⊢
    simp only [Bool.or_eq_false_iff, Bool.and_eq_false_iff, Bool.not_eq_false', decide_eq_false_iff_not] at h1 h2 ⊢
    refine ⟨bl_ntrans h1.1 h2.1, ?_⟩
    rcases a : Op.bytesLess z.1.toList x.1.toList with _ | _
    · right
      have g1 : Op.bytesLess y.1.toList x.1.toList = false := by
        rcases b : Op.bytesLess y.1.toList x.1.toList with _ | _
        · rfl
        · have := bl_ntrans h2.1 a
          rw [b] at this; cases this
      have g2 : Op.bytesLess z.1.toList y.1.toList = false := by
        rcases b : Op.bytesLess z.1.toList y.1.toList with _ | _
        · rfl
        · have := bl_ntrans a h1.1
          rw [b] at this; cases this
      have k1 := h1.2.resolve_left (by rw [g1]; simp)
      have k2 := h2.2.resolve_left (by rw [g2]; simp)
      omega
    · exact .inl rfl

end Go.Proofs.YtlndgaijekihiaaGreat

/- Functions of the library at this seat: what the shelf says of them, in plain words (written by the kit's lay-plain). -/
namespace Go.Proofs
open Go.Shelf
def Tryz.sortP_ren : Go.Shelf.Ren := ⟨fun | 6 => 39 | 15 => 56 | 14 => 55 | 28 => 75 | 29 => 76 | 20 => 67 | 21 => 68 | 22 => 69 | 23 => 70 | 24 => 71 | 25 => 72 | 26 => 73 | 27 => 74 | 46 => 95 | 47 => 96 | 48 => 97 | 49 => 98 | 50 => 99 | 57 => 105 | n => n, fun | 22 => 54 | 24 => 86 | 25 => 91 | 3 => 3 | 39 => 115 | 0 => 0 | 53 => 132 | 55 => 134 | 4 => 4 | 46 => 126 | 45 => 125 | 50 => 37 | 5 => 5 | 9 => 9 | 66 => 150 | 70 => 154 | 76 => 159 | 77 => 160 | n => n, fun | n => n⟩
theorem Tryz.sortP : Go.Proofs.SlLaysF0.n6 Tryz.prog Tryz.sortP_ren := {
  mixed := by kernel_rfl
  f6 := ⟨Tryz.f39.name, by decide, Tryz.func39.trans (congrArg some (by kernel_rfl))⟩
  f14 := ⟨Tryz.f55.name, by decide, Tryz.func55.trans (congrArg some (by kernel_rfl))⟩
  f15 := Tryz.func56.trans (congrArg some (by kernel_rfl))
  f20 := ⟨Tryz.f67.name, by decide, Tryz.func67.trans (congrArg some (by kernel_rfl))⟩
  f21 := ⟨Tryz.f68.name, by decide, Tryz.func68.trans (congrArg some (by kernel_rfl))⟩
  f22 := ⟨Tryz.f69.name, by decide, Tryz.func69.trans (congrArg some (by kernel_rfl))⟩
  f23 := ⟨Tryz.f70.name, by decide, Tryz.func70.trans (congrArg some (by kernel_rfl))⟩
  f24 := ⟨Tryz.f71.name, by decide, Tryz.func71.trans (congrArg some (by kernel_rfl))⟩
  f25 := ⟨Tryz.f72.name, by decide, Tryz.func72.trans (congrArg some (by kernel_rfl))⟩
  f26 := ⟨Tryz.f73.name, by decide, Tryz.func73.trans (congrArg some (by kernel_rfl))⟩
  f27 := ⟨Tryz.f74.name, by decide, Tryz.func74.trans (congrArg some (by kernel_rfl))⟩
  f28 := Tryz.func75.trans (congrArg some (by kernel_rfl))
  f29 := Tryz.func76.trans (congrArg some (by kernel_rfl))
  f46 := ⟨Tryz.f95.name, by decide, Tryz.func95.trans (congrArg some (by kernel_rfl))⟩
  f47 := Tryz.func96.trans (congrArg some (by kernel_rfl))
  f48 := Tryz.func97.trans (congrArg some (by kernel_rfl))
  f49 := ⟨Tryz.f98.name, by decide, Tryz.func98.trans (congrArg some (by kernel_rfl))⟩
  f50 := ⟨Tryz.f99.name, by decide, Tryz.func99.trans (congrArg some (by kernel_rfl))⟩
  f57 := ⟨Tryz.f105.name, by decide, Tryz.func105.trans (congrArg some (by kernel_rfl))⟩
  t0 := Tryz.underlying0
  a0 := Tryz.isAgg0
  z0 := Tryz.sizeOf0
  v0 := Tryz.zeroValue0
  t3 := Tryz.underlying3
  a3 := Tryz.isAgg3
  z3 := Tryz.sizeOf3
  v3 := Tryz.zeroValue3
  t4 := Tryz.underlying4
  a4 := Tryz.isAgg4
  z4 := Tryz.sizeOf4
  v4 := Tryz.zeroValue4
  t5 := Tryz.underlying5
  a5 := Tryz.isAgg5
  z5 := Tryz.sizeOf5
  v5 := Tryz.zeroValue5
  t9 := Tryz.underlying9
  a9 := Tryz.isAgg9
  z9 := Tryz.sizeOf9
  v9 := Tryz.zeroValue9
  t22 := Tryz.underlying54
  a22 := Tryz.isAgg54
  z22 := Tryz.sizeOf54
  v22 := Tryz.zeroValue54
  t25 := Tryz.underlying91
  a25 := Tryz.isAgg91
  z25 := Tryz.sizeOf91
  v25 := Tryz.zeroValue91
  t39 := Tryz.underlying115
  a39 := Tryz.isAgg115
  z39 := Tryz.sizeOf115
  v39 := Tryz.zeroValue115
  t45 := Tryz.underlying125
  a45 := Tryz.isAgg125
  z45 := Tryz.sizeOf125
  v45 := Tryz.zeroValue125
  t46 := Tryz.underlying126
  a46 := Tryz.isAgg126
  z46 := Tryz.sizeOf126
  v46 := Tryz.zeroValue126
  t50 := Tryz.underlying37
  a50 := Tryz.isAgg37
  z50 := Tryz.sizeOf37
  v50 := Tryz.zeroValue37
  t53 := Tryz.underlying132
  a53 := Tryz.isAgg132
  z53 := Tryz.sizeOf132
  v53 := Tryz.zeroValue132
  t55 := Tryz.underlying134
  a55 := Tryz.isAgg134
  z55 := Tryz.sizeOf134
  v55 := Tryz.zeroValue134
  t66 := Tryz.underlying150
  a66 := Tryz.isAgg150
  z66 := Tryz.sizeOf150
  v66 := Tryz.zeroValue150
  t70 := Tryz.underlying154
  a70 := Tryz.isAgg154
  z70 := Tryz.sizeOf154
  v70 := Tryz.zeroValue154
  t76 := Tryz.underlying159
  a76 := Tryz.isAgg159
  z76 := Tryz.sizeOf159
  v76 := Tryz.zeroValue159
  t77 := Tryz.underlying160
  a77 := Tryz.isAgg160
  z77 := Tryz.sizeOf160
  v77 := Tryz.zeroValue160 }

end Go.Proofs

/- Predicates are told, in order. -/
namespace Go.Proofs.YtlndgaijekihiaaGreat
open Go Go.D Go.Proofs
set_option linter.unusedSimpArgs false
set_option linter.unusedVariables false
set_option maxRecDepth 8000

theorem bl_total : ∀ {x y : List UInt8}, Op.bytesLess x y = false → Op.bytesLess y x = false → x = y := by
  intro x
  induction x with
  | nil =>
    intro y h1 _
    cases y with
    | nil => rfl
    | cons b y => simp [Op.bytesLess] at h1
  | cons a x ih =>
    intro y h1 h2
    cases y with
    | nil => simp [Op.bytesLess] at h2
    | cons b y =>
      simp only [Op.bytesLess, Bool.or_eq_false_iff, decide_eq_false_iff_not, Bool.and_eq_false_iff, beq_eq_false_iff_ne, ne_eq] at h1 h2
      simp only [UInt8.lt_iff_toNat_lt] at h1 h2
      obtain ⟨h1, g1⟩ := h1
      obtain ⟨h2, g2⟩ := h2
      have : a = b := UInt8.toNat_inj.1 (by omega)
      subst this
      rw [ih (g1.resolve_left fun h => h rfl) (g2.resolve_left fun h => h rfl)]

section
variable {w : World}

theorem CmpS_ok {x y : ByteArray} {K : Int → World → Prop} (hK : K (cmpB x y) w) : C_cmp_Compare x y w K := by
  apply C_cmp_Compare.of
  unfold F_cmp_Compare
  have nan : ∀ {x : ByteArray} {K : Bool → World → Prop}, K false w → C_cmp_isNaN x w K := fun {x K} h => by
    apply C_cmp_isNaN.of
    unfold F_cmp_isNaN
    simpa using h
  unfold cmpB at hK
  refine nan (nan (ifF rfl (ifF rfl ?_)))
  rcases h1 : Op.bytesLess x.toList y.toList with _ | _
  · rw [h1] at hK
    refine ifF rfl ?_
    by_cases e : x.toList = y.toList
    · rw [e, bl_irrefl] at hK
      exact ifF (by simp [e]) hK
    · have h2 : Op.bytesLess y.toList x.toList = true := by
        rcases h2 : Op.bytesLess y.toList x.toList with _ | _
        · exact absurd (bl_total h1 h2) e
        · rfl
      rw [h2] at hK
      exact ifT (by simp [e]) hK
  · rw [h1] at hK
    exact ifT rfl hK

theorem Or_ok {W : World} {p : Option Addr} {c : Nat} {a b : Int} {G : List Nat} {K : Int → World → Prop} (h : SlAt w 1 p 2 c [.int .i64 a, .int .i64 b] G) (hK : K (if a ≠ 0 then a else b) w) : C_cmp_Or p 2 c w K := by
  apply C_cmp_Or.of
  unfold F_cmp_Or F_cmp_Or_L1
  have c0 := h.cell (i := 0) (by omega)
  have c1 := h.cell (i := 1) (by omega)
  obtain ⟨b0, off, hp, e0⟩ : ∃ b0 off, p = some ⟨b0, off, none⟩ ∧ w.cell? ⟨b0, off + 0, none⟩ = some (.int .i64 a) ∧ w.cell? ⟨b0, off + 1, none⟩ = some (.int .i64 b) := by
    rcases h.2.2 with ⟨_, hc, _⟩ | ⟨bb, off, arr, hp, hG, hb, hs, hc⟩
    · have := h.2.1; omega
    · exact ⟨bb, off, hp, by rw [hb.cell, hc 0 (by omega)]; rfl, by rw [hb.cell, hc 1 (by omega)]; rfl⟩
  refine ⟨fun s z => z = w ∧ ∃ i : Nat, s.t8 = i ∧ i ≤ 2 ∧ (1 ≤ i → a = 0) ∧ (2 ≤ i → b = 0), fun s _ => (2 - s.t8).toNat, ⟨rfl, 0, rfl, by omega, by omega, by omega⟩, ?_⟩
  rintro ⟨si⟩ z ⟨rfl, i, rfl, hi, h1, h2⟩
  unfold B_cmp_Or_L1
  subst hp
  refine ifC (fun g => ?_) (fun g => ?_)
  · have gi : i < 2 := by have := of_decide_eq_true g; dsimp only at this; omega
    refine ⟨by show (0 : Int) ≤ (i : Int); omega, by show (i : Int) < _; omega, ?_⟩
    have h01 : i = 0 ∨ i = 1 := by omega
    rcases h01 with rfl | rfl
    · simp only [NN_some, addN, drw_cell, drw_heap, exS, exI, exB, exP, exM, exStr, exV, a0, a1, a2, a3, a4, a5, a6, a7, a8, a9, a10, a11, a12, a13, maxI_eq, Nat.zero_add, Nat.add_zero, Nat.mul_one, Option.isNone_some, Option.isNone_none]
      refine ⟨a, e0.1, ifC (fun g2 => ?_) (fun g2 => ?_)⟩
      · have : a ≠ 0 := by simpa using g2
        rwa [if_pos this] at hK
      · have : a = 0 := by simpa using g2
        exact ⟨⟨trivial, 1, by rfl, by omega, fun _ => this, by omega⟩, by decide⟩
    · simp only [NN_some, addN, drw_cell, drw_heap, exS, exI, exB, exP, exM, exStr, exV, a0, a1, a2, a3, a4, a5, a6, a7, a8, a9, a10, a11, a12, a13, maxI_eq, Nat.zero_add, Nat.add_zero, Nat.mul_one, Option.isNone_some, Option.isNone_none]
      have a0 := h1 (by omega)
      rw [if_neg (by simpa using a0)] at hK
      refine ⟨b, e0.2, ifC (fun g2 => hK) (fun g2 => ?_)⟩
      have : b = 0 := by simpa using g2
      exact ⟨⟨trivial, 2, by rfl, by omega, fun _ => a0, fun _ => this⟩, by decide⟩
  · have gi : i = 2 := by have := of_decide_eq_false g; dsimp only at this; omega
    subst gi
    have a0 := h1 (by omega)
    have b0' := h2 (by omega)
    rw [if_neg (by simpa using a0), b0'] at hK
    exact hK

theorem cmpLaysP (blk off size : Nat) (w : World) : CmpLays Tryz.prog 40 #[] prC 3 cfP blk off size w := by
  intro m os dk _ x y
  obtain ⟨W, hW⟩ : ∃ W, W = sortWorldK prC 3 w blk off m dk os := ⟨_, rfl⟩
  rw [← hW]
  refine Calls.mono (C_base_Base_Preds_1.of (a0 := x.1) (a1 := x.2.1) (a2 := x.2.2) (b0 := y.1) (b1 := y.2.1) (b2 := y.2.2) (w := W) (R := fun r w' => r = cfP x y ∧ Gr W w') ?_) fun e w' ⟨r, he, hr, hg⟩ => ⟨by rw [he, hr], hg⟩
  unfold F_base_Base_Preds_1
  refine New_ruleG (Gr.refl W) fun r w1 hr1 u1 b1 g1 => New_ruleG g1 fun r1 w2 hr2 u2 b2 g2 => ?_
  have b1' := b1.upd u2 (by simp)
  have gd := g2.drw
  simp only [NN_some, addN, drw_cell, drw_heap, exS, exI, exB, exP, exM, exStr, exV, a0, a1, a2, a3, a4, a5, a6, a7, a8, a9, a10, a11, a12, a13, maxI_eq, Nat.zero_add, Nat.add_zero, Nat.mul_one, Option.isNone_some, Option.isNone_none, b1'.cell, b2.cell]
  refine CmpS_ok ⟨by simp only [NN_some, addN, drw_cell, drw_heap, exS, exI, exB, exP, exM, exStr, exV, a0, a1, a2, a3, a4, a5, a6, a7, a8, a9, a10, a11, a12, a13, maxI_eq, Nat.zero_add, Nat.add_zero, Nat.mul_one, Option.isNone_some, Option.isNone_none, b2.cell], by simp only [NN_some, addN, drw_cell, drw_heap, exS, exI, exB, exP, exM, exStr, exV, a0, a1, a2, a3, a4, a5, a6, a7, a8, a9, a10, a11, a12, a13, maxI_eq, Nat.zero_add, Nat.add_zero, Nat.mul_one, Option.isNone_some, Option.isNone_none, b1'.cell], Ix.Compare_ok ?_⟩
  refine BSlL_ruleG eS_65 [.int .i64 (cmpB x.1 y.1), .int .i64 (cmpI x.2.1 y.2.1)] gd (by rfl) (by simp [Value.cells]) (by rfl) (by omega) fun w3 hs3 u3 g3 => ?_
  have hs3' : SlAt w3 1 (some ⟨(drw w2).heap.size, 0, none⟩) 2 2 [.int .i64 (cmpB x.1 y.1), .int .i64 (cmpI x.2.1 y.2.1)] [(drw w2).heap.size] := by simpa [Value.cells] using hs3
  exact Or_ok (W := W) hs3' ⟨rfl, g3⟩

/-- The row is sorted. -/
theorem PSort_ok {p : Option Addr} {n c : Nat} {E : List PrT} {G : List Nat} {K : World → Prop} (h : SlAt w 3 p n c (E.flatMap prC) G) (hl : E.length < 2 ^ 40)
    (hK : ∀ w' (E' : List PrT), E'.Perm E → SlAt w' 3 p n c (E'.flatMap prC) G → Upd G w w' → K w') : C_slices_SortFunc p n c (.func (.func 40) #[] #[]) w K := by
  have hn : n = E.length := by have := h.1; rw [flat_len prC_len] at this; omega
  unfold C_slices_SortFunc
  by_cases h0 : E = []
  · subst h0
    simp at hn
    subst hn
    refine Calls.mono (AnyF.slices_SortFunc_none Tryz.sortP p c _ w) fun e w' ⟨he, hw⟩ => ⟨he, ?_⟩
    subst hw
    exact hK _ [] (List.Perm.refl _) h (Upd.refl _ _)
  · have hpos : 0 < E.length := List.length_pos_iff.2 h0
    have hnc := h.2.1
    rcases h.2.2 with ⟨_, hc, _⟩ | ⟨b, off, arr, hp, hF, hb, hs, hc⟩
    · omega
    subst hp hF hn
    have hH : Go.Sort.HoldsK prC 3 w b off E.toArray := holdsK_of prC_len hb (by omega) hc
    have eg : ∀ args w, (callFunc 40 args).run Tryz.prog w = .ok (.enter 40 args) w := enters_of Tryz.func40 (by kernel_rfl) rfl
    have hS := AnyQ.slices_SortFunc Tryz.sortP 3 Tryz.isAgg86 Tryz.sizeOf86 prC prC_len prC_one' cfP swoP 40 #[] b off c E.toArray w eg (cmpLaysP b off E.toArray.size w) hH hb.lt (by simp; omega)
    refine Calls.mono hS fun e w' ⟨he, d', m, os, hperm, _, hw⟩ => ⟨he, ?_⟩
    obtain ⟨hsz, _, hpm⟩ := hperm
    have hE' : d'.toList.Perm E := by
      have := hpm
      rw [show (d'.extract 0 E.toArray.size) = d' by rw [← hsz]; simp, show (E.toArray.extract 0 E.toArray.size) = E.toArray by simp] at this
      simpa using this
    have hb2 := sortK_back (enc := prC) (k := 3) prC_len (w := w) (p := some ⟨b, off, none⟩) (n := E.length) (c := c) (b := b) (off := off) (E := E) (E' := d'.toList) (m := m) (os := os) rfl hnc (by have := hE'.length_eq; omega) rfl hb (by omega)
    have e : d'.toList.toArray = d' := by simp
    rw [e, ← hw] at hb2
    exact hK w' d'.toList hE' hb2.1 hb2.2

end

end Go.Proofs.YtlndgaijekihiaaGreat

/- Predicates are told: how many clauses of each live. -/
namespace Go.Proofs.YtlndgaijekihiaaGreat
open Go Go.D Go.Proofs
set_option linter.unusedSimpArgs false
set_option linter.unusedVariables false
set_option maxRecDepth 8000

section
variable {w : World} {d : BsD} {t : Ix.TbD} {k : PKey}

theorem filter_take {α : Type} {p : α → Bool} {l : List α} {i : Nat} (hi : i < l.length) : ((l.take (i + 1)).filter p).length = ((l.take i).filter p).length + if p l[i] then 1 else 0 := by
  rw [take_step hi, List.filter_append, List.length_append]
  rcases e : p l[i] with _ | _
  · rw [List.filter_cons_of_neg (by rw [e]; simp)]; simp
  · rw [List.filter_cons_of_pos e]; simp

theorem live_ok {K : Int → World → Prop} (h : Bs w d) (ok : BsOk d) (ht : (k, t) ∈ d.PT) (hg : d.gen < 2 ^ 40) (hK : ∀ w', Upd [] w w' → K (((idsT t).filter (livesI d.S d.gen)).length) w') : C_base_Base_live d.a t.a w K := by
  apply C_base_Base_live.of
  unfold F_base_Base_live F_base_Base_live_L1
  have tok := ok.tb _ ht
  refine Ix.All_ok (k := Ix.zk) (h.tb _ ht) tok (by omega) fun p n c G w1 hs u1 _ => ?_
  rw [Ix.metE_zk] at hs
  have hs : SlAt w1 1 p n c ((idsT t).map (.int .i64)) G := hs
  have hn : n = (idsT t).length := by have := hs.1; rw [List.length_map] at this; omega
  have hlen : (idsT t).length ≤ 4096 := by unfold idsT; rw [List.length_map]; exact tok.len
  refine ⟨fun s z => ∃ i : Nat, s.t12 = i ∧ i ≤ (idsT t).length ∧ s.n = ((((idsT t).take i).filter (livesI d.S d.gen)).length : Nat) ∧ Upd [] w1 z, fun s _ => ((idsT t).length - s.t12).toNat, ⟨0, rfl, by omega, by simp, Upd.refl _ _⟩, ?_⟩
  rintro ⟨sn, si⟩ z ⟨i, rfl, hi, e1, uz⟩
  dsimp only at e1
  subst e1
  unfold B_base_Base_live_L1
  have hfl := List.length_filter_le (livesI d.S d.gen) ((idsT t).take i)
  rw [List.length_take] at hfl
  refine ifC (fun g => ?_) (fun g => ?_)
  · have gi : i < (idsT t).length := by have := of_decide_eq_true g; dsimp only at this; omega
    obtain ⟨b, off, hp, hc⟩ := int_cell (hs.upd uz (by intro k _ h; cases h)) gi
    have hz := (h.keep u1).keep uz
    subst hp
    refine ⟨by show (0 : Int) ≤ (i : Int); omega, by show (i : Int) < _; omega, ?_⟩
    simp only [BsD.a, NN_some, addN, drw_cell, drw_heap, exS, exI, exB, exP, exM, exStr, exV, a0, a1, a2, a3, a4, a5, a6, a7, a8, a9, a10, a11, a12, a13, maxI_eq, Nat.zero_add, Nat.add_zero, Nat.mul_one, Option.isNone_some, Option.isNone_none, Int.toNat_natCast, hc, hz.blk.cell]
    have ft := filter_take (p := livesI d.S d.gen) gi
    unfold F_base_Base_live_k1
    refine Lives_ok hz fun z1 v1 => ifC (fun g2 => ?_) (fun g2 => ?_)
    · dsimp only
      rw [i64id (x := ((((idsT t).take i).filter (livesI d.S d.gen)).length : Nat) + 1) (by omega) (by omega), i64id (by omega) (by omega)]
      rw [g2] at ft
      refine ⟨⟨i + 1, by simp, by omega, ?_, uz.after v1⟩, by show (((idsT t).length : Int) - ((i : Int) + 1)).toNat < (((idsT t).length : Int) - (i : Int)).toNat; omega⟩
      rw [ft]; simp
    · dsimp only
      rw [i64id (by omega) (by omega)]
      rw [g2] at ft
      refine ⟨⟨i + 1, by simp, by omega, ?_, uz.after v1⟩, by show (((idsT t).length : Int) - ((i : Int) + 1)).toNat < (((idsT t).length : Int) - (i : Int)).toNat; omega⟩
      rw [ft]; simp
  · have gi : i = (idsT t).length := by have := of_decide_eq_false g; dsimp only at this; omega
    subst gi
    rw [List.take_length]
    exact hK z (u1.after uz)

def prOf (S : List Slt) (gen : Int) (x : Prd) : PrT := (x.1.1, x.1.2, (((idsT x.2).filter (livesI S gen)).length : Nat))

theorem prC_all {l : List PrT} : ∀ v ∈ l.flatMap prC, v.oneCell' = true := fun v hv => by
  obtain ⟨x, _, h⟩ := List.mem_flatMap.1 hv
  exact prC_one' x v h

theorem Preds_ok {K : Option Addr → Nat → Nat → World → Prop} (h : Bs w d) (ok : BsOk d) (hg : d.gen < 2 ^ 40) (hl : d.PT.length < 2 ^ 30)
    (hK : ∀ w' p c G (E' : List PrT), E'.Perm (d.PT.map (prOf d.S d.gen)) → SlAt w' 3 p E'.length c (E'.flatMap prC) G → Since G w → Upd [] w w' → K p E'.length c w') : C_base_Base_Preds d.a w K := by
  apply C_base_Base_Preds.of
  unfold F_base_Base_Preds F_base_Base_Preds_L1
  refine bmade_ok h (ifF rfl ?_)
  simp only [BsD.a, NN_some, addN, drw_cell, drw_heap, exS, exI, exB, exP, exM, exStr, exV, a0, a1, a2, a3, a4, a5, a6, a7, a8, a9, a10, a11, a12, a13, maxI_eq, Nat.zero_add, Nat.add_zero, Nat.mul_one, Option.isNone_some, Option.isNone_none, h.blk.cell]
  refine Rng_rule (kt := 61) (et := 63) (inj := pkV) (by rfl) h.map fun w1 hr u1 => ?_
  obtain ⟨it, hit⟩ : ∃ it, it = w.heap.size := ⟨_, rfl⟩
  rw [← hit] at hr ⊢
  have low := h.lowG
  refine ⟨fun s z => ∃ (D TD : List Prd) (G : List Nat), (D ++ TD).Perm d.PT ∧ Ranging z d.r it pkV (d.PT.map fun x => (x.1, Value.pointer x.2.a)) (TD.map fun x => (x.1, Value.pointer x.2.a)) ∧ s.outN = D.length ∧ SlAt z 3 s.outP D.length s.outC ((D.map (prOf d.S d.gen)).flatMap prC) G ∧ Since G w1 ∧ Upd [it] w1 z,
    fun s z => leftN z d.r it, ⟨[], d.PT, [], by simp, hr, rfl, SlAt.nil _ _, (by intro k hk; cases hk), Upd.refl _ _⟩, ?_⟩
  rintro ⟨op, on, oc⟩ z ⟨D, TD, G, hperm, hz, e1, hs, hG, uz⟩
  dsimp only at e1 hs
  subst e1
  unfold B_base_Base_Preds_L1 F_base_Base_Preds_k1
  have Uz : Upd [] w z := u1.fresh uz (by intro k hk; simp at hk; omega)
  have hDl : D.length ≤ d.PT.length := by have := hperm.length_eq; rw [List.length_append] at this; omega
  refine Next_rule hz (fun h0 => .inl ⟨rfl, ifF rfl ?_⟩) (fun t1 x t2 z1 h1 hst v1 => ?_)
  · have hTD : TD = [] := List.map_eq_nil_iff.1 h0
    subst hTD
    rw [List.append_nil] at hperm
    have hl' : (D.map (prOf d.S d.gen)).length = D.length := List.length_map _
    refine PSort_ok (E := D.map (prOf d.S d.gen)) hs (by rw [hl']; omega) fun z2 E' hE hs2 u2 => ?_
    have eE : E'.length = D.length := by rw [hE.length_eq, hl']
    have s1 := u1.size
    have V : Upd [] w z2 := Uz.fresh u2 (fun k hk => by have := hG k hk; omega)
    have := hK z2 op oc G E' (hE.trans (hperm.map _)) (by rw [eE]; exact hs2) (fun k hk => by have := hG k hk; omega) V
    rw [eE] at this
    exact this
  · obtain ⟨T1, T2', e1, e2, e3⟩ := List.map_eq_append_iff.1 h1
    obtain ⟨y, T2, e4, e5, e6⟩ := List.map_eq_cons_iff.1 e3
    subst e1 e4
    subst e5
    have hy : y ∈ d.PT := hperm.mem_iff.1 (by simp)
    refine .inr ⟨_, _, rfl, ifT rfl (Entry_rule hst ⟨y.1.1, y.1.2, y.2.a, rfl, New_rule fun r z2 hr2 v2 b2 => ?_⟩)⟩
    refine St2q b2 rfl rfl fun z3 v3 b3 => ?_
    have zs := Uz.size
    have v1s := v1.size
    have V3 : Upd [it] z z3 := (v1.before v2).trans v3 (fun k hk => .inl hk) (by intro k hk; simp at hk; right; omega)
    have ud := drw_upd z3
    have V3d := V3.before ud
    have W3 : Upd [] w (drw z3) := Uz.fresh V3d (by intro k hk; simp at hk; omega)
    simp only [NN_some, addN, drw_cell, drw_heap, exS, exI, exB, exP, exM, exStr, exV, a0, a1, a2, a3, a4, a5, a6, a7, a8, a9, a10, a11, a12, a13, maxI_eq, Nat.zero_add, Nat.add_zero, Nat.mul_one, Option.isNone_some, Option.isNone_none, b3.cell]
    rw [show (some ⟨d.b, 0, none⟩ : Option Addr) = d.a from rfl]
    refine live_ok (h.keep W3) ok (k := y.1) (t := y.2) hy hg fun z4 v4 => ?_
    have b4 := (b3.upd ud (by simp)).upd v4 (by simp)
    refine ⟨by simp only [NN_some, addN, drw_cell, drw_heap, exS, exI, exB, exP, exM, exStr, exV, a0, a1, a2, a3, a4, a5, a6, a7, a8, a9, a10, a11, a12, a13, maxI_eq, Nat.zero_add, Nat.add_zero, Nat.mul_one, Option.isNone_some, Option.isNone_none, b4.cell], by simp only [NN_some, addN, drw_cell, drw_heap, exS, exI, exB, exP, exM, exStr, exV, a0, a1, a2, a3, a4, a5, a6, a7, a8, a9, a10, a11, a12, a13, maxI_eq, Nat.zero_add, Nat.add_zero, Nat.mul_one, Option.isNone_some, Option.isNone_none, b4.cell], BSlL_rule eS_54 [.agg (prC (prOf d.S d.gen y)).toArray] (by rfl) (by simp [Value.cells, prC]) (by rfl) (by omega) fun z5 hs5 v5 => ?_⟩
    have hs5' : SlAt z5 3 (some ⟨z4.heap.size, 0, none⟩) 1 1 (prC (prOf d.S d.gen y)) [z4.heap.size] := by simpa [Value.cells] using hs5
    have V5 := v4.after v5
    have itG : Dis G [it] := fun k hk hx => by simp at hx; have := hG k hk; have := u1.size; have := hr.lt; omega
    refine App_rule (hE := eS_54) ((hs.upd V3d itG).upd V5 (by intro k _ h; cases h)) hs5' (prC_one' _) (by omega) fun p6 c6 G6 z6 hs6 v6 g6 => ?_
    have w3s := W3.size
    have s1 := u1.size
    have zz := V3d.size
    have z5s := V5.size
    have uzs := uz.size
    have rr : d.r ≠ it := by have := low d.r (by simp [BsD.F]); omega
    have rG : d.r ∉ G := fun hx => by have := hG _ hx; have := low d.r (by simp [BsD.F]); omega
    have iG : it ∉ G := fun hx => by have := hG _ hx; have := hr.lt; omega
    have hrr : d.r ≠ r := by have := low d.r (by simp [BsD.F]); omega
    have hir : it ≠ r := by have := hz.lt; omega
    have r1 := hst.ranging
    have r5 : Ranging z5 d.r it pkV (d.PT.map fun x => (x.1, Value.pointer x.2.a)) (t1 ++ t2) := ((((r1.keep v2).upd v3 (by simpa using hrr) (by simpa using hir)).keep ud).keep V5)
    have r6 := r5.upd v6 rG iG
    have e7 : t1 ++ t2 = (T1 ++ T2).map fun x => (x.1, Value.pointer x.2.a) := by rw [List.map_append, e2, e6]
    rw [e7] at r6
    refine ⟨⟨D ++ [y], T1 ++ T2, G6, ?_, r6, by simp, ?_, fun k hk => ?_, ?_⟩, ?_⟩
    · refine List.Perm.trans ?_ hperm
      rw [List.append_assoc]
      refine List.Perm.append_left D ?_
      exact (List.perm_middle (l₁ := T1) (l₂ := T2) (a := y)).symm
    · have : SlAt z6 3 p6 (D.length + 1) c6 _ G6 := hs6
      rw [List.length_append, List.length_singleton, List.map_append, List.flatMap_append]
      simpa using this
    · rcases g6 k hk with g | g
      · exact hG k g
      · omega
    · exact uz.trans (V3d.trans (V5.trans v6 (F := []) (H := G) (by simp) fun _ hx => .inl hx) (F := [it]) (H := it :: G) (fun k hk => .inl (by simp at hk; simp [hk])) (fun k hk => .inl (by simp [hk]))) (fun k hk => .inl hk) fun k hk => by
        rcases List.mem_cons.1 hk with e | e
        · exact .inl (by simp [e])
        · exact .inr (hG k e)
    · show leftN z6 d.r it < leftN z d.r it
      rw [r6.left, hz.left]
      simp

end

end Go.Proofs.YtlndgaijekihiaaGreat
