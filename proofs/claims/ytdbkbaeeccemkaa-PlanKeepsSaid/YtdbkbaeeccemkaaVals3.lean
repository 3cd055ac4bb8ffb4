/- slices.SortFunc at structs: rows of elements of k cells. -/
import Derived.Shelf.SlSortCmp.WholeK
import Derived.Test.YtdbkbaeeccemkaaOwn12
import Derived.Test.YtdbkbaeeccemkaaOwn6
import Derived.Test.YtdbkbaeeccemkaaGenC
import Derived.RangeFuncGives
import Derived.Maps.AppendAt
import Derived.Shelf.Abstract
import Derived.Sort.MapsRangeIn
import Derived.WalkKit
import Derived.OwnWalkIn
import Derived.TacticsInMore
import Derived.RegionIn
import Derived.LoopNIn
import Derived.LoopIn
import Derived.Test.YtdbkbaeeccemkaaGenAll
set_option linter.unusedSimpArgs false
set_option linter.unusedVariables false
namespace Go.D
open Go

theorem flatK_get {α : Type} [Inhabited α] {enc : α → List Value} {k : Nat} (hk : ∀ x, (enc x).length = k) (E : List α) {t : Nat} (ht : t < E.length * k) : (Go.Sort.flatK enc k E.toArray)[t]! = (E.flatMap enc)[t]'(by rw [flat_len hk]; exact ht) := by
  have k0 : 0 < k := by
    rcases Nat.eq_zero_or_pos k with h | h
    · subst h; simp at ht
    · exact h
  rw [Go.Sort.get_flatK _ _ _ _ (by simpa using ht)]
  have hd : t / k < E.length := (Nat.div_lt_iff_lt_mul k0).2 ht
  have hm : t % k < k := Nat.mod_lt _ k0
  have e := flat_at hk (l := E) hd hm
  rw [show t / k * k + t % k = t by have := Nat.div_add_mod t k; rw [Nat.mul_comm] at this; omega] at e
  rw [List.getElem?_eq_getElem (by rw [flat_len hk]; exact ht), List.getElem?_eq_getElem (by rw [hk]; exact hm)] at e
  have e := Option.some.inj e
  rw [e]
  have e2 : (E.toArray)[t / k]! = E[t / k] := by rw [getElem!_pos _ _ (by simpa using hd)]; simp
  rw [e2, getElem!_pos _ _ (by rw [hk]; exact hm)]

theorem holdsK_of {α : Type} [Inhabited α] {enc : α → List Value} {k : Nat} (hk : ∀ x, (enc x).length = k) {w : World} {b off : Nat} {arr : Array Value} {E : List α} (hb : Blk w b arr) (hs : off + E.length * k ≤ arr.size) (hc : ∀ i, i < E.length * k → arr[off + i]? = (E.flatMap enc)[i]?) : Go.Sort.HoldsK enc k w b off E.toArray := by
  intro j hj
  have hj : j < E.length * k := by simpa using hj
  refine ⟨?_, hb.frozen (by omega)⟩
  rw [hb.cell, hc j hj, List.getElem?_eq_getElem (by rw [flat_len hk]; exact hj), flatK_get hk E hj]
  rfl

theorem sortK_back {α : Type} [Inhabited α] {enc : α → List Value} {k : Nat} (hk : ∀ x, (enc x).length = k) {w : World} {p : Option Addr} {n c b off : Nat} {arr : Array Value} {E E' : List α} {m : Nat} {os : Array Obj} (hn : n = E.length) (hnc : n ≤ c) (hl : E'.length = E.length) (hp : p = some ⟨b, off, none⟩) (hb : Blk w b arr) (hs : off + c * k ≤ arr.size) :
    SlAt (Go.Proofs.sortWorldK enc k w b off m E'.toArray os) k p n c (E'.flatMap enc) [b] ∧ Upd [b] w (Go.Proofs.sortWorldK enc k w b off m E'.toArray os) := by
  obtain ⟨w', hw⟩ : ∃ w', w' = Go.Proofs.sortWorldK enc k w b off m E'.toArray os := ⟨_, rfl⟩
  rw [← hw]
  have hlt := hb.lt
  obtain ⟨T, fz, hobj, hfz⟩ := hb
  have e1 : w'.heap = (w.heap.modify b (Go.Sort.onCells (Go.Sort.putCells id off (Go.Sort.flatK enc k E'.toArray)))) ++ os := by rw [hw]; rfl
  have hsz : w'.heap.size = w.heap.size + os.size := by rw [e1]; simp
  have hck : n * k ≤ c * k := Nat.mul_le_mul_right _ hnc
  refine ⟨⟨by rw [flat_len hk, hl, hn], hnc, .inr ⟨b, off, Go.Sort.putCells id off (Go.Sort.flatK enc k E'.toArray) arr, hp, rfl, ⟨T, fz, ?_, ?_⟩, ?_, fun i hi => ?_⟩⟩, ⟨by rw [hw]; rfl, by rw [hw]; rfl, by rw [hw]; rfl, by omega, fun j hj hjb => ?_⟩⟩
  · rw [e1, Array.getElem?_append_left (by simpa using hlt), Array.getElem?_modify, if_pos rfl, hobj]; rfl
  · simpa [Go.Sort.putCells] using hfz
  · simpa [Go.Sort.putCells] using hs
  · unfold Go.Sort.putCells
    rw [Array.getElem?_mapIdx, Array.getElem?_eq_getElem (by omega)]
    simp only [Option.map_some]
    have hi' : i < E'.length * k := by rw [hl, ← hn]; exact hi
    rw [if_pos (by simp only [Go.Sort.size_flatK, List.size_toArray]; omega), List.getElem?_eq_getElem (by rw [flat_len hk]; exact hi')]
    rw [show off + i - off = i by omega, flatK_get hk E' hi']
    rfl
  · simp at hjb
    rw [e1, Array.getElem?_append_left (by simpa using hj), Array.getElem?_modify, if_neg (fun e => hjb e.symm)]

/-- A world that has grown: draws, and new blocks. -/
def Gr (W w : World) : Prop := ∃ (q : Nat) (os : Array Obj), w = Go.Sort.grow (W.drewN q) os

theorem Gr.refl (W : World) : Gr W W := ⟨0, #[], by simp [Go.Sort.grow, World.drewN]⟩
theorem Gr.drw {W w : World} (h : Gr W w) : Gr W (drw w) := by
  obtain ⟨q, os, rfl⟩ := h
  exact ⟨q + 1, os, by simp [Go.Sort.grow, World.drewN, Go.D.drw, Nat.add_assoc]⟩
theorem Gr.push {W w : World} (h : Gr W w) (o : Obj) : Gr W { w with heap := w.heap.push o } := by
  obtain ⟨q, os, rfl⟩ := h
  exact ⟨q, os.push o, by simp [Go.Sort.grow, World.drewN]⟩

theorem New_ruleG {W w : World} {arr : Array Value} {T : TypeId} {K : Nat → World → Prop} (g : Gr W w)
    (hK : ∀ b w', b = w.heap.size → Upd [] w w' → Blk w' b arr → Gr W w' → K b w') : New w (.cells arr T) K := by
  refine hK _ _ rfl (push_upd w _) ⟨T, (0, 0), ?_, .inl (Nat.le_refl _)⟩ (g.push _)
  show (w.heap.push _)[_]? = _
  simp

theorem BSl_ruleG {P : Program} {S E : TypeId} {sz by_ : Nat} {zc : Array Value} (hE : ElemOf P S E sz by_ zc) {W w : World} {len : Nat} {ps : List (Nat × Value)} {cs : List Value} (g : Gr W w)
    (hf : Instr.fill (fun i => some (i * sz, sz)) ((Array.range (len * sz)).map (zc[· % zc.size]!)) ps = some cs.toArray) (hl : cs.length = len * sz) (hb : len * sz ≤ 2 ^ 24)
    {K : Option Addr → Nat → Nat → World → Prop}
    (hK : ∀ w', SlAt w' sz (some ⟨w.heap.size, 0, none⟩) len len cs [w.heap.size] → Upd [] w w' → Gr W w' → K (some ⟨w.heap.size, 0, none⟩) len len w') : BSl P S len ps w K := by
  obtain ⟨i, hi, hsz, hby, z, hz, hzc⟩ := hE.info
  have hszp := hE.pos
  have hzv : ∀ w, (zeroValue E).run P w = .ok z w := fun w => by simp [zeroValue, typeInfo, hi, hz]
  have hlb : ¬ len * sz > 2 ^ 24 := by omega
  have hrun : (Instr.buildSlice S len ps.toArray).run P w = .ok (.slice (some ⟨w.heap.size, 0, none⟩) len len) { w with heap := w.heap.push (.cells cs.toArray E) } := by
    by_cases h0 : len * sz = 0
    · have hr : ∀ f : Nat → Value, (Array.range 0).map f = #[] := fun f => Array.eq_empty_of_size_eq_zero (by simp)
      rw [h0, hr] at hf
      simp [Instr.buildSlice, run_underlyingD hE.und, sizeOf, typeInfo, hi, hsz, hr, h0, hf, newRow]
    · simp [Instr.buildSlice, run_underlyingD hE.und, sizeOf, typeInfo, hi, hsz, hlb, h0, hzv, hzc]
      simp [hf, newRow]
  unfold BSl Run
  rw [hrun]
  have hblk : Blk ({ w with heap := w.heap.push (.cells cs.toArray E) } : World) w.heap.size cs.toArray := by
    refine ⟨E, (0, 0), ?_, .inl (Nat.le_refl _)⟩
    show (w.heap.push _)[_]? = _
    simp
  exact ⟨_, _, _, rfl, hK _ ⟨hl, Nat.le_refl _, .inr ⟨_, _, _, rfl, rfl, hblk, by simp [hl], fun i hi => by simp⟩⟩ (push_upd w _) (g.push _)⟩

theorem BSlL_ruleG {P : Program} {S E : TypeId} {sz by_ : Nat} {zc : Array Value} (hE : ElemOf P S E sz by_ zc) {W w : World} {len : Nat} {ps : List (Nat × Value)} (vs : List Value) (g : Gr W w) (hps : ps = (vs.zipIdx 0).map fun x => (x.2, x.1)) (hv : ∀ v ∈ vs, v.cells.size = sz) (hl : len = vs.length) (hb : len * sz ≤ 2 ^ 24)
    {K : Option Addr → Nat → Nat → World → Prop}
    (hK : ∀ w', SlAt w' sz (some ⟨w.heap.size, 0, none⟩) len len (vs.flatMap (fun v => v.cells.toList)) [w.heap.size] → Upd [] w w' → Gr W w' → K (some ⟨w.heap.size, 0, none⟩) len len w') : BSl P S len ps w K := by
  subst hl
  have hs : ∀ l : List Value, (∀ v ∈ l, v.cells.size = sz) → (l.flatMap (fun v => v.cells.toList)).length = l.length * sz := by
    intro l hl
    induction l with
    | nil => simp
    | cons x l ih => rw [List.flatMap_cons, List.length_append, ih (fun v hv => hl v (by simp [hv])), List.length_cons, Nat.add_mul]; simp [hl x (by simp)]; omega
  refine BSl_ruleG (cs := vs.flatMap (fun v => v.cells.toList)) hE g ?_ (hs vs hv) hb hK
  rw [hps, fill_seq sz vs 0 _ hv (by simp)]
  simp

end Go.D

/- maps.Values: each value once, in some order (after the kit's worked text on maps.Keys). -/
set_option linter.unusedSimpArgs false
set_option linter.unusedVariables false
namespace Go.D
open Go

theorem of_Run {α : Type} {P : Program} {s : Sem α} {w : World} {K : α → World → Prop} (h : Run P s w K) : ∃ v w', s.run P w = .ok v w' ∧ K v w' := by
  unfold Run at h
  rcases e : s.run P w with ⟨v, w'⟩ | _
  · rw [e] at h; exact ⟨v, w', rfl, h⟩
  · rw [e] at h; exact h.elim

theorem upd_grown {w w' : World} {F : List Nat} {row : Option Nat} (u : Upd F w w') (h : ∀ k ∈ F, row = some k) : w.grownBy w' row :=
  ⟨u.os, u.tape, u.output, u.size, fun k hk hn => u.blk k hk fun hF => hn (h k hF).symm⟩

section
variable {F : Fence} {n : Nat} {P : Program} {w : World} {ops : Array Oper} {rest : List Oper} {o : Oper} {a : Act} {Q : Exit → Act → World → Prop} {κ : Type} {inj : κ → Value} {M todo : List (κ × Value)}

theorem wpIn_range (hg : o.guard = none) (m : Operand) (t : TypeId) (hop : o.op = Op.range t m) {kt et : TypeId} (hu : P.underlying t = some (.map kt et)) {b : Nat} (hm : a.eval m = .map (some b)) (hmap : MapAt w b inj M)
    (hK : ∀ w', Ranging w' b w.heap.size inj M M → Upd [] w w' → wpListIn F n P ops Q rest (a.put o.dst (.pointer (some ⟨w.heap.size, 0, none⟩))) w') : wpListIn F n P ops Q (o :: rest) a w := by
  refine wpListIn_plain hg fun K' hK' => ?_
  obtain ⟨v, w', hrun, p, rfl, rfl, h1, h2⟩ := of_Run (Rng_rule (inj := inj) hu hmap (K := fun p w' => p = some ⟨w.heap.size, 0, none⟩ ∧ Ranging w' b w.heap.size inj M M ∧ Upd [] w w') fun w' h1 h2 => ⟨rfl, h1, h2⟩)
  unfold Oper.wpIn
  refine ⟨?_, ?_⟩
  · simp [Oper.about, hop]
  · rw [Oper.semAt_plain F _ _ (by rw [hop]; intro c hc'; cases hc')]
    simp [execOp, hop, hm, hrun, Result.andThen]
    exact hK' _ _ (hK w' h1 h2)

theorem wpIn_next (hg : o.guard = none) (it : Operand) (hop : o.op = Op.next it false) {b r : Nat} (hit : a.eval it = .pointer (some ⟨r, 0, none⟩)) (h : Ranging w b r inj M todo)
    (hDone : todo = [] → wpListIn F n P ops Q rest (a.put o.dst (.tuple #[.bool false])) w)
    (hMore : ∀ x t1 t2 w', todo = t1 ++ x :: t2 → Stepped w' b r inj M (t1 ++ t2) x → Upd [r] w w' → (Instr.entry (.pointer (some ⟨r, 0, none⟩))).run P w' = .ok (.tuple #[inj x.1, x.2]) w' → wpListIn F n P ops Q rest (a.put o.dst (.tuple #[.bool true, inj x.1, x.2])) w') :
    wpListIn F n P ops Q (o :: rest) a w := by
  refine wpListIn_plain hg fun K' hK' => ?_
  unfold Oper.wpIn
  refine ⟨by simp [Oper.about, hop], ?_⟩
  rw [Oper.semAt_plain F _ _ (by rw [hop]; intro c hc'; cases hc')]
  obtain ⟨v, w', hrun, h1⟩ := of_Run (Next_rule (P := P) (ty := o.type) h (K := fun v w' => (v = .tuple #[.bool false] ∧ w' = w ∧ todo = []) ∨ ∃ x t1 t2, v = .tuple #[.bool true, inj x.1, x.2] ∧ todo = t1 ++ x :: t2 ∧ Stepped w' b r inj M (t1 ++ t2) x ∧ Upd [r] w w') (fun h0 => .inl ⟨rfl, rfl, h0⟩) fun t1 x t2 w' h1 h2 h3 => .inr ⟨x, t1, t2, rfl, h1, h2, h3⟩)
  rcases h1 with ⟨rfl, e, h0⟩ | ⟨x, t1, t2, rfl, h1, h2, h3⟩
  · subst e
    simp [execOp, hop, hit, hrun, Result.andThen]
    exact hK' _ _ (hDone h0)
  · obtain ⟨v, w2, hr2, rfl, e⟩ := of_Run (Entry_rule (P := P) h2 (K := fun v w2 => v = .tuple #[inj x.1, x.2] ∧ w2 = w') ⟨rfl, rfl⟩)
    subst e
    simp [execOp, hop, hit, hrun, Result.andThen]
    exact hK' _ _ (hMore x t1 t2 _ h1 h2 h3 hr2)
end

theorem MapAt.of_walks {κ : Type} {inj : κ → Value} {M : List (κ × Value)} {w w' : World} {b : Nat} (h : MapAt w b inj M) (hk : KeepsWalks w w') : MapAt w' b inj M := by
  obtain ⟨es, clock, h1, h2⟩ := h
  exact ⟨es, clock, hk.same b _ h1 rfl, h2⟩

theorem Ranging.of_walks {κ : Type} {inj : κ → Value} {M todo : List (κ × Value)} {w w' : World} {b r : Nat} (h : Ranging w b r inj M todo) (hk : KeepsWalks w w') : Ranging w' b r inj M todo := by
  obtain ⟨es, clock, since, seen, c0, h1, h2, h3, h4, h5⟩ := h
  exact ⟨es, clock, since, seen, c0, hk.same b _ h1 rfl, h2, h3, hk.same r _ h4 rfl, h5⟩

theorem Ranging.iter_walk {κ : Type} {inj : κ → Value} {M todo : List (κ × Value)} {w : World} {b r : Nat} (h : Ranging w b r inj M todo) : ∃ o : Obj, w.heap[r]? = some o ∧ o.isWalk = true := by
  obtain ⟨es, clock, since, seen, c0, h1, h2, h3, h4, h5⟩ := h
  exact ⟨_, h4, rfl⟩

end Go.D

namespace Go.Proofs.Ytdbkbaeeccemkaa
open Go Go.D Go.Proofs Go.RowKit Go.Maps Go.Shelf

abbrev Spn := Int × Int × Int
def spC (x : Spn) : List Value := [.int .i64 x.1, .int .i64 x.2.1, .int .i64 x.2.2]
def spV (x : Spn) : Value := .agg #[.int .i64 x.1, .int .i64 x.2.1, .int .i64 x.2.2]
/-- Spans as a map holds them. -/
def spM (S : List Spn) : List (Int × Value) := S.map fun s => (s.1, spV s)

set_option maxRecDepth 100000 in
set_option maxHeartbeats 1000000 in
theorem vals1_in (F : Fence) (n : Nat) (hf : F.fn 51) (hro : F.round = none) (hn : 1 ≤ n) (l Bm b : Nat) (S : List Spn) (J : List Spn → World → Prop)
    (hY : ∀ pre x W, J pre W → pre.length < S.length → YieldAt F (n - 1) Try.prog l #[spV x] W fun e W' => e = .returned (.bool true) ∧ J (pre ++ [x]) W' ∧ KeepsWalks W W')
    (W : World) (hJ : AbidesFrom W.heap.size J) (hm : W.cell? ⟨Bm, 0, none⟩ = some (.map (some b))) (hmap : MapAt W b (Value.int .i64) (spM S)) (h0 : J [] W) :
    CallsIn F n Try.prog 51 #[.func (.yield l) #[] #[], .pointer (some ⟨Bm, 0, none⟩)] W fun e W' => (∃ v, e = .returned v) ∧ ∃ ss : List Spn, ss.Perm S ∧ J ss W' := by
  refine callsIn_of_wp Try.func51 rfl hf ?_ hro
  simp only [Try.ntmps51, List.size_toArray, List.length_cons, List.length_nil, Nat.reduceAdd, Nat.reduceSub, Array.replicate_succ, Array.replicate_zero, List.push_toArray, List.append_toArray, List.nil_append, List.cons_append]
  gi_wp2_with (first
    | (gi_at_range; refine wpIn_range rfl _ 52 rfl (kt := 3) (et := 58) (by rfl) rfl hmap ?_; intro w0 hrg0 hu0; have hg0 := upd_grown (row := none) hu0 (by simp); have hs0 := hu0.size)
    | gi_in)
  go_frame
  gi_loopw [4] (fun _ wr => ∃ (todo ss : List Spn), Ranging wr b W.heap.size (Value.int .i64) (spM S) (spM todo) ∧ (ss ++ todo).Perm S ∧ J ss wr)
    (fun _ wr => leftN wr b W.heap.size)
  case atStart =>
    exact ⟨S, [], hrg0, List.Perm.refl _, hJ [] W w0 none h0 hg0 (fun r e => by cases e)⟩
  case round =>
    obtain ⟨todo, ss, hrg, hperm, hJs⟩ := hrel
    gi_wp2_with (first
      | (gi_at_next; refine wpIn_next rfl _ rfl rfl hrg ?_ ?_)
      | gi_in)
    · intro hnil
      gi_wp2
      go_end0
      have : todo = [] := by simpa [spM] using hnil
      subst this
      exact ⟨⟨_, rfl⟩, ss, by simpa using hperm, hJs⟩
    · intro xk xv t1 t2 w2 ht hst hu2 hen
      obtain ⟨s1, s', rfl, e1, e'⟩ := List.map_eq_append_iff.1 ht
      obtain ⟨y, s2, rfl, e2, e3⟩ := List.map_eq_cons_iff.1 e'
      obtain ⟨rfl, rfl⟩ := Prod.mk.inj e2
      obtain ⟨ya, yb, yc⟩ := y
      have hlen : ss.length < S.length := by have := hperm.length_eq; simp at this; omega
      have hJ2 : J ss w2 := hJ ss wr w2 (some W.heap.size) hJs (upd_grown hu2 (by simp)) (fun r e => by cases e; exact ⟨Nat.le_refl _, hrg.iter_walk⟩)
      have hrg2 := hst.ranging
      obtain ⟨W3, hW3⟩ : ∃ W3, w2.alloc (.cells #[.int .i64 ya, .int .i64 yb, .int .i64 yc] 58) = W3 := ⟨_, rfl⟩
      have u3 : Upd [] w2 W3 := by rw [← hW3]; exact push_upd w2 _
      have hJ3 : J ss W3 := hJ ss w2 W3 none hJ2 (upd_grown u3 (by simp)) (fun r e => by cases e)
      obtain ⟨fn, tmps, assign, body, hy, hR⟩ := hY ss (ya, yb, yc) W3 hJ3 hlen
      unfold spV at hen hy ⊢
      dsimp only at hen hy ⊢
      have hrg3 := hrg2.keep u3
      subst hW3
      clear hu2 u3
      gi_wp2
      refine hR.mono ?_
      rintro e W4 ⟨rfl, hJ4, hk4⟩
      gi_wp2
      have hrg4 := hrg3.of_walks hk4
      have et : t1 ++ t2 = spM (s1 ++ s2) := by rw [← e1, ← e3]; unfold spM; rw [List.map_append]
      rw [et] at hrg4
      go_roundw
      case rel => exact ⟨s1 ++ s2, ss ++ [(ya, yb, yc)], hrg4, (by rw [List.append_assoc]; exact ((List.perm_middle (a := (ya, yb, yc)) (l₁ := s1) (l₂ := s2)).append_left ss).symm.trans hperm), hJ4⟩
      case measure => rw [hrg4.left, hrg.left]; simp [spM]

end Go.Proofs.Ytdbkbaeeccemkaa

/- slices.Collect over maps.Values: the values of a map as a row, in some order (after the kit's worked text on slices.Collect). -/
set_option linter.unusedSimpArgs false
set_option linter.unusedVariables false
namespace Go.Proofs.Ytdbkbaeeccemkaa
open Go Go.D Go.Proofs Go.RowKit Go.Maps Go.Shelf

/-- A loop's two codes, taken out of a function's body. -/
def rfCode : Code → Option (Code × Code)
  | .rangeFunc _ _ a b => some (a, b)
  | .seq a b => (rfCode a).or (rfCode b)
  | .block _ a => rfCode a
  | _ => none
noncomputable def apAssign : Code := ((Try.f50.body.bind rfCode).map (·.1)).getD .skip
noncomputable def apBody : Code := ((Try.f50.body.bind rfCode).map (·.2)).getD .skip

/-- The loop's record. -/
noncomputable def apRec (fn : FuncId) (sv : Value) (Bs D : Nat) (st : LoopState) (pend : Option Code) : Loop :=
  { state := st, pending := pend, fn, tmps := #[.slice none 0 0, sv, .pointer (some ⟨Bs, 0, none⟩), undef, .slice none 0 0, undef, sv, undef, undef, undef, undef, undef, undef], params := #[7], assign := apAssign, body := apBody, defers := D }

/-- Between two rounds. -/
structure ApAt (w0 : World) (fn : FuncId) (sv : Value) (Bs l D : Nat) (ss : List Spn) (W : World) : Prop where
  box : ∃ v, W.heap[Bs]? = some (.cells #[v] 55 (0, 0)) ∧ W.ownsRow w0.heap.size 58 3 v ss.length (ss.flatMap spC)
  L : W.heap[l]? = some (.loop (apRec fn sv Bs D .ready none))
  K : W.heap[D]? = some (.deferred (some []))
  below : Below w0.heap.size w0 W

theorem ownsRow_abides' {W W' : World} {row : Option Nat} {base : Nat} {e : TypeId} {size : Nat} {v : Value} {k : Nat} {xs : List Value} (h : W.ownsRow base e size v k xs) (hg : W.grownBy W' row)
    (hrow : ∀ r, row = some r → ∃ o : Obj, W.heap[r]? = some o ∧ o.isWalk = true) : W'.ownsRow base e size v k xs := by
  refine h.kept hg ?_
  rcases h.2 with ⟨rfl, _⟩ | ⟨g, cap, cur, rfl, _, hgb, _⟩
  · exact .inl rfl
  · refine .inr fun e' => ?_
    obtain ⟨o, ho, hw⟩ := hrow g (by simpa [Value.ownBlock] using e'.symm)
    rw [hgb] at ho; cases ho; cases hw

theorem ap_abides (w0 : World) (fn : FuncId) (sv : Value) (Bs l D B : Nat) (hB : w0.heap.size ≤ B) : AbidesFrom B (ApAt w0 fn sv Bs l D) := fun s W W' row h hg hrow => by
  have hrow' : ∀ r, row = some r → ∃ o : Obj, W.heap[r]? = some o ∧ o.isWalk = true := fun r e => (hrow r e).2
  obtain ⟨v, hv, hr⟩ := h.box
  exact ⟨⟨v, (grownBy_keeps hg hrow' hv rfl).trans hv, ownsRow_abides' hr hg hrow'⟩, (grownBy_keeps hg hrow' h.L rfl).trans h.L, (grownBy_keeps hg hrow' h.K rfl).trans h.K,
    h.below.grown hg h.below.size (fun k e => Nat.le_trans hB (hrow k e).1)⟩

theorem grownBy_putObj_s (W : World) (l : Nat) (o : Obj) : W.grownBy (W.putObj l o) (some l) :=
  ⟨rfl, rfl, rfl, by simp, fun k _ hk => World.putObj_heap_other (fun e => hk (by rw [e]))⟩
theorem grownBy_setCell_s (W : World) (b : Nat) (v : Value) : W.grownBy (W.setCell ⟨b, 0, none⟩ v) (some b) :=
  ⟨rfl, rfl, rfl, (KeepsWalks.setCell W _ v).size, fun k _ hk => Below.heap_setCell _ _ _ k (fun e => hk (by rw [e]))⟩
theorem ownsRow_ne_s {W : World} {base : Nat} {e : TypeId} {size : Nat} {v : Value} {k : Nat} {xs : List Value} (h : W.ownsRow base e size v k xs) {j : Nat} {o : Obj} (hj : W.heap[j]? = some o) (hno : ∀ cur, o ≠ .cells cur e (0, 0)) :
    v.ownBlock = none ∨ v.ownBlock ≠ some j := by
  rcases h.2 with ⟨rfl, _⟩ | ⟨g, cap, cur, rfl, _, hgb, _⟩
  · exact .inl rfl
  · refine .inr fun e' => ?_
    have : g = j := by simpa [Value.ownBlock] using e'
    subst this; rw [hgb] at hj; cases hj; exact hno cur rfl
theorem cell_of_box_s {W : World} {B : Nat} {v : Value} {t : TypeId} (h : W.heap[B]? = some (.cells #[v] t (0, 0))) : W.cell? ⟨B, 0, none⟩ = some v ∧ W.frozen? ⟨B, 0, none⟩ = false := by
  constructor <;> simp [World.cell?, World.frozen?, h]
theorem heap_setCell_box_s {W : World} {B : Nat} {v : Value} {t : TypeId} (v' : Value) (h : W.heap[B]? = some (.cells #[v] t (0, 0))) : (W.setCell ⟨B, 0, none⟩ v').heap[B]? = some (.cells #[v'] t (0, 0)) := by
  obtain ⟨hlt, hk⟩ := Array.getElem?_eq_some_iff.1 h
  show (W.heap.modify B _)[B]? = _
  rw [Array.getElem?_eq_getElem (by rw [Array.size_modify]; exact hlt), Array.getElem_modify_self, hk]
  rfl
theorem ownsRow_not_walk_s {W : World} {base : Nat} {e : TypeId} {size : Nat} {v : Value} {k : Nat} {xs : List Value} (h : W.ownsRow base e size v k xs) : ∀ (j : Nat) (o : Obj), v.ownBlock = some j → W.heap[j]? = some o → o.isWalk = false := by
  intro j o hj ho
  rcases h.2 with ⟨rfl, _⟩ | ⟨g, cap, cur, rfl, _, hgb, _⟩
  · simp [Value.ownBlock] at hj
  · have : g = j := by simpa [Value.ownBlock] using hj
    subst this; rw [hgb] at ho; cases ho; rfl

theorem spInfo : (Try.prog.info? 58).map (fun i => (i.zero, i.size, i.bytes)) = some (some (.agg #[.int .i64 0, .int .i64 0, .int .i64 0]), 3, 24) := by kernel_rfl

theorem cells_new3 (W : World) (a b c : Value) (t : TypeId) : ∀ j u, [a, b, c][j]? = some u → (W.alloc (.cells #[a, b, c] t)).cell? ((⟨W.heap.size, 0, none⟩ : Addr).add j) = some u := fun j u h => by
  rw [addN, Nat.zero_add]
  have e := World.alloc_heap_new W (.cells #[a, b, c] t)
  simp only [World.cell?]
  rw [e]
  simpa using h

theorem cells_of3 {W : World} {B : Nat} {a b c : Value} {t : TypeId} (h : W.heap[B]? = some (.cells #[a, b, c] t (0, 0))) : W.cell? ⟨B, 0, none⟩ = some a ∧ W.cell? ⟨B, 1, none⟩ = some b ∧ W.cell? ⟨B, 2, none⟩ = some c := by
  refine ⟨?_, ?_, ?_⟩ <;> simp [World.cell?, h]

set_option maxRecDepth 100000 in
set_option maxHeartbeats 2000000 in
theorem apYield (F : Fence) (m : Nat) (w0 : World) (fn : FuncId) (hfn : F.fn fn) (sv : Value) (Bs l D : Nat) (hBl : Bs ≠ l) (hDl : D ≠ l) (hDB : D ≠ Bs) (h0B : w0.heap.size ≤ Bs) (h0l : w0.heap.size ≤ l)
    (N : Nat) (hN : N ≤ maxLen) (hNb : N * 24 ≤ 140737488355328) (ss : List Spn) (x : Spn) (W : World) (h : ApAt w0 fn sv Bs l D ss W) (hlen : ss.length < N) :
    YieldAt F m Try.prog l #[spV x] W fun e W' => e = .returned (.bool true) ∧ ApAt w0 fn sv Bs l D (ss ++ [x]) W' ∧ KeepsWalks W W' := by
  obtain ⟨i0, hi, hz0, hz1, hz2⟩ := info_parts spInfo
  refine ⟨fn, #[.slice none 0 0, sv, .pointer (some ⟨Bs, 0, none⟩), undef, .slice none 0 0, undef, sv, spV x, undef, undef, undef, undef, undef], apAssign, apBody, by simpa [apRec] using run_yield (P := Try.prog) (args := #[spV x]) h.L rfl, roundIn_of_wpIn hfn ?_⟩
  obtain ⟨xa, xb, xc⟩ := x
  obtain ⟨W1, hW1⟩ : ∃ W1, W.alloc (.cells #[.int .i64 xa, .int .i64 xb, .int .i64 xc] 58) = W1 := ⟨_, rfl⟩
  have u1 : Upd [] W W1 := by rw [← hW1]; exact push_upd W _
  have hk1 : KeepsWalks W W1 := by rw [← hW1]; exact KeepsWalks.alloc _ _
  have h1 : ApAt w0 fn sv Bs l D ss W1 := ap_abides w0 fn sv Bs l D w0.heap.size (Nat.le_refl _) ss W W1 none h (upd_grown u1 (by simp)) (fun r e => by cases e)
  have hx1 : W1.heap[W.heap.size]? = some (.cells #[.int .i64 xa, .int .i64 xb, .int .i64 xc] 58 (0, 0)) := by rw [← hW1]; exact World.alloc_heap_new W _
  have hlW : l < W.heap.size := (Array.getElem?_eq_some_iff.1 h.L).1
  obtain ⟨v, hv, hrow⟩ := h1.box
  have hl : l < W1.heap.size := (Array.getElem?_eq_some_iff.1 h1.L).1
  have hbr := run_beginRound (P := Try.prog) h1.L rfl
  obtain ⟨W2, hW2⟩ : ∃ W2, W1.putObj l (.loop { apRec fn sv Bs D .ready none with state := .busy }) = W2 := ⟨_, rfl⟩
  rw [hW2] at hbr
  have hg2 : W1.grownBy W2 (some l) := by rw [← hW2]; exact grownBy_putObj_s _ _ _
  have hk2 : KeepsWalks W W2 := by rw [← hW2]; exact hk1.trans (KeepsWalks.putObj _ h1.L rfl)
  have hv2 : W2.heap[Bs]? = some (.cells #[v] 55 (0, 0)) := by rw [← hW2]; exact (World.putObj_heap_other hBl).trans hv
  have hx2 : W2.heap[W.heap.size]? = some (.cells #[.int .i64 xa, .int .i64 xb, .int .i64 xc] 58 (0, 0)) := by rw [← hW2]; exact (World.putObj_heap_other (by omega)).trans hx1
  have hK2 : W2.heap[D]? = some (.deferred (some [])) := by rw [← hW2]; exact (World.putObj_heap_other hDl).trans h1.K
  have hL2 : W2.heap[l]? = some (.loop { apRec fn sv Bs D .ready none with state := .busy }) := by rw [← hW2]; exact World.putObj_heap_same hl
  have hrow2 : W2.ownsRow w0.heap.size 58 3 v ss.length (ss.flatMap spC) := hrow.kept hg2 (ownsRow_ne_s hrow h1.L (fun cur e => by cases e))
  have hb2 : Below w0.heap.size w0 W2 := h1.below.grown hg2 h1.below.size (fun k e => by cases e; exact h0l)
  obtain ⟨hc2, hf2⟩ := cell_of_box_s hv2
  obtain ⟨hxa, hxb, hxc⟩ := cells_of3 hx2
  have hBlt : Bs < W2.heap.size := (Array.getElem?_eq_some_iff.1 hv2).1
  have hl2 : l < W2.heap.size := (Array.getElem?_eq_some_iff.1 hL2).1
  have hDlt : D < W2.heap.size := (Array.getElem?_eq_some_iff.1 hK2).1
  have ne_of : ∀ {j : Nat} {o : Obj}, W2.heap[j]? = some o → (∀ cur, o ≠ .cells cur 58 (0, 0)) → some j ≠ v.ownBlock := fun hj hno => by
    rcases ownsRow_ne_s hrow2 hj hno with e | e
    · rw [e]; simp
    · exact fun e' => e e'.symm
  clear hW2 u1 h1 hx1 hv hrow
  subst hW1
  unfold spV
  dsimp only
  simp only [apAssign, apBody, rfCode, Try.f50, Option.bind_some, Option.map_some, Option.or, Option.getD_some]
  gi_wp2_with (first
    | (gi_at_builtin; refine wpListIn_append_own _ rfl _ _ 55 rfl w0.heap.size 58 i0 (.agg #[.int .i64 0, .int .i64 0, .int .i64 0]) 3 24 Try.underlying55 hi hz0 hz1 hz2 rfl (by decide) _ _ _ rfl (hrow2.alloc _) ⟨W2.heap.size, 0, none⟩ 1 1 [.int .i64 xa, .int .i64 xb, .int .i64 xc] rfl rfl (cells_new3 _ _ _ _ _) (by simp [Value.oneCell']) (by omega) (by omega) (by have := hb2.size; simp; omega) ?_; intro v' w3 hown' hg3 hnil3
       have hv3 : w3.heap[Bs]? = some (.cells #[v] 55 (0, 0)) := (hg3.block Bs (by simp; omega) (ne_of hv2 (fun cur e => by cases e))).trans ((Below.heap_alloc _ _ Bs hBlt).trans hv2)
       obtain ⟨hc3, hf3⟩ := cell_of_box_s hv3
       obtain ⟨g', cap', cur', rfl, hbase', hgb', hr1, hr2, hr3, hr4⟩ : ∃ g' cap' cur', v' = .slice (some ⟨g', 0, none⟩) (ss.length + 1) cap' ∧ w0.heap.size ≤ g' ∧ w3.heap[g']? = some (.cells cur' 58 (0, 0)) ∧ ss.length + 1 ≤ cap' ∧ cap' ≤ maxLen ∧ cur'.size = cap' * 3 ∧ cur'.toList.take ((ss.length + 1) * 3) = ss.flatMap spC ++ [.int .i64 xa, .int .i64 xb, .int .i64 xc] := by
         rcases hown'.2 with ⟨_, h0⟩ | h'
         · exact absurd h0 (by omega)
         · exact h'
       go_frame)
    | (rw [Oper.semAt_eq _ _ _ (fun c h => by cases h)]; go_simp; try go_bits))
  have hg3' : (W2.alloc (.cells #[.int .i64 xa, .int .i64 xb, .int .i64 xc] 58)).grownBy w3 v.ownBlock := hg3
  have hL3 : w3.heap[l]? = some (.loop { apRec fn sv Bs D .ready none with state := .busy }) := (hg3'.block l (by simp; omega) (ne_of hL2 (fun cur e => by cases e))).trans ((Below.heap_alloc _ _ l hl2).trans hL2)
  have hK3 : w3.heap[D]? = some (.deferred (some [])) := (hg3'.block D (by simp; omega) (ne_of hK2 (fun cur e => by cases e))).trans ((Below.heap_alloc _ _ D hDlt).trans hK2)
  obtain ⟨w4, hw4⟩ : ∃ w4, w3.setCell ⟨Bs, 0, none⟩ (.slice (some ⟨g', 0, none⟩) (ss.length + 1) cap') = w4 := ⟨_, rfl⟩
  rw [hw4]
  have hg4 : w3.grownBy w4 (some Bs) := by rw [← hw4]; exact grownBy_setCell_s _ _ _
  have hv4 : w4.heap[Bs]? = some (.cells #[.slice (some ⟨g', 0, none⟩) (ss.length + 1) cap'] 55 (0, 0)) := by rw [← hw4]; exact heap_setCell_box_s _ hv3
  have hL4 : w4.heap[l]? = some (.loop { apRec fn sv Bs D .ready none with state := .busy }) := (hg4.block l (Array.getElem?_eq_some_iff.1 hL3).1 (fun e => hBl (by cases e; rfl))).trans hL3
  have hK4 : w4.heap[D]? = some (.deferred (some [])) := (hg4.block D (Array.getElem?_eq_some_iff.1 hK3).1 (fun e => hDB (by cases e; rfl))).trans hK3
  have hrow4 := hown'.kept hg4 (ownsRow_ne_s hown' hv3 (fun cur e => by cases e))
  have hl4 : l < w4.heap.size := (Array.getElem?_eq_some_iff.1 hL4).1
  have hb3 : Below w0.heap.size w0 w3 := (hb2.alloc hb2.size _).grown hg3' (by have := hb2.size; simp; omega) (fun k e => (hrow2.lt k e).1)
  have hb4 : Below w0.heap.size w0 w4 := hb3.grown hg4 hb3.size (fun k e => by cases e; exact h0B)
  have hk4 : KeepsWalks W w4 := ((hk2.trans (KeepsWalks.alloc _ _)).trans (KeepsWalks.of_grownBy hg3' (ownsRow_not_walk_s (hrow2.alloc _)))).trans (by rw [← hw4]; exact KeepsWalks.setCell _ _ _)
  clear hw4
  refine ⟨_, _, run_endRound none hL4, rfl, ⟨⟨_, (World.putObj_heap_other hBl).trans hv4, ?_⟩, World.putObj_heap_same hl4, (World.putObj_heap_other hDl).trans hK4, hb4.grown (grownBy_putObj_s _ _ _) hb4.size (fun k e => by cases e; exact h0l)⟩, hk4.trans (KeepsWalks.putObj _ hL4 rfl)⟩
  have := hrow4.kept (grownBy_putObj_s w4 l (.loop { { apRec fn sv Bs D .ready none with state := .busy } with state := if (none : Option Code).isNone then .ready else .done, pending := none })) (ownsRow_ne_s hrow4 hL4 (fun cur e => by cases e))
  simpa [spC] using this

set_option maxRecDepth 100000 in
set_option maxHeartbeats 2000000 in
/-- slices.AppendSeq(nil, seq), against whatever gives. -/
theorem appendSeq_in (F : Fence) (n : Nat) (hf : F.fn 50) (hro : F.round = none) (hn : 2 ≤ n) (g : Nat) (lb : Array Value) (hFg : F.fn g) (eg : ∀ args w, (callFunc g args).run Try.prog w = .ok (.enter g args) w)
    (S : List Spn → Prop) (N : Nat) (hN : N ≤ maxLen) (hNb : N * 24 ≤ 140737488355328) (w : World) (hseq : SeqGives F (n - 1) Try.prog g lb spV S N w) :
    CallsIn F n Try.prog 50 #[.slice none 0 0, .func (.func g) #[] lb] w fun e w' => ∃ (v : Value) (ss : List Spn), e = .returned v ∧ S ss ∧ w'.ownsRow w.heap.size 58 3 v ss.length (ss.flatMap spC) ∧ Below w.heap.size w w' := by
  have h1 : 1 ≤ n := by omega
  refine callsIn_of_wp_marks Try.func50 rfl hf ?_ hro
  simp only [Try.ntmps50, List.size_toArray, List.length_cons, List.length_nil, Nat.reduceAdd, Nat.reduceSub, Array.replicate_succ, Array.replicate_zero, List.push_toArray, List.append_toArray, List.nil_append, List.cons_append]
  gi_wp2
  refine wpIn_rangeFunc ?_
  intro fn hfn
  rw [hro]
  obtain ⟨W0, hW0⟩ : ∃ W0, w.alloc (.cells #[.slice none 0 0] 55) = W0 := ⟨_, rfl⟩
  have hs0 : W0.heap.size = w.heap.size + 1 := by rw [← hW0]; simp
  have hv0 : W0.heap[w.heap.size]? = some (.cells #[.slice none 0 0] 55 (0, 0)) := by rw [← hW0]; exact World.alloc_heap_new w _
  have hb0 : Below w.heap.size w W0 := by rw [← hW0]; exact (Below.refl _ w).alloc (Nat.le_refl _) _
  rw [hW0]
  obtain ⟨W1, hW1⟩ : ∃ W1, (W0.alloc (.deferred (some []))).alloc (.loop (apRec fn (.func (.func g) #[] lb) w.heap.size W0.heap.size .ready none)) = W1 := ⟨_, rfl⟩
  have hold : ∀ k, k < W0.heap.size → W1.heap[k]? = W0.heap[k]? := fun k hk => by
    rw [← hW1]; exact (Below.heap_alloc _ _ k (by simp; omega)).trans (Below.heap_alloc _ _ k hk)
  have hb1 : Below w.heap.size w W1 := by rw [← hW1]; exact (hb0.alloc hb0.size _).alloc (by have := hb0.size; simp; omega) _
  have hs1 : W1.heap.size = W0.heap.size + 2 := by rw [← hW1]; simp
  have hM : ApAt w fn (.func (.func g) #[] lb) w.heap.size (W0.heap.size + 1) W0.heap.size [] W1 :=
    ⟨⟨_, (hold w.heap.size (by omega)).trans hv0, ⟨rfl, .inl ⟨rfl, rfl⟩⟩⟩,
     by rw [← hW1]; have := World.alloc_heap_new (W0.alloc (.deferred (some []))) (.loop (apRec fn (.func (.func g) #[] lb) w.heap.size W0.heap.size .ready none)); rwa [World.size_alloc] at this,
     by rw [← hW1]; exact (Below.heap_alloc _ _ _ (by simp)).trans (World.alloc_heap_new W0 _), hb1⟩
  refine ⟨W0.heap.size + 1, [{ target := .collected W0.heap.size, args := #[] }], W1, { target := .fn (.func g) lb, args := #[.func (.yield (W0.heap.size + 1)) #[] #[]] }, W1, g,
    #[.func (.yield (W0.heap.size + 1)) #[] #[]] ++ lb, W1, ?_, ?_, ?_, ?_, fun _ => h1, ?_⟩
  · rw [← hW1]; exact run_enterLoop_outer _ _ _ _ _
  · simp [resolve, go_sem]
  · intro f' hf'; simp [Target.leads] at hf'; subst hf'; exact hFg
  · simp [invoke, go_sem, eg]
  · refine (hseq (W0.heap.size + 1) (ApAt w fn (.func (.func g) #[] lb) w.heap.size (W0.heap.size + 1) W0.heap.size) W1 hb1 (ap_abides _ _ _ _ _ _ _ hb1.size)
      (fun pre x W hJ hl => apYield F (n - 1 - 1) w fn hfn _ w.heap.size (W0.heap.size + 1) W0.heap.size (by omega) (by omega) (by omega) (Nat.le_refl _) (by omega) N hN hNb pre x W hJ hl) hM).mono ?_
    rintro e W2 ⟨⟨v0, rfl⟩, ss, hS, h2⟩
    obtain ⟨v, hv, hrow⟩ := h2.box
    have hend := run_endLoop (P := Try.prog) h2.L (by simp [apRec])
    obtain ⟨W3, hW3⟩ : ∃ W3, W2.putObj (W0.heap.size + 1) (.loop { apRec fn (.func (.func g) #[] lb) w.heap.size W0.heap.size .ready none with state := .exhausted }) = W3 := ⟨_, rfl⟩
    rw [hW3] at hend
    have hg3 : W2.grownBy W3 (some (W0.heap.size + 1)) := by rw [← hW3]; exact grownBy_putObj_s _ _ _
    have hv3 : W3.heap[w.heap.size]? = some (.cells #[v] 55 (0, 0)) := by rw [← hW3]; exact (World.putObj_heap_other (by omega)).trans hv
    have hK3 : W3.heap[W0.heap.size]? = some (.deferred (some [])) := by rw [← hW3]; exact (World.putObj_heap_other (by omega)).trans h2.K
    have hrow3 := hrow.kept hg3 (ownsRow_ne_s hrow h2.L (fun cur e => by cases e))
    have hb3 : Below w.heap.size w W3 := h2.below.grown hg3 h2.below.size (fun k e => by cases e; omega)
    obtain ⟨hc3, hf3⟩ := cell_of_box_s hv3
    clear hW3
    refine ⟨none, W3, hend, ?_⟩
    gi_wp2
    rw [← hs0]
    refine ⟨by simp, .inl ⟨_, _, rfl, run_takeDeferred hK3, ?_⟩⟩
    exact ⟨_, results_tmp rfl _ _ _, v, ss, rfl, hS, hrow3.kept (grownBy_putObj_s _ _ _) (ownsRow_ne_s hrow3 hK3 (fun cur e => by cases e)), hb3.grown (grownBy_putObj_s _ _ _) hb3.size (fun k e => by cases e; omega)⟩

end Go.Proofs.Ytdbkbaeeccemkaa

/- The values of a map as a row: contracts. -/
set_option linter.unusedSimpArgs false
set_option linter.unusedVariables false
namespace Go.Proofs.Ytdbkbaeeccemkaa
open Go Go.D Go.Proofs Go.RowKit

theorem spC_len (x : Spn) : (spC x).length = 3 := rfl

theorem below_upd {w w' : World} (h : Below w.heap.size w w') : Upd [] w w' := ⟨h.os, h.tape, h.output, h.size, fun k hk _ => h.block k hk⟩

theorem ownsRow_slAt {w : World} {base : Nat} {e : TypeId} {size : Nat} {v : Value} {k : Nat} {xs : List Value} (hs : 0 < size) (h : w.ownsRow base e size v k xs) : ∃ p c G, v = .slice p k c ∧ SlAt w size p k c xs G ∧ ∀ j ∈ G, base ≤ j := by
  obtain ⟨hl, h | ⟨g, cap, cur, hv, hb, hg, h1, h2, h3, h4⟩⟩ := h
  · obtain ⟨rfl, rfl⟩ := h
    exact ⟨none, 0, [], rfl, ⟨by simpa using hl, Nat.le_refl _, .inl ⟨rfl, rfl, rfl⟩⟩, by intro j hj; cases hj⟩
  · refine ⟨some ⟨g, 0, none⟩, cap, [g], hv, ⟨hl, h1, .inr ⟨g, 0, cur, rfl, rfl, ⟨_, _, hg, .inl (Nat.le_refl _)⟩, by omega, fun i hi => ?_⟩⟩, by simpa using hb⟩
    rw [Nat.zero_add, ← h4, List.getElem?_take, if_pos hi, Array.getElem?_toList]

theorem vals_gives (F : Fence) (n : Nat) (hf : F.fn 51) (hro : F.round = none) (hn : 1 ≤ n) (Bm b : Nat) (S : List Spn) (w : World) (hBm : Bm < w.heap.size) (hm : w.cell? ⟨Bm, 0, none⟩ = some (.map (some b))) (hmap : MapAt w b (Value.int .i64) (spM S)) :
    SeqGives F n Try.prog 51 #[.pointer (some ⟨Bm, 0, none⟩)] spV (fun ss => ss.Perm S) S.length w := fun l J W hW hJ hY h0 =>
  vals1_in F n hf hro hn l Bm b S J hY W hJ ((hW.cell (p := ⟨Bm, 0, none⟩) hBm).trans hm) (hmap.upd (below_upd hW) (by simp)) h0

theorem collect_ok {w : World} {Bm b : Nat} {S : List Spn} {K : Option Addr → Nat → Nat → World → Prop} (hBm : Bm < w.heap.size) (hm : w.cell? ⟨Bm, 0, none⟩ = some (.map (some b))) (hmap : MapAt w b (Value.int .i64) (spM S)) (hl : S.length ≤ 2 ^ 40)
    (hK : ∀ w' p c G (E : List Spn), E.Perm S → SlAt w' 3 p E.length c (E.flatMap spC) G → Since G w → Upd [] w w' → K p E.length c w') : C_slices_Collect (.func (.func 51) #[] #[.pointer (some ⟨Bm, 0, none⟩)]) w K := by
  apply C_slices_Collect.of
  unfold F_slices_Collect
  have h := callsIn_wide.1 (appendSeq_in Fence.wide 3 trivial rfl (by omega) 51 #[.pointer (some ⟨Bm, 0, none⟩)] trivial (enters_of Try.func51 (by kernel_rfl) rfl) (fun ss => ss.Perm S) S.length (Nat.le_trans hl (by decide)) (by omega) w (vals_gives Fence.wide 2 trivial rfl (by omega) Bm b S w hBm hm hmap))
  refine Calls.mono h ?_
  rintro e w' ⟨v, ss, rfl, hp, hrow, hb⟩
  obtain ⟨p, c, G, rfl, hs, hG⟩ := ownsRow_slAt (by omega) hrow
  exact ⟨p, ss.length, c, rfl, hK w' p c G ss hp hs hG (below_upd hb)⟩

theorem values_ok {w : World} {b : Nat} {S : List Spn} {K : Option Addr → Nat → Nat → World → Prop} (hmap : MapAt w b (Value.int .i64) (spM S)) (hl : S.length ≤ 2 ^ 40)
    (hK : ∀ w' p c G (E : List Spn), E.Perm S → SlAt w' 3 p E.length c (E.flatMap spC) G → Since G w → Upd [] w w' → K p E.length c w') : C_maps_Values (some b) w fun v w1 => C_slices_Collect v w1 K := by
  apply C_maps_Values.of
  unfold F_maps_Values
  refine New_rule fun r w1 hr u1 b1 => collect_ok b1.lt (b1.cell 0) (hmap.upd u1 (by simp)) hl fun w' p c G E hp hs hG u => hK w' p c G E hp hs (fun k hk => by have := hG k hk; have := u1.size; omega) (u1.after u)

end Go.Proofs.Ytdbkbaeeccemkaa
