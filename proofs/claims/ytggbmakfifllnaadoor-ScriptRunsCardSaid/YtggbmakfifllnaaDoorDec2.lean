/- Decode: what it comes to. -/
import Derived.Test.YtggbmakfifllnaaDoorDec
namespace Go.Proofs.YtggbmakfifllnaaDoor
open Go Go.D Go.Proofs
set_option linter.unusedSimpArgs false
set_option linter.unusedVariables false
set_option maxRecDepth 8000

theorem dnums_len : ∀ {k : Nat} {l r : List UInt8} {ns : List Int}, dnums k l = some (ns, r) → r.length + k ≤ l.length ∧ ns.length = k
  | 0, l, r, ns, h => by
    unfold dnums at h
    simp only [Option.some.injEq, Prod.mk.injEq] at h
    obtain ⟨rfl, rfl⟩ := h
    simp
  | k + 1, l, r, ns, h => by
    unfold dnums at h
    split at h
    · cases h
    rename_i n r1 e1
    split at h
    · cases h
    rename_i ns' r2 e2
    simp only [Option.some.injEq, Prod.mk.injEq] at h
    obtain ⟨rfl, rfl⟩ := h
    have h1 := dnum_len e1
    have h2 := dnums_len e2
    simp; omega

theorem dnums_more {k : Nat} {l : List UInt8} (h : dnums k l = none) : ∀ j, dnums (k + j) l = none
  | 0 => h
  | j + 1 => by
    rw [← Nat.add_assoc, dnums_succ, dnums_more h j]

/-- The struct's cells behind j numbers. -/
def cellsJ (s0 s1 : ByteArray) (xs : List Int) : List Value := .string s0 :: .string s1 :: ((xs ++ List.replicate (6 - xs.length) 0).map (.int .i64) ++ [.slice none 0 0])

theorem cellsJ_len {s0 s1 : ByteArray} {xs : List Int} (h : xs.length ≤ 6) : (cellsJ s0 s1 xs).length = 9 := by
  unfold cellsJ; simp; omega

theorem cellsJ_set {s0 s1 : ByteArray} {xs : List Int} {x : Int} (h : xs.length < 6) : (cellsJ s0 s1 xs).toArray.setIfInBounds (2 + xs.length) (.int .i64 x) = (cellsJ s0 s1 (xs ++ [x])).toArray := by
  rw [List.setIfInBounds_toArray]
  congr 1
  unfold cellsJ
  obtain ⟨m, hm⟩ : ∃ m, 6 - xs.length = m + 1 := ⟨5 - xs.length, by omega⟩
  have hm2 : 6 - (xs ++ [x]).length = m := by simp; omega
  rw [hm, hm2, List.replicate_succ, show 2 + xs.length = xs.length + 1 + 1 by omega, List.set_cons_succ, List.set_cons_succ]
  simp only [List.map_append, List.map_cons, List.append_assoc, List.cons_append]
  rw [List.set_append_right _ _ (by simp)]
  simp

section
variable {N : Nat} {v : World} {r r1 r2 r3 : Nat} {s0 s1 : ByteArray} {st : Option (List UInt8)}

/-- The six numbers. -/
theorem dec_six {K : World → Prop} (h12 : r1 < r2) (h23 : r2 < r3) (b2 : Blk v r2 #[.pointer (some ⟨r1, 0, none⟩)]) (b3 : Blk v r3 #[.string s0, .string s1, .int .i64 0, .int .i64 0, .int .i64 0, .int .i64 0, .int .i64 0, .int .i64 0, .slice none 0 0]) (hst : RdO N v r1 st)
    (hK : ∀ w', RdO N w' r1 (onums 6 st).2 → Blk w' r3 (cellsJ s0 s1 (onums 6 st).1).toArray → Upd [r1, r3] v w' → K w') :
    BSl Tryd.prog 67 6 [(0, .pointer (some ⟨r3, 2, none⟩)), (1, .pointer (some ⟨r3, 3, none⟩)), (2, .pointer (some ⟨r3, 4, none⟩)), (3, .pointer (some ⟨r3, 5, none⟩)), (4, .pointer (some ⟨r3, 6, none⟩)), (5, .pointer (some ⟨r3, 7, none⟩))] v fun t27P t27N t27C w1_40 =>
      F_script_Decode_L1 ⟨r, 0, none⟩ ⟨r2, 0, none⟩ ⟨r3, 0, none⟩ t27P t27N t27C (t27N : Int) ⟨(0 : Int)⟩ w1_40 K := by
  have hlow := hst.low
  refine BSlP_rule (hE := eS_67) [.pointer (some ⟨r3, 2, none⟩), .pointer (some ⟨r3, 3, none⟩), .pointer (some ⟨r3, 4, none⟩), .pointer (some ⟨r3, 5, none⟩), .pointer (some ⟨r3, 6, none⟩), .pointer (some ⟨r3, 7, none⟩)] rfl (by intro v hv; simp at hv; rcases hv with h | h | h | h | h | h <;> (subst h; rfl)) rfl (by simp) fun w1 hs1 _ u1 => ?_
  have hr3 := b3.lt
  have hr1 := hst.lt
  unfold F_script_Decode_L1
  have hat : ∀ j, j < 6 → (([.pointer (some ⟨r3, 2, none⟩), .pointer (some ⟨r3, 3, none⟩), .pointer (some ⟨r3, 4, none⟩), .pointer (some ⟨r3, 5, none⟩), .pointer (some ⟨r3, 6, none⟩), .pointer (some ⟨r3, 7, none⟩)] : List Value).flatMap (fun v => v.cells.toList))[j]? = some (.pointer (some ⟨r3, 2 + j, none⟩)) := by
    intro j hj
    match j, hj with
    | 0, _ => rfl
    | 1, _ => rfl
    | 2, _ => rfl
    | 3, _ => rfl
    | 4, _ => rfl
    | 5, _ => rfl
  refine ⟨fun s w => ∃ j : Nat, s.t29 = j ∧ j ≤ 6 ∧ RdO N w r1 (onums j st).2 ∧ Blk w r3 (cellsJ s0 s1 (onums j st).1).toArray ∧ Upd [r1, r3] w1 w, fun s _ => (6 - s.t29).toNat, ⟨0, rfl, by omega, hst.upd u1 (by simp) (by simp), b3.upd u1 (by simp), Upd.refl _ _⟩, ?_⟩
  rintro ⟨t⟩ w ⟨j, rfl, hj, hr, hb, hu⟩
  unfold B_script_Decode_L1
  dsimp only
  have hjl := onums_len j st
  refine ifC (fun hc => ?_) (fun hc => ?_)
  · simp at hc
    obtain ⟨x, hx, hcx⟩ := (hs1.rd.upd hu (by intro x hx _; cases hx; simp; omega)).at (i := j) (by simp; omega)
    rw [hat j (by omega)] at hcx
    have hx' : x = ⟨v.heap.size, 0, none⟩ := by simpa using hx.symm
    subst hx'
    simp only [NN_some, addN, drw_cell, drw_heap, exS, exI, exB, exP, exM, exStr, exV, a0, a1, a2, a3, a4, a5, a6, a7, a8, a9, a10, a11, a12, a13, maxI_eq, Nat.zero_add, Nat.add_zero, Nat.mul_one, Option.isNone_some, Option.isNone_none] at hcx
    have hb2 := (b2.upd u1 (by simp)).upd hu (by simp; omega)
    simp only [NN_some, addN, drw_cell, drw_heap, exS, exI, exB, exP, exM, exStr, exV, a0, a1, a2, a3, a4, a5, a6, a7, a8, a9, a10, a11, a12, a13, maxI_eq, Nat.zero_add, Nat.add_zero, Nat.mul_one, Option.isNone_some, Option.isNone_none, Int.toNat_natCast, hcx, hb2.cell]
    refine ⟨by omega, by omega, numberO hr fun w2 hr2 u2 => ?_⟩
    have hb3 := hb.upd u2 (by simp; omega)
    refine St_rule hb3 (by rw [List.size_toArray, cellsJ_len (by omega)]; omega) rfl fun w3 u3 hb4 => ⟨⟨j + 1, by rw [i64id (by omega) (by omega)]; simp, by omega, hr2.upd u3 (by simp; omega) (by simp; omega), ?_, ?_⟩, by rw [i64id (by omega) (by omega)]; simp; omega⟩
    · have := cellsJ_set (s0 := s0) (s1 := s1) (xs := (onums j st).1) (x := (onum (onums j st).2).1) (by omega)
      rw [hjl] at this
      rw [this] at hb4
      exact hb4
    · exact hu.both ((u2.mono (by intro k hk; simp at hk; simp [hk])).both (u3.mono (by intro k hk; simp at hk; simp [hk])))
  · simp at hc
    obtain rfl : j = 6 := by omega
    exact hK w hr hb (u1.after hu)

/-- One number more of the row. -/
theorem dec_one {M : World} {l3 : List UInt8} {c1 c2 c3 c4 c5 c6 : Int} (hl3 : l3.length < 2 ^ 40) (hN : N ≤ r1) (h12 : r1 < r2) (h23 : r2 < r3) (h3M : r3 < M.heap.size) (b2 : Blk M r2 #[.pointer (some ⟨r1, 0, none⟩)])
    (S : Nat → World → Prop) (hS : S = fun i v => (match dnums i l3 with
      | some (ns, q) => RdAt N v r1 q false ∧ ∃ cp cn cc G, Blk v r3 #[.string s0, .string s1, .int .i64 c1, .int .i64 c2, .int .i64 c3, .int .i64 c4, .int .i64 c5, .int .i64 c6, .slice cp cn cc] ∧ SlAt v 1 cp cn cc (ns.map (.int .i64)) G ∧ ∀ k ∈ G, M.heap.size ≤ k
      | none => ∃ l', RdAt N v r1 l' true) ∧ Upd [r1, r3] M v) (i : Nat) (v : World) (hg : (dnums i l3).isSome = true) (h : S i v) :
    CallV Tryd.prog (.func (.func 29) #[] #[.pointer (some ⟨r3, 0, none⟩), .pointer (some ⟨r2, 0, none⟩)]) [] v fun x v' => x = .tuple #[] ∧ S (i + 1) v' := by
  rcases hd : dnums i l3 with _ | ⟨ns, q⟩
  · rw [hd] at hg; cases hg
  rw [hS] at h
  simp only [hd] at h
  obtain ⟨⟨hr, cp, cn, cc, G, hb3, hs, hG⟩, hu⟩ := h
  have hnl := dnums_len hd
  have hcn : cn = ns.length := by have := hs.1; simp at this; omega
  refine ⟨_, _, _, rfl, rfl, ?_⟩
  refine Calls.mono (C_script_Decode_1.of (c0 := ⟨r3, 0, none⟩) (c1 := ⟨r2, 0, none⟩) (R := fun w' => S (i + 1) w') ?_) fun e w2 ⟨he, hx⟩ => ⟨_, he, rfl, hx⟩
  unfold F_script_Decode_1
  have hb2 := b2.upd hu (by simp; omega)
  simp only [NN_some, addN, drw_cell, drw_heap, exS, exI, exB, exP, exM, exStr, exV, a0, a1, a2, a3, a4, a5, a6, a7, a8, a9, a10, a11, a12, a13, maxI_eq, Nat.zero_add, Nat.add_zero, Nat.mul_one, Option.isNone_some, Option.isNone_none, hb3.cell, hb2.cell]
  have hd0 : RdAt N (drw v) r1 q false := hr.keep (drw_upd v)
  have hd1 := dnums_succ i l3
  rw [hd] at hd1
  simp only at hd1
  -- the rest, whatever was read
  have rest : ∀ (x : Int) (w1 : World), Upd [r1] v w1 → (∀ w' cp cn cc G', Upd [r1, r3] M w' → (∀ F, Upd F w1 w' → (∀ k ∈ F, k = r3 ∨ M.heap.size ≤ k) → True) → Blk w' r3 #[.string s0, .string s1, .int .i64 c1, .int .i64 c2, .int .i64 c3, .int .i64 c4, .int .i64 c5, .int .i64 c6, .slice cp cn cc] → SlAt w' 1 cp cn cc ((ns ++ [x]).map (.int .i64)) G' → (∀ k ∈ G', M.heap.size ≤ k) → (∀ q' bd, RdAt N w1 r1 q' bd → RdAt N w' r1 q' bd) → S (i + 1) w') →
      BSl Tryd.prog 24 1 [(0, .int .i64 x)] w1 fun t6P t6N t6C w1_1 => w1_1.cell? ⟨r3, 8, none⟩ = some (.slice cp cn cc) ∧ App Tryd.prog #[24, 24] 24 #[.slice cp cn cc, .slice t6P t6N t6C] w1_1 fun t7P t7N t7C w1_2 => St w1_2 ⟨r3, 8, none⟩ (.slice t7P t7N t7C) fun w1_3 => S (i + 1) w1_3 := by
    intro x w1 u1 hK
    have hMs := hu.size
    refine BSl_rule (cs := [.int .i64 x]) eS_24 (fill_one rfl) (by rfl) (by omega) fun w2 hs2 u2 => ?_
    have u12 : Upd [r1] v w2 := u1.before u2
    have hGr : Dis G [r1] := fun k hk hx => by simp at hx; have := hG k hk; omega
    have hb2' := hb3.upd u12 (by simp; omega)
    refine ⟨by rw [hb2'.cell]; rfl, ?_⟩
    refine App_rule (hE := eS_24) (hs.upd u12 hGr) hs2 (by simp [Value.oneCell']) (by omega) fun p' c' F' w3 hs3 u3 s3 => ?_
    have hrG : r3 ∉ G := fun hx => by have := hG _ hx; omega
    have hF' : ∀ k ∈ F', M.heap.size ≤ k := fun k hk => (s3 k hk).elim (hG k) (fun h => by have := u12.size; omega)
    have hb4 := hb2'.upd u3 hrG
    refine St_rule hb4 (by simp) rfl fun w4 u4 hb5 => ?_
    have hM3 : Upd [r1, r3] M w3 := (hu.both (u12.mono (by intro k hk; simp at hk; simp [hk]))).trans u3 (fun x hx => .inl hx) (fun x hx => .inr (hG x hx))
    refine hK w4 p' (cn + 1) c' F' (hM3.both (u4.mono (by intro k hk; simp at hk; simp [hk]))) (fun _ _ _ => trivial) (by simpa using hb5) ?_ hF' ?_
    · rw [List.map_append]
      exact hs3.upd u4 (by intro k hk; simp; rintro rfl; have := hF' _ hk; omega)
    · intro q' bd hq
      have h1 := (hq.keep u2).upd u3 (fun hx => by have := hG _ hx; omega) (fun k hk => by have := hG k hk; omega)
      exact h1.upd u4 (by simp; omega) (by simp; omega)
  refine number_ok hd0 (fun x r' w1 hn h1 u1 => ?_) (fun l' w1 hn h1 u1 => ?_)
  · have u1' : Upd [r1] v w1 := (drw_upd v).after u1
    have hb1 := hb3.upd u1' (by simp; omega)
    simp only [NN_some, addN, drw_cell, drw_heap, exS, exI, exB, exP, exM, exStr, exV, a0, a1, a2, a3, a4, a5, a6, a7, a8, a9, a10, a11, a12, a13, maxI_eq, Nat.zero_add, Nat.add_zero, Nat.mul_one, Option.isNone_some, Option.isNone_none, hb1.cell]
    refine ⟨trivial, rest x w1 u1' fun w' cp cn cc G' h2 _ h3 h4 h5 h6 => ?_⟩
    rw [hn] at hd1
    simp only at hd1
    rw [hS]
    simp only [hd1]
    exact ⟨⟨h6 _ _ h1, cp, cn, cc, G', h3, h4, h5⟩, h2⟩
  · have u1' : Upd [r1] v w1 := (drw_upd v).after u1
    have hb1 := hb3.upd u1' (by simp; omega)
    simp only [NN_some, addN, drw_cell, drw_heap, exS, exI, exB, exP, exM, exStr, exV, a0, a1, a2, a3, a4, a5, a6, a7, a8, a9, a10, a11, a12, a13, maxI_eq, Nat.zero_add, Nat.add_zero, Nat.mul_one, Option.isNone_some, Option.isNone_none, hb1.cell]
    refine ⟨trivial, rest 0 w1 u1' fun w' cp cn cc G' h2 _ h3 h4 h5 h6 => ?_⟩
    rw [hn] at hd1
    simp only at hd1
    rw [hS]
    simp only [hd1]
    exact ⟨⟨l', h6 _ _ h1⟩, h2⟩
end

end Go.Proofs.YtggbmakfifllnaaDoor
