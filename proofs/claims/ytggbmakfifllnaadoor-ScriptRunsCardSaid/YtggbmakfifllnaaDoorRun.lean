/- DecodeRun. -/
import Derived.Test.YtggbmakfifllnaaDoorRDec
namespace Go.Proofs.YtggbmakfifllnaaDoor
open Go Go.D Go.Proofs
set_option linter.unusedSimpArgs false
set_option linter.unusedVariables false
set_option maxRecDepth 8000

theorem dev_len {l r : List UInt8} {e : Evn} (h : dev l = some (e, r)) : r.length < l.length := by
  unfold dev at h
  split at h
  · cases h
  rename_i k l1 e1
  split at h
  · cases h
  rename_i t l2 e2
  simp only [Option.some.injEq, Prod.mk.injEq] at h
  have h1 := dnum_len e1
  have h2 := dtext_len e2
  rw [← h.2]; omega

theorem devs_len : ∀ {k : Nat} {l r : List UInt8} {es : List Evn}, devs k l = some (es, r) → r.length + k ≤ l.length ∧ es.length = k
  | 0, l, r, es, h => by
    unfold devs at h
    simp only [Option.some.injEq, Prod.mk.injEq] at h
    obtain ⟨rfl, rfl⟩ := h
    simp
  | k + 1, l, r, es, h => by
    unfold devs at h
    split at h
    · cases h
    rename_i es' r1 e1
    split at h
    · cases h
    rename_i e r2 e2
    simp only [Option.some.injEq, Prod.mk.injEq] at h
    obtain ⟨rfl, rfl⟩ := h
    have h1 := devs_len e1
    have h2 := dev_len e2
    simp; omega

theorem devs_more {k : Nat} {l : List UInt8} (h : devs k l = none) : ∀ j, devs (k + j) l = none
  | 0 => h
  | j + 1 => by
    rw [← Nat.add_assoc, devs, devs_more h j]

/-- What is behind the tag. -/
def evFin (st : Option (List UInt8)) : Option (List Evn × List UInt8) := match st.bind (dcount 10000) with
  | none => none
  | some (n, r) => devs n.toNat r

def runFin (st : Option (List UInt8)) : Option (List Evn × List Int) := match evFin st with
  | none => none
  | some (es, r2) => if (onums 4 (some r2)).2 = some [] then some (es, (onums 4 (some r2)).1) else none

theorem drun_fin (l : List UInt8) : drun l = (runFin (onum (some l)).2).map fun x => ⟨(onum (some l)).1, x.1, x.2⟩ := by
  unfold drun
  rcases h1 : dnum l with _ | ⟨t, l1⟩
  · simp [onum, h1, runFin, evFin]
  have e1 : onum (some l) = (t, some l1) := by simp [onum, h1]
  rw [e1]
  simp only
  unfold runFin evFin
  simp only [Option.bind_some, dcount]
  rcases h2 : dnum l1 with _ | ⟨n, l2⟩
  · rfl
  simp only
  by_cases hc : n < 0 ∨ 10000 < n
  · rw [if_pos hc, if_pos hc]; rfl
  rw [if_neg hc, if_neg hc]
  simp only
  rcases h3 : devs n.toNat l2 with _ | ⟨es, l3⟩
  · rfl
  simp only
  rcases h4 : dnums 4 l3 with _ | ⟨ns, l4⟩
  · rw [(onums_ok 4 l3).2 h4]; simp
  · rw [(onums_ok 4 l3).1 _ _ h4]
    simp only [Option.some.injEq]
    split <;> rfl

def noRun : Rn := ⟨0, [], [0, 0, 0, 0]⟩

section
variable {N : Nat} {v M : World} {r r1 r2 r3 : Nat} {tag : Int} {st : Option (List UInt8)}

/-- The state behind some events. -/
def SEv (N : Nat) (M : World) (r1 r3 : Nat) (tag : Int) (l3 : List UInt8) (i : Nat) (v : World) : Prop :=
  Upd [r1, r3] M v ∧ ∃ cp cn cc, Blk v r3 #[.int .i64 tag, .slice cp cn cc, .int .i64 0, .int .i64 0, .int .i64 0, .int .i64 0] ∧ match devs i l3 with
    | some (es, q) => RdAt N v r1 q false ∧ ∃ G, SlAt v 2 cp cn cc (es.flatMap evCells) G ∧ ∀ k ∈ G, M.heap.size ≤ k
    | none => ∃ l', RdAt N v r1 l' true

/-- An event put behind the row. -/
theorem put_ev {w1 : World} {cp : Option Addr} {cn cc : Nat} {G : List Nat} {es : List Evn} {x : Int} {s : List UInt8} {K : World → Prop} (hl : es.length < 2 ^ 40) (hN : N ≤ r1) (h13 : r1 < r3) (h3M : r3 < M.heap.size) (hu : Upd [r1, r3] M v)
    (hb3 : Blk v r3 #[.int .i64 tag, .slice cp cn cc, .int .i64 0, .int .i64 0, .int .i64 0, .int .i64 0]) (hs : SlAt v 2 cp cn cc (es.flatMap evCells) G) (hG : ∀ k ∈ G, M.heap.size ≤ k) (u1 : Upd [r1] v w1)
    (hK : ∀ w' cp cn cc G', Upd [r1, r3] M w' → Blk w' r3 #[.int .i64 tag, .slice cp cn cc, .int .i64 0, .int .i64 0, .int .i64 0, .int .i64 0] → SlAt w' 2 cp cn cc ((es ++ [(⟨x, s⟩ : Evn)]).flatMap evCells) G' → (∀ k ∈ G', M.heap.size ≤ k) → (∀ q' bd, RdAt N w1 r1 q' bd → RdAt N w' r1 q' bd) → K w') :
    BSl Tryd.prog 41 1 [(0, .agg #[.int .i64 x, .string ⟨s.toArray⟩])] w1 fun t6P t6N t6C w1_1 => w1_1.cell? ⟨r3, 1, none⟩ = some (.slice cp cn cc) ∧ App Tryd.prog #[41, 41] 41 #[.slice cp cn cc, .slice t6P t6N t6C] w1_1 fun t7P t7N t7C w1_2 => St w1_2 ⟨r3, 1, none⟩ (.slice t7P t7N t7C) K := by
  have hMs := hu.size
  have hcn : cn = es.length := by have := hs.1; rw [flat_len evCells_len] at this; omega
  refine BSlP_rule (hE := eS_41) [.agg #[.int .i64 x, .string ⟨s.toArray⟩]] rfl (by intro v hv; simp at hv; subst hv; rfl) rfl (by simp) fun w2 hs2 _ u2 => ?_
  have hev : ([.agg #[.int .i64 x, .string ⟨s.toArray⟩]] : List Value).flatMap (fun v => v.cells.toList) = evCells ⟨x, s⟩ := rfl
  rw [hev] at hs2
  have u12 : Upd [r1] v w2 := u1.before u2
  have hGr : Dis G [r1] := fun k hk hx => by simp at hx; have := hG k hk; omega
  have hb2' := hb3.upd u12 (by simp; omega)
  refine ⟨by rw [hb2'.cell]; rfl, ?_⟩
  refine App_rule (hE := eS_41) (hs.upd u12 hGr) hs2 (by simp [evCells, Value.oneCell']) (by simp; omega) fun p' c' F' w3 hs3 u3 s3 => ?_
  have hrG : r3 ∉ G := fun hx => by have := hG _ hx; omega
  have hF' : ∀ k ∈ F', M.heap.size ≤ k := fun k hk => (s3 k hk).elim (hG k) (fun h => by have := u12.size; omega)
  have hb4 := hb2'.upd u3 hrG
  refine St_rule hb4 (by simp) rfl fun w4 u4 hb5 => ?_
  have hM3 : Upd [r1, r3] M w3 := (hu.both (u12.mono (by intro k hk; simp at hk; simp [hk]))).trans u3 (fun x hx => .inl hx) (fun x hx => .inr (hG x hx))
  refine hK w4 p' (cn + 1) c' F' (hM3.both (u4.mono (by intro k hk; simp at hk; simp [hk]))) (by simpa using hb5) ?_ hF' ?_
  · rw [List.flatMap_append, List.flatMap_cons, List.flatMap_nil, List.append_nil]
    exact hs3.upd u4 (by intro k hk; simp; rintro rfl; have := hF' _ hk; omega)
  · intro q' bd hq
    have h1 := (hq.keep u2).upd u3 (fun hx => by have := hG _ hx; omega) (fun k hk => by have := hG k hk; omega)
    exact h1.upd u4 (by simp; omega) (by simp; omega)

/-- One event more of the row. -/
theorem run_one {l3 : List UInt8} (hl3 : l3.length < 2 ^ 40) (hN : N ≤ r1) (h12 : r1 < r2) (h23 : r2 < r3) (h3M : r3 < M.heap.size) (b2 : Blk M r2 #[.pointer (some ⟨r1, 0, none⟩)])
    (i : Nat) (v : World) (hg : (devs i l3).isSome = true) (h : SEv N M r1 r3 tag l3 i v) :
    CallV Tryd.prog (.func (.func 39) #[] #[.pointer (some ⟨r2, 0, none⟩), .pointer (some ⟨r3, 0, none⟩)]) [] v fun x v' => x = .tuple #[] ∧ SEv N M r1 r3 tag l3 (i + 1) v' := by
  rcases hd : devs i l3 with _ | ⟨es, q⟩
  · rw [hd] at hg; cases hg
  obtain ⟨hu, cp, cn, cc, hb3, hm⟩ := h
  rw [hd] at hm
  obtain ⟨hr, G, hs, hG⟩ := hm
  have hnl := devs_len hd
  refine ⟨_, _, _, rfl, rfl, ?_⟩
  refine Calls.mono (C_script_DecodeRun_1.of (c0 := ⟨r2, 0, none⟩) (c1 := ⟨r3, 0, none⟩) (R := fun w' => SEv N M r1 r3 tag l3 (i + 1) w') ?_) fun e w2 ⟨he, hx⟩ => ⟨_, he, rfl, hx⟩
  unfold F_script_DecodeRun_1
  have hb2 := b2.upd hu (by simp; omega)
  simp only [NN_some, addN, drw_cell, drw_heap, exS, exI, exB, exP, exM, exStr, exV, a0, a1, a2, a3, a4, a5, a6, a7, a8, a9, a10, a11, a12, a13, maxI_eq, Nat.zero_add, Nat.add_zero, Nat.mul_one, Option.isNone_some, Option.isNone_none, hb2.cell]
  have hd1 : devs (i + 1) l3 = match dev q with
      | none => none
      | some (e, r') => some (es ++ [e], r') := by rw [devs, hd]; rfl
  have hR : RdO N v r1 (some q) := hr
  refine numberO hR fun w1 R1 u1 => ?_
  have hb1 := hb3.upd u1 (by simp; omega)
  have hb21 := hb2.upd u1 (by simp; omega)
  simp only [NN_some, addN, drw_cell, drw_heap, exS, exI, exB, exP, exM, exStr, exV, a0, a1, a2, a3, a4, a5, a6, a7, a8, a9, a10, a11, a12, a13, maxI_eq, Nat.zero_add, Nat.add_zero, Nat.mul_one, Option.isNone_some, Option.isNone_none, hb1.cell, hb21.cell]
  refine textO (R1.upd (drw_upd w1) (by simp) (by simp)) fun w2 R2 u2 => ?_
  have u2' : Upd [r1] v w2 := u1.both ((drw_upd w1).after u2)
  have hb22 := hb3.upd u2' (by simp; omega)
  simp only [NN_some, addN, drw_cell, drw_heap, exS, exI, exB, exP, exM, exStr, exV, a0, a1, a2, a3, a4, a5, a6, a7, a8, a9, a10, a11, a12, a13, maxI_eq, Nat.zero_add, Nat.add_zero, Nat.mul_one, Option.isNone_some, Option.isNone_none, hb22.cell]
  refine ⟨trivial, put_ev (by omega) hN (by omega) h3M hu hb3 hs hG u2' fun w' cp cn cc G' g1 g2 g3 g4 g5 => ⟨g1, cp, cn, cc, g2, ?_⟩⟩
  rw [hd1]
  unfold dev
  rcases h1 : dnum q with _ | ⟨k, q1⟩
  · have e1 : onum (some q) = (0, none) := by simp [onum, h1]
    rw [e1] at R2
    obtain ⟨l', R2⟩ : ∃ l', RdAt N w2 r1 l' true := by simpa [otext, RdO] using R2
    exact ⟨l', g5 _ _ R2⟩
  · have e1 : onum (some q) = (k, some q1) := by simp [onum, h1]
    rw [e1] at R2 g3
    simp only
    rcases h2 : dtext q1 with _ | ⟨t, q2⟩
    · have e2 : otext (some q1) = ([], none) := by simp [otext, h2]
      simp only [e2] at R2
      obtain ⟨l', R2⟩ := R2
      exact ⟨l', g5 _ _ R2⟩
    · have e2 : otext (some q1) = (t, some q2) := by simp [otext, h2]
      simp only [e2] at R2 g3
      exact ⟨g5 _ _ R2, G', g3, g4⟩

/-- What the row of events comes to. -/
def EvOut (M v : World) (st st2 : Option (List UInt8)) (cp : Option Addr) (cn cc : Nat) : Prop := match evFin st with
  | none => st2 = none
  | some (es, q) => st2 = some q ∧ ∃ G, SlAt v 2 cp cn cc (es.flatMap evCells) G ∧ ∀ k ∈ G, M.heap.size ≤ k

theorem run_row {K : World → Prop} (hlen : ∀ l, st = some l → l.length < 2 ^ 40) (h12 : r1 < r2) (h23 : r2 < r3) (b2 : Blk v r2 #[.pointer (some ⟨r1, 0, none⟩)])
    (b3 : Blk v r3 #[.int .i64 tag, .slice none 0 0, .int .i64 0, .int .i64 0, .int .i64 0, .int .i64 0]) (hst : RdO N v r1 st)
    (hK : ∀ w' st2 cp cn cc, RdO N w' r1 st2 → Upd [r1, r3] v w' → Blk w' r3 #[.int .i64 tag, .slice cp cn cc, .int .i64 0, .int .i64 0, .int .i64 0, .int .i64 0] → EvOut v w' st st2 cp cn cc → K w') :
    C_script_reader_row (some ⟨r1, 0, none⟩) 10000 (.func (.func 39) #[] #[.pointer (some ⟨r2, 0, none⟩), .pointer (some ⟨r3, 0, none⟩)]) v K := by
  have hlow := hst.low
  rcases hcnt : st.bind (dcount 10000) with _ | ⟨n, l3⟩
  · refine rowO (S := fun _ _ => False) (good := fun _ => true) hst (by omega) (by omega) (fun _ _ h => h.elim) (fun _ _ _ h => h.elim) (fun x r w' h => by rw [hcnt] at h; cases h) fun w2 _ h2 u2 => ?_
    exact hK w2 none none 0 0 h2 (u2.mono (by intro k hk; simp at hk; simp [hk])) (b3.upd u2 (by simp; omega)) (by unfold EvOut evFin; rw [hcnt])
  · have hl3 : l3.length < 2 ^ 40 := by
      rcases st with _ | l
      · cases hcnt
      · have h1 := (dcount_len hcnt).1
        have := hlen l rfl
        omega
    have hn : 0 ≤ n ∧ n ≤ 10000 := by
      rcases st with _ | l
      · cases hcnt
      · exact (dcount_len hcnt).2
    refine rowO (S := SEv N v r1 r3 tag l3) (good := fun i => (devs i l3).isSome) hst (by omega) (by omega) ?_ (fun i v' hg h => run_one hl3 hlow h12 h23 b3.lt b2 i v' hg h) ?_ (fun w' h => by rw [hcnt] at h; cases h)
    · rintro i v' ⟨hu, cp, cn, cc, hb, h⟩
      rcases hd : devs i l3 with _ | ⟨es, q⟩
      · rw [hd] at h; simpa using h
      · rw [hd] at h; exact ⟨q, h.1⟩
    · intro x q w2 hx h2 u2
      rw [hcnt] at hx
      simp only [Option.some.injEq, Prod.mk.injEq] at hx
      obtain ⟨rfl, rfl⟩ := hx
      refine ⟨⟨u2.mono (by intro k hk; simp at hk; simp [hk]), none, 0, 0, b3.upd u2 (by simp; omega), h2, [], SlAt.nil w2 2, by simp⟩, ?_⟩
      rintro i v' ⟨hu, cp, cn, cc, hb, h⟩ hi hor
      rcases hd : devs i l3 with _ | ⟨es, q⟩
      · rw [hd] at h
        refine hK v' none cp cn cc h hu hb ?_
        have := devs_more hd (n.toNat - i)
        rw [show i + (n.toNat - i) = n.toNat by omega] at this
        unfold EvOut evFin
        rw [hcnt]
        simp only
        rw [this]
        trivial
      · rw [hd] at h hor
        simp at hor
        subst hor
        obtain ⟨hr, G, hs, hG⟩ := h
        refine hK v' (some q) cp cn cc hr hu hb ?_
        unfold EvOut evFin
        rw [hcnt]
        simp only
        rw [hd]
        exact ⟨rfl, G, hs, hG⟩

/-- What is known at the end. -/
theorem run_end {v : World} {l : List UInt8} {t0 : Int × Option (List UInt8)} (ht0 : t0 = onum (some l)) {st2 : Option (List UInt8)} {cp : Option Addr} {cn cc : Nat} (h : EvOut M v t0.2 st2 cp cn cc) :
    ((onums 4 st2).2 ≠ some [] → drun l = none) ∧ ((onums 4 st2).2 = some [] → ∃ es G, drun l = some ⟨t0.1, es, (onums 4 st2).1⟩ ∧ SlAt v 2 cp cn cc (es.flatMap evCells) G ∧ ∀ k ∈ G, M.heap.size ≤ k) := by
  have hd := drun_fin l
  rw [← ht0] at hd
  unfold runFin at hd
  unfold EvOut at h
  rcases he : evFin t0.2 with _ | ⟨es, q⟩
  · rw [he] at h hd
    simp only at h hd
    subst h
    exact ⟨fun _ => hd, fun h => by rw [onums_bad] at h; cases h⟩
  · rw [he] at h hd
    obtain ⟨rfl, G, hs, hG⟩ := h
    simp only at hd
    refine ⟨fun h => by rw [hd, if_neg h]; rfl, fun h => ⟨es, G, by rw [hd, if_pos h]; rfl, hs, hG⟩⟩

theorem DecodeRun_ok {w : World} {p : Option Addr} {n c : Nat} {l : List UInt8} {K : Int → Option Addr → Nat → Nat → Int → Int → Int → Int → Int → World → Prop} (hp : Rd w 1 p n (bc l)) (hnc : n ≤ c) (hlen : l.length < 2 ^ 40)
    (hK : ∀ tag q m d c2 c3 c4 c5 es w', Upd [] w w' → (drun l).getD noRun = ⟨tag, es, [c2, c3, c4, c5]⟩ → Rd w' 2 q m (es.flatMap evCells) → K tag q m d c2 c3 c4 c5 (if (drun l).isSome then 0 else 270) w') :
    C_script_DecodeRun p n c w K := by
  apply C_script_DecodeRun.of
  unfold F_script_DecodeRun
  refine New_rule fun r w1 hr u1 b0 => ?_
  refine New_rule fun r1 w2 hr1 u2 b1 => ?_
  refine New_rule fun r2 w3 hr2 u3 b2 => ?_
  simp only [NN_some, addN, drw_cell, drw_heap, exS, exI, exB, exP, exM, exStr, exV, a0, a1, a2, a3, a4, a5, a6, a7, a8, a9, a10, a11, a12, a13, maxI_eq, Nat.zero_add, Nat.add_zero, Nat.mul_one, Option.isNone_some, Option.isNone_none]
  have h01 : r < r1 := by have := b0.lt; omega
  have h12 : r1 < r2 := by have := b1.lt; omega
  refine St_rule b2 (by simp) rfl fun w4 u4 b2 => ?_
  simp at b2
  have b04 := ((b0.upd u2 (by simp)).upd u3 (by simp)).upd u4 (by simp; omega)
  have b14 := (b1.upd u3 (by simp)).upd u4 (by simp; omega)
  have uw4 : Upd [] w w4 := ((u1.after u2).after u3).fresh u4 (by simp; have := u1.size; have := u2.size; omega)
  have R0 : RdO w.heap.size w4 r1 (some l) := ⟨p, n, c, b14, hp.keep uw4, hnc, Rd_lo hp (by omega)⟩
  simp only [NN_some, addN, drw_cell, drw_heap, exS, exI, exB, exP, exM, exStr, exV, a0, a1, a2, a3, a4, a5, a6, a7, a8, a9, a10, a11, a12, a13, maxI_eq, Nat.zero_add, Nat.add_zero, Nat.mul_one, Option.isNone_some, Option.isNone_none, b2.cell]
  have hdrun := drun_fin l
  obtain ⟨t0, ht0⟩ : ∃ t, t = onum (some l) := ⟨_, rfl⟩
  refine numberO R0 fun w5 R1 u5 => ?_
  rw [← ht0] at R1 hdrun ⊢
  refine New_rule fun r3 w6 hr3 u6 b3 => ?_
  try simp only [NN_some, addN, drw_cell, drw_heap, exS, exI, exB, exP, exM, exStr, exV, a0, a1, a2, a3, a4, a5, a6, a7, a8, a9, a10, a11, a12, a13, maxI_eq, Nat.zero_add, Nat.add_zero, Nat.mul_one, Option.isNone_some, Option.isNone_none]
  refine St6n b3 (by simp) (by simp [Value.oneCell']) fun w7 u7 b3 => ?_
  have h23 : r2 < r3 := by have := (b2.upd u5 (by simp; omega)).lt; omega
  have R2 := (R1.upd u6 (by simp) (by simp)).upd u7 (by simp; omega) (by simp; have := R1.low; omega)
  have u57 : Upd [r1] w4 w7 := (u5.before u6).trans u7 (fun x hx => .inl hx) (by simp; have := u5.size; omega)
  have b27 := b2.upd u57 (by simp; omega)
  have b07 := b04.upd u57 (by simp; omega)
  simp only [NN_some, addN, drw_cell, drw_heap, exS, exI, exB, exP, exM, exStr, exV, a0, a1, a2, a3, a4, a5, a6, a7, a8, a9, a10, a11, a12, a13, maxI_eq, Nat.zero_add, Nat.add_zero, Nat.mul_one, Option.isNone_some, Option.isNone_none, b27.cell]
  have hwu : ∀ {w'}, Upd [r1, r3] w7 w' → Upd [] w w' := fun h => uw4.fresh ((u57.mono (by intro k hk; simp at hk; simp [hk])).both h) (by simp; have := u1.size; have := u2.size; have := u3.size; omega)
  have hlow := R2.low
  have hst0 : ∀ l', t0.2 = some l' → l'.length < 2 ^ 40 := fun l' h => by
    rw [ht0] at h
    have := onum_len (l := l) h (fun l' h' => by simp at h'; rw [h']; exact Nat.le_refl _)
    omega
  refine run_row hst0 h12 h23 b27 b3 R2 fun v st2 cp cn cc Q U B C => ?_
  obtain ⟨ebad, egood⟩ := run_end ht0 C
  have b2v := b27.upd U (by simp; omega)
  simp only [NN_some, addN, drw_cell, drw_heap, exS, exI, exB, exP, exM, exStr, exV, a0, a1, a2, a3, a4, a5, a6, a7, a8, a9, a10, a11, a12, a13, maxI_eq, Nat.zero_add, Nat.add_zero, Nat.mul_one, Option.isNone_some, Option.isNone_none, b2v.cell]
  have o4 : onums 4 st2 = ([(onum st2).1, (onum (onum st2).2).1, (onum (onum (onum st2).2).2).1, (onum (onum (onum (onum st2).2).2).2).1], (onum (onum (onum (onum st2).2).2).2).2) := rfl
  refine numberO Q fun v1 Q1 U1 => ?_
  have B1 := B.upd U1 (by simp; omega)
  refine St_rule B1 (by simp) rfl fun v2 U2 B2 => ?_
  simp at B2
  have b2v2 := (b2v.upd U1 (by simp; omega)).upd U2 (by simp; omega)
  simp only [NN_some, addN, drw_cell, drw_heap, exS, exI, exB, exP, exM, exStr, exV, a0, a1, a2, a3, a4, a5, a6, a7, a8, a9, a10, a11, a12, a13, maxI_eq, Nat.zero_add, Nat.add_zero, Nat.mul_one, Option.isNone_some, Option.isNone_none, b2v2.cell]
  refine numberO (Q1.upd U2 (by simp; omega) (by simp; omega)) fun v3 Q2 U3 => ?_
  have B3 := B2.upd U3 (by simp; omega)
  refine St_rule B3 (by simp) rfl fun v4 U4 B4 => ?_
  simp at B4
  have b2v4 := (b2v2.upd U3 (by simp; omega)).upd U4 (by simp; omega)
  simp only [NN_some, addN, drw_cell, drw_heap, exS, exI, exB, exP, exM, exStr, exV, a0, a1, a2, a3, a4, a5, a6, a7, a8, a9, a10, a11, a12, a13, maxI_eq, Nat.zero_add, Nat.add_zero, Nat.mul_one, Option.isNone_some, Option.isNone_none, b2v4.cell]
  have ud : Upd [] v4 (drw v4) := drw_upd v4
  refine numberO ((Q2.upd U4 (by simp; omega) (by simp; omega)).upd ud (by simp) (by simp)) fun v5 Q3 U5 => ?_
  have b2v5 := (b2v4.upd ud (by simp)).upd U5 (by simp; omega)
  simp only [NN_some, addN, drw_cell, drw_heap, exS, exI, exB, exP, exM, exStr, exV, a0, a1, a2, a3, a4, a5, a6, a7, a8, a9, a10, a11, a12, a13, maxI_eq, Nat.zero_add, Nat.add_zero, Nat.mul_one, Option.isNone_some, Option.isNone_none, b2v5.cell]
  refine ⟨trivial, ?_⟩
  refine numberO Q3 fun v6 Q4 U6 => ?_
  have B6 := ((B4.upd ud (by simp)).upd U5 (by simp; omega)).upd U6 (by simp; omega)
  refine St_rule B6 (by simp) rfl fun v7 U7 B7 => ?_
  simp at B7
  refine St_rule B7 (by simp) rfl fun v8 U8 B8 => ?_
  simp at B8
  have h1 : ∀ k ∈ [r1], k ∈ [r1, r3] ∨ v.heap.size ≤ k := by intro k hk; simp at hk; simp [hk]
  have UU : Upd [r1, r3] v v8 := (U1.mono (by intro k hk; simp at hk; simp [hk])).both ((U2.mono (by intro k hk; simp at hk; simp [hk])).both ((U3.mono (by intro k hk; simp at hk; simp [hk])).both ((U4.mono (by intro k hk; simp at hk; simp [hk])).both ((ud.mono (by simp)).both ((U5.mono (by intro k hk; simp at hk; simp [hk])).both ((U6.mono (by intro k hk; simp at hk; simp [hk])).both ((U7.mono (by intro k hk; simp at hk; simp [hk])).both (U8.mono (by intro k hk; simp at hk; simp [hk])))))))))
  have b2v8 := (b2v.upd UU (by simp; omega))
  have Q8 := (Q4.upd U7 (by simp; omega) (by simp; omega)).upd U8 (by simp; omega) (by simp; omega)
  simp only [NN_some, addN, drw_cell, drw_heap, exS, exI, exB, exP, exM, exStr, exV, a0, a1, a2, a3, a4, a5, a6, a7, a8, a9, a10, a11, a12, a13, maxI_eq, Nat.zero_add, Nat.add_zero, Nat.mul_one, Option.isNone_some, Option.isNone_none, b2v8.cell]
  have b0v8 := b07.upd (U.both UU) (by simp; omega)
  rw [o4] at ebad egood
  refine wholeO Q8 (ifC (fun h => ?_) (fun h => ?_))
  · simp at h
    refine St6n b0v8 (by simp) (by simp [Value.oneCell']) fun v9 U9 B9 => ?_
    simp only [NN_some, addN, drw_cell, drw_heap, exS, exI, exB, exP, exM, exStr, exV, a0, a1, a2, a3, a4, a5, a6, a7, a8, a9, a10, a11, a12, a13, maxI_eq, Nat.zero_add, Nat.add_zero, Nat.mul_one, Option.isNone_some, Option.isNone_none, B9.cell]
    have hd := ebad h
    have := hK 0 none 0 0 0 0 0 0 [] v9 ((hwu (U.both UU)).fresh U9 (by simp; omega)) (by rw [hd]; rfl) ⟨rfl, .inl rfl⟩
    rw [hd] at this
    simpa using this
  · simp at h
    obtain ⟨es, G, hd, hs, hG⟩ := egood h
    simp only [NN_some, addN, drw_cell, drw_heap, exS, exI, exB, exP, exM, exStr, exV, a0, a1, a2, a3, a4, a5, a6, a7, a8, a9, a10, a11, a12, a13, maxI_eq, Nat.zero_add, Nat.add_zero, Nat.mul_one, Option.isNone_some, Option.isNone_none, B8.cell]
    refine St6n b0v8 (by simp) (by simp [Value.oneCell']) fun v9 U9 B9 => ?_
    simp only [NN_some, addN, drw_cell, drw_heap, exS, exI, exB, exP, exM, exStr, exV, a0, a1, a2, a3, a4, a5, a6, a7, a8, a9, a10, a11, a12, a13, maxI_eq, Nat.zero_add, Nat.add_zero, Nat.mul_one, Option.isNone_some, Option.isNone_none, B9.cell]
    have hr3l := b3.lt
    have hGd : ∀ k ∈ G, k ∉ [r1, r3] ∧ k ∉ [r] := fun k hk => by have := hG k hk; simp; omega
    have := hK _ cp cn cc _ _ _ _ es v9 ((hwu (U.both UU)).fresh U9 (by simp; omega)) (by rw [hd]; rfl) ((hs.upd UU (fun k hk => (hGd k hk).1)).upd U9 (fun k hk => (hGd k hk).2)).rd
    rw [hd] at this
    simpa using this
end

end Go.Proofs.YtggbmakfifllnaaDoor
