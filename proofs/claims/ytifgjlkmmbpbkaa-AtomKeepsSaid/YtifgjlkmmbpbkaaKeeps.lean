/- Names that are marked keep their numbers: the law. -/
import Derived.Test.YtifgjlkmmbpbkaaDoes
namespace Go.Proofs.Ytifgjlkmmbpbkaa
open Go Go.D Go.Proofs
set_option linter.unusedSimpArgs false
set_option linter.unusedVariables false
set_option maxRecDepth 8000

theorem findIdx?_map' {α : Type} (p : α → Bool) (l : List α) : l.findIdx? p = (l.map p).findIdx? id := by
  rw [List.findIdx?_map]; rfl

theorem findN_mark {L : List Slot} {k : Nat} {n : ByteArray} {m : Bool} (hk : k < L.length) : findN (L.set k ⟨L[k].name, L[k].is, m⟩) n = findN L n := by
  unfold findN
  rw [findIdx?_map', findIdx?_map' _ L, List.map_set]
  congr 1
  apply List.ext_getElem?
  intro j
  by_cases hj : k = j
  · subst hj
    rw [List.getElem?_set_self (by simpa using hk), List.getElem?_map, List.getElem?_eq_getElem hk]; rfl
  · rw [List.getElem?_set_ne hj]

theorem even_of {i : Int} (h0 : 0 ≤ i) (h : i.tmod 2 = 0) : i.toNat % 2 = 0 := by
  rw [Int.tmod_eq_emod_of_nonneg h0] at h; omega

theorem odd_of {i : Int} (h0 : 0 ≤ i) (h : ¬ i.tmod 2 = 0) : ¬ i.toNat % 2 = 0 := by
  rw [Int.tmod_eq_emod_of_nonneg h0] at h; omega

theorem findN_old {L : List Slot} {n : ByteArray} {i : Nat} {s : Slot} (h : findN L n = some i) : findN (L ++ [s]) n = some i := by
  unfold findN at *
  rw [List.findIdx?_append, h]; rfl

theorem Full.mark {L : List Slot} {k : Nat} {m : Bool} (h : Full L) (hk : k < L.length) : Full (L.set k ⟨L[k].name, L[k].is, m⟩) := fun s hs => by
  rcases List.mem_or_eq_of_mem_set hs with hs | rfl
  · exact h s hs
  · show L[k].is = true
    exact h _ (List.getElem_mem hk)

/-- Is a place's number asked for? -/
def askd (l : List ByteArray) (j : Nat) : Prop := ∃ hj : j < l.length, l[j].size ≤ 64

/-- The numbers behind the first calls. -/
structure Ph1 (ls : List ByteArray) (L : List Slot) (I : List Int) (i : Nat) : Prop where
  len : I.length = i
  le : i ≤ ls.length
  find : ∀ j (hj : j < i), ls[j].size ≤ 64 → ∃ k : Nat, I[j]? = some (k : Int) ∧ findN L ls[j] = some k
  mark : ∀ j (hj : j < i), ls[j].size ≤ 64 → j % 2 = 0 → ∃ (k : Nat) (s : Slot), I[j]? = some (k : Int) ∧ L[k]? = some s ∧ s.mark = true

/-- Names that stay. -/
def Stay (ls : List ByteArray) (I : List Int) (L : List Slot) : Prop := ∀ j (hj : j < ls.length), ls[j].size ≤ 64 → j % 2 = 0 → ∃ (k : Nat) (m : Bool), I[j]? = some (k : Int) ∧ L[k]? = some ⟨ls[j], true, m⟩

section
variable {ls : List ByteArray} {L : List Slot} {I : List Int}

/-- One more. -/
theorem Ph1.next {L' : List Slot} {i : Nat} {k : Int} (h : Ph1 ls L I i) (hi : i < ls.length) (hold : ∀ n k, findN L n = some k → findN L' n = some k) (hm : ∀ (k : Nat) s, L[k]? = some s → s.mark = true → ∃ s', L'[k]? = some s' ∧ s'.mark = true)
    (h1 : ls[i].size ≤ 64 → ∃ q : Nat, k = q ∧ findN L' ls[i] = some q ∧ (i % 2 = 0 → ∃ s, L'[q]? = some s ∧ s.mark = true)) : Ph1 ls L' (I ++ [k]) (i + 1) := by
  have hl := h.len
  refine ⟨by simp [hl], hi, fun j hj hsz => ?_, fun j hj hsz hev => ?_⟩
  · by_cases hji : j < i
    · obtain ⟨q, a, b⟩ := h.find j hji hsz
      exact ⟨q, by rw [List.getElem?_append_left (by omega)]; exact a, hold _ _ b⟩
    · obtain rfl : j = i := by omega
      obtain ⟨q, rfl, b, _⟩ := h1 hsz
      exact ⟨q, by rw [List.getElem?_append_right (by omega)]; simp [hl], b⟩
  · by_cases hji : j < i
    · obtain ⟨q, s, a, b, c⟩ := h.mark j hji hsz hev
      obtain ⟨s', d, e⟩ := hm q s b c
      exact ⟨q, s', by rw [List.getElem?_append_left (by omega)]; exact a, d, e⟩
    · obtain rfl : j = i := by omega
      obtain ⟨q, rfl, _, b⟩ := h1 hsz
      obtain ⟨s, c, d⟩ := b hev
      exact ⟨q, s, by rw [List.getElem?_append_right (by omega)]; simp [hl], c, d⟩

theorem Ph1.stay (h : Ph1 ls L I ls.length) : Stay ls I (swL L L.length) := fun j hj hsz hev => by
  obtain ⟨k, a, b⟩ := h.find j hj hsz
  obtain ⟨k', s, a', c, d⟩ := h.mark j hj hsz hev
  rw [a] at a'
  simp at a'
  have hk : k = k' := by omega
  subst hk
  obtain ⟨hl, his, hn⟩ := findN_get b
  rw [List.getElem?_eq_getElem hl] at c
  have c := Option.some.inj c
  refine ⟨k, false, a, ?_⟩
  rw [swL_get, if_pos hl, List.getElem?_eq_getElem hl, Option.map_some]
  have hg : goneS k L[k] = false := by unfold goneS; rw [c, d]; simp
  unfold swS
  rw [hg, his, hn]; rfl

theorem Stay.set {i : Nat} {n : ByteArray} {s : Slot} (h : Stay ls I L) (hi : L[i]? = some s) (his : s.is = false) : Stay ls I (L.set i ⟨n, true, false⟩) := fun j hj hsz hev => by
  obtain ⟨k, m, a, b⟩ := h j hj hsz hev
  refine ⟨k, m, a, ?_⟩
  rw [List.getElem?_set_ne fun e => ?_]
  · exact b
  · subst e
    rw [hi] at b
    rw [Option.some.inj b] at his; cases his

theorem Stay.grow {s : Slot} (h : Stay ls I L) : Stay ls I (L ++ [s]) := fun j hj hsz hev => by
  obtain ⟨k, m, a, b⟩ := h j hj hsz hev
  exact ⟨k, m, a, by rw [List.getElem?_append_left (List.getElem?_eq_some_iff.1 b).1]; exact b⟩

end

theorem freeN_get {L : List Slot} {i : Nat} (h : freeN L = some i) : ∃ s, L[i]? = some s ∧ s.is = false := by
  unfold freeN at h
  rw [List.findIdx?_eq_some_iff_getElem] at h
  obtain ⟨hi, hp, _⟩ := h
  exact ⟨_, List.getElem?_eq_getElem hi, by simpa using hp⟩

theorem AtomKeeps_law {w : World} {p q : Option Addr} {n m c e : Nat} {ls ms : List ByteArray} (hl : Rd w 1 p n (ls.map .string)) (hms : Rd w 1 q m (ms.map .string)) : C_law04_AtomKeeps p n c q m e w fun r w' => r = true ∧ Upd [] w w' := by
  apply C_law04_AtomKeeps.of
  unfold F_law04_AtomKeeps F_law04_AtomKeeps_k1 F_law04_AtomKeeps_L1
  have hn : n = ls.length := by have := hl.1; simp at this; exact this.symm
  have hmn : m = ms.length := by have := hms.1; simp at this; exact this.symm
  refine Tl.new (w := w) (Upd.refl _ _) (by omega) (by omega) fun w1 b t1 => lives_ok fun w2 u2 => ifF rfl (ifF rfl (ifF rfl ?_))
  have t2 := t1.keep u2
  refine ifC (fun _ => lives_ok fun w3 u3 => ifT rfl ⟨rfl, (t2.keep u3).U⟩) (fun hn50 => ifC (fun _ => lives_ok fun w3 u3 => ifT rfl ⟨rfl, (t2.keep u3).U⟩) (fun hm50 => ?_))
  simp at hn50 hm50
  obtain ⟨a, hab⟩ : ∃ a, a = (some ⟨b, 0, none⟩ : Option Addr) := ⟨_, rfl⟩
  rw [← hab] at t2 ⊢
  -- reading
  have rdl : ∀ {j : Nat} (hj : j < ls.length), ∃ x : Addr, p = some x ∧ ∀ v, Upd [] w v → v.cell? (x.add j) = some (.string ls[j]) := fun {j} hj => by
    obtain ⟨x, hx, _⟩ := hl.at (i := j) (by omega)
    refine ⟨x, hx, fun v u => ?_⟩
    obtain ⟨y, hy, hc⟩ := (hl.keep u).at (i := j) (by omega)
    obtain rfl := Option.some.inj (hx.symm.trans hy)
    rw [List.getElem?_map, List.getElem?_eq_getElem hj] at hc
    exact hc
  have rdm : ∀ {j : Nat} (hj : j < ms.length), ∃ x : Addr, q = some x ∧ ∀ v, Upd [] w v → v.cell? (x.add j) = some (.string ms[j]) := fun {j} hj => by
    obtain ⟨x, hx, _⟩ := hms.at (i := j) (by omega)
    refine ⟨x, hx, fun v u => ?_⟩
    obtain ⟨y, hy, hc⟩ := (hms.keep u).at (i := j) (by omega)
    obtain rfl := Option.some.inj (hx.symm.trans hy)
    rw [List.getElem?_map, List.getElem?_eq_getElem hj] at hc
    exact hc
  refine ⟨fun s v => 0 ≤ s.i ∧ s.i ≤ n ∧ ∃ L made I F, Tl w v F a L made 16384 ∧ SlAt v 1 s.idsP s.idsN s.idsC (I.map (.int .i64)) F ∧ Since F w ∧ Full L ∧ (L.length : Int) ≤ 15 + s.i ∧ 0 ≤ made ∧ made ≤ s.i ∧ Ph1 ls L I s.i.toNat, fun s _ => (n - s.i).toNat,
    ⟨by simp, by simp, _, _, [], [], t2, SlAt.nil _ _, (by intro k hk; cases hk), init_full, by decide, by omega, by simp, ⟨rfl, by simp, fun j hj => by simp at hj, fun j hj => by simp at hj⟩⟩, ?_⟩
  rintro ⟨ip, iN, ic, i⟩ v ⟨hi0, hi1, L, made, I, F, t, hI, hF, hfull, hlen, hm0, hm1, ph⟩
  dsimp only at hi0 hi1 hI hlen hm1 ph
  unfold B_law04_AtomKeeps_L1 F_law04_AtomKeeps_k2
  dsimp only
  have hiN : iN = i.toNat := by have := hI.1; have := ph.len; simp at *; omega
  refine ifC (fun hc => ?_) (fun hc => ?_)
  · simp at hc
    have hil : i.toNat < ls.length := by omega
    obtain ⟨x, hx, hcell⟩ := rdl hil
    subst hx
    simp only [NN_some, Nat.mul_one, hcell v t.U, exStr]
    -- behind a call of Intern
    have aft : ∀ {v1 : World} {L1 : List Slot} {m1 k er : Int}, Tl w v1 F a L1 m1 16384 → Far F v v1 → Full L1 → (L1.length : Int) ≤ 15 + (i + 1) → 0 ≤ m1 → m1 ≤ i + 1 → (∀ n k, findN L n = some k → findN L1 n = some k) → (∀ (k : Nat) s, L[k]? = some s → s.mark = true → ∃ s', L1[k]? = some s' ∧ s'.mark = true) →
        (er == 0) = decide (ls[i.toNat].size ≤ 64) → (ls[i.toNat].size ≤ 64 → ∃ q : Nat, k = q ∧ findN L1 ls[i.toNat] = some q) → ∀ (KK : Option Addr → Nat → Nat → World → Prop) (Kr : Bool → World → Prop), (∀ p' c' v2 L2 F2, Tl w v2 F2 a L2 m1 16384 → SlAt v2 1 p' (iN + 1) c' ((I ++ [k]).map (.int .i64)) F2 → Since F2 w → Full L2 → (L2.length : Int) ≤ 15 + (i + 1) → Ph1 ls L2 (I ++ [k]) (i.toNat + 1) → KK p' (iN + 1) c' v2) →
        0 ≤ i ∧ i < (n : Int) ∧ ∃ t68 : ByteArray, v1.cell? (x.add i.toNat) = some (.string t68) ∧ If (!((er == (0 : Int)) == (decide ((t68.size : Int) ≤ (64 : Int))))) (Kr false v1)
          (BSl Try.prog 42 1 [(0, .int .i64 k)] v1 fun t74P t74N t74C w1_6 => App Try.prog #[42, 42] 42 #[.slice ip iN ic, .slice t74P t74N t74C] w1_6 fun t75P t75N t75C w1_7 =>
            If (er == (0 : Int)) ((2 : Int) ≠ 0 ∧ If ((i.tmod (2 : Int)) == (0 : Int)) (C_atom_Table_Mark a k w1_7 fun t85 w1_8 => KK t75P t75N t75C w1_8) (KK t75P t75N t75C w1_7)) (KK t75P t75N t75C w1_7)) := by
      intro v1 L1 m1 k er tl far hf1 hl1 hz0 hz1 hold hmk her hk KK Kr hKK
      refine ⟨hi0, hc, _, hcell v1 tl.U, ifF ?_ ?_⟩
      · rw [her]
        have e1 : decide ((ls[i.toNat].size : Int) ≤ 64) = decide (ls[i.toNat].size ≤ 64) := by
          congr 1
          apply propext
          omega
        rw [e1]; simp
      have hI1 := far.sl hI (fun _ h => h)
      refine BSlL_rule eS_42 [.int .i64 k] (by rfl) (by simp [Value.cells]) (by rfl) (by omega) fun v2 hs2 u2 => ?_
      refine App_rule (hE := eS_42) (hI1.upd u2 (by intro k _ h; cases h)) hs2 (by simp [Value.cells, Value.oneCell']) (by omega) fun p' c' F' v3 hs3 u3 s3 => ?_
      have hs3' : SlAt v3 1 p' (iN + 1) c' ((I ++ [k]).map (.int .i64)) F' := by
        rw [List.map_append]
        simpa [Value.cells] using hs3
      have t3 := (tl.keep u2).own u3 (fun _ h => h) hF s3 hs3.inn
      have hF' : Since F' w := hF.step s3 (Nat.le_trans tl.U.size u2.size)
      have noMark : (¬ (ls[i.toNat].size ≤ 64 ∧ i.toNat % 2 = 0)) → KK p' (iN + 1) c' v3 := fun hnm => by
        refine hKK p' c' v3 L1 F' t3 hs3' hF' hf1 hl1 (ph.next hil hold hmk fun hsz => ?_)
        obtain ⟨q, h1, h2⟩ := hk hsz
        exact ⟨q, h1, h2, fun hev => absurd ⟨hsz, hev⟩ hnm⟩
      refine ifC (fun h1 => ?_) (fun h1 => noMark fun h => by rw [her] at h1; simp at h1; omega)
      have hsz : ls[i.toNat].size ≤ 64 := by rw [her] at h1; simpa using h1
      refine ⟨by decide, ifC (fun h2 => ?_) (fun h2 => noMark fun h => ?_)⟩
      · have hev : i.toNat % 2 = 0 := by
          have h2 : i.tmod 2 = 0 := by simpa using h2
          exact even_of hi0 h2
        obtain ⟨q, hq1, hq2⟩ := hk hsz
        subst hq1
        obtain ⟨hql, hqi, hqn⟩ := findN_get hq2
        refine t3.mark (fun hno => ?_) (fun _ hql' v4 t4 far4 => ?_)
        · rw [isN_of (List.getElem?_eq_getElem hql) hqi] at hno; cases hno
        · simp only [Int.toNat_natCast] at t4
          refine hKK p' c' v4 _ F' t4 (far4.sl hs3' (fun _ h => h)) hF' (hf1.mark hql) (by rw [List.length_set]; exact hl1) (ph.next hil (fun n k h => by rw [findN_mark hql]; exact hold n k h) (fun k s h hmk2 => ?_) fun _ => ⟨q, rfl, by rw [findN_mark hql]; exact hq2, fun _ => ⟨_, List.getElem?_set_self hql, rfl⟩⟩)
          obtain ⟨s', h3, h4⟩ := hmk k s h hmk2
          by_cases hkq : q = k
          · subst hkq
            exact ⟨_, List.getElem?_set_self hql, rfl⟩
          · exact ⟨s', by rw [List.getElem?_set_ne hkq]; exact h3, h4⟩
      · have h2 : ¬ i.tmod 2 = 0 := by simpa using h2
        exact odd_of hi0 h2 h.2
    have fin : ∀ {m1 : Int}, 0 ≤ m1 → m1 ≤ i + 1 → ∀ {k : Int} p' c' v2 L2 F2, Tl w v2 F2 a L2 m1 16384 → SlAt v2 1 p' (iN + 1) c' ((I ++ [k]).map (.int .i64)) F2 → Since F2 w → Full L2 → (L2.length : Int) ≤ 15 + (i + 1) → Ph1 ls L2 (I ++ [k]) (i.toNat + 1) →
        (0 ≤ IntKind.i64.wrap (i + 1) ∧ IntKind.i64.wrap (i + 1) ≤ n ∧ ∃ L made I F, Tl w v2 F a L made 16384 ∧ SlAt v2 1 p' (iN + 1) c' (I.map (.int .i64)) F ∧ Since F w ∧ Full L ∧ (L.length : Int) ≤ 15 + IntKind.i64.wrap (i + 1) ∧ 0 ≤ made ∧ made ≤ IntKind.i64.wrap (i + 1) ∧ Ph1 ls L I (IntKind.i64.wrap (i + 1)).toNat) ∧ (n - IntKind.i64.wrap (i + 1)).toNat < (n - i).toNat := by
      intro m1 h1 h2 k p' c' v2 L2 F2 a1' a2' a3' a4' a5' a6'
      rw [i64id (by omega) (by omega)]
      exact ⟨⟨by omega, by omega, L2, m1, I ++ [k], F2, a1', a2', a3', a4', a5', h1, h2, by rw [show (i + 1).toNat = i.toNat + 1 by omega]; exact a6'⟩, by omega⟩
    refine ⟨hi0, hc, t.intern (by omega) (fun hlong v1 t1' f1 => ?_) (fun hsz j hj v1 t1' f1 => ?_) (fun _ _ j hj => by rw [hfull.free] at hj; cases hj) (fun _ _ _ h => by omega) (fun hsz hnf _ hlt v1 t1' f1 => ?_)⟩
    · exact aft (er := 3) t1' f1 hfull (by omega) hm0 (by omega) (fun _ _ h => h) (fun k s h h' => ⟨s, h, h'⟩) (by rw [decide_eq_false (by omega)]; rfl) (fun h => by omega) (fun p' n' c' v2 => (0 ≤ IntKind.i64.wrap (i + 1) ∧ IntKind.i64.wrap (i + 1) ≤ n ∧ ∃ L made I F, Tl w v2 F a L made 16384 ∧ SlAt v2 1 p' n' c' (I.map (.int .i64)) F ∧ Since F w ∧ Full L ∧ (L.length : Int) ≤ 15 + IntKind.i64.wrap (i + 1) ∧ 0 ≤ made ∧ made ≤ IntKind.i64.wrap (i + 1) ∧ Ph1 ls L I (IntKind.i64.wrap (i + 1)).toNat) ∧ (n - IntKind.i64.wrap (i + 1)).toNat < (n - i).toNat) (fun r w' => r = true ∧ Upd [] w w') (fin hm0 (by omega))
    · exact aft (er := 0) t1' f1 hfull (by omega) hm0 (by omega) (fun _ _ h => h) (fun k s h h' => ⟨s, h, h'⟩) (by rw [decide_eq_true hsz]; rfl) (fun _ => ⟨j, rfl, hj⟩) (fun p' n' c' v2 => (0 ≤ IntKind.i64.wrap (i + 1) ∧ IntKind.i64.wrap (i + 1) ≤ n ∧ ∃ L made I F, Tl w v2 F a L made 16384 ∧ SlAt v2 1 p' n' c' (I.map (.int .i64)) F ∧ Since F w ∧ Full L ∧ (L.length : Int) ≤ 15 + IntKind.i64.wrap (i + 1) ∧ 0 ≤ made ∧ made ≤ IntKind.i64.wrap (i + 1) ∧ Ph1 ls L I (IntKind.i64.wrap (i + 1)).toNat) ∧ (n - IntKind.i64.wrap (i + 1)).toNat < (n - i).toNat) (fun r w' => r = true ∧ Upd [] w w') (fin hm0 (by omega))
    · exact aft (er := 0) t1' f1 hfull.grow (by simp; omega) (by omega) (by omega) (fun n k h => findN_old h) (fun k s h h' => ⟨s, by rw [List.getElem?_append_left (List.getElem?_eq_some_iff.1 h).1]; exact h, h'⟩) (by rw [decide_eq_true hsz]; rfl) (fun _ => ⟨L.length, rfl, findN_grow hnf⟩) (fun p' n' c' v2 => (0 ≤ IntKind.i64.wrap (i + 1) ∧ IntKind.i64.wrap (i + 1) ≤ n ∧ ∃ L made I F, Tl w v2 F a L made 16384 ∧ SlAt v2 1 p' n' c' (I.map (.int .i64)) F ∧ Since F w ∧ Full L ∧ (L.length : Int) ≤ 15 + IntKind.i64.wrap (i + 1) ∧ 0 ≤ made ∧ made ≤ IntKind.i64.wrap (i + 1) ∧ Ph1 ls L I (IntKind.i64.wrap (i + 1)).toNat) ∧ (n - IntKind.i64.wrap (i + 1)).toNat < (n - i).toNat) (fun r w' => r = true ∧ Upd [] w w') (fin (by omega) (by omega))
  · -- swept
    simp at hc
    have hin : i.toNat = ls.length := by omega
    rw [hin] at ph
    refine t.sweep fun v1 t1' f1 => ?_
    have hI1 := f1.sl hI (fun _ h => h)
    have hst := ph.stay
    unfold F_law04_AtomKeeps_L2
    have hlb : ((swL L L.length).length : Int) ≤ 65 := by rw [swL_len]; omega
    refine ⟨fun s z => 0 ≤ s.i_1 ∧ s.i_1 ≤ m ∧ ∃ L' m', Tl w z F a L' m' 16384 ∧ SlAt z 1 ip iN ic (I.map (.int .i64)) F ∧ Stay ls I L' ∧ 0 ≤ m' ∧ m' ≤ 50 + s.i_1, fun s _ => (m - s.i_1).toNat, ⟨by simp, by simp, _, _, t1', hI1, hst, hm0, by simp; omega⟩, ?_⟩
    rintro ⟨k⟩ z ⟨hk0, hk1, L', m', tz, hIz, hsz, hm0', hm1'⟩
    dsimp only at hk0 hk1 hm1'
    unfold B_law04_AtomKeeps_L2
    dsimp only
    refine ifC (fun hc2 => ?_) (fun hc2 => ?_)
    · simp at hc2
      obtain ⟨y, hy, hcell⟩ := rdm (j := k.toNat) (by omega)
      subst hy
      simp only [NN_some, Nat.mul_one, hcell z tz.U, exStr]
      have go : ∀ {z' : World} {L2 : List Slot} {m2 : Int}, Tl w z' F a L2 m2 16384 → Far F z z' → Stay ls I L2 → 0 ≤ m2 → m2 ≤ m' + 1 → (0 ≤ IntKind.i64.wrap (k + 1) ∧ IntKind.i64.wrap (k + 1) ≤ m ∧ ∃ L' m', Tl w z' F a L' m' 16384 ∧ SlAt z' 1 ip iN ic (I.map (.int .i64)) F ∧ Stay ls I L' ∧ 0 ≤ m' ∧ m' ≤ 50 + IntKind.i64.wrap (k + 1)) ∧ (m - IntKind.i64.wrap (k + 1)).toNat < (m - k).toNat := by
        intro z' L2 m2 h1 h2 h3 h4 h5
        rw [i64id (by omega) (by omega)]
        exact ⟨⟨by omega, by omega, L2, m2, h1, h2.sl hIz (fun _ h => h), h3, h4, by omega⟩, by omega⟩
      refine ⟨hk0, hc2, tz.intern (by omega) (fun _ z' t' f' => go t' f' hsz hm0' (by omega)) (fun _ _ _ z' t' f' => go t' f' hsz hm0' (by omega)) (fun _ _ j hj z' t' f' => ?_) (fun _ _ _ _ z' t' f' => go t' f' hsz hm0' (by omega)) (fun _ _ _ _ z' t' f' => go t' f' hsz.grow (by omega) (by omega))⟩
      obtain ⟨s, h1, h2⟩ := freeN_get hj
      exact go t' f' (hsz.set h1 h2) (by omega) (by omega)
    · -- asked
      unfold F_law04_AtomKeeps_L3
      clear hc2 hk0 hk1 hm1'
      refine ⟨fun s z' => 0 ≤ s.i_2 ∧ s.i_2 ≤ n + 1 ∧ s.i_2 % 2 = 0 ∧ Tl w z' F a L' m' 16384 ∧ SlAt z' 1 ip iN ic (I.map (.int .i64)) F, fun s _ => (n + 1 - s.i_2).toNat, ⟨by simp, by simp; omega, by simp, tz, hIz⟩, ?_⟩
      rintro ⟨j⟩ z' ⟨hj0, hj1, hj2, tj, hIj⟩
      dsimp only at hj0 hj1 hj2
      unfold B_law04_AtomKeeps_L3 F_law04_AtomKeeps_k3 F_law04_AtomKeeps_k4
      dsimp only
      refine ifC (fun hc3 => ?_) (fun hc3 => ?_)
      · simp at hc3
        have hjl : j.toNat < ls.length := by omega
        obtain ⟨x, hx, hcell⟩ := rdl hjl
        subst hx
        simp only [NN_some, Nat.mul_one, hcell z' tj.U, exStr]
        have go : ∀ {z2 : World}, Tl w z2 F a L' m' 16384 → SlAt z2 1 ip iN ic (I.map (.int .i64)) F → (0 ≤ IntKind.i64.wrap (j + 2) ∧ IntKind.i64.wrap (j + 2) ≤ n + 1 ∧ IntKind.i64.wrap (j + 2) % 2 = 0 ∧ Tl w z2 F a L' m' 16384 ∧ SlAt z2 1 ip iN ic (I.map (.int .i64)) F) ∧ (n + 1 - IntKind.i64.wrap (j + 2)).toNat < (n + 1 - j).toNat := by
          intro z2 h1 h2
          rw [i64id (by omega) (by omega)]
          exact ⟨⟨by omega, by omega, by omega, h1, h2⟩, by omega⟩
        refine ⟨hj0, hc3, ifC (fun _ => go tj hIj) (fun hsz2 => ?_)⟩
        have hsz2 : ls[j.toNat].size ≤ 64 := by simp at hsz2; omega
        obtain ⟨kk, mk, hIk, hLk⟩ := hsz j.toNat hjl hsz2 (by omega)
        have cellI : ∀ {z2 : World}, SlAt z2 1 ip iN ic (I.map (.int .i64)) F → ∃ bb oo, ip = some ⟨bb, oo, none⟩ ∧ z2.cell? ⟨bb, oo + j.toNat, none⟩ = some (.int .i64 kk) := fun h => by
          obtain ⟨bb, oo, h1, h2⟩ := h.cell (i := j.toNat) (by omega)
          rw [List.getElem?_map, hIk] at h2
          exact ⟨bb, oo, h1, h2⟩
        obtain ⟨bb, oo, hip, hci⟩ := cellI hIj
        have eip : ∀ Q, NN ip Q = NN (some ⟨bb, oo, none⟩) Q := fun Q => by rw [hip]
        simp only [eip, NN_some, addN, Nat.mul_one, hci, exI]
        refine ⟨hj0, by omega, tj.name (fun hno => ?_) (fun _ hkl z2 t2' f2 => ?_)⟩
        · rw [isN_of hLk rfl] at hno; cases hno
        · have hIj2 := f2.sl hIj (fun _ h => h)
          simp only [hcell z2 t2'.U, exStr]
          refine ⟨hj0, hc3, t2'.find fun z3 t3' f3 => ?_⟩
          have hIj3 := f3.sl hIj2 (fun _ h => h)
          have hff : findN L' ls[j.toNat] = some kk := find_of t3'.atm hLk rfl
          rw [hff]
          refine ifF rfl ?_
          simp only [hcell z3 t3'.U, exStr, strEq]
          have hnm : L'[((kk : Nat) : Int).toNat].name = ls[j.toNat] := by
            have : L'[kk]? = some ⟨ls[j.toNat], true, mk⟩ := hLk
            have hkl' : kk < L'.length := by simpa using hkl
            rw [List.getElem?_eq_getElem hkl'] at this
            simp only [Int.toNat_natCast]
            rw [Option.some.inj this]
          refine ⟨hj0, hc3, ifF (by rw [hnm]; simp) (ifF rfl ?_)⟩
          obtain ⟨bb3, oo3, hip3, hci3⟩ := cellI hIj3
          have hbb : bb3 = bb ∧ oo3 = oo := by rw [hip] at hip3; simp at hip3; exact ⟨hip3.1.symm, hip3.2.symm⟩
          obtain ⟨rfl, rfl⟩ := hbb
          simp only [hci3, exI]
          exact ⟨hj0, by omega, ifF (by simp) (go t3' hIj3)⟩
      · -- in pairs
        unfold F_law04_AtomKeeps_L4
        clear hc3 hj0 hj1 hj2
        refine ⟨fun s z2 => 0 ≤ s.i_3 ∧ s.i_3 ≤ n ∧ Tl w z2 F a L' m' 16384 ∧ SlAt z2 1 ip iN ic (I.map (.int .i64)) F, fun s _ => (n - s.i_3).toNat, ⟨by simp, by simp, tj, hIj⟩, ?_⟩
        rintro ⟨j⟩ z2 ⟨hj0, hj1, t2', hI2⟩
        dsimp only at hj0 hj1
        unfold B_law04_AtomKeeps_L4
        dsimp only
        refine ifC (fun hc4 => ?_) (fun _ => ⟨rfl, t2'.U⟩)
        simp at hc4
        unfold F_law04_AtomKeeps_L5
        refine ⟨fun s z3 => 0 ≤ s.k ∧ s.k ≤ j ∧ Tl w z3 F a L' m' 16384 ∧ SlAt z3 1 ip iN ic (I.map (.int .i64)) F, fun s _ => (j - s.k).toNat, ⟨by simp, by simpa using hj0, t2', hI2⟩, ?_⟩
        rintro ⟨h⟩ z3 ⟨hh0, hh1, t3', hI3⟩
        dsimp only at hh0 hh1
        unfold B_law04_AtomKeeps_L5 F_law04_AtomKeeps_k5 F_law04_AtomKeeps_k6
        dsimp only
        refine ifC (fun hc5 => ?_) (fun _ => ?_)
        · simp at hc5
          have hjl : j.toNat < ls.length := by omega
          have hhl : h.toNat < ls.length := by omega
          obtain ⟨x, hx, hcj⟩ := rdl hjl
          obtain ⟨x', hx', hch⟩ := rdl hhl
          obtain rfl := Option.some.inj (hx.symm.trans hx')
          have td := t3'.keep (drw_upd z3)
          have go : (0 ≤ IntKind.i64.wrap (h + 1) ∧ IntKind.i64.wrap (h + 1) ≤ j ∧ Tl w (drw z3) F a L' m' 16384 ∧ SlAt (drw z3) 1 ip iN ic (I.map (.int .i64)) F) ∧ (j - IntKind.i64.wrap (h + 1)).toNat < (j - h).toNat := by
            rw [i64id (by omega) (by omega)]
            exact ⟨⟨by omega, by omega, td, hI3.drw⟩, by omega⟩
          have ex : ∀ Q, NN p Q = NN (some x) Q := fun Q => by rw [hx]
          simp only [ex, NN_some, Nat.mul_one, hcj _ td.U, hch _ td.U, exStr]
          refine ⟨hj0, hc4, ifC (fun hs1 => ?_) (fun _ => go)⟩
          refine ⟨hh0, by omega, ifC (fun hs2 => ?_) (fun _ => go)⟩
          have hs1 : ls[j.toNat].size ≤ 64 := by simp at hs1; omega
          have hs2 : ls[h.toNat].size ≤ 64 := by simp at hs2; omega
          obtain ⟨k1, e1, f1'⟩ := ph.find j.toNat hjl hs1
          obtain ⟨k2, e2, f2'⟩ := ph.find h.toNat hhl hs2
          obtain ⟨bb, oo, hip, hci⟩ := hI3.drw.cell (i := j.toNat) (by omega)
          obtain ⟨bb', oo', hip', hci'⟩ := hI3.drw.cell (i := h.toNat) (by omega)
          have hbb : bb' = bb ∧ oo' = oo := by rw [hip] at hip'; simp at hip'; exact ⟨hip'.1.symm, hip'.2.symm⟩
          obtain ⟨rfl, rfl⟩ := hbb
          rw [List.getElem?_map, e1] at hci
          rw [List.getElem?_map, e2] at hci'
          simp only [Option.map_some] at hci hci'
          have eip : ∀ Q, NN ip Q = NN (some ⟨bb', oo', none⟩) Q := fun Q => by rw [hip]
          simp only [eip, NN_some, addN, hci, hci', exI, strEq]
          refine ⟨hj0, by omega, hh0, by omega, hj0, hc4, hh0, by omega, ifF ?_ go⟩
          have hiff : (k1 = k2) ↔ ls[j.toNat] = ls[h.toNat] := by
            constructor
            · intro hk
              subst hk
              obtain ⟨_, _, n1⟩ := findN_get f1'
              obtain ⟨_, _, n2⟩ := findN_get f2'
              rw [← n1, n2]
            · intro hn
              rw [hn, f2'] at f1'
              exact (Option.some.inj f1').symm
          have hb1 : (((k1 : Nat) : Int) == ((k2 : Nat) : Int)) = decide (ls[j.toNat] = ls[h.toNat]) := by
            rw [Bool.eq_iff_iff, beq_iff_eq, decide_eq_true_eq, ← hiff]; omega
          rw [hb1]; simp
        · rw [i64id (by omega) (by omega)]
          exact ⟨⟨by omega, by omega, t3', hI3⟩, by omega⟩

end Go.Proofs.Ytifgjlkmmbpbkaa
