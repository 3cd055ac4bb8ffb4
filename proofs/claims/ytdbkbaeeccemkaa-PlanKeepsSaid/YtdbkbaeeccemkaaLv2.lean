/- What a plan keeps: plain. -/
import Derived.Test.YtdbkbaeeccemkaaPl6
import Derived.Test.YtdbkbaeeccemkaaTm9
namespace Go.Proofs.Ytdbkbaeeccemkaa
open Go Go.D Go.Proofs
set_option linter.unusedSimpArgs false
set_option linter.unusedVariables false
set_option maxRecDepth 8000

/-! ## Slots that live -/

theorem findIdx_mono {α : Type} {p q : α → Bool} (h : ∀ x, p x = true → q x = true) : ∀ l : List α, l.findIdx q ≤ l.findIdx p
  | [] => by simp
  | x :: l => by
    rw [List.findIdx_cons, List.findIdx_cons]
    rcases hp : p x with _ | _
    · rcases hq : q x with _ | _
      · have := findIdx_mono h l
        simp; exact this
      · simp
    · rw [h x hp]; simp

theorem live_mono {E : List Spn} {k j : Int} (h : k ≤ j) : liveF E j ≤ liveF E k := by
  unfold liveF
  refine findIdx_mono (fun x hx => ?_) E
  have := of_decide_eq_true hx
  exact decide_eq_true (by omega)

theorem live_len (E : List Spn) (k : Int) : liveF E k ≤ E.length := by unfold liveF; exact List.findIdx_le_length

/-- A variable ends ahead of the last chunk. -/
def EndOk (S : List Spn) (k : Int) : Prop := ∀ s ∈ S, s.1 ≠ -1 → s.2.2 < k ∨ s.2.2 ≤ 0

theorem noteL_last {k : Int} : ∀ {l : List Int} {S : List Spn} {s : Spn}, s ∈ noteL S k l → s ∈ S ∨ s.2.2 = k
  | [], S, s, h => .inl h
  | n :: l, S, s, h => by
    rcases noteL_last (S := note1 S k n) (l := l) h with g | g
    · rcases mem_note.1 g with ⟨g, _⟩ | ⟨_, _, _, rfl⟩ | ⟨_, rfl⟩
      · exact .inl g
      · exact .inr rfl
      · exact .inr rfl
    · exact .inr g

theorem lev_last {x : List Spn × Int} {g : GoalT} {s : Spn} (h : s ∈ levG x g) (hs : s.1 ≠ -1) : s ∈ x.1 := by
  unfold levG at h
  split at h
  · rcases mem_note.1 h with ⟨h, _⟩ | ⟨_, _, _, rfl⟩ | ⟨_, rfl⟩
    · rcases mem_note.1 h with ⟨h, _⟩ | ⟨_, _, _, rfl⟩ | ⟨_, rfl⟩
      · exact h
      · exact absurd rfl hs
      · exact absurd rfl hs
    · exact absurd rfl hs
    · exact absurd rfl hs
  · exact h

theorem EndOk.step {x : List Spn × Int} {g : GoalT} (h : EndOk x.1 x.2) : EndOk (stepG x g).1 (stepG x g).2 := by
  intro s hs hn
  unfold stepG at hs ⊢
  split at hs
  · rename_i e
    rw [if_pos e]
    exact h s (lev_last hs hn) hn
  · rename_i e
    rw [if_neg e]
    show s.2.2 < x.2 + 1 ∨ _
    rcases noteL_last hs with g' | g'
    · have := h s (lev_last g' hn) hn
      omega
    · omega

theorem EndOk.fold : ∀ {gs : List GoalT} {x : List Spn × Int}, EndOk x.1 x.2 → EndOk (gs.foldl stepG x).1 (gs.foldl stepG x).2
  | [], _, h => h
  | g :: gs, x, h => EndOk.fold (gs := gs) (x := stepG x g) h.step

theorem gath_end (hv : List Int) (gs : List GoalT) : EndOk (gath hv gs).1 (gath hv gs).2 := by
  refine EndOk.fold (gs := gs) (x := (noteL [] 0 hv, 0)) fun s hs _ => ?_
  rcases noteL_last (S := []) hs with g | g
  · cases g
  · exact .inr (by omega)

theorem slots_nodup {S E : List Spn} (hn : (S.map (·.1)).Nodup) (h : SlotsOf S E) : (E.map (·.1)).Nodup := by
  have hp := (h.1.map (·.1)).nodup_iff
  rw [hp]
  exact ((List.filter_sublist).map _).nodup hn

theorem slots_mem {S E : List Spn} (h : SlotsOf S E) {s : Spn} : s ∈ E ↔ s ∈ S ∧ keepS s = true := by rw [h.1.mem_iff, List.mem_filter]

theorem level_head {x : Spn} {r : List Spn} (hx : x.1 = -1) (hn : ((x :: r).map (·.1)).Nodup) : ∀ i, i ≤ r.length → levelF (x :: r) (i + 1) = 1
  | 0, _ => by rw [levelF]; simp [hx]
  | i + 1, hi => by
    have hi' : i < r.length := by omega
    rw [levelF, List.getElem?_cons_succ, List.getElem?_eq_getElem hi']
    rw [List.map_cons, List.nodup_cons] at hn
    rw [if_neg (fun e => hn.1 (by rw [hx]; exact List.mem_map.2 ⟨r[i], List.getElem_mem hi', by simpa using e⟩))]
    exact level_head hx (by rw [List.map_cons, List.nodup_cons]; exact hn) i (by omega)

/-- Behind the last call none lives but the level. -/
theorem last_live {S E : List Spn} {calls : Int} (hn : (S.map (·.1)).Nodup) (he : EndOk S calls) (hc : 1 ≤ calls) (h : SlotsOf S E) : liveF E (calls - 1) = 0 ∨ (liveF E (calls - 1) = 1 ∧ levelF E E.length = 1) := by
  have hnE := slots_nodup hn h
  have hb : ∀ s ∈ E, s.1 ≠ -1 → s.2.2 ≤ calls - 1 := fun s hs h1 => by
    have := he s ((slots_mem h).1 hs).1 h1
    omega
  cases E with
  | nil => exact .inl rfl
  | cons x r =>
    by_cases hx : x.2.2 ≤ calls - 1
    · left
      unfold liveF
      rw [List.findIdx_cons, decide_eq_true hx]; rfl
    · right
      have hx1 : x.1 = -1 := Decidable.byContradiction fun e => hx (hb x (by simp) e)
      refine ⟨?_, level_head hx1 hnE r.length (Nat.le_refl _)⟩
      unfold liveF
      rw [List.findIdx_cons, decide_eq_false hx]
      cases r with
      | nil => rfl
      | cons y r =>
        have hy : y.1 ≠ -1 := fun e => by
          rw [List.map_cons, List.nodup_cons] at hnE
          exact hnE.1 (by rw [hx1, ← e]; simp)
        have := hb y (by simp) hy
        rw [List.findIdx_cons, decide_eq_true this]; rfl

/-! ## Slots that are kept -/

def cntG (gs : List GoalT) : Int := ((gs.filter fun g => g.1 != 2).length : Nat)

theorem fold_cnt : ∀ (gs : List GoalT) (x : List Spn × Int), (gs.foldl stepG x).2 = x.2 + cntG gs
  | [], x => by simp [cntG]
  | g :: gs, x => by
    rw [List.foldl_cons, fold_cnt gs]
    unfold stepG cntG
    by_cases e : g.1 = 2
    · rw [if_pos e, List.filter_cons_of_neg (by simp [e])]
    · rw [if_neg e, List.filter_cons_of_pos (by simp [e]), List.length_cons]
      show x.2 + 1 + _ = _
      omega

theorem gath_cnt (hv : List Int) (gs : List GoalT) : (gath hv gs).2 = cntG gs := by unfold gath; rw [fold_cnt]; simp
theorem stG_cnt (hv : List Int) (gs : List GoalT) (i : Nat) : (stG hv gs i).2 = cntG (gs.take i) := by unfold stG; rw [fold_cnt]; simp

theorem cnt_take {gs : List GoalT} {i : Nat} (hi : i < gs.length) : cntG (gs.take (i + 1)) = cntG (gs.take i) + if gs[i].1 = 2 then 0 else 1 := by
  unfold cntG
  rw [List.take_succ_eq_append_getElem hi, List.filter_append, List.length_append]
  by_cases e : gs[i].1 = 2
  · rw [List.filter_cons_of_neg (by simp [e]), if_pos e]; simp
  · rw [List.filter_cons_of_pos (by simp [e]), if_neg e]; simp

/-- A variable is met in chunk j or ahead. -/
def Fst (S : List Spn) (n j : Int) : Prop := ∃ s ∈ S, s.1 = n ∧ s.2.1 ≤ j
/-- It stands in chunk k or behind. -/
def Lst (S : List Spn) (n k : Int) : Prop := ∃ s ∈ S, s.1 = n ∧ k ≤ s.2.2

theorem Fst.note {S : List Spn} {n j k m : Int} (h : Fst S n j) : Fst (note1 S k m) n j := by
  obtain ⟨s, h1, h2, h3⟩ := h
  by_cases e : s.1 = m
  · exact ⟨(m, s.2.1, k), mem_note.2 (.inr (.inl ⟨s, h1, e, rfl⟩)), by rw [← h2, e], h3⟩
  · exact ⟨s, mem_note.2 (.inl ⟨h1, e⟩), h2, h3⟩
theorem Lst.note {S : List Spn} {n j k m : Int} (h : Lst S n j) (hk : m ≠ n ∨ j ≤ k) : Lst (note1 S k m) n j := by
  obtain ⟨s, h1, h2, h3⟩ := h
  by_cases e : s.1 = m
  · exact ⟨(m, s.2.1, k), mem_note.2 (.inr (.inl ⟨s, h1, e, rfl⟩)), by rw [← h2, e], by
      rcases hk with g | g
      · exact absurd (e.symm.trans h2) g
      · exact g⟩
  · exact ⟨s, mem_note.2 (.inl ⟨h1, e⟩), h2, h3⟩

theorem Fst.noteL {n j k : Int} : ∀ {l : List Int} {S : List Spn}, Fst S n j → Fst (noteL S k l) n j
  | [], _, h => h
  | m :: l, S, h => Fst.noteL (l := l) (S := note1 S k m) h.note
theorem Lst.noteL {n j k : Int} (hk : j ≤ k) : ∀ {l : List Int} {S : List Spn}, Lst S n j → Lst (noteL S k l) n j
  | [], _, h => h
  | m :: l, S, h => Lst.noteL hk (l := l) (S := note1 S k m) (h.note (.inr hk))

theorem noteL_has {n k : Int} (h0 : 0 ≤ k) : ∀ {l : List Int} {S : List Spn}, SpOk S k → n ∈ l → Fst (noteL S k l) n k ∧ Lst (noteL S k l) n k
  | [], _, _, h => by cases h
  | m :: l, S, ok, h => by
    rcases List.mem_cons.1 h with g | g
    · subst g
      have hh : Fst (note1 S k n) n k ∧ Lst (note1 S k n) n k := by
        by_cases hm : n ∈ S.map (·.1)
        · obtain ⟨s, h1, h2⟩ := List.mem_map.1 hm
          have hb := ok.b s h1
          have hmem := mem_note.2 (.inr (.inl ⟨s, h1, h2, rfl⟩) : (_ ∨ (∃ s' ∈ S, s'.1 = n ∧ (n, s.2.1, k) = (n, s'.2.1, k)) ∨ _))
          exact ⟨⟨_, hmem, rfl, by show s.2.1 ≤ k; omega⟩, ⟨_, hmem, rfl, by show k ≤ k; omega⟩⟩
        · have hmem : (n, k, k) ∈ note1 S k n := mem_note.2 (.inr (.inr ⟨hm, rfl⟩))
          exact ⟨⟨_, hmem, rfl, by show k ≤ k; omega⟩, ⟨_, hmem, rfl, by show k ≤ k; omega⟩⟩
      exact ⟨Fst.noteL (l := l) (S := note1 S k n) hh.1, Lst.noteL (by omega) (l := l) (S := note1 S k n) hh.2⟩
    · exact noteL_has h0 (l := l) (S := note1 S k m) (ok.note h0) g

theorem Fst.step {x : List Spn × Int} {g : GoalT} {n j : Int} (h : Fst x.1 n j) : Fst (stepG x g).1 n j := by
  have hl : Fst (levG x g) n j := by
    unfold levG
    split
    · exact h.note.note
    · exact h
  unfold stepG
  split
  · exact hl
  · exact hl.noteL
theorem Lst.step {x : List Spn × Int} {g : GoalT} {n j : Int} (h : Lst x.1 n j) (hn : n ≠ -1) (hj : j ≤ x.2) : Lst (stepG x g).1 n j := by
  have hl : Lst (levG x g) n j := by
    unfold levG
    split
    · exact (h.note (.inl fun e => hn e.symm)).note (.inl fun e => hn e.symm)
    · exact h
  unfold stepG
  split
  · exact hl
  · exact hl.noteL hj

/-- From one state to the end. -/
theorem to_end (hv : List Int) (gs : List GoalT) {P : List Spn × Int → Prop} {i : Nat} (hi : i ≤ gs.length) (h : P (stG hv gs i)) (hs : ∀ x g, P x → P (stepG x g)) : P (gath hv gs) := by
  have aux : ∀ d, i + d ≤ gs.length → P (stG hv gs (i + d)) := by
    intro d
    induction d with
    | zero => intro _; exact h
    | succ d ih =>
      intro hd
      have := hs _ (gs[i + d]'(by omega)) (ih (by omega))
      rw [← stG_next (hv := hv) (gs := gs) (i := i + d) (by omega)] at this
      exact this
  have := aux (gs.length - i) (by omega)
  rw [show i + (gs.length - i) = gs.length by omega, stG_all] at this
  exact this

/-- A variable of a goal is met there. -/
theorem goal_has (hv : List Int) {gs : List GoalT} {i : Nat} (hi : i < gs.length) (hk : gs[i].1 ≠ 2) {n : Int} (hn : n ∈ gs[i].2.vars []) :
    Fst (gath hv gs).1 n (cntG (gs.take i)) ∧ (n ≠ -1 → Lst (gath hv gs).1 n (cntG (gs.take i))) := by
  obtain ⟨ok, k0, _⟩ := stG_ok hv gs i
  have hst : Fst (stG hv gs (i + 1)).1 n (cntG (gs.take i)) ∧ Lst (stG hv gs (i + 1)).1 n (cntG (gs.take i)) := by
    rw [stG_next hi]
    unfold stepG
    rw [if_neg hk, ← stG_cnt hv]
    exact noteL_has k0 (levG_ok ok k0) hn
  refine ⟨to_end hv gs (P := fun x => Fst x.1 n (cntG (gs.take i))) (i := i + 1) (by omega) hst.1 fun x g h => h.step, fun h1 => ?_⟩
  have hc := stG_cnt hv gs (i + 1)
  rw [cnt_take hi, if_neg hk] at hc
  have := to_end hv gs (P := fun x => Lst x.1 n (cntG (gs.take i)) ∧ cntG (gs.take i) ≤ x.2) (i := i + 1) (by omega) ⟨hst.2, by omega⟩ fun x g h => ⟨h.1.step h1 h.2, by
    unfold stepG
    split
    · exact h.2
    · show _ ≤ x.2 + 1
      have := h.2
      omega⟩
  exact this.1

theorem head_has {hv : List Int} (gs : List GoalT) {n : Int} (hn : n ∈ hv) : Fst (gath hv gs).1 n 0 := by
  have h0 : Fst (stG hv gs 0).1 n 0 := by
    have := noteL_has (S := []) (by omega : (0 : Int) ≤ 0) ⟨by simp, by simp⟩ hn
    simpa [stG] using this.1
  exact to_end hv gs (P := fun x => Fst x.1 n 0) (i := 0) (by omega) h0 fun x g h => h.step

/-- What is met ahead of its chunk has a slot. -/
theorem kept {hv : List Int} {gs : List GoalT} {E : List Spn} (h : SlotsOf (gath hv gs).1 E) {i : Nat} (hi : i < gs.length) (hk : gs[i].1 ≠ 2) {n : Int} (hn : n ∈ gs[i].2.vars []) (h0 : 0 < cntG (gs.take i))
    (ha : n ∈ hv ∨ ∃ (j : Nat) (hj : j < gs.length), gs[j].1 ≠ 2 ∧ cntG (gs.take j) < cntG (gs.take i) ∧ n ∈ gs[j].2.vars []) : n ∈ E.map (·.1) := by
  obtain ⟨f1, l1⟩ := goal_has hv hi hk hn
  have ok := (gath_ok hv gs).1
  by_cases e : n = -1
  · obtain ⟨s, s1, s2, _⟩ := f1
    exact List.mem_map.2 ⟨s, (slots_mem h).2 ⟨s1, by unfold keepS; rw [s2, e]; rfl⟩, s2⟩
  · obtain ⟨s, s1, s2, s3⟩ := l1 e
    have hf : ∃ s' ∈ (gath hv gs).1, s'.1 = n ∧ s'.2.1 < cntG (gs.take i) := by
      rcases ha with g | ⟨j, hj, g1, g2, g3⟩
      · obtain ⟨s', a, b, c⟩ := head_has gs g
        exact ⟨s', a, b, by omega⟩
      · obtain ⟨⟨s', a, b, c⟩, _⟩ := goal_has hv hj g1 g3
        exact ⟨s', a, b, by omega⟩
    obtain ⟨s', a, b, c⟩ := hf
    have es : s = s' := span_inj ok.nodup s1 a (by rw [s2, b])
    subst es
    refine List.mem_map.2 ⟨s, (slots_mem h).2 ⟨s1, ?_⟩, s2⟩
    unfold keepS
    have : (s.2.1 != s.2.2) = true := by simp; omega
    rw [this]; simp

end Go.Proofs.Ytdbkbaeeccemkaa

/- Clauses that are made here. -/
namespace Go.Proofs.Ytdbkbaeeccemkaa
open Go Go.D Go.Proofs
set_option linter.unusedSimpArgs false
set_option linter.unusedVariables false
set_option maxRecDepth 8000

def glC (x : Int × TmP) : List Value := .int .i64 x.1 :: tmC x.2
theorem glC_len (x : Int × TmP) : (glC x).length = 5 := rfl

/-- Goals that are being put behind each other. -/
def GsAt (w : World) (p : Option Addr) (n c : Nat) (l : List GoalT) (G F : List Nat) : Prop :=
  ∃ L : List (Int × TmP), L.map (fun x => (x.1, x.2.1)) = l ∧ SlAt w 5 p n c (L.flatMap glC) G ∧ (∀ x ∈ L, x.2.1.s.size < 2 ^ 63 ∧ RdA w F x.2.1.l x.2.2.1 0) ∧ In F w

theorem GsAt.nil (w : World) : GsAt w none 0 0 [] [] [] := ⟨[], rfl, SlAt.nil _ _, by simp, (by intro k hk; cases hk)⟩

section
variable {w w' : World} {p : Option Addr} {n c : Nat} {l : List GoalT} {G F : List Nat}

theorem GsAt.upd {X : List Nat} (h : GsAt w p n c l G F) (u : Upd X w w') (hG : Dis G X) (hF : Dis F X) : GsAt w' p n c l G F := by
  obtain ⟨L, e1, e2, e3, e4⟩ := h
  exact ⟨L, e1, e2.upd u hG, fun x hx => ⟨(e3 x hx).1, RdA.upd' u hF (e3 x hx).2⟩, e4.upd u⟩
theorem GsAt.keep (h : GsAt w p n c l G F) (u : Upd [] w w') : GsAt w' p n c l G F := h.upd u (by intro k _ h; cases h) (by intro k _ h; cases h)

theorem GsAt.inn (h : GsAt w p n c l G F) : In G w ∧ In F w := by
  obtain ⟨L, e1, e2, e3, e4⟩ := h
  exact ⟨e2.inn, e4⟩

theorem GsAt.len (h : GsAt w p n c l G F) : n = l.length := by
  obtain ⟨L, e1, e2, e3, e4⟩ := h
  have := e2.1
  rw [flat_len glC_len] at this
  rw [← e1, List.length_map]; omega

theorem GsAt.rd (h : GsAt w p n c l G F) : GoalsA w (G ++ F) l p := by
  have hn := h.len
  obtain ⟨L, e1, e2, e3, e4⟩ := h
  intro i hi
  have hL : L.length = l.length := by rw [← e1, List.length_map]
  have hiL : i < L.length := by omega
  have el : l[i] = (L[i].1, L[i].2.1) := by simp [← e1]
  rcases e2.2.2 with ⟨_, _, hz⟩ | ⟨b, off, arr, hp, hG, hb, hs, hc⟩
  · have h1 := flat_len glC_len L
    have h2 := e2.2.1
    omega
  · have hq := (e3 _ (List.getElem_mem hiL))
    refine ⟨⟨b, off, none⟩, L[i].2.2.1, L[i].2.2.2, hp, by simp [hG], fun j hj => ?_, by rw [el]; exact hq.1, by rw [el]; exact RdA.sub (fun k hk => by simp [hk]) _ hq.2⟩
    rw [addN, hb.cell, hc (i * 5 + j) (by rw [hn]; omega), flat_at glC_len hiL hj, el]
    rfl
end

theorem St6q {w1 : World} {r : Nat} {arr : Array Value} {v0 v1 v2 v3 v4 v5 : Value} {K : World → Prop} (hb : Blk w1 r arr) (ha : arr.size = 6) (hv : ∀ v ∈ [v0, v1, v2, v3, v4, v5], v.oneCell' = true) (hK : ∀ w', Upd [r] w1 w' → Blk w' r #[v0, v1, v2, v3, v4, v5] → K w') :
    St w1 ((⟨r, 0, none⟩ : Addr).add 0) v0 fun z0 => St z0 ((⟨r, 0, none⟩ : Addr).add 1) v1 fun z1 => St z1 ((⟨r, 0, none⟩ : Addr).add 2) v2 fun z2 => St z2 ((⟨r, 0, none⟩ : Addr).add 3) v3 fun z3 => St z3 ((⟨r, 0, none⟩ : Addr).add 4) v4 fun z4 => St z4 ((⟨r, 0, none⟩ : Addr).add 5) v5 K := by
  obtain ⟨c0, c1, c2, c3, c4, c5, rfl⟩ : ∃ c0 c1 c2 c3 c4 c5, arr = #[c0, c1, c2, c3, c4, c5] := by
    rcases arr with ⟨l⟩
    match l, ha with
    | [c0, c1, c2, c3, c4, c5], _ => exact ⟨c0, c1, c2, c3, c4, c5, rfl⟩
  simp only [addN, Nat.zero_add]
  refine St_acc (Upd.refl _ _) hb (by simp) (hv _ (by simp)) fun z0 y0 b0 => St_acc y0 b0 (by simp) (hv _ (by simp)) fun z1 y1 b1 => St_acc y1 b1 (by simp) (hv _ (by simp)) fun z2 y2 b2 => St_acc y2 b2 (by simp) (hv _ (by simp)) fun z3 y3 b3 => St_acc y3 b3 (by simp) (hv _ (by simp)) fun z4 y4 b4 => St_acc y4 b4 (by simp) (hv _ (by simp)) fun z5 y5 b5 => ?_
  simp at b5
  exact hK z5 y5 b5

def vT (n : Int) : Tm := .mk 1 n ⟨#[]⟩ []
/-- A goal's term. -/
def callT (s : ByteArray) (L : List Int) : Tm := if L = [] then .mk 3 0 s [] else .mk 4 0 s (L.map vT)

section
variable {w : World}

theorem call_ok {s : ByteArray} {L : List Int} {p : Option Addr} {c : Nat} {K : Int → Int → Int → ByteArray → Option Addr → Nat → Nat → World → Prop} (hr : Rd w 1 p L.length (L.map (.int .i64))) (hl : L.length < 2 ^ 20)
    (hK : ∀ w' q c G, RdA w' G (callT s L).l q 0 → In G w' → Since G w → Upd [] w w' → K 1 (callT s L).kind 0 s q (callT s L).l.length c w') : C_law15_call s p L.length c w K := by
  apply C_law15_call.of
  unfold F_law15_call
  refine New_rule fun r w1 hr1 u1 b1 => ?_
  have s1 := u1.size
  have l1 := b1.lt
  unfold F_law15_call_L1
  refine ⟨fun st z => ∃ (i : Nat) (G F : List Nat), st.i = i ∧ i ≤ L.length ∧ st.lN = i ∧ TmsAt z st.lP i st.lC ((L.take i).map vT) G F ∧ Since G w1 ∧ Since F w1 ∧ Dis G F ∧ Upd [] w1 z, fun s _ => (L.length - s.i).toNat, ⟨0, [], [], rfl, by omega, rfl, by simpa using TmsAt.nil _, (by intro k hk; cases hk), (by intro k hk; cases hk), (by intro k hk; cases hk), Upd.refl _ _⟩, ?_⟩
  rintro ⟨lp, ln, lc, si⟩ z ⟨i, G, F, e0, hi, e1, ht, sG, sF, dGF, uz⟩
  dsimp only at e0 e1 ht
  subst e0
  have e1 := e1.symm
  subst e1
  unfold B_law15_call_L1
  have zs := uz.size
  have Uz := u1.after uz
  refine ifC (fun g => ?_) (fun g => ?_)
  · have gi : i < L.length := by have := of_decide_eq_true g; dsimp only at this; omega
    obtain ⟨x, hx, hc⟩ := (hr.upd Uz (by simp)).at (i := i) (by omega)
    have hc : z.cell? (x.add i) = some (.int .i64 L[i]) := by rw [hc, List.getElem?_map, List.getElem?_eq_getElem gi]; rfl
    refine ⟨by show (0 : Int) ≤ (i : Int); omega, by show (i : Int) < _; omega, ?_⟩
    rw [hx]
    simp only [NN_some, addN, drw_cell, drw_heap, exS, exI, exB, exP, exM, exStr, exV, a0, a1, a2, a3, a4, a5, a6, a7, a8, a9, a10, a11, a12, a13, maxI_eq, Nat.zero_add, Nat.add_zero, Nat.mul_one, Option.isNone_some, Option.isNone_none, Int.toNat_natCast, hc]
    refine rVar_ok fun z1 y1 => ?_
    refine BSlL_rule eS_22 [.agg #[.int .i64 1, .int .i64 L[i], .string ⟨#[]⟩, .slice none 0 0]] (by rfl) (by simp [Value.cells]) (by rfl) (by omega) fun z2 hs2 y2 => ?_
    have hs2' : SlAt z2 4 (some ⟨z1.heap.size, 0, none⟩) 1 1 (tmC (vT L[i], none, 0)) [z1.heap.size] := by simpa [Value.cells, tmC, vT, Tm.kind, Tm.n, Tm.s, Tm.l] using hs2
    have Y2 := y1.after y2
    have y1s := y1.size
    have y2s := y2.size
    have inn := ht.inn
    refine TmsAt.push (m := 0) (F1 := []) (ht.keep Y2) hs2' (show (⟨#[]⟩ : ByteArray).size < 2 ^ 63 by decide) (RdA.of fun i hi => absurd hi (by show ¬ i < 0; omega)) (by intro k hk; cases hk) dGF (by intro k _ h; cases h) (by simp; omega) fun p4 c4 G4 z4 t4 y4 s4 => ?_
    rw [i64id (by omega) (by omega)]
    have et : (L.take i).map vT ++ [vT L[i]] = (L.take (i + 1)).map vT := by rw [List.take_succ_eq_append_getElem gi, List.map_append]; rfl
    rw [et, List.append_nil] at t4
    refine ⟨⟨i + 1, G4, F, by simp, by omega, rfl, t4, fun k hk => ?_, sF, fun k hk hx => ?_, (uz.after Y2).fresh y4 sG⟩, by show ((L.length : Int) - ((i : Int) + 1)).toNat < ((L.length : Int) - (i : Int)).toNat; omega⟩
    · rcases s4 k hk with g | g
      · exact sG k g
      · omega
    · rcases s4 k hk with g | g
      · exact dGF k g hx
      · have := inn.2 k hx; omega
  · have gi : i = L.length := by have := of_decide_eq_false g; dsimp only at this; omega
    subst gi
    rw [List.take_length] at ht
    have inn := ht.inn
    have bz := b1.upd uz (by simp)
    have zs2 := Uz.size
    -- behind the term
    by_cases hL : L = []
    · subst hL
      have hk1 := fun (w' : World) => hK w' none 0 []
      refine Calls.mono (C_ref06_Comp.of (sx := s) (lP := lp) (lN := ([] : List Int).length) (lC := lc) (w := z) (R := fun k n s' q m c' w' => k = 3 ∧ n = 0 ∧ s' = s ∧ q = none ∧ m = 0 ∧ c' = 0 ∧ Upd [] z w') ?_) ?_
      · unfold F_ref06_Comp
        refine New_rule fun r2 z1 hr2 y1 d1 => ifT rfl (rAtom_ok fun z2 y2 => ?_)
        have d2 := d1.upd y2 (by simp)
        simp only [NN_some, addN, drw_cell, drw_heap, exS, exI, exB, exP, exM, exStr, exV, a0, a1, a2, a3, a4, a5, a6, a7, a8, a9, a10, a11, a12, a13, maxI_eq, Nat.zero_add, Nat.add_zero, Nat.mul_one, Option.isNone_some, Option.isNone_none]
        refine St4q d2 rfl rfl rfl rfl fun z3 y3 d3 => ?_
        simp only [NN_some, addN, drw_cell, drw_heap, exS, exI, exB, exP, exM, exStr, exV, a0, a1, a2, a3, a4, a5, a6, a7, a8, a9, a10, a11, a12, a13, maxI_eq, Nat.zero_add, Nat.add_zero, Nat.mul_one, Option.isNone_some, Option.isNone_none, d3.cell]
        exact ⟨trivial, trivial, trivial, trivial, trivial, trivial, (y1.after y2).fresh y3 (by intro k hk; simp at hk; omega)⟩
      · rintro e z1 ⟨k, n, s', q, m, c', he, rfl, rfl, rfl, rfl, rfl, rfl, y1⟩
        refine ⟨_, _, _, _, _, _, he, ?_⟩
        simp only [NN_some, addN, drw_cell, drw_heap, exS, exI, exB, exP, exM, exStr, exV, a0, a1, a2, a3, a4, a5, a6, a7, a8, a9, a10, a11, a12, a13, maxI_eq, Nat.zero_add, Nat.add_zero, Nat.mul_one, Option.isNone_some, Option.isNone_none]
        refine St5n (bz.upd y1 (by simp)) rfl (by simp [Value.oneCell']) fun z2 y2 d2 => ?_
        simp only [NN_some, addN, drw_cell, drw_heap, exS, exI, exB, exP, exM, exStr, exV, a0, a1, a2, a3, a4, a5, a6, a7, a8, a9, a10, a11, a12, a13, maxI_eq, Nat.zero_add, Nat.add_zero, Nat.mul_one, Option.isNone_some, Option.isNone_none, d2.cell]
        have := hk1 z2 (RdA.of fun i hi => absurd hi (by show ¬ i < 0; omega)) (by intro k hk; cases hk) (by intro k hk; cases hk) ((Uz.after y1).fresh y2 (by intro k hk; simp at hk; omega))
        exact this
    · have hne : L.map vT ≠ [] := by simpa using hL
      have ek : callT s L = .mk 4 0 s (L.map vT) := by unfold callT; rw [if_neg hL]
      rw [ek] at hK
      have hlen : (L.map vT).length = L.length := by simp
      rw [show (L.length : Nat) = (L.map vT).length from hlen.symm]
      refine rComp_ok (l := L.map vT) ht.rd (fun k hk => by
        rcases List.mem_append.1 hk with g | g
        · exact inn.1 k g
        · exact inn.2 k g) (by rw [hlen]; omega) hne fun z1 q1 c1 G1 ra1 in1 s1' y1 => ?_
      simp only [NN_some, addN, drw_cell, drw_heap, exS, exI, exB, exP, exM, exStr, exV, a0, a1, a2, a3, a4, a5, a6, a7, a8, a9, a10, a11, a12, a13, maxI_eq, Nat.zero_add, Nat.add_zero, Nat.mul_one, Option.isNone_some, Option.isNone_none]
      refine St5n (bz.upd y1 (by simp)) rfl (by simp [Value.oneCell']) fun z2 y2 d2 => ?_
      simp only [NN_some, addN, drw_cell, drw_heap, exS, exI, exB, exP, exM, exStr, exV, a0, a1, a2, a3, a4, a5, a6, a7, a8, a9, a10, a11, a12, a13, maxI_eq, Nat.zero_add, Nat.add_zero, Nat.mul_one, Option.isNone_some, Option.isNone_none, d2.cell]
      have nr : ∀ k ∈ G1 ++ (G ++ F), k ∉ [r] := fun k hk hx => by
        simp at hx
        subst hx
        rcases List.mem_append.1 hk with g | g
        · have := s1' _ g; omega
        · rcases List.mem_append.1 g with g | g
          · have := sG _ g; omega
          · have := sF _ g; omega
      refine hK z2 q1 c1 (G1 ++ (G ++ F)) (RdA.upd' y2 nr ra1) (in1.upd y2) (fun k hk => ?_) ((Uz.after y1).fresh y2 (by intro k hk; simp at hk; omega))
      rcases List.mem_append.1 hk with g | g
      · have := s1' k g; omega
      · rcases List.mem_append.1 g with g | g
        · have := sG k g; omega
        · have := sF k g; omega

/-- A row of numbers that is written out, and a goal of it. -/
theorem callL_ok {s : ByteArray} (L : List Int) {n : Nat} {ps : List (Nat × Value)} {K : Int → Int → Int → ByteArray → Option Addr → Nat → Nat → World → Prop} (hn : n = L.length) (hps : ps = ((L.map (Value.int .i64)).zipIdx 0).map fun x => (x.2, x.1)) (hl : L.length < 2 ^ 20)
    (hK : ∀ w' q c G, RdA w' G (callT s L).l q 0 → In G w' → Since G w → Upd [] w w' → K 1 (callT s L).kind 0 s q (callT s L).l.length c w') : BSl Try.prog 30 n ps w fun p n c w1 => C_law15_call s p n c w1 K := by
  refine BSlL_rule eS_30 (L.map (.int .i64)) hps (by intro v hv; obtain ⟨x, _, rfl⟩ := List.mem_map.1 hv; rfl) (by rw [hn, List.length_map]) (by rw [hn]; omega) fun w1 hs1 u1 => ?_
  have e : (L.map (Value.int .i64)).flatMap (fun v => v.cells.toList) = L.map (.int .i64) := by
    clear hs1 hps hK hn hl
    induction L with
    | nil => rfl
    | cons x L ih => rw [List.map_cons, List.flatMap_cons, ih]; rfl
  rw [e, hn] at hs1
  rw [hn]
  exact call_ok hs1.rd hl fun w2 q c G ra inn sG u2 => hK w2 q c G ra inn (fun k hk => by have := sG k hk; have := u1.size; omega) (u1.after u2)
end

end Go.Proofs.Ytdbkbaeeccemkaa

/- What must come of every program. -/
namespace Go.Proofs.Ytdbkbaeeccemkaa
open Go Go.D Go.Proofs
set_option linter.unusedSimpArgs false
set_option linter.unusedVariables false
set_option maxRecDepth 8000

section
variable {w : World}

theorem SameInts_ok {p q : Option Addr} {n c m e : Nat} {L : List Int} {K : Bool → World → Prop} (hp : Rd w 1 p n (L.map (.int .i64))) (hq : Rd w 1 q m (L.map (.int .i64))) (hL : L.length < 2 ^ 40) (hK : ∀ w', Upd [] w w' → K true w') : C_ref15_SameInts p n c q m e w K := by
  apply C_ref15_SameInts.of
  unfold F_ref15_SameInts F_ref15_SameInts_L1
  have hn : n = L.length := by have := hp.1; simp at this; exact this.symm
  have hm : m = L.length := by have := hq.1; simp at this; exact this.symm
  refine ifF (by simp; omega) ⟨fun s v => 0 ≤ s.i ∧ s.i ≤ n ∧ Upd [] w v, fun s _ => (n - s.i).toNat, ⟨by simp, by simp, Upd.refl _ _⟩, ?_⟩
  rintro ⟨i⟩ v ⟨hi0, hi1, u⟩
  dsimp only at hi0 hi1
  unfold B_ref15_SameInts_L1
  dsimp only
  refine ifC (fun hc => ?_) (fun hc => hK v u)
  simp at hc
  obtain ⟨x, hx, hcx⟩ := (hp.keep u).at (i := i.toNat) (by omega)
  obtain ⟨y, hy, hcy⟩ := (hq.keep u).at (i := i.toNat) (by omega)
  have hil : i.toNat < L.length := by omega
  rw [List.getElem?_map, List.getElem?_eq_getElem hil] at hcx hcy
  simp only [Option.map_some] at hcx hcy
  simp only [NN_some, addN, drw_cell, drw_heap, exS, exI, exB, exP, exM, exStr, exV, a0, a1, a2, a3, a4, a5, a6, a7, a8, a9, a10, a11, a12, a13, maxI_eq, Nat.zero_add, Nat.add_zero, Nat.mul_one, Option.isNone_some, Option.isNone_none, hx, hy, hcx, hcy]
  refine ⟨hi0, hc, hi0, by omega, ifF (by simp) ?_⟩
  rw [i64id (by omega) (by omega)]
  exact ⟨⟨by omega, by omega, u.after (drw_upd v)⟩, by simp; omega⟩

theorem sameL_ok {p : Option Addr} {n c m : Nat} {L : List Int} {ps : List (Nat × Value)} {K : Bool → World → Prop} (hp : Rd w 1 p n (L.map (.int .i64))) (hm : m = L.length) (hps : ps = ((L.map (Value.int .i64)).zipIdx 0).map fun x => (x.2, x.1)) (hl : L.length < 2 ^ 20) (hK : ∀ w', Upd [] w w' → K true w') :
    BSl Try.prog 30 m ps w fun q m' e w1 => C_ref15_SameInts p n c q m' e w1 K := by
  refine BSlL_rule eS_30 (L.map (.int .i64)) hps (by intro v hv; obtain ⟨x, _, rfl⟩ := List.mem_map.1 hv; rfl) (by rw [hm, List.length_map]) (by rw [hm]; omega) fun w1 hs1 u1 => ?_
  have e : (L.map (Value.int .i64)).flatMap (fun v => v.cells.toList) = L.map (.int .i64) := by
    clear hs1 hps hK hm hl hp
    induction L with
    | nil => rfl
    | cons x L ih => rw [List.map_cons, List.flatMap_cons, ih]; rfl
  rw [e] at hs1
  exact SameInts_ok (hp.upd u1 (by simp)) hs1.rd (by omega) fun w2 u2 => hK w2 (u1.after u2)

def oneH : Tm := callT ⟨#[112]⟩ [0, 1]
def oneG : List GoalT := [(1, callT ⟨#[113]⟩ [0, 2]), (1, callT ⟨#[114]⟩ [2, 1]), (1, callT ⟨#[115]⟩ [1])]

theorem One_ok {K : Int → Int → ByteArray → Option Addr → Nat → Nat → Option Addr → Nat → Nat → Int → World → Prop} (hK : ∀ w' q c gp F, RdA w' F oneH.l q 0 → GoalsA w' F oneG gp → In F w' → Since F w → Upd [] w w' → K 4 0 ⟨#[112]⟩ q 2 c gp 3 3 3 w') : C_law15_One w K := by
  apply C_law15_One.of
  unfold F_law15_One
  refine New_rule fun r w1 hr u1 b1 => ?_
  refine callL_ok [0, 1] rfl rfl (by decide) fun w2 q2 c2 G2 ra2 in2 s2 u2 => ?_
  refine callL_ok [0, 2] rfl rfl (by decide) fun w3 q3 c3 G3 ra3 in3 s3 u3 => ?_
  refine callL_ok [2, 1] rfl rfl (by decide) fun w4 q4 c4 G4 ra4 in4 s4 u4 => ?_
  refine callL_ok [1] rfl rfl (by decide) fun w5 q5 c5 G5 ra5 in5 s5 u5 => ?_
  refine BSlL_rule eS_25 [.agg #[.int .i64 1, .int .i64 4, .int .i64 0, .string ⟨#[113]⟩, .slice q3 2 c3], .agg #[.int .i64 1, .int .i64 4, .int .i64 0, .string ⟨#[114]⟩, .slice q4 2 c4], .agg #[.int .i64 1, .int .i64 4, .int .i64 0, .string ⟨#[115]⟩, .slice q5 1 c5]] (by rfl) (by simp [Value.cells]) (by rfl) (by omega) fun w6 hs6 u6 => ?_
  have l1 := b1.lt
  have z1 := u1.size
  have z2 := u2.size
  have z3 := u3.size
  have z4 := u4.size
  have z5 := u5.size
  have V5 := ((u2.after u3).after u4).after u5
  have b6 := (b1.upd V5 (by simp)).upd u6 (by simp)
  simp only [NN_some, addN, drw_cell, drw_heap, exS, exI, exB, exP, exM, exStr, exV, a0, a1, a2, a3, a4, a5, a6, a7, a8, a9, a10, a11, a12, a13, maxI_eq, Nat.zero_add, Nat.add_zero, Nat.mul_one, Option.isNone_some, Option.isNone_none]
  refine St6q b6 rfl (by simp [Value.oneCell']) fun w7 u7 b7 => ?_
  simp only [NN_some, addN, drw_cell, drw_heap, exS, exI, exB, exP, exM, exStr, exV, a0, a1, a2, a3, a4, a5, a6, a7, a8, a9, a10, a11, a12, a13, maxI_eq, Nat.zero_add, Nat.add_zero, Nat.mul_one, Option.isNone_some, Option.isNone_none, b7.cell]
  have sz : ∀ n : UInt8, (⟨#[n]⟩ : ByteArray).size < 2 ^ 63 := fun n => by show 1 < 2 ^ 63; omega
  have hgs : GsAt w6 (some ⟨w5.heap.size, 0, none⟩) 3 3 oneG [w5.heap.size] (G3 ++ (G4 ++ G5)) := by
    refine ⟨[(1, callT ⟨#[113]⟩ [0, 2], q3, c3), (1, callT ⟨#[114]⟩ [2, 1], q4, c4), (1, callT ⟨#[115]⟩ [1], q5, c5)], rfl, hs6, fun x hx => ?_, fun k hk => ?_⟩
    · simp only [List.mem_cons, List.not_mem_nil, or_false] at hx
      rcases hx with rfl | rfl | rfl
      · exact ⟨sz _, RdA.sub (fun k hk => by simp [hk]) _ (RdA.keep u6 (RdA.keep u5 (RdA.keep u4 ra3)))⟩
      · exact ⟨sz _, RdA.sub (fun k hk => by simp [hk]) _ (RdA.keep u6 (RdA.keep u5 ra4))⟩
      · exact ⟨sz _, RdA.sub (fun k hk => by simp [hk]) _ (RdA.keep u6 ra5)⟩
    · have z6 := u6.size
      rcases List.mem_append.1 hk with g | g
      · have := in3 k g; omega
      · rcases List.mem_append.1 g with g | g
        · have := in4 k g; omega
        · have := in5 k g; omega
  have nr : ∀ k ∈ G2 ++ ([w5.heap.size] ++ (G3 ++ (G4 ++ G5))), k ≠ r ∧ w.heap.size ≤ k ∧ k < w6.heap.size := fun k hk => by
    have z6 := u6.size
    have l6 := hs6.inn w5.heap.size (by simp)
    simp only [List.mem_append, List.mem_singleton] at hk
    rcases hk with g | g | g | g | g
    · have := s2 k g; have := in2 k g; omega
    · omega
    · have := s3 k g; have := in3 k g; omega
    · have := s4 k g; have := in4 k g; omega
    · have := s5 k g; have := in5 k g; omega
  have U7 : Upd [] w w7 := ((u1.after V5).after u6).fresh u7 (by intro k hk; simp at hk; omega)
  have hd : ∀ k ∈ G2 ++ ([w5.heap.size] ++ (G3 ++ (G4 ++ G5))), k ∉ [r] := fun k hk hx => by simp at hx; exact (nr k hk).1 hx
  have z7 := u7.size
  refine hK w7 q2 c2 _ (G2 ++ ([w5.heap.size] ++ (G3 ++ (G4 ++ G5)))) (RdA.upd' u7 hd (RdA.sub (fun k hk => by simp [hk]) _ (RdA.keep (((u3.after u4).after u5).after u6) ra2))) ((hgs.rd.sub fun k hk => List.mem_append.2 (.inr hk)).upd u7 hd) (fun k hk => by have := nr k hk; omega) (fun k hk => (nr k hk).2.1) U7

theorem one_may : mayP oneH oneG = 0 := by kernel_rfl
theorem one_gath : gath (oneH.vars []) oneG = ([(0, 0, 0), (1, 0, 2), (2, 0, 1)], 3) := by decide
theorem one_size : oneH.size ≤ 6000 ∧ ∀ g ∈ oneG, g.2.size ≤ 6000 := by decide
theorem one_slots {E : List Spn} (h : SlotsOf (gath (oneH.vars []) oneG).1 E) : E = [(1, 0, 2), (2, 0, 1)] := by
  rw [one_gath] at h
  refine slots_one (S := [(0, 0, 0), (1, 0, 2), (2, 0, 1)]) (by decide) h ⟨?_, ?_⟩
  · exact List.Perm.refl _
  · simp [ltS]

def twoH : Tm := .mk 3 0 ⟨#[97]⟩ []
def twoG : List GoalT := [(1, callT ⟨#[98]⟩ []), (2, .mk 3 0 ⟨#[33]⟩ [])]
theorem two_may : mayP twoH twoG = 0 := by decide
theorem two_gath : gath (twoH.vars []) twoG = ([(-1, 0, 1)], 1) := by decide
theorem two_size : twoH.size ≤ 6000 ∧ ∀ g ∈ twoG, g.2.size ≤ 6000 := by decide
theorem two_slots {E : List Spn} (h : SlotsOf (gath (twoH.vars []) twoG).1 E) : E = [(-1, 0, 1)] := by
  rw [two_gath] at h
  refine slots_one (S := [(-1, 0, 1)]) (by decide) h ⟨List.Perm.refl _, by simp⟩
theorem none_may : mayP (.mk 0 0 ⟨#[]⟩ []) [] = 60 := by decide
end

end Go.Proofs.Ytdbkbaeeccemkaa

/- It lives. -/
namespace Go.Proofs.Ytdbkbaeeccemkaa
open Go Go.D Go.Proofs
set_option linter.unusedSimpArgs false
set_option linter.unusedVariables false
set_option maxRecDepth 8000

section
variable {w : World}

theorem one_len : (gath (oneH.vars []) oneG).1.length ≤ 2 ^ 30 := by rw [one_gath]; decide

theorem lives_ok {K : Bool → World → Prop} (hK : ∀ w', Upd [] w w' → K true w') : C_law15_lives w K := by
  apply C_law15_lives.of
  unfold F_law15_lives
  refine One_ok fun w1 q1 c1 gp1 F1 ra1 ga1 in1 sn1 u1 => ?_
  refine Of_ok (h := oneH) (gs := oneG) in1 ra1 one_size.1 ga1 one_size.2 (by decide) (fun h => absurd one_may h) (fun E hE h64 => by rw [one_slots hE] at h64; exact absurd h64 (by decide)) fun _ w2 env pS cS GS pL cL GL E hE _ hsS hsL henv u2 => ?_
  have eE := one_slots hE
  subst eE
  have ec : (gath (oneH.vars []) oneG).2 = 3 := by rw [one_gath]
  rw [ec] at hsL henv ⊢
  have henv := henv (by decide)
  subst henv
  have eL : liveR [(1, 0, 2), (2, 0, 1)] (3 : Int).toNat = [(2 : Int), 1, 0].map (.int .i64) := by kernel_rfl
  rw [eL] at hsL
  refine New_rule fun r w3 hr u3 b3 => ?_
  try simp only [NN_some, addN, drw_cell, drw_heap, exS, exI, exB, exP, exM, exStr, exV, a0, a1, a2, a3, a4, a5, a6, a7, a8, a9, a10, a11, a12, a13, maxI_eq, Nat.zero_add, Nat.add_zero, Nat.mul_one, Option.isNone_some, Option.isNone_none]
  refine St4q b3 rfl rfl rfl rfl fun w4 u4 b4 => ?_
  have U4 : Upd [] w2 w4 := u3.fresh u4 (by intro k hk; simp at hk; omega)
  refine rAtom_ok fun w5 u5 => ?_
  refine call_ok (L := []) (p := none) (c := 0) ⟨rfl, .inl rfl⟩ (by decide) fun w6 q6 c6 G6 ra6 in6 sn6 u6 => ?_
  refine rAtom_ok fun w7 u7 => ?_
  refine BSlL_rule eS_25 [.agg #[.int .i64 1, .int .i64 3, .int .i64 0, .string ⟨#[98]⟩, .slice q6 0 c6], .agg #[.int .i64 2, .int .i64 3, .int .i64 0, .string ⟨#[33]⟩, .slice none 0 0]] (by rfl) (by simp [Value.cells]) (by rfl) (by omega) fun w8 hs8 u8 => ?_
  have sz : ∀ n : UInt8, (⟨#[n]⟩ : ByteArray).size < 2 ^ 63 := fun n => by show 1 < 2 ^ 63; omega
  have hgs : GsAt w8 (some ⟨w7.heap.size, 0, none⟩) 2 2 twoG [w7.heap.size] [] := by
    refine ⟨[(1, callT ⟨#[98]⟩ [], q6, c6), (2, .mk 3 0 ⟨#[33]⟩ [], none, 0)], rfl, hs8, fun x hx => ?_, by intro k hk; cases hk⟩
    simp only [List.mem_cons, List.not_mem_nil, or_false] at hx
    rcases hx with rfl | rfl
    · exact ⟨sz _, RdA.of fun i hi => absurd hi (by show ¬ i < 0; omega)⟩
    · exact ⟨sz _, RdA.of fun i hi => absurd hi (by show ¬ i < 0; omega)⟩
  have in8 : In ([w7.heap.size] ++ []) w8 := fun k hk => hs8.inn k (by simpa using hk)
  refine Of_ok (h := twoH) (gs := twoG) in8 (RdA.of fun i hi => absurd hi (by show ¬ i < 0; omega)) two_size.1 hgs.rd two_size.2 (by decide) (fun h => absurd two_may h) (fun E hE h64 => by rw [two_slots hE] at h64; exact absurd h64 (by decide)) fun _ w9 env2 pS2 cS2 GS2 pL2 cL2 GL2 E2 hE2 _ hsS2 hsL2 _ u9 => ?_
  have eE2 := two_slots hE2
  subst eE2
  have ec2 : (gath (twoH.vars []) twoG).2 = 1 := by rw [two_gath]
  rw [ec2] at hsL2 ⊢
  have eL2 : liveR [(-1, 0, 1)] (1 : Int).toNat = [(1 : Int)].map (.int .i64) := by kernel_rfl
  rw [eL2] at hsL2
  have elv2 : levelF [((-1 : Int), (0 : Int), (1 : Int))] [((-1 : Int), (0 : Int), (1 : Int))].length = 1 := by decide +kernel
  rw [elv2]
  refine New_rule fun r2 w10 hr2 u10 b10 => ?_
  try simp only [NN_some, addN, drw_cell, drw_heap, exS, exI, exB, exP, exM, exStr, exV, a0, a1, a2, a3, a4, a5, a6, a7, a8, a9, a10, a11, a12, a13, maxI_eq, Nat.zero_add, Nat.add_zero, Nat.mul_one, Option.isNone_some, Option.isNone_none]
  refine St4q b10 rfl rfl rfl rfl fun w11 u11 b11 => ?_
  have U11 : Upd [] w9 w11 := u10.fresh u11 (by intro k hk; simp at hk; omega)
  refine Of_ok (F := []) (h := .mk 0 0 ⟨#[]⟩ []) (gs := []) (by intro k hk; cases hk) (RdA.of fun i hi => absurd hi (by show ¬ i < 0; omega)) (by decide) (by intro i hi; exact absurd hi (by simp)) (by simp) (by decide) (fun _ w12 u12 => ?_) (fun E hE h64 w12 _ => ?_) (fun h => absurd h (by rw [none_may]; decide))
  rotate_left
  · exfalso
    have e : (gath ((Tm.mk 0 0 ⟨#[]⟩ []).vars []) []).1 = [] := by decide
    rw [e] at hE
    have := hE.1.length_eq
    simp at this
    rw [this] at h64
    exact absurd h64 (by decide)
  rw [none_may]
  refine New_rule fun r3 w13 hr3 u13 b13 => ?_
  try simp only [NN_some, addN, drw_cell, drw_heap, exS, exI, exB, exP, exM, exStr, exV, a0, a1, a2, a3, a4, a5, a6, a7, a8, a9, a10, a11, a12, a13, maxI_eq, Nat.zero_add, Nat.add_zero, Nat.mul_one, Option.isNone_some, Option.isNone_none]
  refine St4q b13 rfl rfl rfl rfl fun w14 u14 b14 => ?_
  have U14 : Upd [] w12 w14 := u13.fresh u14 (by intro k hk; simp at hk; omega)
  refine One_ok fun w15 q15 c15 gp15 F15 ra15 ga15 in15 sn15 u15 => ?_
  refine Permanent_ok (h := oneH) (gs := oneG) in15 ra15 one_size.1 ga15 one_size.2 (by decide) one_may (fun E hE => by rw [one_slots hE]; decide) one_len fun w16 pP cP GP E3 hE3 hsP u16 => ?_
  have eE3 := one_slots hE3
  subst eE3
  have eP : sortL (([((1 : Int), (0 : Int), (2 : Int)), (2, 0, 1)].filter fun x => x.1 != -1).map (·.1)) = [1, 2] := by
    have e : ([((1 : Int), (0 : Int), (2 : Int)), (2, 0, 1)].filter fun x => x.1 != -1).map (·.1) = [1, 2] := by decide
    rw [e]
    unfold sortL
    exact List.mergeSort_of_pairwise (by simp)
  rw [eP] at hsP ⊢
  -- from the first plan to here
  have s2 := u2.size
  have A : Upd [] w4 w8 := ((u5.after u6).after u7).after u8
  have B : Upd [] w4 w16 := ((((A.after u9).after U11).after u12).after U14).after (u15.after u16)
  have C : Upd [] w11 w16 := ((u12.after U14).after u15).after u16
  have b4' := b4.upd B (by simp)
  have b11' := b11.upd C (by simp)
  have hsS' := (hsS.upd U4 (by intro k _ h; cases h)).upd B (by intro k _ h; cases h)
  have hsL' := (hsL.upd U4 (by intro k _ h; cases h)).upd B (by intro k _ h; cases h)
  have hsS2' := (hsS2.upd U11 (by intro k _ h; cases h)).upd C (by intro k _ h; cases h)
  have hsL2' := (hsL2.upd U11 (by intro k _ h; cases h)).upd C (by intro k _ h; cases h)
  have W16 : Upd [] w w16 := ((u1.after u2).after U4).after B
  refine ifT rfl ?_
  simp only [NN_some, addN, drw_cell, drw_heap, exS, exI, exB, exP, exM, exStr, exV, a0, a1, a2, a3, a4, a5, a6, a7, a8, a9, a10, a11, a12, a13, maxI_eq, Nat.zero_add, Nat.add_zero, Nat.mul_one, Option.isNone_some, Option.isNone_none, b4'.cell]
  refine ifT rfl ?_
  refine sameL_ok (L := [1, 2]) hsS'.rd rfl rfl (by decide) fun w17 u17 => ifT rfl ?_
  have c17 := b4'.upd u17 (by simp)
  simp only [NN_some, addN, drw_cell, drw_heap, exS, exI, exB, exP, exM, exStr, exV, a0, a1, a2, a3, a4, a5, a6, a7, a8, a9, a10, a11, a12, a13, maxI_eq, Nat.zero_add, Nat.add_zero, Nat.mul_one, Option.isNone_some, Option.isNone_none, c17.cell]
  refine sameL_ok (L := [2, 1, 0]) (hsL'.upd u17 (by intro k _ h; cases h)).rd rfl rfl (by decide) fun w18 u18 => ifT rfl ?_
  have V18 := u17.after u18
  have c18 := c17.upd u18 (by simp)
  have d18 := b11'.upd V18 (by simp)
  simp only [NN_some, addN, drw_cell, drw_heap, exS, exI, exB, exP, exM, exStr, exV, a0, a1, a2, a3, a4, a5, a6, a7, a8, a9, a10, a11, a12, a13, maxI_eq, Nat.zero_add, Nat.add_zero, Nat.mul_one, Option.isNone_some, Option.isNone_none, c18.cell, d18.cell]
  refine ifT rfl (ifT rfl (ifT rfl ?_))
  refine sameL_ok (L := [-1]) (hsS2'.upd V18 (by intro k _ h; cases h)).rd rfl rfl (by decide) fun w19 u19 => ifT rfl ?_
  have d19 := d18.upd u19 (by simp)
  simp only [NN_some, addN, drw_cell, drw_heap, exS, exI, exB, exP, exM, exStr, exV, a0, a1, a2, a3, a4, a5, a6, a7, a8, a9, a10, a11, a12, a13, maxI_eq, Nat.zero_add, Nat.add_zero, Nat.mul_one, Option.isNone_some, Option.isNone_none, d19.cell]
  refine sameL_ok (L := [1]) ((hsL2'.upd V18 (by intro k _ h; cases h)).upd u19 (by intro k _ h; cases h)).rd rfl rfl (by decide) fun w20 u20 => ifT rfl (ifT rfl ?_)
  have V20 := (V18.after u19).after u20
  refine sameL_ok (L := [1, 2]) (hsP.upd V20 (by intro k _ h; cases h)).rd rfl rfl (by decide) fun w21 u21 => ifT rfl ?_
  refine One_ok fun w22 q22 c22 gp22 F22 ra22 ga22 in22 sn22 u22 => Calls_ok (h := oneH) (gs := oneG) in22 ra22 one_size.1 ga22 one_size.2 (by decide) one_may fun w23 u23 => ifT (by rw [ec]; rfl) ?_
  refine One_ok fun w24 q24 c24 gp24 F24 ra24 ga24 in24 sn24 u24 => Chunk_ok (h := oneH) (gs := oneG) in24 ra24 one_size.1 ga24 one_size.2 (by decide) (by decide) one_may (fun w' hn _ => absurd ⟨by decide, by decide⟩ hn) fun w25 _ _ u25 => ifT (by decide +kernel) ?_
  refine One_ok fun w26 q26 c26 gp26 F26 ra26 ga26 in26 sn26 u26 => Chunk_ok (h := oneH) (gs := oneG) in26 ra26 one_size.1 ga26 one_size.2 (by decide) (by decide) one_may (fun w27 hn u27 => ?_) (fun w' _ h => absurd h (by decide))
  exact hK w27 (W16.after (((((((V20.after u21).after u22).after u23).after u24).after u25).after u26).after u27))
end

end Go.Proofs.Ytdbkbaeeccemkaa
