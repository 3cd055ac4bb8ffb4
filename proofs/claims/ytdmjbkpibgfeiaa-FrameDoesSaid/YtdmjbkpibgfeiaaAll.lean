/- A stack of environments and choices: all environments, each once. -/
import Derived.Test.YtdmjbkpibgfeiaaFrame5
namespace Go.Proofs.Ytdmjbkpibgfeiaa
open Go Go.D Go.Proofs
set_option linter.unusedSimpArgs false
set_option linter.unusedVariables false
set_option maxRecDepth 8000

theorem ChainL.same {W : List Int} : ∀ {xs ys : List Int} {e h h' : Int}, ChainL W xs e h → ChainL W ys e h' → xs = ys
  | [], [], _, _, _, _, _ => rfl
  | [], y :: ys, e, _, _, h1, h2 => by have : e = -1 := h1; have := h2.2.1; omega
  | x :: xs, [], e, _, _, h1, h2 => by have : e = -1 := h2; have := h1.2.1; omega
  | x :: xs, y :: ys, e, _, _, h1, h2 => by
    rw [h1.1, h2.1, h1.2.2.2.2.same h2.2.2.2.2]

/-- All bases that there are. -/
def Node (lv : List Level) (b : Int) : Prop := ∃ z ∈ lv, b ∈ z.1

/-- Whoever is in it, those ahead of it are. -/
def Closed (W : List Int) (vs : List Int) : Prop := ∀ b ∈ vs, ∀ ys h, ChainL W ys (prevOf W b) h → ∀ y ∈ ys, y ∈ vs

/-- What is asked of each environment in turn. -/
structure Each (d : FrD) (lv : List Level) (each : Value) (go : List Int → Int → Bool) (I : List Int → List Nat → World → Prop) : Prop where
  keep : ∀ vs H w w' G, I vs H w → Upd G w w' → Dis H G → I vs H w'
  inn : ∀ vs H w, I vs H w → In H w
  fr : ∀ vs H w, I vs H w → ∃ d', Fr w d' ∧ d'.a = d.a ∧ ∀ x, Node lv x → wordOf d'.W x = wordOf d.W x
  ask : ∀ vs H w K b, I vs H w → Node lv b → b ∉ vs → (∀ H' w', I (vs ++ [b]) H' w' → Upd H w w' → Sub H' H w → K (.bool (go vs b)) w') → CallV Try.prog each [.int .i64 b] w K

/-- The map of those that were seen. -/
def SeenAt (w : World) (r : Nat) (vs : List Int) : Prop := ∃ M, MapAt w r (fun a : Int => Value.int .i64 a) M ∧ ∀ k, (D.look k M).getD (.bool false) = .bool (decide (k ∈ vs))

theorem seen_look {w : World} {r : Nat} {vs : List Int} {b : Int} {K : Value → World → Prop} (h : SeenAt w r vs) (hK : K (.bool (decide (b ∈ vs))) w) : Run Try.prog (Instr.lookup 100 (.map (some r)) (.int .i64 b) false) w K := by
  obtain ⟨M, hM, hl⟩ := h
  refine Lookup_rule (κ := Int) (kt := 3) (et := 4) (inj := fun a : Int => Value.int .i64 a) (z := .bool false) (keyInt (by rfl)) (by rfl) ⟨_, rfl, rfl⟩ hM ?_
  rw [hl]; exact hK

theorem seen_put {w : World} {r : Nat} {vs : List Int} {b : Int} {K : World → Prop} (h : SeenAt w r vs) (hK : ∀ w', SeenAt w' r (vs ++ [b]) → Upd [r] w w' → K w') : MUp Try.prog 100 (.map (some r)) (.int .i64 b) (.bool true) w K := by
  obtain ⟨M, hM, hl⟩ := h
  refine MUp_rule (κ := Int) (kt := 3) (et := 4) (inj := fun a : Int => Value.int .i64 a) (keyInt (by rfl)) (by rfl) hM fun w' hM' u => hK w' ⟨_, hM', fun k => ?_⟩ u
  rw [look_put]
  by_cases hk : k = b
  · simp [hk]
  · rw [if_neg hk, hl]; simp [hk]

section
variable {d : FrD} {lv : List Level} {each : Value} {go : List Int → Int → Bool} {I : List Int → List Nat → World → Prop}

/-- One chain is gone along. -/
theorem walk_ok (hE : Each d lv each go I) (hlv : ∀ x, Node lv x → -2 ^ 62 ≤ x ∧ x < 2 ^ 62 ∧ -2 ^ 63 < wordOf d.W x) {w : World} {r : Nat} {vs : List Int} {H : List Nat} {xs : List Int} {e hi : Int} {tP : Option Addr} {tN tC : Nat} {tn tj : Int} {Kx Kr : World → Prop}
    (hI : I vs H w) (hs : SeenAt w r vs) (hr : r ∉ H) (hrw : r < w.heap.size) (hc : ChainL d.W xs e hi) (hx : ∀ x ∈ xs, Node lv x) (hcl : Closed d.W vs) (hvs : ∀ v ∈ vs, Node lv v) (hnd : vs.Nodup)
    (hKx : ∀ vs' H' w', I vs' H' w' → SeenAt w' r vs' → Closed d.W vs' → (∀ v ∈ vs', Node lv v) → vs'.Nodup → (∀ x ∈ vs, x ∈ vs') → (∀ x ∈ xs, x ∈ vs') → Upd (r :: H) w w' → Sub H' H w → Kx w')
    (hKr : ∀ vs' b H' w', I (vs' ++ [b]) H' w' → go vs' b = false → (∀ v ∈ vs' ++ [b], Node lv v) → Upd (r :: H) w w' → Sub H' H w → Kr w') :
    F_frame_Stack_all_L3 d.a each (some r) tP tN tC tn tj ⟨e⟩ w Kx Kr := by
  unfold F_frame_Stack_all_L3
  refine ⟨fun s v => ∃ pre suf H', xs = pre ++ suf ∧ (∃ h, ChainL d.W suf s.basex h) ∧ (∀ x ∈ pre, x ∉ vs) ∧ I (vs ++ pre) H' v ∧ SeenAt v r (vs ++ pre) ∧ Upd (r :: H) w v ∧ Sub H' H w, fun s _ => (s.basex + 1).toNat, ⟨[], xs, H, rfl, ⟨hi, hc⟩, by simp, by simpa using hI, by simpa using hs, Upd.refl _ _, Sub.refl _ _⟩, ?_⟩
  rintro ⟨b⟩ v ⟨pre, suf, H', hxs, ⟨h, hch⟩, hpre, hIv, hsv, hu, hsub⟩
  dsimp only at hch
  unfold B_frame_Stack_all_L3
  dsimp only
  have hrH' : r ∉ H' := fun hx => by
    rcases hsub r hx with h1 | h1
    · exact hr h1
    · omega
  -- what is closed behind
  have hclosed : (∀ x ∈ suf, x ∈ vs ++ pre) → Closed d.W (vs ++ pre) := by
    intro hsuf b' hb' ys h' hys y hy
    rcases List.mem_append.1 hb' with h1 | h1
    · exact List.mem_append.2 (.inl (hcl b' h1 ys h' hys y hy))
    · -- b' is of the chain
      have : ∀ (zs : List Int) (e h0 : Int), ChainL d.W zs e h0 → b' ∈ zs → ∀ y ∈ ys, y ∈ zs := by
        intro zs
        induction zs with
        | nil => intro e h0 _ hb; cases hb
        | cons z zs ih =>
          intro e h0 hz hb y hy
          rcases List.mem_cons.1 hb with hbz | hb
          · have h5 := hz.2.2.2.2
            rw [← hz.1, ← hbz] at h5
            rw [hys.same h5] at hy
            exact List.mem_cons_of_mem _ hy
          · exact List.mem_cons_of_mem _ (ih _ _ hz.2.2.2.2 hb y hy)
      have hyx := this xs e hi hc (by rw [hxs]; simp [h1]) y hy
      rw [hxs] at hyx
      rcases List.mem_append.1 hyx with h2 | h2
      · exact List.mem_append.2 (.inr h2)
      · exact hsuf y h2
  have hnode : ∀ v ∈ vs ++ pre, Node lv v := by
    intro v hv
    rcases List.mem_append.1 hv with h1 | h1
    · exact hvs v h1
    · exact hx v (by rw [hxs]; simp [h1])
  have hnodup : (vs ++ pre).Nodup := by
    rw [List.nodup_append]
    refine ⟨hnd, ?_, fun a ha b hb e => hpre b hb (e ▸ ha)⟩
    have := hc.nodup
    rw [hxs, List.nodup_append] at this
    exact this.1
  have hleave : (∀ x ∈ suf, x ∈ vs ++ pre) → Kx v := fun hsuf => hKx _ H' v hIv hsv (hclosed hsuf) hnode hnodup (by intro x hx; simp [hx]) (by
    intro x hx
    rw [hxs] at hx
    rcases List.mem_append.1 hx with h1 | h1
    · simp [h1]
    · exact hsuf x h1) hu hsub
  refine ifC (fun hc1 => ?_) (fun hc1 => ?_)
  · simp at hc1
    rcases suf with _ | ⟨z, suf⟩
    · have : b = -1 := hch
      omega
    obtain ⟨hzb, hb0, hsz, hhi, hch'⟩ := hch
    subst hzb
    refine seen_look hsv ⟨_, rfl, ifC (fun hc2 => ?_) (fun hc2 => ?_)⟩
    · -- not seen
      simp at hc2
      have hnz : Node lv z := hx z (by rw [hxs]; simp)
      refine seen_put hsv fun v1 hs1 u1 => ?_
      have hI1 := hE.keep _ _ _ _ _ hIv u1 (by intro k hk; simp; rintro rfl; exact hrH' hk)
      refine hE.ask _ H' v1 _ z hI1 hnz (by simp; exact hc2) fun H2 v2 hI2 u2 s2 => ⟨_, rfl, ?_⟩
      have U2 : Upd (r :: H) w v2 := (hu.trans u1 (fun _ h => .inl h) (by intro k hk; simp at hk; simp [hk])).trans u2 (fun _ h => .inl h) (by
        intro k hk
        rcases hsub k hk with h1 | h1
        · simp [h1]
        · exact .inr h1)
      have S2 : Sub H2 H w := hsub.trans (b := v) (by
        intro k hk
        exact (s2 k hk).imp id (by intro h3; have := u1.size; omega)) hu.size
      refine ifC (fun hg => ?_) (fun hg => ?_)
      · simp at hg
        refine hKr (vs ++ pre) z H2 v2 hI2 hg ?_ U2 S2
        intro v hv
        rcases List.mem_append.1 hv with h1 | h1
        · exact hnode v h1
        · simp at h1; rw [h1]; exact hnz
      · obtain ⟨d', hf, ha, hw⟩ := hE.fr _ _ _ hI2
        have hwz := hw z hnz
        have hpz : prevOf d'.W z = prevOf d.W z := by unfold prevOf; rw [hwz]
        have := prev_ok (b := z) hf (by rw [hwz]; exact (hlv z hnz).2.2) (wordOf_range _ _).2 (K := fun t w' => (∃ pre suf H', xs = pre ++ suf ∧ (∃ h, ChainL d.W suf t h) ∧ (∀ x ∈ pre, x ∉ vs) ∧ I (vs ++ pre) H' w' ∧ SeenAt w' r (vs ++ pre) ∧ Upd (r :: H) w w' ∧ Sub H' H w) ∧ (t + 1).toNat < (z + 1).toNat)
        rw [ha] at this
        refine this ⟨⟨pre ++ [z], suf, H2, by rw [hxs]; simp, ⟨z, by rw [hpz]; exact hch'⟩, ?_, by rw [← List.append_assoc]; exact hI2, ?_, U2, S2⟩, ?_⟩
        · intro x hx
          rcases List.mem_append.1 hx with h1 | h1
          · exact hpre x h1
          · simp at h1; rw [h1]; intro h2; exact hc2.1 h2
        · rw [← List.append_assoc]
          obtain ⟨M, hM, hl⟩ := hs1
          exact ⟨M, hM.upd u2 hrH', hl⟩
        · rw [hpz]
          have hneg := hch'.neg
          have : prevOf d.W z < z := by
            rcases suf with _ | ⟨y, suf⟩
            · have : prevOf d.W z = -1 := hch'
              omega
            · have := hch'.2.2.2.1; have := hch'.2.2.1; omega
          omega
    · -- seen
      simp at hc2
      refine hleave fun x hx => ?_
      have hzvs : z ∈ vs := by
        by_cases h1 : z ∈ vs
        · exact h1
        · exfalso
          replace h1 := hc2 h1
          have := hc.nodup
          rw [hxs, List.nodup_append] at this
          exact this.2.2 z h1 z (by simp) rfl
      rcases List.mem_cons.1 hx with rfl | hx
      · simp [hzvs]
      · simp [hcl z hzvs suf z hch' x hx]
  · simp at hc1
    rcases suf with _ | ⟨z, suf⟩
    · exact hleave (by simp)
    · have := hch.2.1; omega

end

end Go.Proofs.Ytdmjbkpibgfeiaa
