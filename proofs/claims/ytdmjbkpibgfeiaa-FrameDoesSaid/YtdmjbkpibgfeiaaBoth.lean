/- One call of both stacks: they answer alike, and stay alike. -/
import Derived.Test.YtdmjbkpibgfeiaaSim2
namespace Go.Proofs.Ytdmjbkpibgfeiaa
open Go Go.D Go.Proofs
set_option linter.unusedSimpArgs false
set_option linter.unusedVariables false
set_option maxRecDepth 8000

/-- Both stacks in memory. -/
structure Bo (w : World) (d : FrD) (cur : List Int) (lev : List Level) (t : TwD) (φ : Int → Nat) : Prop where
  fr : Fr w d
  ok : Ok d cur lev
  tw : Tw w t
  sim : Sim d cur lev t φ
  dis : Dis d.F t.F
  el : t.E.length < 2 ^ 19

theorem dis_pair {w w1 : World} {F F' G G' : List Nat} (hd : Dis F G) (hG : In G w) (s1 : Sub F' F w) (hF' : In F' w1) (s2 : Sub G' G w1) : Dis F' G' := fun k hk hg => by
  rcases s2 k hg with h | h
  · exact hd.step s1 hG k hk h
  · have := hF' k hk; omega

/-- No choice has many arguments. -/
def Sht (l : List (Sl × Ch)) : Prop := ∀ x ∈ l, x.2.args.length ≤ 100

/-- What a call hands on. -/
def Goes (w : World) (d : FrD) (t : TwD) (K : World → Prop) : Prop :=
  ∀ w' d' cur' lev' t' φ', Bo w' d' cur' lev' t' φ' → d'.b = d.b → t'.b = t.b → t'.E.length ≤ t.E.length + 1 → (Sht d.l → Sht d'.l) → Upd (d.F ++ t.F) w w' → Sub (d'.F ++ t'.F) (d.F ++ t.F) w → K w'

section
variable {w : World} {d : FrD} {cur : List Int} {lev : List Level} {t : TwD} {φ : Int → Nat}

theorem Bo.inn (bo : Bo w d cur lev t φ) : In (d.F ++ t.F) w := fun k hk => by
  rcases List.mem_append.1 hk with h | h
  · exact bo.fr.inn k h
  · exact bo.tw.inn k h

theorem Bo.upd {w' : World} {F : List Nat} (bo : Bo w d cur lev t φ) (u : Upd F w w') (hd : Dis (d.F ++ t.F) F) : Bo w' d cur lev t φ :=
  ⟨bo.fr.upd u fun k hk => hd k (by simp [hk]), bo.ok, bo.tw.upd u fun k hk => hd k (by simp [hk]), bo.sim, bo.dis, bo.el⟩

theorem Bo.keep {w' : World} (bo : Bo w d cur lev t φ) (u : Upd [] w w') : Bo w' d cur lev t φ := bo.upd u (by intro k _ h; cases h)

/-- Nothing is turned. -/
theorem Goes.same {K : World → Prop} {w1 : World} (g : Goes w d t K) (bo : Bo w d cur lev t φ) (u : Upd [] w w1) : K w1 :=
  g w1 d cur lev t φ (bo.keep u) rfl rfl (by omega) (fun h => h) (u.mono (by simp)) (Sub.refl _ _)

/-- Ours went first, then the other one. -/
theorem Goes.pair {K : World → Prop} {w1 w2 : World} {d' : FrD} {cur' : List Int} {lev' : List Level} {t' : TwD} {φ' : Int → Nat} (g : Goes w d t K) (bo : Bo w d cur lev t φ) (f1 : Fr w1 d') (u1 : Upd d.F w w1) (s1 : Sub d'.F d.F w)
    (T2 : Tw w2 t') (u2 : Upd t.F w1 w2) (s2 : Sub t'.F t.F w1) (ok' : Ok d' cur' lev') (sim' : Sim d' cur' lev' t' φ') (hb : d'.b = d.b) (hb' : t'.b = t.b) (he : t'.E.length ≤ t.E.length + 1) (hel : t'.E.length < 2 ^ 19) (sh : Sht d.l → Sht d'.l := by exact fun h => h) : K w2 := by
  have hd : Dis d'.F t.F := bo.dis.step s1 bo.tw.inn
  refine g w2 d' cur' lev' t' φ' ⟨f1.upd u2 hd, ok', T2, sim', dis_pair bo.dis bo.tw.inn s1 f1.inn s2, hel⟩ hb hb' he sh (u1.trans u2 (fun k hk => .inl (by simp [hk])) (fun k hk => .inl (by simp [hk]))) ?_
  intro k hk
  rcases List.mem_append.1 hk with h | h
  · exact (s1 k h).imp (by intro h; simp [h]) id
  · exact ((s2.old u1.size) k h).imp (by intro h; simp [h]) id

theorem Goes.next {K K' : World → Prop} {w1 : World} (g : Goes w d t K) (u : Upd [] w w1) (h : ∀ w', K w' → K' w') : Goes w1 d t K' :=
  fun w' d' cur' lev' t' φ' bo' hb hb' he sh u' s' => h w' (g w' d' cur' lev' t' φ' bo' hb hb' he sh (u.after u') (s'.old u.size))

theorem Alloc_both {n c0 c1 : Int} {K : Int → World → Prop} (bo : Bo w d cur lev t φ) (hel : t.E.length + 1 < 2 ^ 19) (hc0 : -2 ^ 63 ≤ c0 ∧ c0 < 2 ^ 63) (hc1 : -2 ^ 63 ≤ c1 ∧ c1 < 2 ^ 63)
    (hK : ∀ e w1, Upd d.F w w1 → (∀ K2 : Int → World → Prop, Goes w d t (K2 e) → C_ref22_Stack_Alloc t.a n c0 c1 w1 K2) → K e w1) : C_frame_Stack_Alloc d.a n c0 c1 w K := by
  obtain ⟨fr, ok, tw, sim, dis, el⟩ := bo
  have bo : Bo w d cur lev t φ := ⟨fr, ok, tw, sim, dis, el⟩
  have tok := sim.tok ok (by omega)
  have htop := sim.top ok
  have hw := sim.words
  by_cases ha : n < 0 ∨ 64 < n
  · exact Alloc_arg fr ha fun w1 f1 u1 => hK 1 w1 (u1.mono (by simp)) fun K2 g => RAlloc_arg ha fun w2 u2 => g.same bo (u1.after u2)
  by_cases hroom : d.wlim < d.top + 4 + n
  · exact Alloc_full fr ok (by omega) (by omega) hroom fun w1 f1 u1 => hK 2 w1 (u1.mono (by simp)) fun K2 g => RAlloc_full (tw.keep u1) tok (by omega) (by omega) (by omega) fun w2 u2 => g.same bo (u1.after u2)
  refine Alloc_ok fr ok (by omega) (by omega) (by omega) fun w1 most FW f1 u1 s1 => hK 0 w1 u1 fun K2 g => ?_
  refine RAlloc_ok (tw.upd u1 dis.symm) tok (by omega) (by omega) (by omega) fun w2 x p c G H hx T2 u2 s2 => ?_
  refine g.pair bo f1 u1 s1 T2 u2 s2 (ok.alloc (by omega) (by omega) (by omega)).1 (sim.alloc ok (by omega) (by omega) (by omega) hc0 hc1 hx) rfl rfl ?_ ?_
  · show (t.E ++ [x]).length ≤ _; simp
  · show (t.E ++ [x]).length < _; simp; omega

theorem Dealloc_both {K : Int → Int → Int → World → Prop} (bo : Bo w d cur lev t φ)
    (hK : ∀ a b e w1, Upd d.F w w1 → (∀ w1', Upd [] w1 w1' → ∀ K2 : Int → Int → Int → World → Prop, Goes w d t (fun w' => Upd t.F w1' w' → K2 a b e w') → C_ref22_Stack_Dealloc t.a w1' K2) → K a b e w1) : C_frame_Stack_Dealloc d.a w K := by
  obtain ⟨fr, ok, tw, sim, dis, el⟩ := bo
  have bo : Bo w d cur lev t φ := ⟨fr, ok, tw, sim, dis, el⟩
  by_cases h0 : d.env < 0
  · exact Dealloc_no fr h0 fun w1 f1 u1 => hK 0 0 4 w1 (u1.mono (by simp)) fun w1' v K2 g => RDealloc_no ((tw.keep u1).keep v) (by rw [sim.cur, eIdx_neg h0]; omega) fun w2 T2 u2 => g.same bo ((u1.after v).after u2) (u2.mono (by simp))
  · refine Dealloc_ok fr ok (by omega) fun w1 f1 u1 => hK _ _ _ w1 u1 fun w1' v K2 g => ?_
    obtain ⟨hc, hi, hE⟩ := sim.curE ok (by omega)
    refine RDealloc_ok ((tw.upd u1 dis.symm).keep v) hi hc fun w2 T2 u2 => ?_
    have e2 : (t.E[φ d.env]).2.c2 = wordOf d.W (d.env + 1) := by rw [hE]; rfl
    have e3 : (t.E[φ d.env]).2.c3 = wordOf d.W (d.env + 2) := by rw [hE]; rfl
    rw [e2, e3]
    have sim' := sim.left ok (by omega)
    rw [er_eq hi] at sim'
    exact g.pair bo f1 u1 (Sub.refl _ _) T2 (v.after u2) (Sub.refl _ _) (ok.left (by omega)).1 sim' rfl rfl (by show t.E.length ≤ _; omega) el (fun h => h) u2

theorem Trim_both {n : Int} {K : Bool → World → Prop} (bo : Bo w d cur lev t φ)
    (hK : ∀ e w1, Upd d.F w w1 → (∀ K2 : Bool → World → Prop, Goes w d t (K2 e) → C_ref22_Stack_Trim t.a n w1 K2) → K e w1) : C_frame_Stack_Trim d.a n w K := by
  obtain ⟨fr, ok, tw, sim, dis, el⟩ := bo
  have bo : Bo w d cur lev t φ := ⟨fr, ok, tw, sim, dis, el⟩
  have hcl : t.C.length < 2 ^ 40 := by have := sim.clen; have := ok.len40; omega
  have hk := sim.kept
  by_cases hn : d.trims n
  · refine Trim_ok fr ok hn fun w1 f1 u1 => hK _ w1 u1 fun K2 g => ?_
    obtain ⟨hc, hi, hE⟩ := sim.curE ok hn.2.1
    have hr := ok.rowlen (ok.nenv hn.2.1)
    have hlen : (t.E[φ d.env]).2.args.length = (sizeOf' d.W d.env).toNat := by rw [hE]; exact hr
    have henv : (t.E[φ d.env]).2.env = d.env := by rw [hE]; rfl
    obtain ⟨k1, k2, k3, k4⟩ := hn
    refine RTrim_ok (tw.upd u1 dis.symm) hcl hi hc k3 (by omega) (by omega) fun w2 y hy T2 u2 => ?_
    exact g.pair bo f1 u1 (Sub.refl _ _) T2 u2 (Sub.refl _ _) (ok.trim ⟨k1, k2, k3, k4⟩).1 (sim.trim ok ⟨k1, k2, k3, k4⟩ hi hy) rfl rfl (by show (t.E.set _ _).length ≤ _; simp) (by show (t.E.set _ _).length < _; simpa using el)
  · refine Trim_no fr ok hn fun w1 f1 u1 => hK _ w1 (u1.mono (by simp)) fun K2 g => ?_
    refine RTrim_no (tw.keep u1) hcl (sim.curOk ok) ?_ fun w2 T2 u2 => g.same bo (u1.after u2)
    by_cases h0 : d.env < 0
    · left; rw [sim.cur, eIdx_neg h0]; omega
    · obtain ⟨hc, hi, hE⟩ := sim.curE ok (by omega)
      have hs := sim.slots ok
      rw [if_neg h0] at hs
      right
      by_cases h1 : n < 0
      · exact .inl h1
      by_cases h2 : t.slots < n
      · exact .inr (.inl h2)
      right; right
      refine ⟨by omega, ?_⟩
      have e : t.cur.toNat = φ d.env := by omega
      simp only [e, hE]
      show d.env < t.kept
      rw [hk]
      unfold FrD.trims at hn
      omega

theorem Push_both {ch : Ch} {ap : Option Addr} {an ac : Nat} {x7 x8 : Int} {K : Int → World → Prop} (bo : Bo w d cur lev t φ) (hr : Rd w 1 ap an (ch.args.map (.int .u64))) (hl : ch.args.length ≤ 100) (hAd : ∀ x, ap = some x → an ≠ 0 → x.block ∉ d.F)
    (hK : ∀ e w1, Upd d.F w w1 → (∀ y7 y8 : Int, ∀ K2 : Int → World → Prop, Goes w d t (K2 e) → C_ref22_Stack_Push t.a ch.kind ap an ac ch.c2 ch.c3 ch.c4 ch.c5 ch.c6 y7 y8 w1 K2) → K e w1) : C_frame_Stack_Push d.a ch.kind ap an ac ch.c2 ch.c3 ch.c4 ch.c5 ch.c6 x7 x8 w K := by
  obtain ⟨fr, ok, tw, sim, dis, el⟩ := bo
  have bo : Bo w d cur lev t φ := ⟨fr, ok, tw, sim, dis, el⟩
  have tok := sim.tok ok (by omega)
  have hcl := sim.clen
  have hlim := sim.lim
  by_cases hf : d.l.length < d.lim
  · refine Push_ok' fr ok hf (Cloned.rd hr (by omega)) fun w1 x p c G H hx f1 u1 s1 => hK 0 w1 u1 fun y7 y8 K2 g => ?_
    refine RPush_ok (tw.upd u1 dis.symm) tok (by omega) (hr.upd u1 hAd) (by omega) fun w2 y q e A B hy hy2 T2 u2 s2 => ?_
    obtain ⟨ok', hto, hke⟩ := ok.push hx hf (p := p) (c := c) (G := G) (H := H)
    have hrp : rpushed t ch = pushed d ch := by
      unfold rpushed pushed
      rw [sim.top ok]
      congr 1
      unfold TwD.bas
      by_cases h0 : d.env < 0
      · rw [dif_neg (by rw [sim.cur, eIdx_neg h0]; omega)]
        have := ok.env1; omega
      · obtain ⟨hc, hi, hE⟩ := sim.curE ok (by omega)
        have e : t.cur.toNat = φ d.env := by omega
        rw [dif_pos ⟨by omega, by omega⟩]
        simp only [e, hE]
        rfl
    refine g.pair bo f1 u1 s1 T2 u2 s2 ok' ⟨fun b hb => ?_, sim.cur, ?_, ?_, sim.words, sim.lim⟩ rfl rfl (by show t.E.length ≤ _; omega) el ?_
    · rw [hto] at hb
      refine sim.node b ?_
      obtain ⟨z, hz, hbz⟩ := hb
      rcases List.mem_cons.1 hz with rfl | hz
      · exact ⟨_, List.mem_cons_self .., hbz⟩
      · exact ⟨z, hz, hbz⟩
    · show (t.C ++ [y]).map (·.1.2) = (d.l ++ [x]).map (·.2)
      rw [List.map_append, List.map_append, sim.cs]
      unfold FrD.cs
      simp [hy, hx, hrp]
    · show (t.C ++ [y]).map (·.2) = ((d.l ++ [x]).map (·.2)).map (fun c => eIdx φ c.env)
      rw [List.map_append, sim.ix, List.map_append, List.map_append]
      unfold FrD.cs
      simp [hy2, hx, pushed, sim.cur]
    · intro h q hq
      rcases List.mem_append.1 hq with h1 | h1
      · exact h q h1
      · simp at h1
        subst h1
        rw [hx]
        exact hl
  · exact Push_full' fr (by omega) fun w1 f1 u1 => hK 2 w1 (u1.mono (by simp)) fun y7 y8 K2 g => RPush_full (tw.keep u1) (by omega) fun w2 T2 u2 => g.same bo (u1.after u2)
end

end Go.Proofs.Ytdmjbkpibgfeiaa
