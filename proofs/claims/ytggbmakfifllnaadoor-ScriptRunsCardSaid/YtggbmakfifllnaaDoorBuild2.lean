/- strings.Builder: what it holds. -/
import Derived.Test.YtggbmakfifllnaaDoorBuild
import Derived.Test.YtggbmakfifllnaaDoorSame
namespace Go.Proofs.YtggbmakfifllnaaDoor
open Go Go.Proofs Go.D
set_option linter.unusedVariables false
set_option linter.unusedSimpArgs false
set_option maxRecDepth 8000

/-- A block's type. -/
def TyB (w : World) (b : Nat) (T : TypeId) : Prop := ∃ arr fr, w.heap[b]? = some (.cells arr T fr)

theorem TyB.upd {w w' : World} {b : Nat} {T : TypeId} {F : List Nat} (h : TyB w b T) (u : Upd F w w') (hb : b ∉ F) : TyB w' b T := by
  obtain ⟨arr, fr, h⟩ := h
  exact ⟨arr, fr, by rw [u.blk _ (Array.getElem?_eq_some_iff.1 h).1 hb]; exact h⟩

theorem New_ruleT {w : World} {arr : Array Value} {T : TypeId} {K : Nat → World → Prop}
    (hK : ∀ b w', b = w.heap.size → Upd [] w w' → Blk w' b arr → TyB w' b T → K b w') : New w (.cells arr T) K := by
  refine hK _ _ rfl (push_upd w _) ⟨T, (0, 0), ?_, .inl (Nat.le_refl _)⟩ ⟨arr, (0, 0), ?_⟩
  · show (w.heap.push _)[_]? = _
    simp
  · show (w.heap.push _)[_]? = _
    simp

theorem St_ruleT {w : World} {b o : Nat} {arr : Array Value} {v : Value} {K : World → Prop} (h : Blk w b arr) (ho : o < arr.size) (hv : v.oneCell' = true)
    (hK : ∀ w', Upd [b] w w' → Blk w' b (arr.setIfInBounds o v) → (∀ k E, TyB w k E → TyB w' k E) → K w') : St w ⟨b, o, none⟩ v K :=
  ⟨hv, ⟨arr[o], by rw [h.cell]; simp [ho]⟩, h.frozen ho, hK _ (setCell_upd w b o v) (h.set o v) (fun _ _ h => setCell_ty h)⟩

/-- A builder, and what it holds. -/
def BuAt (w : World) (b : Nat) (l : List UInt8) (F : List Nat) : Prop :=
  ∃ self p n c G, Blk w b #[self, .slice p n c] ∧ TyB w b 76 ∧ (self = .pointer none ∨ self = .pointer (some ⟨b, 0, none⟩)) ∧ SlAt w 1 p n c (bc l) G ∧ TyAt w p 5 ∧ F = b :: G ∧ b ∉ G

section
variable {w : World} {b : Nat} {l : List UInt8} {F : List Nat}

theorem BuAt.inn (h : BuAt w b l F) : In F w := by
  obtain ⟨self, p, n, c, G, hb, _, _, hs, _, rfl, _⟩ := h
  intro k hk
  rcases List.mem_cons.1 hk with rfl | hk
  · exact hb.lt
  · exact hs.inn k hk

theorem TyAt_blk {p : Option Addr} {n c : Nat} {cs : List Value} {G : List Nat} (hs : SlAt w 1 p n c cs G) : ∀ x, p = some x → x.block ∈ G := by
  intro x hx
  rcases hs.2.2 with ⟨h, _⟩ | ⟨b, off, arr, h, rfl, _⟩
  · rw [h] at hx; cases hx
  · rw [h] at hx; cases hx; simp

theorem BuAt.upd {w' : World} {G : List Nat} (h : BuAt w b l F) (u : Upd G w w') (hd : Dis F G) : BuAt w' b l F := by
  obtain ⟨self, p, n, c, H, hb, ht, hself, hs, hty, rfl, hn⟩ := h
  exact ⟨self, p, n, c, H, hb.upd u (hd b (by simp)), ht.upd u (hd b (by simp)), hself, hs.upd u (fun k hk => hd k (by simp [hk])), hty.upd u (fun x hx => hd _ (by simp [TyAt_blk hs x hx])), rfl, hn⟩

/-- copyCheck. -/
theorem cc_ok {self : Value} {p : Option Addr} {n c : Nat} {K : World → Prop} (hb : Blk w b #[self, .slice p n c]) (ht : TyB w b 76) (hself : self = .pointer none ∨ self = .pointer (some ⟨b, 0, none⟩))
    (hK : ∀ w', Blk w' b #[.pointer (some ⟨b, 0, none⟩), .slice p n c] → TyB w' b 76 → Upd [b] w w' → K w') : C_strings_Builder_copyCheck (some ⟨b, 0, none⟩) w K := by
  rcases hself with rfl | rfl
  · have hsh : w.shape? b = some (76, 2) := by
      obtain ⟨T, fz, h1, _⟩ := hb
      obtain ⟨arr, fr, h2⟩ := ht
      rw [h1] at h2
      cases h2
      simp [World.shape?, h1]
    refine Calls.mono (copyCheck_fresh b w (by rw [hb.cell]; rfl) hsh (hb.frozen (by simp))) fun e w' ⟨he, hw⟩ => ⟨he, ?_⟩
    subst hw
    exact hK _ (by simpa using hb.set 0 (.pointer (some ⟨b, 0, none⟩))) (setCell_ty ht) (setCell_upd w b 0 _)
  · refine Calls.mono (copyCheck_used b w (by rw [hb.cell]; rfl)) fun e w' ⟨he, hw⟩ => ⟨he, ?_⟩
    subst hw
    exact hK _ hb ht (Upd.refl _ _)

theorem BWriteString_ok {s : ByteArray} {K : Int → Value → World → Prop} (h : BuAt w b l F) (hl : l.length + s.size < 2 ^ 45)
    (hK : ∀ w' F', BuAt w' b (l ++ s.data.toList) F' → Upd F w w' → Sub F' F w → K s.size .nilIface w') : C_strings_Builder_WriteString (some ⟨b, 0, none⟩) s w K := by
  obtain ⟨self, p, n, c, G, hb, ht, hself, hs, hty, rfl, hn⟩ := h
  have hln : n = l.length := by have := hs.1; rw [bc_len] at this; omega
  apply C_strings_Builder_WriteString.of
  unfold F_strings_Builder_WriteString
  refine cc_ok hb ht hself fun w1 hb1 ht1 u1 => ?_
  have hGb : Dis G [b] := fun k hk hx => by simp at hx; subst hx; exact hn hk
  have hs1 := hs.upd u1 hGb
  have hty1 := hty.upd u1 (fun x hx hm => by simp at hm; have := TyAt_blk hs x hx; rw [hm] at this; exact hn this)
  simp only [NN_some, addN, drw_cell, drw_heap, exS, exI, exB, exP, exM, exStr, exV, a0, a1, a2, a3, a4, a5, a6, a7, a8, a9, a10, a11, a12, a13, maxI_eq, Nat.zero_add, Nat.add_zero, Nat.mul_one, Option.isNone_some, Option.isNone_none, hb1.cell]
  refine AppS_ty (hE := eS_28) rfl hs1 hty1 (by omega) fun p' c' F' w2 hs2 u2 s2 hty2 => ?_
  rw [← bc_append] at hs2
  have hb2 := hb1.upd u2 hn
  have ht2 := ht1.upd u2 hn
  have hbF : b ∉ F' := fun hx => (s2 b hx).elim hn (fun h => by have := hb1.lt; omega)
  refine St_ruleT hb2 (by simp) rfl fun w3 u3 hb3 t3 => hK w3 (b :: F') ⟨_, p', n + s.size, c', F', by simpa using hb3, t3 _ _ ht2, .inr rfl, hs2.upd u3 (fun k hk hx => by simp at hx; subst hx; exact hbF hk), fun x hx => ⟨(hty2 x hx).1, t3 _ _ (hty2 x hx).2⟩, rfl, hbF⟩ ?_ ?_
  · exact (u1.mono (by intro k hk; simp at hk; simp [hk])).both ((u2.mono (by intro k hk; exact .inl (by simp [hk]))).both (u3.mono (by intro k hk; simp at hk; simp [hk])))
  · intro k hk
    rcases List.mem_cons.1 hk with rfl | hk
    · simp
    · exact ((s2.old u1.size) k hk).imp (by intro h; simp [h]) id

theorem BWriteByte_ok {x : UInt8} {K : Value → World → Prop} (h : BuAt w b l F) (hl : l.length < 2 ^ 45)
    (hK : ∀ w' F', BuAt w' b (l ++ [x]) F' → Upd F w w' → Sub F' F w → K .nilIface w') : C_strings_Builder_WriteByte (some ⟨b, 0, none⟩) (x.toNat : Int) w K := by
  obtain ⟨self, p, n, c, G, hb, ht, hself, hs, hty, rfl, hn⟩ := h
  have hln : n = l.length := by have := hs.1; rw [bc_len] at this; omega
  apply C_strings_Builder_WriteByte.of
  unfold F_strings_Builder_WriteByte
  refine cc_ok hb ht hself fun w1 hb1 ht1 u1 => ?_
  have hGb : Dis G [b] := fun k hk hx => by simp at hx; subst hx; exact hn hk
  have hs1 := hs.upd u1 hGb
  have hty1 := hty.upd u1 (fun x hx hm => by simp at hm; have := TyAt_blk hs x hx; rw [hm] at this; exact hn this)
  simp only [NN_some, addN, drw_cell, drw_heap, exS, exI, exB, exP, exM, exStr, exV, a0, a1, a2, a3, a4, a5, a6, a7, a8, a9, a10, a11, a12, a13, maxI_eq, Nat.zero_add, Nat.add_zero, Nat.mul_one, Option.isNone_some, Option.isNone_none, hb1.cell]
  refine BSl_rule (cs := bc [x]) eS_28 (fill_one rfl) (by rfl) (by omega) fun w1' hsx u1' => ?_
  refine AppR_ty (hE := eS_28) rfl (hs1.upd u1' (by intro k _ h; cases h)) (hty1.upd u1' (by simp)) hsx.rd (bc_one _) (by omega) fun p' c' F' w2 hs2 u2 s2 hty2 => ?_
  rw [← bc_append] at hs2
  have hb1' := hb1.upd u1' (by simp)
  have hb2 := hb1'.upd u2 hn
  have ht2 := (ht1.upd u1' (by simp)).upd u2 hn
  have hbF : b ∉ F' := fun hx => (s2 b hx).elim hn (fun h => by have := hb1'.lt; omega)
  refine St_ruleT hb2 (by simp) rfl fun w3 u3 hb3 t3 => hK w3 (b :: F') ⟨_, p', n + 1, c', F', by simpa using hb3, t3 _ _ ht2, .inr rfl, hs2.upd u3 (fun k hk hx => by simp at hx; subst hx; exact hbF hk), fun x hx => ⟨(hty2 x hx).1, t3 _ _ (hty2 x hx).2⟩, rfl, hbF⟩ ?_ ?_
  · exact ((u1.mono (by intro k hk; simp at hk; simp [hk])).before u1').both ((u2.mono (by intro k hk; exact .inl (by simp [hk]))).both (u3.mono (by intro k hk; simp at hk; simp [hk])))
  · intro k hk
    rcases List.mem_cons.1 hk with rfl | hk
    · simp
    · exact ((s2.old (u1.before u1').size) k hk).imp (by intro h; simp [h]) id

theorem freeze_upd (w : World) (g n : Nat) : Upd [g] w (w.freeze ⟨g, 0, none⟩ n) := by
  unfold World.freeze
  split
  · exact Upd.refl _ _
  · refine ⟨rfl, rfl, rfl, by simp, fun k _ hk => ?_⟩
    simp only [List.mem_singleton] at hk
    simp only [Array.getElem?_modify]
    rw [if_neg (fun e => hk e.symm)]

theorem BString_ok {K : ByteArray → World → Prop} (h : BuAt w b l F) (h0 : l ≠ []) (hl : l.length < 2 ^ 45) (hK : ∀ w', Upd F w w' → K ⟨l.toArray⟩ w') : C_strings_Builder_String (some ⟨b, 0, none⟩) w K := by
  obtain ⟨self, p, n, c, G, hb, ht, hself, hs, hty, rfl, hn⟩ := h
  have hln : n = l.length := by have := hs.1; rw [bc_len] at this; omega
  subst hln
  rcases hs.2.2 with ⟨hp, hc, _⟩ | ⟨g, off, arr, hp, hG, hbg, hsz, hcc⟩
  · have := hs.2.1
    have : l.length = 0 := by omega
    exact absurd (List.length_eq_zero_iff.1 this) h0
  · obtain ⟨hoff, cur, fz, hcur⟩ := hty _ hp
    simp only at hoff hcur
    subst hoff
    have hcsz : cur = arr := by
      obtain ⟨T, fr, h1, _⟩ := hbg
      rw [h1] at hcur; cases hcur; rfl
    have hle := hs.2.1
    refine Calls.mono (String_raw b g c l w h0 (by rw [hb.cell, hp]; rfl) hs.2.1 (by omega) ⟨cur, fz, hcur, by rw [hcsz]; omega⟩ (fun j x hj => ?_)) fun e w' ⟨he, hw⟩ => ⟨_, he, hK w' ?_⟩
    · have hjl := (List.getElem?_eq_some_iff.1 hj).1
      rw [addN, hbg.cell, hcc j (by omega)]
      simp [bc, hj]
    · rw [hw]
      exact (drw_upd w).after ((freeze_upd (drw w) g l.length).mono (by intro k hk; simp at hk; subst hk; exact .inl (by rw [hG]; simp)))
end

end Go.Proofs.YtggbmakfifllnaaDoor
