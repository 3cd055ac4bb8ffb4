/- A stack of environments and choices: Turn, Push, Choice, Last; slots that are set, environments that are trimmed. -/
import Derived.Test.YtdmjbkpibgfeiaaFrame4
namespace Go.Proofs.Ytdmjbkpibgfeiaa
open Go Go.D Go.Proofs
set_option linter.unusedSimpArgs false
set_option linter.unusedVariables false
set_option maxRecDepth 8000

section
variable {w : World} {d : FrD} {cur : List Int} {lev : List Level}

/-! ## Set, Trim: the levels stay -/

theorem wordOf_set {W : List Int} {i : Nat} {v j : Int} (h : j ≠ i) : wordOf (W.set i v) j = wordOf W j :=
  wordOf_eq fun h0 => List.getElem?_set_ne (by omega)

theorem Ok.set (ok : Ok d cur lev) {i x : Int} (hi : d.has i) : Ok { d with W := d.W.set (d.env + 4 + i - 1).toNat x } cur lev ∧ ({ d with W := d.W.set (d.env + 4 + i - 1).toNat x } : FrD).top = d.top := by
  obtain ⟨h0, h1, h2⟩ := hi
  obtain ⟨xs, hc, hs, hch⟩ := ok.cons h0
  have hmem : d.env ∈ cur := by rw [hc]; simp
  -- no header is there
  have ap : ∀ z ∈ ((cur, d.env, d.top) :: lev : List Level), ∀ y ∈ z.1, wordOf (d.W.set (d.env + 4 + i - 1).toNat x) y = wordOf d.W y ∧ wordOf (d.W.set (d.env + 4 + i - 1).toNat x) (y + 3) = wordOf d.W (y + 3) := by
    intro z hz y hy
    have hy0 : 0 ≤ sizeOf' d.W y ∧ 0 ≤ y := by
      have := ok.lv.le (t := d.top) (by intro q hq; simp at hq; subst hq; exact Int.le_refl _) z hz y hy
      exact ⟨this.2.1, this.1⟩
    have h5 := ok.lv.apart z hz y hy (cur, d.env, d.top) (by simp) d.env hmem
    refine ⟨wordOf_set ?_, wordOf_set ?_⟩ <;> (rcases h5 with h | h | h <;> omega)
  have hlv := ok.lv.turn ap
  have hs2 : sizeOf' (d.W.set (d.env + 4 + i - 1).toNat x) d.env = sizeOf' d.W d.env := (ap (cur, d.env, d.top) (by simp) d.env hmem).2
  have e : ({ d with W := d.W.set (d.env + 4 + i - 1).toNat x } : FrD).top = d.top := by
    have e1 : ({ d with W := d.W.set (d.env + 4 + i - 1).toNat x } : FrD).top = if d.env < 0 then d.kept else max d.kept (d.env + 4 + sizeOf' (d.W.set (d.env + 4 + i - 1).toNat x) d.env) := rfl
    rw [e1, hs2]; rfl
  refine ⟨⟨ok.wl, ?_, ok.ll, ok.lim, ?_, ?_, ok.tops⟩, e⟩
  · simp; exact ok.Wl
  · rw [e]; simp; exact ok.topl
  · rw [e]; exact hlv

theorem wordOf_setW {W : List Int} {i n j : Int} (h : j ≠ i) : wordOf (setW W i n) j = wordOf W j :=
  wordOf_eq fun h0 => setW_ne (by omega)

def FrD.trimmed (d : FrD) (n : Int) : FrD := { d with W := setW d.W (d.env + 3) n }

theorem Ok.trim (ok : Ok d cur lev) {n : Int} (hn : d.trims n) : Ok (d.trimmed n) cur lev ∧ (d.trimmed n).top ≤ d.top ∧ sizeOf' (d.trimmed n).W d.env = n := by
  obtain ⟨h0, h1, h2, h3⟩ := hn
  obtain ⟨xs, hc, hs, hch⟩ := ok.cons h1
  have ht := ok.topl
  have hw := ok.Wl
  have hwl := ok.wl
  have het := ok.envtop h1
  obtain ⟨l1, l2, l3, l4⟩ := ok.lv
  have hsz : sizeOf' (setW d.W (d.env + 3) n) d.env = n := by
    have := wordOf_at (setW_self (W := d.W) (i := d.env + 3) (n := n) (by omega) (by omega))
    rw [Int.toNat_of_nonneg (by omega)] at this
    unfold sizeOf'
    rw [this, i64u64 (by omega) (by omega)]
  have hbel : ∀ z ∈ lev, ∀ y ∈ z.1, wordOf (setW d.W (d.env + 3) n) y = wordOf d.W y ∧ wordOf (setW d.W (d.env + 3) n) (y + 3) = wordOf d.W (y + 3) := by
    intro z hz y hy
    obtain ⟨a, b, c⟩ := ok.below z hz y hy
    exact ⟨wordOf_setW (by omega), wordOf_setW (by omega)⟩
  have hk0 := ok.kept0
  have e : (d.trimmed n).top = max d.kept (d.env + 4 + n) := by
    have e1 : (d.trimmed n).top = if d.env < 0 then d.kept else max d.kept (d.env + 4 + sizeOf' (setW d.W (d.env + 3) n) d.env) := rfl
    rw [e1, hsz, if_neg (by omega)]
  have e' : d.top = max d.kept (d.env + 4 + sizeOf' d.W d.env) := by unfold FrD.top; rw [if_neg (by omega)]
  refine ⟨⟨ok.wl, ?_, ok.ll, ok.lim, ?_, ⟨?_, ?_, ?_, l4.turn hbel⟩, ok.tops⟩, by omega, hsz⟩
  · show ((setW d.W (d.env + 3) n).length : Int) ≤ d.wlim
    rw [setW_len]; exact hw
  · show _ ≤ ((setW d.W (d.env + 3) n).length : Int)
    rw [setW_len]; omega
  · show ChainL (setW d.W (d.env + 3) n) cur d.env _
    rw [hc]
    have hp : prevOf (setW d.W (d.env + 3) n) d.env = prevOf d.W d.env := by unfold prevOf; rw [wordOf_setW (by omega)]
    refine ⟨rfl, h1, by rw [hsz]; exact h2, by rw [hsz]; show d.env + 4 + n ≤ (d.trimmed n).top; rw [e]; omega, ?_⟩
    rw [hp]
    refine hch.turn fun y hy => ?_
    obtain ⟨a, b, c⟩ := hch.mem y hy
    exact ⟨wordOf_setW (by omega), wordOf_setW (by omega)⟩
  · show 0 ≤ (d.trimmed n).top
    rw [e]; omega
  · intro y hy
    obtain ⟨a, b⟩ := l3 y hy
    refine ⟨?_, b⟩
    have : y.2.2 = d.kept := by rw [kept_lev ok.tops, hy]; simp
    show y.2.2 ≤ (d.trimmed n).top
    rw [this, e]; omega

/-! ## Turn -/

theorem Turn_ok {next : Int} {K : Int → World → Prop} (h : Fr w d) (hl : d.l.length < 2 ^ 40) (h0 : 0 < d.l.length)
    (hK : ∀ w' y, y.1 = (d.l[d.l.length - 1]'(by omega)).1 → y.2 = { (d.l[d.l.length - 1]'(by omega)).2 with c5 := next } → Fr w' { d with l := d.l.set (d.l.length - 1) y } → Upd d.F w w' → K 0 w') : C_frame_Stack_Turn d.a next w K := by
  apply C_frame_Stack_Turn.of
  unfold F_frame_Stack_Turn F_frame_Stack_Turn_k1
  have hn := h.len
  refine last_ok h hl h0 fun b off w1 hp hG f1 u1 => ifT rfl ?_
  simp only [NN_some, addN, drw_cell, drw_heap, exS, exI, exB, exP, exM, exStr, exV, a0, a1, a2, a3, a4, a5, a6, a7, a8, a9, a10, a11, a12, a13, maxI_eq, Nat.zero_add, Nat.add_zero, Nat.mul_one, Option.isNone_some, Option.isNone_none]
  have e1 : (some ⟨b, off, none⟩ : Option Addr) = some ⟨b, off, none⟩ := rfl
  rw [Nat.add_assoc]
  refine St_elem f1.row hp (k := (d.l.length - 1) * 9 + 5) (by omega) rfl fun w2 hs2 u2 => ?_
  have hs3 := flat_set chCells_len (l := d.l) (i := d.l.length - 1) (j := 5) (v := .int .i64 next) (y := ((d.l[d.l.length - 1]'(by omega)).1, { (d.l[d.l.length - 1]'(by omega)).2 with c5 := next })) (by omega) (by omega) rfl
  rw [hs3] at hs2
  refine hK w2 ((d.l[d.l.length - 1]'(by omega)).1, { (d.l[d.l.length - 1]'(by omega)).2 with c5 := next }) rfl rfl ⟨f1.blk.upd u2 h.bG, f1.room.upd u2 h.WG, hs2, ?_, h.bW, h.bG, h.bH, h.WG, h.WH, h.GH⟩ (u1.after (u2.mono (by intro k hk; simp [FrD.F, hk])))
  exact ArgsAt.set (d.l.length - 1) (by omega) (f1.args.upd u2 h.GH.symm) rfl rfl

theorem Turn_no {next : Int} {K : Int → World → Prop} (h : Fr w d) (h0 : d.l.length = 0) (hK : K 4 w) : C_frame_Stack_Turn d.a next w K := by
  apply C_frame_Stack_Turn.of
  unfold F_frame_Stack_Turn F_frame_Stack_Turn_k1
  exact last_no h h0 (ifF rfl hK)

/-! ## Push -/

/-- A row of words that came in, copied. -/
theorem CloneRd_ok {w : World} {p : Option Addr} {n c : Nat} {L : List Int} {K : Option Addr → Nat → Nat → World → Prop} (hs : ∃ G, SlAt w 1 p n c (L.map (.int .u64)) G) (hl : L.length < 2 ^ 40)
    (hK : ∀ p' n' c' F' w', SlAt w' 1 p' n' c' (L.map (.int .u64)) F' → Upd [] w w' → Since F' w → K p' n' c' w') : C_slices_Clone p n c w K := by
  obtain ⟨G, hs⟩ := hs
  exact Clone_ok hs hl hK

/-- What is pushed. -/
def pushed (d : FrD) (c : Ch) : Ch := { c with env := d.env, top := d.top }

/-- What Clone asks of the row that came in. -/
def Cloned (w : World) (p : Option Addr) (n c : Nat) (L : List Int) : Prop :=
  ∀ w1, Upd [] w w1 → ∀ K : Option Addr → Nat → Nat → World → Prop, (∀ p' n' c' F' w', SlAt w' 1 p' n' c' (L.map (.int .u64)) F' → Upd [] w1 w' → Since F' w1 → K p' n' c' w') → C_slices_Clone p n c w1 K

theorem Cloned.own {w : World} {p : Option Addr} {n c : Nat} {L : List Int} {G : List Nat} (hs : SlAt w 1 p n c (L.map (.int .u64)) G) (hl : L.length < 2 ^ 40) : Cloned w p n c L :=
  fun w1 u K hK => Clone_ok (hs.upd u (by intro k _ h; cases h)) hl hK

theorem Cloned.none (w : World) (n c : Nat) (hn : n = 0) : Cloned w none n c [] := fun w1 u K hK => by
  apply C_slices_Clone.of
  unfold F_slices_Clone
  exact ifT rfl (hK _ _ _ [] w1 (SlAt.nil _ _) (Upd.refl _ _) (by intro k hk; cases hk))

def FrD.push (d : FrD) (x : Sl × Ch) (p : Option Addr) (c : Nat) (G H : List Nat) : FrD := { d with l := d.l ++ [x], n := d.l.length + 1, p := p, c := c, G := G, H := H }

theorem Push_ok' {ch : Ch} {ap : Option Addr} {an ac : Nat} {x7 x8 : Int} {K : Int → World → Prop} (h : Fr w d) (ok : Ok d cur lev) (hroom : d.l.length < d.lim) (hc : Cloned w ap an ac ch.args)
    (hK : ∀ w' x p c G H, x.2 = pushed d ch → Fr w' (d.push x p c G H) → Upd d.F w w' → Sub (d.push x p c G H).F d.F w → K 0 w') : C_frame_Stack_Push d.a ch.kind ap an ac ch.c2 ch.c3 ch.c4 ch.c5 ch.c6 x7 x8 w K := by
  apply C_frame_Stack_Push.of
  unfold F_frame_Stack_Push
  have hn := h.len
  have h40 := ok.len40
  refine New_rule fun r w1 hr u1 hb1 => ?_
  have f1 := h.keep u1
  have hrF : r ∉ d.F := fun hx => by have := h.inn _ hx; omega
  refine made_ok f1 (ifF rfl ?_)
  simp only [FrD.a, NN_some, addN, drw_cell, drw_heap, exS, exI, exB, exP, exM, exStr, exV, a0, a1, a2, a3, a4, a5, a6, a7, a8, a9, a10, a11, a12, a13, maxI_eq, Nat.zero_add, Nat.add_zero, Nat.mul_one, Option.isNone_some, Option.isNone_none, f1.blk.cell, hb1.cell]
  refine ifF (by simp; omega) (hc (drw w1) (u1.after (drw_upd w1)) _ fun p' n' c' A w2 hs2 u2 nA => ?_)
  have hb2 := hb1.drw.upd u2 (by simp)
  refine St_acc (Upd.refl _ _) hb2 (by simp) rfl fun w3 u3 hb3 => ?_
  simp at hb3
  have U3 : Upd [] w w3 := ((u1.after (drw_upd w1)).after u2).fresh u3 (by intro k hk; simp at hk; omega)
  have f3 := (h.keep U3).keep (drw_upd w3)
  have rA : r ∉ A := fun hx => by have := hb1.lt; have h5 : w1.heap.size ≤ r := by simpa using nA r hx
                                  omega
  have hs3 := hs2.upd u3 (by intro k hk; simp; rintro rfl; exact rA hk)
  have hA : ∀ k ∈ A, w.heap.size ≤ k := fun k hk => by have h5 : w1.heap.size ≤ k := by simpa using nA k hk
                                                       have := u1.size; omega
  simp only [NN_some, addN, drw_cell, drw_heap, exS, exI, exB, exP, exM, exStr, exV, a0, a1, a2, a3, a4, a5, a6, a7, a8, a9, a10, a11, a12, a13, maxI_eq, Nat.zero_add, Nat.add_zero, Nat.mul_one, Option.isNone_some, Option.isNone_none, f3.blk.cell, (h.keep U3).blk.cell]
  refine top_ok f3 ok fun w4 f4 u4 => ?_
  have hb4 := hb3.drw.upd u4 (by simp)
  simp only [NN_some, addN, drw_cell, drw_heap, exS, exI, exB, exP, exM, exStr, exV, a0, a1, a2, a3, a4, a5, a6, a7, a8, a9, a10, a11, a12, a13, maxI_eq, Nat.zero_add, Nat.add_zero, Nat.mul_one, Option.isNone_some, Option.isNone_none, f4.blk.cell, (h.keep U3).blk.cell]
  refine ⟨trivial, St_acc (Upd.refl _ _) hb4 (by simp) rfl fun w5 u5 hb5 => St_acc u5 hb5 (by simp) rfl fun w6 u6 hb6 => ?_⟩
  simp at hb6
  have U6 : Upd [] w w6 := ((U3.after (drw_upd w3)).after u4).fresh u6 (by intro k hk; simp at hk; omega)
  have f6 := h.keep U6
  have hs6 := (hs3.upd ((drw_upd w3).after u4) (by intro k _ h; cases h)).upd u6 (by intro k hk; simp; rintro rfl; exact rA hk)
  simp only [NN_some, addN, drw_cell, drw_heap, exS, exI, exB, exP, exM, exStr, exV, a0, a1, a2, a3, a4, a5, a6, a7, a8, a9, a10, a11, a12, a13, maxI_eq, Nat.zero_add, Nat.add_zero, Nat.mul_one, Option.isNone_some, Option.isNone_none, f6.blk.cell, hb6.cell]
  refine BSlL_rule eS_68 [.agg (chCells ((p', n', c'), pushed d ch)).toArray] (by rfl) (by simp [Value.cells, chCells]) (by rfl) (by omega) fun w7 hs7 u7 => ?_
  have U7 : Upd [] w w7 := (U6.after (drw_upd w6)).after u7
  have f7 := h.keep U7
  simp only [NN_some, addN, drw_cell, drw_heap, exS, exI, exB, exP, exM, exStr, exV, a0, a1, a2, a3, a4, a5, a6, a7, a8, a9, a10, a11, a12, a13, maxI_eq, Nat.zero_add, Nat.add_zero, Nat.mul_one, Option.isNone_some, Option.isNone_none, f6.blk.cell, f7.blk.cell]
  refine ⟨trivial, ?_⟩
  have e7 : ([Value.agg (chCells ((p', n', c'), pushed d ch)).toArray].flatMap fun v => v.cells.toList) = [((p', n', c'), pushed d ch)].flatMap chCells := by simp [Value.cells]
  rw [e7] at hs7
  refine App_rule (hE := eS_68) f7.row hs7 (by simp [chCells, Value.oneCell']) (by have := ok.lim; have := ok.ll; omega) fun p8 c8 G8 w8 hs8 u8 hsub => ?_
  have hG8 : Sub G8 d.G w := hsub.old U7.size
  have hbG8 : d.b ∉ G8 := fun hx => by
    rcases hG8 _ hx with h1 | h1
    · exact h.bG h1
    · have := h.blk.lt; omega
  have U8 : Upd d.G w w8 := U7.after u8
  have f8 := h.blk.upd U8 h.bG
  refine St_rule f8 (by simp) rfl fun w9 u9 hb9 => ?_
  simp at hb9
  have U9 : Upd (d.b :: d.G) w w9 := U8.trans u9 (by intro k hk; simp [hk]) (by intro k hk; simp at hk; simp [hk])
  have hA9 : SlAt w9 1 p' n' c' (ch.args.map (.int .u64)) A := by
    have a := hs6.upd ((drw_upd w6).after u7) (by intro k _ h; cases h)
    refine (a.upd u8 fun k hk hg => ?_).upd u9 fun k hk => ?_
    · have := hA k hk; have := h.row.inn k hg; omega
    · simp; rintro rfl; have := hA _ hk; have := h.blk.lt; omega
  have hargs9 : ArgsAt w9 d.l d.H := h.args.upd U9 (by
    intro k hk hx
    rcases List.mem_cons.1 hx with rfl | hx
    · exact h.bH hk
    · exact h.GH k hx hk)
  obtain ⟨H', hA', hH'⟩ := ArgsAt.push (x := ((p', n', c'), pushed d ch)) hA9 hargs9 (by
    intro k hk ha; have := hA k ha; have := h.args.inn k hk; omega)
  have hG8A : Dis G8 A := by
    intro k hk ha
    rcases hsub k hk with h1 | h1
    · have := hA k ha; have := h.row.inn k h1; omega
    · have := (hs6.upd ((drw_upd w6).after u7) (by intro k _ h; cases h)).inn k ha; omega
  refine hK w9 ((p', n', c'), pushed d ch) p8 c8 G8 H' rfl ⟨?_, h.room.upd U9 ?_, ?_, hA', h.bW, hbG8, ?_, ?_, ?_, ?_⟩ (U9.mono (by intro k hk; simp at hk; rcases hk with rfl | hk <;> simp [FrD.F, *])) ?_
  · have e : d.n + 1 = d.l.length + 1 := by omega
    rw [e] at hb9; exact hb9
  · intro k hk hx
    rcases List.mem_cons.1 hx with rfl | hx
    · exact h.bW hk
    · exact h.WG k hk hx
  · have e : d.n + 1 = d.l.length + 1 := by omega
    have := hs8.upd u9 (by intro k hk; simp; rintro rfl; exact hbG8 hk)
    rw [e, ← List.flatMap_append] at this
    exact this
  · intro hx
    rcases (hH' _).1 hx with h1 | h1
    · exact h.bH h1
    · have h5 : w.heap.size ≤ d.b := hA _ h1
      have := h.blk.lt; omega
  · exact fun k hk hg => by
      rcases hG8 k hg with h1 | h1
      · exact h.WG k hk h1
      · have := h.room.inn k hk; omega
  · intro k hk hx
    rcases (hH' _).1 hx with h1 | h1
    · exact h.WH k hk h1
    · have := hA _ h1; have := h.room.inn k hk; omega
  · intro k hk hx
    rcases (hH' _).1 hx with h1 | h1
    · rcases hG8 k hk with h2 | h2
      · exact h.GH k h2 h1
      · have := h.args.inn k h1; omega
    · exact hG8A k hk h1
  · intro k hk
    simp only [FrD.F, FrD.push, List.mem_cons, List.mem_append] at hk ⊢
    rcases hk with rfl | hk | hk | hk
    · simp
    · simp [hk]
    · rcases hG8 k hk with h1 | h1
      · simp [h1]
      · exact .inr h1
    · rcases (hH' _).1 hk with h1 | h1
      · simp [h1]
      · exact .inr (hA k h1)

theorem Push_full' {c0 c2 c3 c4 c5 c6 c7 c8 : Int} {ap : Option Addr} {an ac : Nat} {K : Int → World → Prop} (h : Fr w d) (hroom : d.lim ≤ d.l.length) (hK : ∀ w', Fr w' d → Upd [] w w' → K 2 w') : C_frame_Stack_Push d.a c0 ap an ac c2 c3 c4 c5 c6 c7 c8 w K := by
  apply C_frame_Stack_Push.of
  unfold F_frame_Stack_Push
  have hn := h.len
  refine New_rule fun r w1 hr u1 hb1 => ?_
  have f1 := h.keep u1
  refine made_ok f1 (ifF rfl ?_)
  simp only [FrD.a, NN_some, addN, drw_cell, drw_heap, exS, exI, exB, exP, exM, exStr, exV, a0, a1, a2, a3, a4, a5, a6, a7, a8, a9, a10, a11, a12, a13, maxI_eq, Nat.zero_add, Nat.add_zero, Nat.mul_one, Option.isNone_some, Option.isNone_none, f1.blk.cell, hb1.cell]
  exact ifT (by simp; omega) (hK _ (f1.keep (drw_upd w1)) (u1.after (drw_upd w1)))

theorem Ok.push (ok : Ok d cur lev) {x : Sl × Ch} {ch : Ch} (hx : x.2 = pushed d ch) {p : Option Addr} {c : Nat} {G H : List Nat} (hroom : d.l.length < d.lim) : Ok (d.push x p c G H) cur ((cur, d.env, d.top) :: lev) ∧ (d.push x p c G H).top = d.top ∧ (d.push x p c G H).kept = d.top := by
  have hk : (d.push x p c G H).kept = d.top := by
    show (match (d.l ++ [x]).getLast? with | some x => x.2.top | none => 0) = d.top
    rw [List.getLast?_concat]
    show x.2.top = d.top
    rw [hx]; rfl
  have e : (d.push x p c G H).top = d.top := by
    have e1 : (d.push x p c G H).top = if d.env < 0 then (d.push x p c G H).kept else max (d.push x p c G H).kept (d.env + 4 + sizeOf' d.W d.env) := rfl
    rw [e1, hk]
    split
    · rfl
    · have := ok.envtop (by omega); omega
  refine ⟨⟨ok.wl, ok.Wl, ?_, ok.lim, by rw [e]; exact ok.topl, ⟨?_, by rw [e]; exact ok.top0, ?_, ok.lv⟩, ?_⟩, e, hk⟩
  · show ((d.l ++ [x]).length : Int) ≤ d.lim
    simp; omega
  · rw [e]; exact ok.lv.1
  · intro y hy
    simp at hy; subst hy
    exact ⟨by rw [e]; exact Int.le_refl _, fun x hx _ => hx⟩
  · show _ = (d.l ++ [x]).reverse.map _
    rw [List.reverse_append, List.map_append, List.map_cons, ok.tops]
    simp [hx, pushed, FrD.tops]

end

end Go.Proofs.Ytdmjbkpibgfeiaa
