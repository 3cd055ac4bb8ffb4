/- A stack of environments and choices: what it is in memory; its small functions. -/
import Derived.Test.YtdmjbkpibgfeiaaRoom2
import Derived.Test.YtdmjbkpibgfeiaaOwn12
namespace Go.Proofs.Ytdmjbkpibgfeiaa
open Go Go.D Go.Proofs
set_option linter.unusedSimpArgs false
set_option linter.unusedVariables false
set_option maxRecDepth 8000

/-- A choice's words; its arguments. -/
structure Ch where
  kind : Int
  c2 : Int
  c3 : Int
  c4 : Int
  c5 : Int
  c6 : Int
  env : Int
  top : Int
  args : List Int

abbrev Sl := Option Addr × Nat × Nat

def chCells (x : Sl × Ch) : List Value := [.int .i64 x.2.kind, .slice x.1.1 x.1.2.1 x.1.2.2, .int .i64 x.2.c2, .int .i64 x.2.c3, .int .i64 x.2.c4, .int .i64 x.2.c5, .int .i64 x.2.c6, .int .i64 x.2.env, .int .i64 x.2.top]

theorem chCells_len (x : Sl × Ch) : (chCells x).length = 9 := rfl

/-- The arguments of all choices, each in a row of its own. -/
def ArgsAt (w : World) : List (Sl × Ch) → List Nat → Prop
  | [], H => H = []
  | x :: r, H => ∃ H1 H2, SlAt w 1 x.1.1 x.1.2.1 x.1.2.2 (x.2.args.map (.int .u64)) H1 ∧ ArgsAt w r H2 ∧ H = H1 ++ H2 ∧ Dis H1 H2

theorem ArgsAt.upd {w w' : World} {F : List Nat} (u : Upd F w w') : ∀ {l : List (Sl × Ch)} {H : List Nat}, ArgsAt w l H → Dis H F → ArgsAt w' l H
  | [], _, h, _ => h
  | x :: r, H, ⟨H1, H2, h1, h2, hH, hd⟩, hF => by
    subst hH
    exact ⟨H1, H2, h1.upd u (fun k hk => hF k (by simp [hk])), h2.upd u (fun k hk => hF k (by simp [hk])), rfl, hd⟩

theorem ArgsAt.inn {w : World} : ∀ {l : List (Sl × Ch)} {H : List Nat}, ArgsAt w l H → In H w
  | [], _, h => by subst h; intro k hk; cases hk
  | x :: r, H, ⟨H1, H2, h1, h2, hH, hd⟩ => by
    subst hH
    intro k hk
    rcases List.mem_append.1 hk with h | h
    · exact h1.inn k h
    · exact h2.inn k h

theorem ArgsAt.push {w : World} {x : Sl × Ch} {H2 : List Nat} (hx : SlAt w 1 x.1.1 x.1.2.1 x.1.2.2 (x.2.args.map (.int .u64)) H2) : ∀ {l : List (Sl × Ch)} {H : List Nat}, ArgsAt w l H → Dis H H2 → ∃ H', ArgsAt w (l ++ [x]) H' ∧ ∀ k, k ∈ H' ↔ k ∈ H ∨ k ∈ H2
  | [], _, h, _ => by
    subst h
    exact ⟨H2, ⟨H2, [], hx, rfl, by simp, by intro k _ h; cases h⟩, by simp⟩
  | y :: r, H, ⟨A, B, h1, h2, hH, hd⟩, hdis => by
    subst hH
    obtain ⟨H', h3, h4⟩ := ArgsAt.push hx h2 (fun k hk => hdis k (by simp [hk]))
    refine ⟨A ++ H', ⟨A, H', h1, h3, rfl, fun k hk hk2 => ?_⟩, fun k => ?_⟩
    · rcases (h4 k).1 hk2 with h | h
      · exact hd k hk h
      · exact hdis k (by simp [hk]) h
    · simp [h4, or_assoc]

theorem ArgsAt.take {w : World} : ∀ {l : List (Sl × Ch)} {H : List Nat} (k : Nat), ArgsAt w l H → ∃ H', ArgsAt w (l.take k) H' ∧ ∀ x ∈ H', x ∈ H
  | [], H, k, h => ⟨H, by simpa using h, fun _ h => h⟩
  | x :: r, H, 0, h => ⟨[], by simp [ArgsAt], by intro x hx; cases hx⟩
  | x :: r, H, k + 1, ⟨H1, H2, h1, h2, hH, hd⟩ => by
    subst hH
    obtain ⟨H', h3, h4⟩ := ArgsAt.take k h2
    exact ⟨H1 ++ H', ⟨H1, H', h1, h3, rfl, fun y hy hy2 => hd y hy (h4 y hy2)⟩, by intro y hy; simp at hy ⊢; exact hy.imp id (h4 y)⟩

theorem ArgsAt.get {w : World} : ∀ {l : List (Sl × Ch)} {H : List Nat} (i : Nat) (hi : i < l.length), ArgsAt w l H → ∃ H1, SlAt w 1 l[i].1.1 l[i].1.2.1 l[i].1.2.2 (l[i].2.args.map (.int .u64)) H1 ∧ ∀ x ∈ H1, x ∈ H
  | x :: r, H, 0, _, ⟨H1, H2, h1, h2, hH, hd⟩ => ⟨H1, h1, by subst hH; intro y hy; simp [hy]⟩
  | x :: r, H, i + 1, hi, ⟨H1, H2, h1, h2, hH, hd⟩ => by
    obtain ⟨H', h3, h4⟩ := ArgsAt.get i (by simpa using hi) h2
    exact ⟨H', h3, by subst hH; intro y hy; simp [h4 y hy]⟩

/-- A choice's words turned, its arguments as they were. -/
theorem ArgsAt.set {w : World} {y : Sl × Ch} : ∀ {l : List (Sl × Ch)} {H : List Nat} (i : Nat) (hi : i < l.length), ArgsAt w l H → y.1 = l[i].1 → y.2.args = l[i].2.args → ArgsAt w (l.set i y) H
  | x :: r, H, 0, _, ⟨H1, H2, h1, h2, hH, hd⟩, e1, e2 => by
    simp only [List.getElem_cons_zero] at e1 e2
    exact ⟨H1, H2, by rw [e1, e2]; exact h1, h2, hH, hd⟩
  | x :: r, H, i + 1, hi, ⟨H1, H2, h1, h2, hH, hd⟩, e1, e2 => by
    simp only [List.getElem_cons_succ] at e1 e2
    exact ⟨H1, H2, h1, ArgsAt.set i (by simpa using hi) h2 e1 e2, hH, hd⟩

/-- A stack's parts. -/
structure FrD where
  b : Nat
  wp : Option Addr
  env : Int
  p : Option Addr
  n : Nat
  c : Nat
  lim : Int
  W : List Int
  wlim : Int
  most : Int
  FW : List Nat
  l : List (Sl × Ch)
  G : List Nat
  H : List Nat

def FrD.F (d : FrD) : List Nat := d.b :: (d.FW ++ (d.G ++ d.H))
def FrD.a (d : FrD) : Option Addr := some ⟨d.b, 0, none⟩
def FrD.cs (d : FrD) : List Ch := d.l.map (·.2)

structure Fr (w : World) (d : FrD) : Prop where
  blk : Blk w d.b #[.pointer d.wp, .int .i64 d.env, .slice d.p d.n d.c, .int .i64 d.lim]
  room : RoomAt w d.wp d.W d.wlim d.most d.FW
  row : SlAt w 9 d.p d.n d.c (d.l.flatMap chCells) d.G
  args : ArgsAt w d.l d.H
  bW : d.b ∉ d.FW
  bG : d.b ∉ d.G
  bH : d.b ∉ d.H
  WG : Dis d.FW d.G
  WH : Dis d.FW d.H
  GH : Dis d.G d.H

theorem Fr.len {w : World} {d : FrD} (h : Fr w d) : d.n = d.l.length := by
  have := h.row.1
  rw [flat_len chCells_len] at this
  omega

theorem Fr.wpn {w : World} {d : FrD} (h : Fr w d) : d.wp.isNone = false := by
  obtain ⟨b, p, n, c, G, hb, _⟩ := h.room
  rw [hb]; rfl

theorem Fr.inn {w : World} {d : FrD} (h : Fr w d) : In d.F w := by
  intro k hk
  simp only [FrD.F, List.mem_cons, List.mem_append] at hk
  rcases hk with rfl | hk | hk | hk
  · exact h.blk.lt
  · exact h.room.inn k hk
  · exact h.row.inn k hk
  · exact h.args.inn k hk

theorem Fr.upd {w w' : World} {d : FrD} {F : List Nat} (h : Fr w d) (u : Upd F w w') (hd : Dis d.F F) : Fr w' d :=
  ⟨h.blk.upd u (hd _ (by simp [FrD.F])), h.room.upd u (fun k hk => hd k (by simp [FrD.F, hk])), h.row.upd u (fun k hk => hd k (by simp [FrD.F, hk])), h.args.upd u (fun k hk => hd k (by simp [FrD.F, hk])), h.bW, h.bG, h.bH, h.WG, h.WH, h.GH⟩

theorem Fr.keep {w w' : World} {d : FrD} (h : Fr w d) (u : Upd [] w w') : Fr w' d := h.upd u (by intro k _ h; cases h)

/-- The words have been turned. -/
theorem Fr.words {w w' : World} {d : FrD} (h : Fr w d) {W : List Int} {most : Int} {FW : List Nat} (hr : RoomAt w' d.wp W d.wlim most FW) (u : Upd d.FW w w') (s : Sub FW d.FW w) :
    Fr w' { d with W := W, most := most, FW := FW } ∧ Upd d.F w w' ∧ Sub ({ d with W := W, most := most, FW := FW } : FrD).F d.F w := by
  refine ⟨⟨h.blk.upd u h.bW, hr, h.row.upd u h.WG.symm, h.args.upd u h.WH.symm, ?_, h.bG, h.bH, h.WG.step s h.row.inn, h.WH.step s h.args.inn, h.GH⟩, u.mono (by intro k hk; simp [FrD.F, hk]), ?_⟩
  · intro hx
    rcases s _ hx with h1 | h1
    · exact h.bW h1
    · have h2 := h.blk.lt
      have h3 : w.heap.size ≤ d.b := h1
      omega
  · intro k hk
    simp only [FrD.F, List.mem_cons, List.mem_append] at hk ⊢
    rcases hk with rfl | hk | hk | hk
    · simp
    · rcases s _ hk with h1 | h1
      · simp [h1]
      · exact .inr h1
    · simp [hk]
    · simp [hk]

/-- The current environment has been turned. -/
theorem Fr.setEnv {w : World} {d : FrD} (h : Fr w d) {e : Int} {K : World → Prop} (hK : ∀ w', Fr w' { d with env := e } → Upd d.F w w' → K w') : St w ⟨d.b, 1, none⟩ (.int .i64 e) K := by
  refine St_rule h.blk (by simp) rfl fun w' u hb => hK w' ⟨by simpa using hb, h.room.upd u ?_, h.row.upd u ?_, h.args.upd u ?_, h.bW, h.bG, h.bH, h.WG, h.WH, h.GH⟩ (u.mono (by intro k hk; simp at hk; simp [FrD.F, hk]))
  · intro k hk; simp; rintro rfl; exact h.bW hk
  · intro k hk; simp; rintro rfl; exact h.bG hk
  · intro k hk; simp; rintro rfl; exact h.bH hk

/-- A choice's cell. -/
theorem Fr.cell {w : World} {d : FrD} (h : Fr w d) {i : Nat} (hi : i < d.l.length) : ∃ b off, d.p = some ⟨b, off, none⟩ ∧ d.G = [b] ∧ ∀ j, j < 9 → w.cell? ⟨b, off + i * 9 + j, none⟩ = (chCells d.l[i])[j]? := by
  have hn := h.len
  rcases h.row.2.2 with ⟨_, hc, _⟩ | ⟨b, off, arr, hp, hG, hb, hs, hc⟩
  · have := h.row.2.1; omega
  · refine ⟨b, off, hp, hG, fun j hj => ?_⟩
    rw [hb.cell, Nat.add_assoc, hc _ (by omega), flat_at chCells_len hi hj]

/-! ## Small functions -/

/-- A word, as a number. -/
def wordOf (W : List Int) (i : Int) : Int := IntKind.i64.wrap (if h : 0 ≤ i ∧ i < W.length then W[i.toNat]'(by omega) else 0)
def sizeOf' (W : List Int) (b : Int) : Int := wordOf W (b + 3)
def prevOf (W : List Int) (b : Int) : Int := wordOf W b - 1
/-- A word, set. -/
def setW (W : List Int) (i n : Int) : List Int := if 0 ≤ i ∧ i < W.length then W.set i.toNat (IntKind.u64.wrap n) else W

section
variable {w : World} {d : FrD}

theorem made_ok {K : Bool → World → Prop} (h : Fr w d) (hK : K true w) : C_frame_Stack_made d.a w K := by
  apply C_frame_Stack_made.of
  unfold F_frame_Stack_made FrD.a
  simp only [NN_some, addN, drw_cell, drw_heap, exS, exI, exB, exP, exM, exStr, exV, a0, a1, a2, a3, a4, a5, a6, a7, a8, a9, a10, a11, a12, a13, maxI_eq, Nat.zero_add, Nat.add_zero, Nat.mul_one, Option.isNone_some, Option.isNone_none, h.blk.cell]
  refine ifT rfl ?_
  rw [h.wpn]; exact hK

theorem made_no {K : Bool → World → Prop} (hK : K false w) : C_frame_Stack_made none w K := by
  apply C_frame_Stack_made.of
  unfold F_frame_Stack_made
  exact ifF rfl hK

theorem word_ok {i : Int} {K : Int → World → Prop} (h : Fr w d) (hK : K (wordOf d.W i) w) : C_frame_Stack_word d.a i w K := by
  apply C_frame_Stack_word.of
  unfold F_frame_Stack_word FrD.a
  simp only [NN_some, addN, drw_cell, drw_heap, exS, exI, exB, exP, exM, exStr, exV, a0, a1, a2, a3, a4, a5, a6, a7, a8, a9, a10, a11, a12, a13, maxI_eq, Nat.zero_add, Nat.add_zero, Nat.mul_one, Option.isNone_some, Option.isNone_none, h.blk.cell]
  unfold wordOf at hK
  by_cases hi : 0 ≤ i ∧ i < d.W.length
  · rw [dif_pos hi] at hK
    exact Get_ok h.room hi.1 hi.2 hK
  · rw [dif_neg hi] at hK
    exact Get_no h.room hi hK

theorem set_ok {i n : Int} {K : World → Prop} (h : Fr w d) (hK : ∀ w', Fr w' { d with W := setW d.W i n } → Upd d.F w w' → K w') : C_frame_Stack_set d.a i n w K := by
  apply C_frame_Stack_set.of
  unfold F_frame_Stack_set FrD.a
  simp only [NN_some, addN, drw_cell, drw_heap, exS, exI, exB, exP, exM, exStr, exV, a0, a1, a2, a3, a4, a5, a6, a7, a8, a9, a10, a11, a12, a13, maxI_eq, Nat.zero_add, Nat.add_zero, Nat.mul_one, Option.isNone_some, Option.isNone_none, h.blk.cell]
  by_cases hi : 0 ≤ i ∧ i < d.W.length
  · refine Set_ok h.room hi.1 hi.2 fun w' hr u => ?_
    obtain ⟨h1, h2, _⟩ := h.words hr u (Sub.refl _ _)
    refine hK w' ?_ h2
    unfold setW; rw [if_pos hi]; exact h1
  · refine Set_no h.room hi (hK w ?_ (Upd.refl _ _))
    unfold setW; rw [if_neg hi]; exact h

theorem size_ok {b : Int} {K : Int → World → Prop} (h : Fr w d) (h0 : -2 ^ 62 ≤ b) (h1 : b < 2 ^ 62) (hK : K (sizeOf' d.W b) w) : C_frame_Stack_size d.a b w K := by
  apply C_frame_Stack_size.of
  unfold F_frame_Stack_size
  rw [i64id (by omega) (by omega)]
  exact word_ok h hK

theorem prev_ok {b : Int} {K : Int → World → Prop} (h : Fr w d) (hm : -2 ^ 63 < wordOf d.W b) (hM : wordOf d.W b < 2 ^ 63) (hK : K (prevOf d.W b) w) : C_frame_Stack_prev d.a b w K := by
  apply C_frame_Stack_prev.of
  unfold F_frame_Stack_prev
  refine word_ok h ?_
  rw [i64id (by omega) (by omega)]
  exact hK

theorem cont_ok {b : Int} {K : Int → Int → World → Prop} (h : Fr w d) (h0 : -2 ^ 62 ≤ b) (h1 : b < 2 ^ 62) (hK : ∀ w', Fr w' d → Upd [] w w' → K (wordOf d.W (b + 1)) (wordOf d.W (b + 2)) w') : C_frame_Stack_cont d.a b w K := by
  apply C_frame_Stack_cont.of
  unfold F_frame_Stack_cont
  rw [i64id (by omega) (by omega), i64id (by omega) (by omega)]
  refine New_rule fun r w1 hr u1 hb1 => ?_
  have f1 := h.keep u1
  refine word_ok f1 (word_ok f1 ?_)
  simp only [NN_some, addN, drw_cell, drw_heap, exS, exI, exB, exP, exM, exStr, exV, a0, a1, a2, a3, a4, a5, a6, a7, a8, a9, a10, a11, a12, a13, maxI_eq, Nat.zero_add, Nat.add_zero, Nat.mul_one, Option.isNone_some, Option.isNone_none]
  refine St_rule hb1 (by simp) rfl fun w2 u2 hb2 => St_rule hb2 (by simp) rfl fun w3 u3 hb3 => ?_
  simp at hb3
  simp only [NN_some, addN, drw_cell, drw_heap, exS, exI, exB, exP, exM, exStr, exV, a0, a1, a2, a3, a4, a5, a6, a7, a8, a9, a10, a11, a12, a13, maxI_eq, Nat.zero_add, Nat.add_zero, Nat.mul_one, Option.isNone_some, Option.isNone_none, hb3.cell]
  have U : Upd [] w w3 := u1.fresh (u2.both u3) (by intro k hk; simp at hk; omega)
  exact hK w3 (h.keep U) U

/-- The last choice's top. -/
def FrD.kept (d : FrD) : Int := match d.l.getLast? with | some x => x.2.top | none => 0

theorem last_get {α : Type} {l : List α} (h : 0 < l.length) : l.getLast? = some (l[l.length - 1]'(by omega)) := by
  rw [List.getLast?_eq_getElem?, List.getElem?_eq_getElem (by omega)]

theorem kept_ok {K : Int → World → Prop} (h : Fr w d) (hl : d.l.length < 2 ^ 40) (hK : ∀ w', Fr w' d → Upd [] w w' → K d.kept w') : C_frame_Stack_kept d.a w K := by
  apply C_frame_Stack_kept.of
  unfold F_frame_Stack_kept FrD.a
  have hn := h.len
  simp only [NN_some, addN, drw_cell, drw_heap, exS, exI, exB, exP, exM, exStr, exV, a0, a1, a2, a3, a4, a5, a6, a7, a8, a9, a10, a11, a12, a13, maxI_eq, Nat.zero_add, Nat.add_zero, Nat.mul_one, Option.isNone_some, Option.isNone_none, h.blk.cell]
  by_cases h0 : d.l.length = 0
  · refine ifT (by simp; omega) ?_
    have := hK w h (Upd.refl _ _)
    unfold FrD.kept at this
    rw [List.eq_nil_of_length_eq_zero h0] at this
    exact this
  · refine ifF (by simp; omega) ?_
    rw [i64id (by omega) (by omega)]
    obtain ⟨b, off, hp, _, hc⟩ := h.cell (i := d.l.length - 1) (by omega)
    have e : ((d.n : Int) - 1).toNat = d.l.length - 1 := by omega
    have hc8 := hc 8 (by omega)
    refine ⟨by omega, by omega, ?_⟩
    simp only [NN_some, addN, drw_cell, drw_heap, exS, exI, exB, exP, exM, exStr, exV, a0, a1, a2, a3, a4, a5, a6, a7, a8, a9, a10, a11, a12, a13, maxI_eq, Nat.zero_add, Nat.add_zero, Nat.mul_one, Option.isNone_some, Option.isNone_none, hp, e, hc8]
    have e2 : (chCells (d.l[d.l.length - 1]'(by omega)))[8]? = some (.int .i64 (d.l[d.l.length - 1]'(by omega)).2.top) := rfl
    rw [e2]
    simp only [exI]
    have := hK (drw w) (h.keep (drw_upd w)) (drw_upd w)
    unfold FrD.kept at this
    rw [last_get (by omega)] at this
    exact this

end

end Go.Proofs.Ytdmjbkpibgfeiaa
