/- All words and arguments are changed: ours. -/
import Derived.Test.YtdmjbkpibgfeiaaBoth2
namespace Go.Proofs.Ytdmjbkpibgfeiaa
open Go Go.D Go.Proofs
set_option linter.unusedSimpArgs false
set_option linter.unusedVariables false
set_option maxRecDepth 8000

/-- What a word is changed to. -/
def chg (cw x : Int) : Int := if x = 0 then 0 else orI .u64 (shlI .u64 (shrI .u64 x 1) 1) (andI .u64 cw 1)

def chF (rc : Nat) : Value := .func (.func 56) #[.pointer (some ⟨rc, 0, none⟩)] #[]

theorem changer_ok {w : World} {rc : Nat} {cw x : Int} {K : Int → World → Prop} (hb : Blk w rc #[.int .u64 cw]) (hK : K (chg cw x) w) : C_law22_changer_change (some ⟨rc, 0, none⟩) x w K := by
  apply C_law22_changer_change.of
  unfold F_law22_changer_change
  unfold chg at hK
  refine ifC (fun g => ?_) (fun g => ?_)
  · simp at g; rw [if_pos g] at hK; exact hK
  · simp at g; rw [if_neg g] at hK
    simp only [NN_some, addN, drw_cell, drw_heap, exS, exI, exB, exP, exM, exStr, exV, a0, a1, a2, a3, a4, a5, a6, a7, a8, a9, a10, a11, a12, a13, maxI_eq, Nat.zero_add, Nat.add_zero, Nat.mul_one, Option.isNone_some, Option.isNone_none, hb.cell]
    exact ⟨by decide, by decide, hK⟩

theorem chg_call {w : World} {rc : Nat} {cw x : Int} {K : Value → World → Prop} (hb : Blk w rc #[.int .u64 cw]) (hK : K (.int .u64 (chg cw x)) w) : CallV Try.prog (chF rc) [.int .u64 x] w K := by
  refine ⟨_, _, _, rfl, rfl, ?_⟩
  exact Calls.mono (changer_ok (K := fun y w' => K (.int .u64 y) w') hb hK) fun e w2 ⟨y, he, hy⟩ => ⟨_, he, hy⟩

open Classical in
/-- The rows of some environments are changed. -/
def ChW (W : List Int) (cw : Int) (vs : List Int) (W' : List Int) : Prop :=
  W'.length = W.length ∧ ∀ j : Nat, W'[j]? = if (∃ b ∈ vs, b + 4 ≤ (j : Int) ∧ (j : Int) < b + 4 + sizeOf' W b) then (W[j]?).map (chg cw) else W[j]?

theorem ChW.nil (W : List Int) (cw : Int) : ChW W cw [] W := ⟨rfl, fun j => by rw [if_neg (by rintro ⟨b, hb, _⟩; cases hb)]⟩

section
variable {w : World} {d : FrD} {cur : List Int} {lev : List Level} {cw : Int} {vs : List Int} {W' : List Int}

/-- Headers, and the rows of the others, are as they were. -/
theorem ChW.out (h : ChW d.W cw vs W') {j : Nat} (hj : ∀ b ∈ vs, (j : Int) < b + 4 ∨ b + 4 + sizeOf' d.W b ≤ j) : W'[j]? = d.W[j]? := by
  rw [h.2, if_neg]
  rintro ⟨b, hb, h1, h2⟩
  have := hj b hb; omega

theorem ChW.head (h : ChW d.W cw vs W') (ok : Ok d cur lev) (hvs : ∀ v ∈ vs, Node ((cur, d.env, d.top) :: lev) v) {x i : Int} (hx : Node ((cur, d.env, d.top) :: lev) x) (h0 : 0 ≤ i) (h3 : i < 4) : wordOf W' (x + i) = wordOf d.W (x + i) :=
  wordOf_eq fun hh => h.out fun b hb => by
    have hap := ok.napart hx (hvs b hb)
    have n1 := ok.nd hx
    have n2 := ok.nd (hvs b hb)
    omega

theorem ChW.frame (h : ChW d.W cw vs W') (ok : Ok d cur lev) (hvs : ∀ v ∈ vs, Node ((cur, d.env, d.top) :: lev) v) {x : Int} (hx : Node ((cur, d.env, d.top) :: lev) x) (hxv : x ∉ vs) : frameOf W' x = frameOf d.W x ∧ prevOf W' x = prevOf d.W x := by
  obtain ⟨n0, n1, n2⟩ := ok.nd hx
  refine frame_in n0 n1 fun j hj1 hj2 => h.out fun b hb => ?_
  have hap := ok.napart hx (hvs b hb)
  have m2 := ok.nd (hvs b hb)
  rcases hap with h1 | h1 | h1
  · exact absurd (h1 ▸ hb) hxv
  · omega
  · omega

theorem ChW.row (h : ChW d.W cw vs W') (ok : Ok d cur lev) (hvs : ∀ v ∈ vs, Node ((cur, d.env, d.top) :: lev) v) {x : Int} (hx : x ∈ vs) : rowOf W' x = (rowOf d.W x).map (chg cw) ∧ sizeOf' W' x = sizeOf' d.W x := by
  obtain ⟨n0, n1, n2⟩ := ok.nd (hvs x hx)
  have hs : sizeOf' W' x = sizeOf' d.W x := h.head ok hvs (hvs x hx) (by omega) (by omega)
  refine ⟨?_, hs⟩
  unfold rowOf
  rw [hs]
  apply List.ext_getElem?
  intro i
  by_cases hi : i < (sizeOf' d.W x).toNat
  · rw [List.getElem?_take_of_lt hi, List.getElem?_map, List.getElem?_take_of_lt hi, List.getElem?_drop, List.getElem?_drop, h.2, if_pos ⟨x, hx, by omega, by omega⟩]
  · rw [List.getElem?_take_eq_none (by omega), List.getElem?_map, List.getElem?_take_eq_none (by omega)]; rfl

/-- One row more. -/
theorem ChW.step (h : ChW d.W cw vs W') (ok : Ok d cur lev) (hvs : ∀ v ∈ vs, Node ((cur, d.env, d.top) :: lev) v) {x : Int} (hx : Node ((cur, d.env, d.top) :: lev) x) (hxv : x ∉ vs) {W2 : List Int} (hl : W2.length = W'.length)
    (hW : ∀ j : Nat, W2[j]? = if x + 4 ≤ (j : Int) ∧ (j : Int) < x + 4 + sizeOf' d.W x then (W'[j]?).map (chg cw) else W'[j]?) : ChW d.W cw (vs ++ [x]) W2 := by
  refine ⟨hl.trans h.1, fun j => ?_⟩
  rw [hW]
  by_cases hj : x + 4 ≤ (j : Int) ∧ (j : Int) < x + 4 + sizeOf' d.W x
  · rw [if_pos hj, if_pos ⟨x, by simp, hj⟩, h.out]
    intro b hb
    have hap := ok.napart hx (hvs b hb)
    have n1 := ok.nd hx
    have n2 := ok.nd (hvs b hb)
    rcases hap with h1 | h1 | h1
    · exact absurd (h1 ▸ hb) hxv
    · omega
    · omega
  · rw [if_neg hj, h.2]
    by_cases hb : ∃ b ∈ vs, b + 4 ≤ (j : Int) ∧ (j : Int) < b + 4 + sizeOf' d.W b
    · obtain ⟨b, hb1, hb2⟩ := hb
      rw [if_pos ⟨b, hb1, hb2⟩, if_pos ⟨b, by simp [hb1], hb2⟩]
    · rw [if_neg hb, if_neg]
      rintro ⟨b, hb1, hb2⟩
      rcases List.mem_append.1 hb1 with h1 | h1
      · exact hb ⟨b, h1, hb2⟩
      · simp at h1; subst h1; exact hj hb2

def FrD.wd (d : FrD) (W : List Int) : FrD := { d with W := W }

/-- What holds while the environments are gone over. -/
def chI (d : FrD) (cur : List Int) (lev : List Level) (cw : Int) (r r1 rc : Nat) (vs : List Int) (H : List Nat) (w : World) : Prop :=
  ∃ W', ChW d.W cw vs W' ∧ (∀ v ∈ vs, Node ((cur, d.env, d.top) :: lev) v) ∧ Fr w (d.wd W') ∧ Blk w r #[.pointer d.a] ∧ Blk w r1 #[chF rc] ∧ Blk w rc #[.int .u64 cw] ∧ H = r :: r1 :: rc :: d.F

theorem chEach (ok : Ok d cur lev) {r r1 rc : Nat} (hr : r ∉ d.F) (hr1 : r1 ∉ d.F) (hrc : rc ∉ d.F) (h1 : r ≠ r1) (h2 : r ≠ rc) (h3 : r1 ≠ rc) :
    Each d ((cur, d.env, d.top) :: lev) (.func (.func 62) #[] #[.pointer (some ⟨r, 0, none⟩), .pointer (some ⟨r1, 0, none⟩)]) (fun _ _ => true) (chI d cur lev cw r r1 rc) where
  keep := by
    rintro vs H w w' G ⟨W', c1, c2, c3, c4, c5, c6, rfl⟩ u hd
    exact ⟨W', c1, c2, c3.upd u fun k hk => hd k (by simp; right; right; right; exact hk), c4.upd u (hd _ (by simp)), c5.upd u (hd _ (by simp)), c6.upd u (hd _ (by simp)), rfl⟩
  inn := by
    rintro vs H w ⟨W', c1, c2, c3, c4, c5, c6, rfl⟩ k hk
    rcases List.mem_cons.1 hk with rfl | hk
    · exact c4.lt
    rcases List.mem_cons.1 hk with rfl | hk
    · exact c5.lt
    rcases List.mem_cons.1 hk with rfl | hk
    · exact c6.lt
    · exact c3.inn k hk
  fr := by
    rintro vs H w ⟨W', c1, c2, c3, c4, c5, c6, rfl⟩
    refine ⟨d.wd W', c3, rfl, fun x hx => ?_⟩
    have := c1.head ok c2 hx (i := 0) (by omega) (by omega)
    rw [Int.add_zero] at this; exact this
  ask := by
    rintro vs H w K b ⟨W', c1, c2, c3, c4, c5, c6, rfl⟩ hn hb hK
    refine ⟨_, _, _, rfl, rfl, ?_⟩
    refine Calls.mono (C_frame_Stack_Change_1.of (basex := b) (c0 := ⟨r, 0, none⟩) (c1 := ⟨r1, 0, none⟩) (R := fun x w' => K (.bool x) w') ?_) fun e w2 ⟨x, he, hx⟩ => ⟨_, he, hx⟩
    unfold F_frame_Stack_Change_1
    obtain ⟨n0, n1, n2⟩ := ok.nd hn
    have htl := ok.topl; have hWl := ok.Wl; have hwl := ok.wl
    have hsz : sizeOf' W' b = sizeOf' d.W b := c1.head ok c2 hn (by omega) (by omega)
    have hrow : rowOf W' b = rowOf d.W b := congrArg Ch.args (c1.frame ok c2 hn hb).1
    simp only [NN_some, addN, drw_cell, drw_heap, exS, exI, exB, exP, exM, exStr, exV, a0, a1, a2, a3, a4, a5, a6, a7, a8, a9, a10, a11, a12, a13, maxI_eq, Nat.zero_add, Nat.add_zero, Nat.mul_one, Option.isNone_some, Option.isNone_none, c4.cell]
    refine row_ok (d := d.wd W') c3 n0 (by show 0 ≤ sizeOf' W' b; omega) (by show b + 4 + sizeOf' W' b ≤ (W'.length : Int); rw [c1.1]; omega) (by show W'.length ≤ _; rw [c1.1]; omega) fun p n c A w1 hs1 f1 u1 nA => ?_
    have hs1' : SlAt w1 1 p n c ((rowOf d.W b).map (.int .u64)) A := by rw [← hrow]; exact hs1
    have hrl := ok.rowlen hn
    have hnl : n = (rowOf d.W b).length := by have := hs1'.1; simp at this; omega
    have AF : ∀ k ∈ A, k ∉ (r :: r1 :: rc :: d.F) := fun k hk hx => by
      have h5 := nA k hk
      rcases List.mem_cons.1 hx with rfl | hx
      · have := c4.lt; omega
      rcases List.mem_cons.1 hx with rfl | hx
      · have := c5.lt; omega
      rcases List.mem_cons.1 hx with rfl | hx
      · have := c6.lt; omega
      · have := c3.inn k hx; omega
    unfold F_frame_Stack_Change_1_L1
    refine ⟨fun s v => ∃ (i : Nat) (W2 : List Int), s.t11 = i ∧ i ≤ n ∧ W2.length = W'.length ∧ (∀ j : Nat, W2[j]? = if b + 4 ≤ (j : Int) ∧ (j : Int) < b + 4 + i then (W'[j]?).map (chg cw) else W'[j]?) ∧ Fr v (d.wd W2) ∧ SlAt v 1 p n c ((rowOf d.W b).map (.int .u64)) A ∧ Upd d.F w1 v, fun s _ => (n - s.t11).toNat, ⟨0, W', rfl, by omega, rfl, fun j => by rw [if_neg (by omega)], f1, hs1', Upd.refl _ _⟩, ?_⟩
    rintro ⟨ti⟩ v ⟨i, W2, hi0, hi, hl2, hW2, f2, hsv, uv⟩
    dsimp only at hi0
    subst hi0
    unfold B_frame_Stack_Change_1_L1
    dsimp only
    have Uv : Upd d.F w v := u1.after uv
    have b4 := c4.upd Uv hr
    have b5 := c5.upd Uv hr1
    have b6 := c6.upd Uv hrc
    refine ifC (fun g => ?_) (fun g => ?_)
    · simp at g
      obtain ⟨z, hz, hcz⟩ := hsv.rd.at (i := i) (by omega)
      have hil : i < (rowOf d.W b).length := by omega
      rw [List.getElem?_map, List.getElem?_eq_getElem hil] at hcz
      simp only [Option.map_some] at hcz
      simp only [hz, NN_some, addN, drw_cell, drw_heap, exS, exI, exB, exP, exM, exStr, exV, a0, a1, a2, a3, a4, a5, a6, a7, a8, a9, a10, a11, a12, a13, maxI_eq, Nat.zero_add, Nat.add_zero, Nat.mul_one, Option.isNone_some, Option.isNone_none, Int.toNat_natCast, hcz, b4.cell, b5.cell, FrD.a]
      have b2c : v.cell? ⟨d.b, 0, none⟩ = some (.pointer (d.wd W2).wp) := by rw [show d.b = (d.wd W2).b from rfl, f2.blk.cell]; rfl
      simp only [b2c, NN_some, addN, drw_cell, drw_heap, exS, exI, exB, exP, exM, exStr, exV, a0, a1, a2, a3, a4, a5, a6, a7, a8, a9, a10, a11, a12, a13, maxI_eq, Nat.zero_add, Nat.add_zero, Nat.mul_one, Option.isNone_some, Option.isNone_none]
      refine ⟨by omega, by omega, chg_call (b6.drw) ⟨_, rfl, by rw [drw_cell]; exact b2c, by rw [drw_cell, b4.cell]; rfl, ?_⟩⟩
      have e1 : IntKind.i64.wrap (b + 4) = b + 4 := i64id (by omega) (by omega)
      have e2 : IntKind.i64.wrap (b + 4 + (i : Int)) = b + 4 + i := i64id (by omega) (by omega)
      rw [e1, e2]
      have fd := f2.keep (drw_upd v)
      have hW2l : (b + 4 + (i : Int)) < (W2.length : Int) := by rw [hl2, c1.1]; omega
      refine Set_ok (m := (d.wd W2).wp) fd.room (by omega) hW2l fun w3 hr3 u3 => ?_
      obtain ⟨f3, u3', _⟩ := fd.words hr3 u3 (Sub.refl _ _)
      rw [i64id (by omega) (by omega)]
      refine ⟨⟨i + 1, W2.set (b + 4 + (i : Int)).toNat (chg cw (rowOf d.W b)[i]), by simp, by omega, by simpa using hl2, fun j => ?_, f3, ?_, uv.before (drw_upd v) |>.both u3'⟩, by omega⟩
      · have hb4 : (b + 4 + (i : Int)).toNat = b.toNat + 4 + i := by omega
        by_cases hj : j = b.toNat + 4 + i
        · rw [hb4, hj, List.getElem?_set_self (by omega), if_pos (by omega)]
          have e3 : W'[b.toNat + 4 + i]? = some (rowOf d.W b)[i] := by
            have : (rowOf W' b)[i]? = some (rowOf d.W b)[i] := by rw [hrow, List.getElem?_eq_getElem hil]
            rw [← this]
            unfold rowOf
            rw [List.getElem?_take_of_lt (by omega), List.getElem?_drop]
          rw [e3]; rfl
        · rw [hb4, List.getElem?_set_ne (Ne.symm hj), hW2]
          by_cases hc : b + 4 ≤ (j : Int) ∧ (j : Int) < b + 4 + i
          · rw [if_pos hc, if_pos (by omega)]
          · rw [if_neg hc, if_neg (by omega)]
      · have := (hsv.upd (drw_upd v) (by intro k _ h; cases h)).upd u3' fun k hk hx => AF k hk (by simp; right; right; right; exact hx)
        rwa [hz] at this
    · simp at g
      obtain rfl : i = n := by omega
      refine hK (r :: r1 :: rc :: d.F) v ⟨W2, c1.step ok c2 hn hb hl2 (fun j => ?_), ?_, f2, b4, b5, b6, rfl⟩ (Uv.mono (by intro k hk; left; simp [hk])) (Sub.refl _ _)
      · rw [hW2, show ((i : Nat) : Int) = sizeOf' d.W b by omega]
      · intro x hx
        rcases List.mem_append.1 hx with h | h
        · exact c2 x h
        · simp at h; subst h; exact hn

/-! ## The choices' arguments -/

theorem Fr.setArg {i k : Nat} {v : Int} (h : Fr w d) (hi : i < d.l.length) (hk : k < d.l[i].2.args.length) : ∃ b off, d.l[i].1.1 = some ⟨b, off, none⟩ ∧
    ∀ {K : World → Prop}, (∀ w', Fr w' { d with l := d.l.set i (d.l[i].1, { d.l[i].2 with args := d.l[i].2.args.set k v }) } → Upd d.F w w' → K w') → St w ⟨b, off + k, none⟩ (.int .u64 v) K := by
  obtain ⟨b, off, hp, hK'⟩ := ArgsAt.setArg (k := k) (v := v) i hi h.args hk
  refine ⟨b, off, hp, fun {K} hK => hK' fun w' hA u => hK w' ⟨h.blk.upd u h.bH, h.room.upd u h.WH, ?_, hA, h.bW, h.bG, h.bH, h.WG, h.WH, h.GH⟩ (u.mono (by intro k hk; simp [FrD.F, hk]))⟩
  dsimp only
  rw [flat_same hi (by rfl)]; exact h.row.upd u h.GH

def chL (cw : Int) (x : Sl × Ch) : Sl × Ch := (x.1, { x.2 with args := x.2.args.map (chg cw) })

theorem Change_ok {rc : Nat} {K : World → Prop} (h : Fr w d) (ok : Ok d cur lev) (hrc : Blk w rc #[.int .u64 cw]) (hrcF : rc ∉ d.F) (hA : ∀ x ∈ d.l, x.2.args.length < 2 ^ 40)
    (hK : ∀ w' vs W', ChW d.W cw vs W' → (∀ x, Node ((cur, d.env, d.top) :: lev) x → x ∈ vs) → (∀ v ∈ vs, Node ((cur, d.env, d.top) :: lev) v) → Fr w' { d.wd W' with l := d.l.map (chL cw) } → Upd (rc :: d.F) w w' → K w') : C_frame_Stack_Change d.a (chF rc) w K := by
  apply C_frame_Stack_Change.of
  unfold F_frame_Stack_Change
  have hn := h.len
  refine New_rule fun r w1 hr u1 hb1 => New_rule fun r1 w2 hr1 u2 hb2 => ?_
  have U2 : Upd [] w w2 := u1.after u2
  have f2 := h.keep U2
  have b1 := hb1.upd u2 (by simp)
  have brc := hrc.upd U2 (by simp)
  have hb2' : Blk w2 r1 #[chF rc] := hb2
  simp only [NN_some, addN, drw_cell, drw_heap, exS, exI, exB, exP, exM, exStr, exV, a0, a1, a2, a3, a4, a5, a6, a7, a8, a9, a10, a11, a12, a13, maxI_eq, Nat.zero_add, Nat.add_zero, Nat.mul_one, Option.isNone_some, Option.isNone_none, b1.cell]
  refine made_ok f2 (ifF rfl ?_)
  simp only [NN_some, addN, drw_cell, drw_heap, exS, exI, exB, exP, exM, exStr, exV, a0, a1, a2, a3, a4, a5, a6, a7, a8, a9, a10, a11, a12, a13, maxI_eq, Nat.zero_add, Nat.add_zero, Nat.mul_one, Option.isNone_some, Option.isNone_none, b1.cell]
  have hrF : r ∉ d.F := fun hx => by have := h.inn _ hx; omega
  have hr1F : r1 ∉ d.F := fun hx => by have := h.inn _ hx; have := u1.size; omega
  have hrr1 : r ≠ r1 := by have := hb1.lt; omega
  have hrrc : r ≠ rc := by have := hrc.lt; omega
  have hr1rc : r1 ≠ rc := by have := hrc.lt; have := u1.size; omega
  refine all_ok f2 ok (chEach ok hrF hr1F hrcF hrr1 hrrc hr1rc) ⟨d.W, ChW.nil _ _, by simp, f2, b1, hb2', brc, rfl⟩ (fun vs H' w3 hI hall hvs hnd u3 s3 => ?_) (fun vs b H' w' hI hg hvs u s => by cases hg)
  obtain ⟨W', c1, c2, c3, c4, c5, c6, rfl⟩ := hI
  have U3 : Upd (rc :: d.F) w w3 := by
    refine (U2.after u3).mono fun k hk => ?_
    rcases List.mem_cons.1 hk with rfl | hk
    · right; omega
    rcases List.mem_cons.1 hk with rfl | hk
    · right; have := u1.size; omega
    · exact .inl hk
  simp only [NN_some, addN, drw_cell, drw_heap, exS, exI, exB, exP, exM, exStr, exV, a0, a1, a2, a3, a4, a5, a6, a7, a8, a9, a10, a11, a12, a13, maxI_eq, Nat.zero_add, Nat.add_zero, Nat.mul_one, Option.isNone_some, Option.isNone_none, c4.cell]
  have bl : w3.cell? ⟨d.b, 2, none⟩ = some (.slice d.p d.n d.c) := by rw [show d.b = (d.wd W').b from rfl, c3.blk.cell]; rfl
  simp only [FrD.a, NN_some, addN, drw_cell, drw_heap, exS, exI, exB, exP, exM, exStr, exV, a0, a1, a2, a3, a4, a5, a6, a7, a8, a9, a10, a11, a12, a13, maxI_eq, Nat.zero_add, Nat.add_zero, Nat.mul_one, Option.isNone_some, Option.isNone_none, bl]
  unfold F_frame_Stack_Change_L1
  -- so many choices have been changed
  have h40 := ok.len40
  refine ⟨fun s v => ∃ (i : Nat) (l' : List (Sl × Ch)), s.t19 = i ∧ i ≤ d.l.length ∧ l'.length = d.l.length ∧ (∀ j (hj : j < d.l.length) (hj' : j < l'.length), l'[j] = if j < i then chL cw d.l[j] else d.l[j]) ∧ Fr v { d.wd W' with l := l' } ∧ Upd d.F w3 v, fun s _ => (d.n - s.t19).toNat, ⟨0, d.l, rfl, by omega, rfl, fun j hj hj' => by rw [if_neg (by omega)], c3, Upd.refl _ _⟩, ?_⟩
  rintro ⟨ti⟩ v ⟨i, l', hi0, hi, hl', hat, fv, uv⟩
  dsimp only at hi0
  subst hi0
  unfold B_frame_Stack_Change_L1
  dsimp only
  have b5 := c5.upd uv hr1F
  have b6 := c6.upd uv hrcF
  refine ifC (fun g => ?_) (fun g => ?_)
  · simp at g
    have hil : i < d.l.length := by omega
    have hil' : i < l'.length := by omega
    have e0 : l'[i] = d.l[i] := by rw [hat i hil hil', if_neg (by omega)]
    obtain ⟨b, off, hp, _, hcell⟩ := fv.cell (i := i) hil'
    have q0 := hcell 0 (by omega)
    have q1 := hcell 1 (by omega)
    have q2 := hcell 2 (by omega)
    have q3 := hcell 3 (by omega)
    have q4 := hcell 4 (by omega)
    have q5 := hcell 5 (by omega)
    have q6 := hcell 6 (by omega)
    have q7 := hcell 7 (by omega)
    have q8 := hcell 8 (by omega)
    have hp' : d.p = some ⟨b, off, none⟩ := hp
    simp only [e0, chCells, List.getElem?_cons_zero, List.getElem?_cons_succ, Nat.add_zero] at q0 q1 q2 q3 q4 q5 q6 q7 q8
    simp only [hp', NN_some, addN, drw_cell, drw_heap, exS, exI, exB, exP, exM, exStr, exV, a0, a1, a2, a3, a4, a5, a6, a7, a8, a9, a10, a11, a12, a13, maxI_eq, Nat.zero_add, Nat.add_zero, Nat.mul_one, Option.isNone_some, Option.isNone_none, Int.toNat_natCast, q0, q1, q2, q3, q4, q5, q6, q7, q8]
    refine ⟨by omega, by omega, New_rule fun r2 v1 hr2 uq hb2 => ?_⟩
    refine St9 hb2 rfl (by simp [Value.oneCell']) fun v2 uq2 hq => ?_
    simp only [NN_some, addN, drw_cell, drw_heap, exS, exI, exB, exP, exM, exStr, exV, a0, a1, a2, a3, a4, a5, a6, a7, a8, a9, a10, a11, a12, a13, maxI_eq, Nat.zero_add, Nat.add_zero, Nat.mul_one, Option.isNone_some, Option.isNone_none, hq.cell]
    have V2 : Upd [] v v2 := uq.fresh uq2 (by intro k hk; simp at hk; omega)
    have fv2 := fv.keep V2
    have hr2F : r2 ∉ d.F := fun hx => by have h5 : r2 < v.heap.size := fv.inn r2 hx; omega
    have b5' := b5.upd V2 (by simp)
    have b6' := b6.upd V2 (by simp)
    have hAl := hA _ (List.getElem_mem hil)
    obtain ⟨H1, hsl, hH1⟩ := fv2.args.get i hil'
    have hnl : d.l[i].1.2.1 = d.l[i].2.args.length := by
      have := hsl.1
      rw [e0] at this
      simp at this; omega
    unfold F_frame_Stack_Change_L2
    refine ⟨fun s y => ∃ (k : Nat) (l2 : List (Sl × Ch)), s.t26 = k ∧ k ≤ d.l[i].2.args.length ∧ l2.length = d.l.length ∧ (∀ j (hj : j < d.l.length) (hj' : j < l2.length), l2[j] = if j < i then chL cw d.l[j] else if j = i then (d.l[j].1, { d.l[j].2 with args := (d.l[j].2.args.take k).map (chg cw) ++ d.l[j].2.args.drop k }) else d.l[j]) ∧ Fr y { d.wd W' with l := l2 } ∧ Upd d.F v2 y, fun s _ => (d.l[i].2.args.length - s.t26).toNat, ⟨0, l', rfl, by omega, hl', fun j hj hj' => ?_, fv2, Upd.refl _ _⟩, ?_⟩
    · rw [hat j hj hj']
      by_cases h1 : j < i
      · rw [if_pos h1, if_pos h1]
      · rw [if_neg h1, if_neg h1]
        split <;> simp
    rintro ⟨tk⟩ y ⟨k, l2, hk0, hk, hl2, hat2, fy, uy⟩
    dsimp only at hk0
    subst hk0
    unfold B_frame_Stack_Change_L2
    dsimp only
    have hq' := hq.upd uy hr2F
    have b5y := b5'.upd uy hr1F
    have b6y := b6'.upd uy hrcF
    refine ifC (fun g2 => ?_) (fun g2 => ?_)
    · simp at g2
      have hkl : k < d.l[i].2.args.length := by omega
      have hil2 : i < l2.length := by omega
      have e2 : l2[i] = (d.l[i].1, { d.l[i].2 with args := (d.l[i].2.args.take k).map (chg cw) ++ d.l[i].2.args.drop k }) := by rw [hat2 i hil hil2, if_neg (by omega), if_pos rfl]
      have hargs2 : l2[i].2.args[k]? = some (d.l[i].2.args[k]) := by
        rw [e2]
        dsimp only
        rw [List.getElem?_append_right (by simp; omega)]
        simp only [List.length_map, List.length_take, Nat.min_eq_left (Nat.le_of_lt hkl), Nat.sub_self]
        rw [List.getElem?_drop, Nat.add_zero, List.getElem?_eq_getElem hkl]
      have hk2 : k < l2[i].2.args.length := (List.getElem?_eq_some_iff.1 hargs2).1
      obtain ⟨H2, hs2, _⟩ := fy.args.get i hil2
      obtain ⟨z, hz, hcz⟩ := hs2.rd.at (i := k) (by have := hs2.1; simp at this; show k < l2[i].1.2.1 * 1; rw [Nat.mul_one]; have h3 : l2[i].2.args.length = l2[i].1.2.1 := this; omega)
      have hcz' : y.cell? (z.add k) = some (.int .u64 (d.l[i].2.args[k])) := by
        rw [hcz, List.getElem?_map]
        show (l2[i].2.args[k]?).map _ = _
        rw [hargs2]; rfl
      have hz' : d.l[i].1.1 = some z := by
        have : l2[i].1.1 = some z := hz
        rw [e2] at this; exact this
      obtain ⟨yb, yo, hyp, hst⟩ := (fy.keep (drw_upd y)).setArg (k := k) (v := chg cw (d.l[i].2.args[k])) hil2 hk2
      have hyp' : d.l[i].1.1 = some ⟨yb, yo, none⟩ := by
        have : l2[i].1.1 = some ⟨yb, yo, none⟩ := hyp
        rw [e2] at this; exact this
      obtain rfl : z = ⟨yb, yo, none⟩ := by rw [hz'] at hyp'; exact Option.some.inj hyp'
      rw [addN] at hcz'
      simp only [hyp', NN_some, addN, drw_cell, drw_heap, exS, exI, exB, exP, exM, exStr, exV, a0, a1, a2, a3, a4, a5, a6, a7, a8, a9, a10, a11, a12, a13, maxI_eq, Nat.zero_add, Nat.add_zero, Nat.mul_one, Option.isNone_some, Option.isNone_none, Int.toNat_natCast, hcz', hq'.cell, b5y.cell]
      refine ⟨by omega, by omega, chg_call (b6y.drw) ⟨_, rfl, by rw [drw_cell, hq'.cell, hyp']; rfl, by omega, by omega, hst fun y2 fy2 uy2 => ?_⟩⟩
      rw [i64id (by omega) (by omega)]
      refine ⟨⟨k + 1, _, by simp, by omega, by rw [List.length_set]; exact hl2, fun j hj hj' => ?_, fy2, uy.both ((drw_upd y).after uy2)⟩, by omega⟩
      by_cases hji : j = i
      · subst hji
        rw [List.getElem_set_self, if_neg (by omega), if_pos rfl, e2]
        dsimp only
        congr 2
        have hmin : (List.map (chg cw) (d.l[j].2.args.take k)).length = k := by simp; omega
        rw [List.set_append_right _ _ (by omega), hmin, Nat.sub_self]
        rw [List.take_succ_eq_append_getElem hkl, List.map_append, List.append_assoc]
        congr 1
        rw [List.drop_eq_getElem_cons hkl]
        rfl
      · rw [List.getElem_set_ne (Ne.symm hji), hat2 j hj (by omega)]
        by_cases h1 : j < i
        · rw [if_pos h1, if_pos h1]
        · rw [if_neg h1, if_neg h1, if_neg hji, if_neg hji]
    · simp at g2
      have hkk : k = d.l[i].2.args.length := by omega
      rw [i64id (by omega) (by omega)]
      refine ⟨⟨i + 1, l2, by simp, by omega, hl2, fun j hj hj' => ?_, fy, (uv.before V2).both uy⟩, by omega⟩
      rw [hat2 j hj hj']
      by_cases h1 : j < i
      · rw [if_pos h1, if_pos (by omega)]
      · rw [if_neg h1]
        by_cases h2 : j = i
        · subst h2
          rw [if_pos rfl, if_pos (by omega), hkk]
          unfold chL
          simp
        · rw [if_neg h2, if_neg (by omega)]
  · simp at g
    have hii : i = d.l.length := by omega
    have : l' = d.l.map (chL cw) := by
      apply List.ext_getElem (by simp [hl'])
      intro j h1 h2
      rw [hat j (by omega) h1, if_pos (by omega), List.getElem_map]
    subst this
    exact hK v vs W' c1 hall hvs fv (U3.both (uv.mono (by intro k hk; simp [hk])))
end

end Go.Proofs.Ytdmjbkpibgfeiaa
