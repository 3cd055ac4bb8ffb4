/- A table of names in memory: it begins. -/
import Derived.Test.YtlngmelfjiemlaaAtom
import Derived.Test.YtlngmelfjiemlaaGenAll
import Derived.Test.YtlngmelfjiemlaaOnceS
import Derived.Laws.LoneSync
namespace Go.Proofs.Ytlngmelfjiemlaa
open Go Go.D Go.Proofs
set_option linter.unusedSimpArgs false
set_option linter.unusedVariables false
set_option maxRecDepth 8000

structure AtD where
  b : Nat
  lp : Option Addr
  ln : Nat
  lc : Nat
  r : Nat
  gp : Option Addr
  gn : Nat
  gc : Nat
  made : Int
  lim : Int
  L : List Slot
  M : List (ByteArray × Value)
  E : List Int
  GL : List Nat
  GE : List Nat

def AtD.a (d : AtD) : Option Addr := some ⟨d.b, 0, none⟩
def AtD.FT (d : AtD) : List Nat := d.b :: d.r :: (d.GL ++ d.GE)
def nV (a : ByteArray) : Value := .string a

/-- The block of a table. -/
def atBlk (once lock made lim : Int) (lp : Option Addr) (ln lc : Nat) (r : Option Nat) (gp : Option Addr) (gn gc : Nat) : Array Value :=
  #[.int .u32 once, .int .i32 lock, .int .u32 0, .int .i64 made, .int .i64 lim, .slice lp ln lc, .map r, .slice gp gn gc]

/-- The parts of a table, its lock at a state. -/
structure Tb' (once lock : Int) (w : World) (d : AtD) : Prop where
  blk : Blk w d.b (atBlk once lock d.made d.lim d.lp d.ln d.lc (some d.r) d.gp d.gn d.gc)
  l : SlAt w 3 d.lp d.ln d.lc (d.L.flatMap slC) d.GL
  map : MapAt w d.r nV d.M
  e : SlAt w 1 d.gp d.gn d.gc (d.E.map (.int .i64)) d.GE
  br : d.b ≠ d.r
  bL : d.b ∉ d.GL
  bE : d.b ∉ d.GE
  rL : d.r ∉ d.GL
  rE : d.r ∉ d.GE
  LE : Dis d.GL d.GE

abbrev Tb := Tb' 1 0

structure AtOk (d : AtD) : Prop where
  at' : AtM d.L d.M d.E
  asc : d.E.Pairwise (· < ·)
  ll : d.L.length ≤ d.lim
  lim : d.lim ≤ 16384
  made : 0 ≤ d.made ∧ d.made ≤ 2 ^ 40

theorem keyName : KeyOf Try.prog 9 nV := keyString (by rfl)

section
variable {w : World} {d : AtD} {on lo : Int}

theorem Tb'.upd {w' : World} {F : List Nat} (h : Tb' on lo w d) (u : Upd F w w') (hd : Dis d.FT F) : Tb' on lo w' d :=
  ⟨h.blk.upd u (hd _ (by simp [AtD.FT])), h.l.upd u (fun k hk => hd k (by simp [AtD.FT, hk])), h.map.upd u (hd _ (by simp [AtD.FT])), h.e.upd u (fun k hk => hd k (by simp [AtD.FT, hk])), h.br, h.bL, h.bE, h.rL, h.rE, h.LE⟩

theorem Tb'.keep {w' : World} (h : Tb' on lo w d) (u : Upd [] w w') : Tb' on lo w' d := h.upd u (by intro k _ h; cases h)

theorem Tb'.inn (h : Tb' on lo w d) : In d.FT w := fun k hk => by
  rcases List.mem_cons.1 hk with rfl | hk
  · exact h.blk.lt
  rcases List.mem_cons.1 hk with rfl | hk
  · exact h.map.lt
  rcases List.mem_append.1 hk with hk | hk
  · exact h.l.inn k hk
  · exact h.e.inn k hk

theorem Tb'.len (h : Tb' on lo w d) : d.ln = d.L.length := by
  have := h.l.1
  rw [flat_len slC_len] at this; omega

theorem Tb'.elen (h : Tb' on lo w d) : d.gn = d.E.length := by have := h.e.1; simp at this; exact this.symm

theorem Tb'.slot (h : Tb' on lo w d) {i : Nat} (hi : i < d.L.length) : ∃ b off, d.lp = some ⟨b, off, none⟩ ∧ w.cell? ⟨b, off + i * 3, none⟩ = some (.string d.L[i].name) ∧ w.cell? ⟨b, off + i * 3 + 1, none⟩ = some (.bool d.L[i].is) ∧ w.cell? ⟨b, off + i * 3 + 2, none⟩ = some (.bool d.L[i].mark) := by
  have hn := h.len
  rcases h.l.2.2 with ⟨_, hc, _⟩ | ⟨b, off, arr, hp, hG, hb, hs, hc⟩
  · have := h.l.2.1; omega
  · refine ⟨b, off, hp, ?_, ?_, ?_⟩
    · rw [hb.cell, hc _ (by omega), ← Nat.add_zero (i * 3), flat_at slC_len hi (by omega)]; rfl
    · rw [hb.cell, Nat.add_assoc, hc _ (by omega), flat_at slC_len hi (by omega)]; rfl
    · rw [hb.cell, Nat.add_assoc, hc _ (by omega), flat_at slC_len hi (by omega)]; rfl

/-! ## The atomic cells -/

theorem Add64_ok {b o : Nat} {x y : Int} {arr : Array Value} {K : Int → World → Prop} (h : Blk w b arr) (ho : arr[o]? = some (.int .i64 x)) (hb : -2 ^ 60 ≤ x + y ∧ x + y ≤ 2 ^ 60) (hK : ∀ w', Upd [b] w w' → Blk w' b (arr.setIfInBounds o (.int .i64 (x + y))) → K (x + y) w') : C_sync_atomic_Int64_Add (some ⟨b, o, none⟩) y w K := by
  apply C_sync_atomic_Int64_Add.of
  unfold F_sync_atomic_Int64_Add
  simp only [NN_some, addN, Nat.add_zero]
  obtain ⟨ho1, _⟩ := Array.getElem?_eq_some_iff.1 ho
  have hrun := run_call_add (P := Try.prog) Try.func53 (by kernel_rfl) (by kernel_rfl) (by kernel_rfl) .i64 (by kernel_rfl) (a := ⟨b, o, none⟩) (x := x) (y := y) (s := IntKind.i64.wrap (x + y)) (w := w) (by rw [h.cell]; exact ho) (h.frozen ho1) rfl
  rw [i64id (by omega) (by omega)] at hrun
  exact ⟨_, _, hrun, x + y, rfl, hK _ (setCell_upd w b o _) (h.set o _)⟩

theorem BoolLoad_ok {b o : Nat} {x : Int} {K : Bool → World → Prop} (hc : w.cell? ⟨b, o, none⟩ = some (.int .u32 x)) (hK : K (x != 0) w) : C_sync_atomic_Bool_Load (some ⟨b, o, none⟩) w K := by
  apply C_sync_atomic_Bool_Load.of
  unfold F_sync_atomic_Bool_Load
  simp only [NN_some, addN, Nat.add_zero]
  refine ⟨_, w, run_call_load (P := Try.prog) Try.func74 (by kernel_rfl) (by kernel_rfl) (by kernel_rfl) .u32 (by kernel_rfl) (a := ⟨b, o, none⟩) (x := x) hc, x, rfl, hK⟩

/-! ## It begins -/

theorem Reserved_ok {K : Option Addr → Nat → Nat → World → Prop} (hK : ∀ w', SlAt w' 1 (some ⟨w.heap.size, 0, none⟩) 15 15 (resL.map .string) [w.heap.size] → Upd [] w w' → K (some ⟨w.heap.size, 0, none⟩) 15 15 w') : C_atom_Reserved w K := by
  apply C_atom_Reserved.of
  unfold F_atom_Reserved
  refine BSlL_rule eS_69 (resL.map .string) (by rfl) (by simp [Value.cells, resL]) (by rfl) (by omega) fun w1 hs u => hK w1 ?_ u
  have e : (resL.map Value.string).flatMap (fun v => v.cells.toList) = resL.map Value.string := by rfl
  rw [e] at hs
  exact hs

theorem begin_ok {b : Nat} {lim : Int} {R : World → Prop} (hb : Blk w b (atBlk 0 1 0 lim none 0 0 none none 0 0)) (hR : ∀ w' d, Tb' 0 1 w' d → d.b = b → d.L = initL → d.M = resM 15 → d.E = [] → d.made = 0 → d.lim = lim → Upd [b] w w' → Sub d.FT [b] w → R w') : C_atom_Table_begin (some ⟨b, 0, none⟩) w R := by
  apply C_atom_Table_begin.of
  unfold F_atom_Table_begin F_atom_Table_begin_L1
  unfold atBlk at hb
  have hlt := hb.lt
  refine New_map fun r w1 hr u1 hm0 => ?_
  have hm1 := MapAt.new nV hm0
  have hb1 := hb.upd u1 (by simp)
  simp only [NN_some, addN, Nat.zero_add]
  refine St_rule hb1 (by simp) rfl fun w2 u2 hb2 => ?_
  simp at hb2
  have hm2 := hm1.upd u2 (by simp; omega)
  refine Reserved_ok fun w3 hs3 u3 => ?_
  have hb3 := hb2.upd u3 (by simp)
  have hm3 := hm2.upd u3 (by simp)
  have V3 : Upd [b] w w3 := (u1.after u2).before u3
  have hsz3 := u3.size
  have hsz2 := u2.size
  have hsz1 := u1.size
  have hrlt := hm1.lt
  have h15 : resL.length = 15 := rfl
  refine ⟨fun s v => 0 ≤ s.t10 ∧ s.t10 ≤ 15 ∧ ∃ lp ln lc GL, Blk v b #[.int .u32 0, .int .i32 1, .int .u32 0, .int .i64 0, .int .i64 lim, .slice lp ln lc, .map (some r), .slice none 0 0] ∧ SlAt v 3 lp ln lc ((initL.take s.t10.toNat).flatMap slC) GL ∧ MapAt v r nV (resM s.t10.toNat) ∧ SlAt v 1 (some ⟨w2.heap.size, 0, none⟩) 15 15 (resL.map .string) [w2.heap.size] ∧ Since GL w3 ∧ Upd [b, r] w3 v, fun s _ => (15 - s.t10).toNat,
    ⟨by simp, by simp, none, 0, 0, [], hb3, SlAt.nil _ _, hm3, hs3, (by intro k hk; cases hk), Upd.refl _ _⟩, ?_⟩
  rintro ⟨i⟩ v ⟨hi0, hi1, lp, ln, lc, GL, hbv, hl, hm, hs, hG, U⟩
  dsimp only at hi0 hi1 hl hm
  unfold B_atom_Table_begin_L1
  dsimp only
  have hln : ln = i.toNat := by
    have := hl.1
    rw [flat_len slC_len, List.length_take] at this
    have e : initL.length = 15 := rfl
    omega
  have hszU := U.size
  have hbG : b ∉ GL := fun hx => by have := hG b hx; omega
  have hrG : r ∉ GL := fun hx => by have := hG r hx; omega
  refine ifC (fun hc => ?_) (fun hc => ?_)
  · simp at hc
    obtain ⟨x, hx, hcx⟩ := hs.rd.at (i := i.toNat) (by omega)
    rw [List.getElem?_map, List.getElem?_eq_getElem (show i.toNat < resL.length by omega)] at hcx
    simp only [Option.map_some] at hcx
    rw [Option.some.injEq] at hx
    subst hx
    have hbl : v.cell? ⟨b, 5, none⟩ = some (.slice lp ln lc) := by rw [hbv.cell]; rfl
    simp only [addN, Nat.zero_add] at hcx
    simp only [NN_some, addN, Nat.zero_add, Nat.mul_one, Nat.add_zero, hcx, exStr, hbl, exS]
    refine ⟨hi0, hc, BSlL_rule eS_86 [.agg #[.string resL[i.toNat], .bool true, .bool false]] (by rfl) (by simp [Value.cells]) (by rfl) (by omega) fun v1 hs1 uv1 => ?_⟩
    refine App_rule (hE := eS_86) (hl.upd uv1 (by intro k _ h; cases h)) hs1 (by simp [Value.cells, Value.oneCell']) (by omega) fun p' c' G' v2 hs2 uv2 s2 => ?_
    have V2 : Upd GL v v2 := uv1.after uv2
    have hG' : Since G' w3 := hG.step s2 (Nat.le_trans U.size uv1.size)
    have hbG' : b ∉ G' := fun hx => by have := hG' b hx; omega
    have hrG' : r ∉ G' := fun hx => by have := hG' r hx; omega
    refine St_rule (hbv.upd V2 hbG) (by simp) rfl fun v3 uv3 hb3' => ?_
    simp at hb3'
    have hm3' := (hm.upd V2 hrG).upd uv3 (by simp; omega)
    have hr3 : v3.cell? ⟨b, 6, none⟩ = some (.map (some r)) := by rw [hb3'.cell]; rfl
    simp only [hr3, exM]
    refine MUp_rule (κ := ByteArray) (kt := 9) (et := 3) (inj := nV) (k := resL[i.toNat]) keyName (by rfl) hm3' fun v4 hm4 uv4 => ?_
    have nb : ∀ (F : List Nat) (c : Nat), c ∉ F → Dis F [c] := fun F c hF k hk hy => by simp at hy; subst hy; exact hF hk
    have hs4 := (hs2.upd uv3 (nb _ _ hbG')).upd uv4 (nb _ _ hrG')
    have hb4 := hb3'.upd uv4 (by simp; omega)
    have hq : Dis [w2.heap.size] GL := fun k hk hx => by simp at hk; subst hk; have := hG _ hx; have := hs3.inn w2.heap.size (by simp); omega
    have hqb : Dis [w2.heap.size] [b] := fun k hk hx => by simp at hk hx; omega
    have hqr : Dis [w2.heap.size] [r] := fun k hk hx => by simp at hk hx; omega
    rw [i64id (x := i + 1) (by omega) (by omega)]
    refine ⟨⟨by omega, by omega, p', ln + 1, c', G', hb4, ?_, ?_, ((hs.upd V2 hq).upd uv3 hqb).upd uv4 hqr, hG', ?_⟩, by omega⟩
    · rw [show (i + 1).toNat = i.toNat + 1 by omega]
      have e : initL.length = 15 := rfl
      rw [List.take_succ_eq_append_getElem (by omega), List.flatMap_append]
      have e2 : initL[i.toNat]'(by omega) = ⟨resL[i.toNat], true, false⟩ := by
        have := init_get (i := i.toNat) (by omega)
        rw [List.getElem?_eq_getElem (by omega), List.getElem?_eq_getElem (show i.toNat < resL.length by omega)] at this
        exact Option.some.inj this
      rw [e2]
      simpa [Value.cells, slC] using hs4
    · rw [show (i + 1).toNat = i.toNat + 1 by omega]
      show MapAt v4 r nV (put (resL[i.toNat]?.getD ⟨#[]⟩) (.int .i64 (i.toNat : Nat)) (resM i.toNat))
      rw [List.getElem?_eq_getElem (show i.toNat < resL.length by omega), show ((i.toNat : Nat) : Int) = i by omega]
      exact hm4
    · refine ((U.trans V2 (fun k hk => .inl hk) (fun k hk => .inr (hG k hk))).both (uv3.mono fun k hk => .inl ?_)).both (uv4.mono fun k hk => .inl ?_)
      · simp at hk; simp [hk]
      · simp at hk; simp [hk]
  · simp at hc
    obtain rfl : i = 15 := by omega
    have hl' : SlAt v 3 lp ln lc (initL.flatMap slC) GL := hl
    refine hR v ⟨b, lp, ln, lc, r, none, 0, 0, 0, lim, initL, resM 15, [], GL, []⟩ ⟨hbv, hl', hm, SlAt.nil _ _, by show b ≠ r; omega, hbG, by simp, hrG, by simp, by intro k _ h; cases h⟩ rfl rfl rfl rfl rfl rfl ?_ ?_
    · refine V3.trans U (fun k hk => .inl hk) fun k hk => ?_
      simp at hk
      rcases hk with rfl | rfl
      · left; simp
      · right; omega
    · intro k hk
      simp [AtD.FT] at hk
      rcases hk with rfl | rfl | hk
      · left; simp
      · right; omega
      · right; have := hG k hk; omega

/-- A table that New gave, and that has not begun. -/
def Raw (w : World) (b : Nat) (lim : Int) : Prop := Blk w b (atBlk 0 0 0 lim none 0 0 none none 0 0) ∧ 15 ≤ lim ∧ lim ≤ 16384

/-- A table. -/
def Has (w : World) (a : Option Addr) (FT : List Nat) (L : List Slot) (made lim : Int) : Prop :=
  (∃ d, Tb w d ∧ AtOk d ∧ d.a = a ∧ d.FT = FT ∧ d.L = L ∧ d.made = made ∧ d.lim = lim) ∨ (∃ b, Raw w b lim ∧ a = some ⟨b, 0, none⟩ ∧ FT = [b] ∧ L = initL ∧ made = 0)

theorem Tb'.has (h : Tb w d) (ok : AtOk d) : Has w d.a d.FT d.L d.made d.lim := .inl ⟨d, h, ok, rfl, rfl, rfl, rfl, rfl⟩

theorem ready_ok {a : Option Addr} {FT : List Nat} {L : List Slot} {made lim : Int} {K : Bool → World → Prop} (h : Has w a FT L made lim)
    (hK : ∀ w' d, Tb w' d → AtOk d → d.a = a → d.L = L → d.made = made → d.lim = lim → Upd FT w w' → Sub d.FT FT w → K true w') : C_atom_Table_ready a w K := by
  apply C_atom_Table_ready.of
  unfold F_atom_Table_ready
  rcases h with ⟨d, ht, ok, rfl, rfl, rfl, rfl, rfl⟩ | ⟨b, ⟨hb, h1, h2⟩, rfl, rfl, rfl, rfl⟩
  · have hlen := ok.at'.len
    have hll := ok.ll
    refine ifF rfl ?_
    have hl : w.cell? ⟨d.b, 4, none⟩ = some (.int .i64 d.lim) := by rw [ht.blk.cell]; rfl
    simp only [AtD.a, NN_some, addN, Nat.zero_add, Nat.add_zero, hl, exI]
    refine ifF (by simp; omega) ?_
    apply C_sync_Once_Do.of
    unfold F_sync_Once_Do
    simp only [NN_some, addN, Nat.zero_add, Nat.add_zero]
    refine BoolLoad_ok (x := 1) (by rw [ht.blk.cell]; rfl) (ifF rfl ?_)
    exact hK w d ht ok rfl rfl rfl rfl (Upd.refl _ _) (Sub.refl _ _)
  · refine ifF rfl ?_
    have hl : w.cell? ⟨b, 4, none⟩ = some (.int .i64 lim) := by rw [hb.cell]; rfl
    simp only [NN_some, addN, Nat.zero_add, Nat.add_zero, hl, exI]
    refine ifF (by simp; omega) ?_
    apply C_sync_Once_Do.of
    unfold F_sync_Once_Do
    simp only [NN_some, addN, Nat.zero_add, Nat.add_zero]
    refine BoolLoad_ok (x := 0) (by rw [hb.cell]; rfl) (ifT rfl ?_)
    have hb1 := hb.set 1 (.int .i32 1)
    have u1 := setCell_upd w b 1 (.int .i32 1)
    have e1 : (atBlk 0 0 0 lim none 0 0 none none 0 0).setIfInBounds 1 (.int .i32 1) = atBlk 0 1 0 lim none 0 0 none none 0 0 := rfl
    rw [e1] at hb1
    have main := slow_any b w (fun w' => ∃ d, Tb' 0 1 w' d ∧ d.b = b ∧ d.L = initL ∧ d.M = resM 15 ∧ d.E = [] ∧ d.made = 0 ∧ d.lim = lim ∧ Upd [b] (w.setCell ⟨b, 1, none⟩ (.int .i32 1)) w' ∧ Sub d.FT [b] (w.setCell ⟨b, 1, none⟩ (.int .i32 1)))
      (by rw [hb.cell]; rfl) (by rw [hb.cell]; rfl) (hb.frozen (by simp [atBlk])) (hb.frozen (by simp [atBlk]))
      (Calls.mono (begin_ok hb1 (R := fun w' => ∃ d, Tb' 0 1 w' d ∧ d.b = b ∧ d.L = initL ∧ d.M = resM 15 ∧ d.E = [] ∧ d.made = 0 ∧ d.lim = lim ∧ Upd [b] (w.setCell ⟨b, 1, none⟩ (.int .i32 1)) w' ∧ Sub d.FT [b] (w.setCell ⟨b, 1, none⟩ (.int .i32 1))) fun w' d h1 h2 h3 h4 h5 h6 h7 h8 h9 => ⟨d, h1, h2, h3, h4, h5, h6, h7, h8, h9⟩) fun e w' h => h)
      (fun w' ⟨d, h, hdb, _⟩ => by
        subst hdb
        exact ⟨by rw [h.blk.cell]; rfl, by rw [h.blk.cell]; rfl, h.blk.frozen (by simp [atBlk]), h.blk.frozen (by simp [atBlk])⟩)
    refine Calls.mono main fun e w' ⟨he, w2, ⟨d, h, hdb, hdL, hdM, hdE, hdm, hdl, hu, hsub⟩, hw'⟩ => ⟨he, ?_⟩
    subst hdb
    have hb2 := (h.blk.drw.set 0 (.int .u32 1)).set 1 (.int .i32 0)
    have u2 : Upd [d.b] w2 w' := by
      rw [hw']
      exact ((drw_upd w2).after (setCell_upd _ d.b 0 _)).both (setCell_upd _ d.b 1 _)
    have hb3 : Blk w' d.b (atBlk 1 0 d.made d.lim d.lp d.ln d.lc (some d.r) d.gp d.gn d.gc) := by rw [hw']; exact hb2
    have nb : ∀ F : List Nat, d.b ∉ F → Dis F [d.b] := fun F hF k hk hy => by simp at hy; subst hy; exact hF hk
    have ht : Tb w' d := ⟨hb3, h.l.upd u2 (nb _ h.bL), h.map.upd u2 (by simp; exact fun e => h.br e.symm), h.e.upd u2 (nb _ h.bE), h.br, h.bL, h.bE, h.rL, h.rE, h.LE⟩
    have ok : AtOk d := ⟨by rw [hdL, hdM, hdE]; exact init_ok, by rw [hdE]; exact List.Pairwise.nil, by rw [hdL, hdl]; exact h1, by rw [hdl]; exact h2, by rw [hdm]; omega⟩
    refine hK w' d ht ok rfl hdL hdm hdl ((u1.both hu).both u2) fun k hk => ?_
    rcases hsub k hk with e | e
    · exact .inl e
    · right
      have := u1.size
      omega

end

end Go.Proofs.Ytlngmelfjiemlaa
