/- Environments are left in the other order: what lies in the words. -/
import Derived.Test.YtdmjbkpibgfeiaaSame
namespace Go.Proofs.Ytdmjbkpibgfeiaa
open Go Go.D Go.Proofs
set_option linter.unusedSimpArgs false
set_option linter.unusedVariables false
set_option maxRecDepth 8000

/-- How many slots. -/
def slotsOf (x : Int) : Int := (IntKind.i64.wrap ((x.tmod (20 : Int)) + (20 : Int))).tmod (20 : Int)

theorem slotsOf_range (x : Int) : 0 ≤ slotsOf x ∧ slotsOf x < 20 := by
  have a := Int.tmod_lt_of_pos x (show (0 : Int) < 20 by omega)
  have b := Int.lt_tmod_of_pos x (show (0 : Int) < 20 by omega)
  unfold slotsOf
  rw [i64id (by omega) (by omega)]
  exact ⟨Int.tmod_nonneg 20 (by omega), Int.tmod_lt_of_pos _ (by omega)⟩

/-- What a slot is set to. -/
def valOf (i k : Int) : Int := IntKind.u64.wrap (IntKind.i64.wrap ((IntKind.i64.wrap ((100 : Int) * i)) + k))

/-- One environment. -/
structure One (W : List Int) (b : Int) (i : Nat) (x : Int) : Prop where
  size : sizeOf' W b = slotsOf x
  c0 : wordOf W (b + 1) = i
  c1 : wordOf W (b + 2) = x

/-- All of them, the last one first. -/
def All (L : List Int) (W : List Int) : List Int → Nat → Prop
  | [], i => i = 0
  | b :: bs, i => ∃ j x, i = j + 1 ∧ L[j]? = some x ∧ One W b j x ∧ (∀ k : Int, 1 ≤ k → k ≤ slotsOf x → W[(b + 4 + k - 1).toNat]? = some (valOf j k)) ∧ All L W bs j

theorem One.turn {W W' : List Int} {b T : Int} {i : Nat} {x : Int} (h : One W b i x) (hT : b + 4 ≤ T) (hW : ∀ j : Nat, (j : Int) < T → W'[j]? = W[j]?) : One W' b i x := by
  have e : ∀ i : Int, i < T → wordOf W' i = wordOf W i := fun i hi => wordOf_lt hW hi
  exact ⟨(e _ (by omega)).trans h.size, (e _ (by omega)).trans h.c0, (e _ (by omega)).trans h.c1⟩

theorem All.turn {L W W' : List Int} : ∀ {bs : List Int} {i : Nat} {e hi : Int}, All L W bs i → ChainL W bs e hi → (∀ j : Nat, (j : Int) < hi → W'[j]? = W[j]?) → All L W' bs i
  | [], _, _, _, h, _, _ => h
  | b :: bs, i, e, hi, ⟨j, x, h1, h2, h3, h4, h5⟩, hc, hW => by
    obtain ⟨c1, c2, c3, c4, c5⟩ := hc
    subst c1
    have hs := h3.size
    exact ⟨j, x, h1, h2, h3.turn (T := hi) (by omega) hW, fun k a b => by rw [hW _ (by omega)]; exact h4 k a b, h5.turn c5 fun j hj => hW j (by omega)⟩

section
variable {w : World} {d : FrD}

/-- The slots are set. -/
theorem fill_ok {L bs : List Int} {p : Option Addr} {n c : Nat} {i : Nat} {x : Int} {K : World → Prop} (h : Fr w d) (ok : Ok d (d.env :: bs) []) (h0 : 0 ≤ d.env) (hl : d.l = []) (hi : L[i]? = some x) (h1 : One d.W d.env i x) (ha : All L d.W bs i)
    (hK : ∀ w' d', Fr w' d' → Ok d' (d.env :: bs) [] → d'.a = d.a → d'.env = d.env → d'.l = [] → d'.top = d.top → d'.wlim = d.wlim → All L d'.W (d.env :: bs) (i + 1) → Upd d.F w w' → d'.F = d.F → K w') :
    F_law22_FrameNests_L2 p n c d.a i (slotsOf x) ⟨1⟩ w K := by
  unfold F_law22_FrameNests_L2
  have hr := slotsOf_range x
  refine ⟨fun s v => 1 ≤ s.k ∧ s.k ≤ slotsOf x + 1 ∧ ∃ d', Fr v d' ∧ Ok d' (d.env :: bs) [] ∧ d'.a = d.a ∧ d'.env = d.env ∧ d'.l = [] ∧ d'.top = d.top ∧ d'.wlim = d.wlim ∧ One d'.W d.env i x ∧ All L d'.W bs i ∧ (∀ k : Int, 1 ≤ k → k < s.k → d'.W[(d.env + 4 + k - 1).toNat]? = some (valOf i k)) ∧ Upd d.F w v ∧ d'.F = d.F, fun s _ => (slotsOf x + 1 - s.k).toNat, ⟨by simp, by simp; omega, d, h, ok, rfl, rfl, hl, rfl, rfl, h1, ha, fun k a b => by simp at b; omega, Upd.refl _ _, rfl⟩, ?_⟩
  rintro ⟨k⟩ v ⟨hk0, hk1, d', f, ok', ha', he', hl', ht', hw', o1, al, hv, u, hF⟩
  dsimp only at hk0 hk1 hv
  unfold B_law22_FrameNests_L2
  dsimp only
  rw [← ha']
  refine ifC (fun hc => ?_) (fun hc => ?_)
  · simp at hc
    have hh : d'.has k := ⟨by omega, by omega, by rw [he', o1.size]; omega⟩
    refine Set_ok' f ok' hh fun w' f' u' => ?_
    obtain ⟨ok2, ht2⟩ := ok'.set (x := valOf i k) hh
    have het := ok'.envtop (by omega)
    have htl := ok'.topl
    rw [he', o1.size] at het
    rw [i64id (by omega) (by omega)]
    have hset : ∀ j : Nat, (j : Int) ≠ d.env + 4 + k - 1 → (d'.W.set (d'.env + 4 + k - 1).toNat (valOf i k))[j]? = d'.W[j]? := fun j hj => by
      rw [he', List.getElem?_set_ne (by omega)]
    refine ⟨⟨by omega, by omega, _, f', ok2, rfl, he', hl', ht2.trans ht', hw', ?_, ?_, ?_, u.both (by rw [← hF]; exact u'), ?_⟩, by simp; omega⟩
    · exact o1.turn (T := d.env + 4) (by omega) fun j hj => hset j (by omega)
    · have hch : ChainL d'.W (d.env :: bs) d'.env d'.top := ok'.lv.1
      obtain ⟨_, _, _, _, c5⟩ := hch
      rw [he'] at c5
      exact al.turn c5 fun j hj => hset j (by omega)
    · intro k' a b
      by_cases hkk : k' = k
      · subst hkk
        show (d'.W.set (d'.env + 4 + k' - 1).toNat (valOf i k'))[(d.env + 4 + k' - 1).toNat]? = _
        rw [he', List.getElem?_set_self (by omega)]
      · exact (hset (d.env + 4 + k' - 1).toNat (by omega)).trans (hv k' a (by omega))
    · exact hF
  · simp at hc
    obtain rfl : k = slotsOf x + 1 := by omega
    exact hK v d' f ok' ha' he' hl' ht' hw' ⟨i, x, rfl, hi, o1, fun k a b => hv k a (by omega), al⟩ u hF

/-- The slots are as they were set. -/
theorem read_ok {L bs : List Int} {p : Option Addr} {n c : Nat} {i : Nat} {x : Int} {Kx : World → Prop} {Kr : Bool → World → Prop} (h : Fr w d) (ok : Ok d (d.env :: bs) []) (h0 : 0 ≤ d.env) (h1 : One d.W d.env i x)
    (hv : ∀ k : Int, 1 ≤ k → k ≤ slotsOf x → d.W[(d.env + 4 + k - 1).toNat]? = some (valOf i k)) (hK : ∀ w', Fr w' d → Upd [] w w' → Kx w') : F_law22_FrameNests_L4 p n c d.a i (slotsOf x) ⟨1⟩ w Kx Kr := by
  unfold F_law22_FrameNests_L4
  have hr := slotsOf_range x
  refine ⟨fun s v => 1 ≤ s.k_1 ∧ s.k_1 ≤ slotsOf x + 1 ∧ Fr v d ∧ Upd [] w v, fun s _ => (slotsOf x + 1 - s.k_1).toNat, ⟨by simp, by simp; omega, h, Upd.refl _ _⟩, ?_⟩
  rintro ⟨k⟩ v ⟨hk0, hk1, f, u⟩
  dsimp only at hk0 hk1
  unfold B_law22_FrameNests_L4
  dsimp only
  refine ifC (fun hc => ?_) (fun hc => hK v f u)
  simp at hc
  refine Get_ok' f ok ⟨h0, by omega, by rw [h1.size]; omega⟩ (hv k hk0 hc) (ifF rfl (ifF (by unfold valOf; simp) ?_))
  rw [i64id (by omega) (by omega)]
  exact ⟨⟨by omega, by omega, f, u⟩, by simp; omega⟩

end

theorem FrameNests_law {w : World} {p : Option Addr} {n c : Nat} {L : List Int} (hs : Rd w 1 p n (L.map (.int .i64))) (hwf : ∀ x ∈ L, -2 ^ 63 ≤ x ∧ x < 2 ^ 63) : C_law22_FrameNests p n c w fun r w' => r = true ∧ Upd [] w w' := by
  apply C_law22_FrameNests.of
  unfold F_law22_FrameNests F_law22_FrameNests_k1
  have hn : n = L.length := by have := hs.1; simp at this; exact this.symm
  refine FNew_ok (by omega) (by omega) (by omega) (by omega) fun d w1 f1 ok1 hl1 he1 hW1 hwl1 hlim1 htop1 u1 n1 => lives_ok fun w2 u2 => ifF rfl (ifF rfl (ifF rfl ?_))
  have U2 := u1.after u2
  refine ifC (fun _ => lives_ok fun w3 u3 => ⟨rfl, U2.after u3⟩) (fun hlen => ?_)
  simp at hlen
  unfold F_law22_FrameNests_L1
  have cellL : ∀ {v : World} {i : Nat} (hi : i < L.length), Upd [] w v → ∃ x, p = some x ∧ v.cell? (x.add (i * 1)) = some (.int .i64 L[i]) := by
    intro v i hi u
    obtain ⟨x, hx, hc⟩ := (hs.keep u).at (i := i * 1) (by omega)
    refine ⟨x, hx, ?_⟩
    rw [hc, Nat.mul_one, List.getElem?_map, List.getElem?_eq_getElem hi]; rfl
  refine ⟨fun s v => 0 ≤ s.i ∧ s.i ≤ n ∧ ∃ d' cur, d'.a = d.a ∧ d'.l = [] ∧ d'.wlim = 65536 ∧ Fr v d' ∧ Ok d' cur [] ∧ All L d'.W cur s.i.toNat ∧ d'.top ≤ 24 * s.i ∧ Upd [] w v ∧ Since d'.F w, fun s _ => (n - s.i).toNat, ⟨by simp, by simp, d, [], rfl, hl1, hwl1, f1.keep u2, ok1, rfl, by rw [htop1]; simp, U2, n1⟩, ?_⟩
  rintro ⟨i⟩ v ⟨hi0, hi1, d', cur, ha, hl', hwl', f, ok, al, htop, U, N⟩
  dsimp only at hi0 hi1 al htop
  unfold B_law22_FrameNests_L1
  dsimp only
  rw [← ha]
  refine ifC (fun hc => ?_) (fun hc => ?_)
  · simp at hc
    have hil : i.toNat < L.length := by omega
    obtain ⟨x, hx, hcell⟩ := cellL hil U
    subst hx
    simp only [NN_some, hcell, exI]
    refine ⟨hi0, hc, by omega, by omega, hi0, hc, ?_⟩
    have hr := slotsOf_range L[i.toNat]
    have hx63 := hwf _ (List.getElem_mem hil)
    have ht0 := ok.top0
    refine Alloc_ok f ok (slots := slotsOf L[i.toNat]) hr.1 (by omega) (by omega) fun w3 m F f3 u3 s3 => ifF rfl ?_
    obtain ⟨ok3, htop3, hsz3, hpr3⟩ := ok.alloc (slots := slotsOf L[i.toNat]) (c0 := i) (c1 := L[i.toNat]) (most := m) (FW := F) hr.1 (by omega) (by omega)
    have he3 : (d'.alloc (slotsOf L[i.toNat]) i L[i.toNat] m F).env = d'.top := rfl
    have o3 : One (d'.alloc (slotsOf L[i.toNat]) i L[i.toNat] m F).W d'.top i.toNat L[i.toNat] := by
      refine ⟨hsz3, ?_, ?_⟩
      · have := allocW_head ok hr.1 (c0 := i) (c1 := L[i.toNat]) (i := 1) (by omega) (by simp [header]; omega)
        simp [header] at this
        show wordOf (allocW d' (slotsOf L[i.toNat]) i L[i.toNat]) (d'.top + 1) = _
        rw [this]; omega
      · have := allocW_head ok hr.1 (c0 := i) (c1 := L[i.toNat]) (i := 2) (by omega) (by simp [header]; omega)
        simp [header] at this
        exact this
    have al3 : All L (d'.alloc (slotsOf L[i.toNat]) i L[i.toNat] m F).W cur i.toNat := al.turn ok.lv.1 fun j hj => allocW_lt ok hr.1 hj
    obtain ⟨d3, e3⟩ : ∃ d3, d3 = d'.alloc (slotsOf L[i.toNat]) i L[i.toNat] m F := ⟨_, rfl⟩
    have ha3 : d'.a = d3.a := by rw [e3]; rfl
    have hl3 : d3.l = [] := by rw [e3]; exact hl'
    have hwl3 : d3.wlim = 65536 := by rw [e3]; exact hwl'
    rw [← e3] at f3 ok3 htop3 hsz3 he3 o3 al3 s3
    clear e3
    rw [ha3]
    rw [← he3] at ok3 hsz3 o3
    have hi63 : i = ((i.toNat : Nat) : Int) := by omega
    refine Slots_ok f3 ok3 (ifF ?_ ?_)
    · rw [if_neg (by omega), hsz3]; unfold slotsOf; simp
    have fl := @fill_ok w3 d3 L cur (some x) n c i.toNat L[i.toNat]
    rw [← hi63] at fl
    refine fl f3 ok3 (by omega) hl3 (List.getElem?_eq_getElem hil) o3 al3 fun w4 d4 f4 ok4 ha4 he4 hl4 ht4 hw4 al4 u4 hF4 => ?_
    rw [i64id (by omega) (by omega)]
    have U3 := U.fresh u3 N
    have N3 := N.step s3 U.size
    refine ⟨⟨by omega, by omega, d4, _, ha4, hl4, hw4.trans hwl3, f4, ok4, ?_, by omega, U3.fresh u4 N3, by rw [hF4]; exact N3⟩, by omega⟩
    rw [show (i + 1).toNat = i.toNat + 1 by omega]
    exact al4
  · simp at hc
    obtain rfl : i = n := by omega
    rw [i64id (by omega) (by omega)]
    unfold F_law22_FrameNests_L3
    refine ⟨fun s v => -1 ≤ s.i_2 ∧ s.i_2 < n ∧ ∃ d2 cur, d2.a = d'.a ∧ d2.l = [] ∧ Fr v d2 ∧ Ok d2 cur [] ∧ All L d2.W cur (s.i_2 + 1).toNat ∧ Upd [] w v ∧ Since d2.F w, fun s _ => (s.i_2 + 1).toNat, ⟨by simp only; omega, by simp only; omega, d', cur, rfl, hl', f, ok, by simpa using al, U, N⟩, ?_⟩
    rintro ⟨i⟩ v2 ⟨hi0', hi1', d2, cur2, ha2, hl2, f2, ok2, al2, U2', N2⟩
    dsimp only at hi0' hi1' al2
    unfold B_law22_FrameNests_L3
    dsimp only
    rw [← ha2]
    refine ifC (fun hc => ?_) (fun hc => ?_)
    · simp at hc
      have hil : i.toNat < L.length := by omega
      obtain ⟨x, hx, hcell⟩ := cellL hil U2'
      subst hx
      simp only [NN_some, hcell, exI]
      rw [show (i + 1).toNat = i.toNat + 1 by omega] at al2
      rcases cur2 with _ | ⟨b, bs⟩
      · have : i.toNat + 1 = 0 := al2
        omega
      obtain ⟨j, y, hj, hy, o2, hv2, al3⟩ := al2
      obtain rfl : j = i.toNat := by omega
      rw [List.getElem?_eq_getElem hil] at hy
      obtain rfl := Option.some.inj hy
      have hch : ChainL d2.W (b :: bs) d2.env d2.top := ok2.lv.1
      obtain ⟨hb, hb0, _, _, hch5⟩ := hch
      subst hb
      have hi63 : i = ((i.toNat : Nat) : Int) := by omega
      refine ⟨hc, hi1', by omega, by omega, ?_⟩
      have rd := @read_ok v2 d2 L bs (some x) n c i.toNat L[i.toNat]
      rw [← hi63] at rd
      refine rd f2 ok2 hb0 o2 (by rw [← hi63] at hv2; exact hv2) fun w3 f3 u3 => ?_
      refine Dealloc_ok f3 ok2 hb0 fun w4 f4 u4 => ?_
      rw [o2.c0, o2.c1, ← hi63]
      have U3 := U2'.after u3
      have U4 := U3.fresh u4 N2
      refine New_rule fun r w5 hr u5 hb5 => ?_
      simp only [NN_some, addN, drw_cell, drw_heap, exS, exI, exB, exP, exM, exStr, exV, a0, a1, a2, a3, a4, a5, a6, a7, a8, a9, a10, a11, a12, a13, maxI_eq, Nat.zero_add, Nat.add_zero, Nat.mul_one, Option.isNone_some, Option.isNone_none]
      refine St_acc (Upd.refl _ _) hb5 (by simp) rfl fun w6 u6 hb6 => St_acc u6 hb6 (by simp) rfl fun w7 u7 hb7 => ?_
      simp at hb7
      have V7 : Upd [] w4 w7 := u5.fresh u7 (by intro k hk; simp at hk; omega)
      have U7 := (U4.after V7).after (drw_upd w7)
      have hcell7 : w7.cell? (x.add i.toNat) = some (.int .i64 L[i.toNat]) := by
        obtain ⟨x', hx', h⟩ := cellL (v := w7) hil (U4.after V7)
        obtain rfl := Option.some.inj hx'
        rw [Nat.mul_one] at h
        exact h
      refine ifF rfl ?_
      simp only [NN_some, addN, drw_cell, drw_heap, exS, exI, exB, exP, exM, exStr, exV, a0, a1, a2, a3, a4, a5, a6, a7, a8, a9, a10, a11, a12, a13, maxI_eq, Nat.zero_add, Nat.add_zero, Nat.mul_one, Option.isNone_some, Option.isNone_none, hb7.cell, hcell7]
      refine ⟨hc, hi1', ?_⟩
      refine addrEq (ifF (by simp) ?_)
      rw [i64id (by omega) (by omega)]
      refine ⟨⟨by omega, by omega, d2.left, bs, rfl, hl2, (f4.keep V7).keep (drw_upd w7), (ok2.left hb0).1, ?_, U7, N2⟩, by omega⟩
      rw [show (i - 1 + 1).toNat = i.toNat by omega]
      exact al3
    · simp at hc
      obtain rfl : i = -1 := by omega
      refine Env_ok f2 ⟨?_, U2'⟩
      rcases cur2 with _ | ⟨b, bs⟩
      · have : d2.env = -1 := ok2.lv.1
        rw [this]; rfl
      · obtain ⟨j, y, hj, _⟩ := al2
        simp at hj

end Go.Proofs.Ytdmjbkpibgfeiaa
