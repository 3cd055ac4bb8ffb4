/- Both stacks do alike: the law. -/
import Derived.Test.YtdmjbkpibgfeiaaDo
namespace Go.Proofs.Ytdmjbkpibgfeiaa
open Go Go.D Go.Proofs
set_option linter.unusedSimpArgs false
set_option linter.unusedVariables false
set_option maxRecDepth 8000

theorem rd_low22 {w : World} {sz : Nat} {p : Option Addr} {n : Nat} {cs : List Value} (h : Rd w sz p n cs) (hz : 0 < sz) : ∀ x, p = some x → n ≠ 0 → x.block < w.heap.size := by
  intro x hx hn
  rcases h.2 with h0 | ⟨y, hy, hc⟩
  · exact absurd h0 hn
  · obtain rfl : y = x := by rw [hy] at hx; simpa using hx
    have hpos : 0 < n * sz := Nat.mul_pos (by omega) hz
    have h1 := hc 0 hpos
    rw [List.getElem?_eq_getElem (by rw [h.1]; exact hpos)] at h1
    have := cell_block h1
    rwa [add_block] at this

/-- The calls of a row, and what they may have. -/
def OpsOk (w : World) (cs : List Value) (n : Nat) : Prop := ∀ i, i < n → ∃ o : OpV, (cs.drop (i * 14)).take 14 = o.cells ∧ (-2 ^ 63 ≤ o.n ∧ o.n < 2 ^ 63) ∧ (-2 ^ 63 ≤ o.c0 ∧ o.c0 < 2 ^ 63) ∧ (-2 ^ 63 ≤ o.c1 ∧ o.c1 < 2 ^ 63) ∧ ∃ L : List Int, Rd w 1 o.ap o.an (L.map (.int .u64))

theorem OpsOk.get {w v : World} {p : Option Addr} {n : Nat} {cs : List Value} (hr : Rd v 14 p n cs) (ho : OpsOk w cs n) {i : Nat} (hi : i < n) : ∃ (x : Addr) (o : OpV), p = some x ∧ (cs.drop (i * 14)).take 14 = o.cells ∧ (∀ j, j < 14 → v.cell? (x.add (i * 14 + j)) = o.cells[j]?) ∧ (-2 ^ 63 ≤ o.n ∧ o.n < 2 ^ 63) ∧ (-2 ^ 63 ≤ o.c0 ∧ o.c0 < 2 ^ 63) ∧ (-2 ^ 63 ≤ o.c1 ∧ o.c1 < 2 ^ 63) ∧ ∃ L : List Int, Rd w 1 o.ap o.an (L.map (.int .u64)) := by
  obtain ⟨x, hx, hc⟩ := hr.elem hi
  obtain ⟨o, h, h1⟩ := ho i hi
  refine ⟨x, o, hx, h, fun j hj => ?_, h1⟩
  rw [hc j hj, ← h, List.getElem?_take, if_pos hj, List.getElem?_drop]

theorem FrameDoes_law {w : World} {words lim : Int} {p : Option Addr} {n c : Nat} {ls : List Value} (hl : Rd w 14 p n ls) (ho : OpsOk w ls n) :
    C_law22_FrameDoes words lim p n c w fun r w' => r = true ∧ Upd [] w w' := by
  apply C_law22_FrameDoes.of
  unfold F_law22_FrameDoes
  by_cases hbad : words < 0 ∨ 1048576 < words ∨ lim < 0 ∨ 4096 ≤ lim
  · refine FNew_bad hbad fun w1 u1 => RNew_bad hbad (lives_ok fun w2 u2 => ifF rfl (ifF rfl (ifF rfl (ifT rfl (ifF rfl ?_)))))
    unfold F_law22_FrameDoes_k4 F_law22_FrameDoes_L1
    have U2 := u1.after u2
    refine ⟨fun s v => Upd [] w v, fun _ _ => 0, U2, ?_⟩
    rintro ⟨i⟩ v U
    unfold B_law22_FrameDoes_L1 F_law22_FrameDoes_k2
    have leave : (true = true ∧ Upd [] w v) := ⟨rfl, U⟩
    exact ifC (fun _ => ifC (fun _ => ifF rfl leave) (fun _ => leave)) (fun _ => leave)
  refine FNew_ok (by omega) (by omega) (by omega) (by omega) fun d w1 f1 ok1 hl1 he1 hW1 hwl1 hlim1 htop1 u1 n1 => RNew_ok (by omega) (by omega) (by omega) (by omega) fun b w2 hb T2 u2 => lives_ok fun w3 u3 => ifF rfl (ifF rfl (ifF rfl (ifF rfl ?_)))
  unfold F_law22_FrameDoes_k4 F_law22_FrameDoes_L1
  obtain ⟨t, et⟩ : ∃ t : TwD, t = ⟨b, none, 0, [], [], [], -1, none, 0, [], [], [], words, lim⟩ := ⟨_, rfl⟩
  have eta : (some ⟨b, 0, none⟩ : Option Addr) = t.a := by rw [et]; rfl
  have htF : ∀ k ∈ t.F, k = b := by intro k hk; rw [et] at hk; simpa [TwD.F] using hk
  have htE : t.E = [] := by rw [et]
  have hsim : Sim d [] [] t (fun _ => 0) := by
    refine ⟨fun x hx => ?_, by rw [et, he1]; rfl, by rw [et]; simp [FrD.cs, hl1], by rw [et]; simp [FrD.cs, hl1], by rw [et, hwl1], by rw [et, hlim1]⟩
    obtain ⟨z, hz, hxz⟩ := hx
    simp at hz
    subst hz
    cases hxz
  rw [← et] at T2
  have U3 := (u1.after u2).after u3
  have bo : Bo w3 d [] [] t (fun _ => 0) := ⟨f1.keep (u2.after u3), ok1, T2.keep u3, hsim, fun k hk hx => by have := f1.inn k hk; have := htF k hx; omega, by rw [htE]; simp⟩
  have nn : Since (d.F ++ t.F) w := fun k hk => by
    rcases List.mem_append.1 hk with h | h
    · exact n1 k h
    · have := htF k h; have := u1.size; omega
  refine ⟨fun s v => ∃ (i : Nat) (d' : FrD) (cur : List Int) (lev : List Level) (t' : TwD) (φ : Int → Nat), s.i = i ∧ i ≤ 50 ∧ Bo v d' cur lev t' φ ∧ d'.b = d.b ∧ t'.b = t.b ∧ Sht d'.l ∧ t'.E.length ≤ i ∧ Upd [] w v ∧ Since (d'.F ++ t'.F) w, fun s _ => (50 - s.i).toNat, ⟨0, d, [], [], t, _, rfl, by omega, bo, rfl, rfl, (by intro x hx; rw [hl1] at hx; cases hx), by rw [htE]; simp, U3, nn⟩, ?_⟩
  rintro ⟨si⟩ v ⟨i, d', cur, lev, t', φ, hi0, hi, bv, hdb, htb, sh, hel, U, N⟩
  dsimp only at hi0
  subst hi0
  have had : d.a = d'.a := by unfold FrD.a; rw [hdb]
  have hat : (some ⟨b, 0, none⟩ : Option Addr) = t'.a := by rw [eta]; unfold TwD.a; rw [htb]
  unfold B_law22_FrameDoes_L1 F_law22_FrameDoes_k2 F_law22_FrameDoes_k3
  dsimp only
  rw [had, hat]
  have leave : (true = true ∧ Upd [] w v) := ⟨rfl, U⟩
  refine ifC (fun hc => ifC (fun hc2 => ifT rfl ?_) (fun _ => leave)) (fun _ => leave)
  simp at hc hc2
  obtain ⟨x, o, hx, _, hcell, hon, hoc0, hoc1, L, hL⟩ := OpsOk.get (hl.keep U) ho hc
  have g6 : ∀ j, j < 14 → (x.add (i * 14)).add j = x.add (i * 14 + j) := fun j _ => addA x _ j
  rw [i64id (by omega) (by omega)]
  simp only [hx, NN_some, addA, Nat.add_assoc, Nat.reduceAdd, Int.toNat_natCast, hcell 0 (by omega), hcell 1 (by omega), hcell 2 (by omega), hcell 3 (by omega), hcell 4 (by omega), hcell 5 (by omega), hcell 6 (by omega), hcell 7 (by omega), hcell 8 (by omega), hcell 9 (by omega), hcell 10 (by omega), hcell 11 (by omega), hcell 12 (by omega), hcell 13 (by omega), OpV.cells, List.getElem?_cons_zero, List.getElem?_cons_succ, exI, exS]
  refine ⟨by omega, by omega, ifC (fun _ => ?_) (fun han => ?_)⟩
  · exact ⟨⟨i + 1, d', cur, lev, t', φ, by simp, by omega, bv, hdb, htb, sh, by omega, U, N⟩, by omega⟩
  simp at han
  have hLl : L.length ≤ 100 := by have := hL.1; simp at this; omega
  have oo : OpOk v d'.F o := ⟨hon, hoc0, hoc1, ⟨L, hL.keep U, hLl⟩, fun y hy hny hm => by
    have := rd_low22 hL (by omega) y hy hny
    have := N y.block (by simp [hm])
    omega⟩
  refine ⟨by omega, by omega, do_ok bv sh oo (by omega) fun w2 d2 cur2 lev2 t2 φ2 bo2 hb2 hb2' he2 sh2 u4 s4 => ifF rfl ?_⟩
  have ha2 : d'.a = d2.a := by unfold FrD.a; rw [hb2]
  have ht2 : t'.a = t2.a := by unfold TwD.a; rw [hb2']
  have U2 : Upd [] w w2 := U.fresh u4 N
  have N2 : Since (d2.F ++ t2.F) w := N.step s4 U.size
  obtain ⟨x2, o2, hx2, ho2, hcell2, _⟩ := OpsOk.get (hl.keep U2) ho hc
  rw [hx] at hx2; cases hx2
  have c1 := hcell2 1 (by omega)
  simp only [OpV.cells, List.getElem?_cons_zero, List.getElem?_cons_succ] at c1
  rw [ha2, ht2]
  simp only [hx, NN_some, addA, Nat.add_assoc, Nat.reduceAdd, Int.toNat_natCast, c1, exI]
  refine ⟨by omega, by omega, alike_ok bo2 (fun y hy => by have := sh2 sh y hy; omega) fun w4 bo4 u5 => ifF rfl ?_⟩
  exact ⟨⟨i + 1, d2, cur2, lev2, t2, φ2, by simp, by omega, bo4, by rw [hb2]; exact hdb, by rw [hb2']; exact htb, sh2 sh, by omega, U2.fresh u5 (fun k hk => N2 k (by simp [hk])), N2⟩, by omega⟩

end Go.Proofs.Ytdmjbkpibgfeiaa
