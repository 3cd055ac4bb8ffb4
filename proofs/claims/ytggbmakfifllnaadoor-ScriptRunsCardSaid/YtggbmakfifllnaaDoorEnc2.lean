/- Codes of runs; the document's codes. -/
import Derived.Test.YtggbmakfifllnaaDoorEnc
import Derived.Test.YtggbmakfifllnaaDoorOwn12
namespace Go.Proofs.YtggbmakfifllnaaDoor
open Go Go.D Go.Proofs
set_option linter.unusedSimpArgs false
set_option linter.unusedVariables false
set_option maxRecDepth 8000

/-- An event's cells. -/
def evCells (e : Evn) : List Value := [.int .i64 e.kind, .string ⟨e.text.toArray⟩]

theorem evCells_len (e : Evn) : (evCells e).length = 2 := rfl

def Run.fits (evs : List Evn) : Prop := evs.length ≤ 10000 ∧ ∀ e ∈ evs, e.text.length ≤ 65536

theorem mem_flat_len {evs : List Evn} {e : Evn} (h : e ∈ evs) : (encE e).length ≤ (evs.flatMap encE).length := by
  obtain ⟨a, b, rfl⟩ := List.append_of_mem h
  simp
  omega

theorem text_le (e : Evn) : e.text.length ≤ (encE e).length := by unfold encE encT; simp; omega

theorem take_flat_len (evs : List Evn) (i : Nat) : ((evs.take i).flatMap encE).length ≤ (evs.flatMap encE).length := by
  conv => rhs; rw [← List.take_append_drop i evs, List.flatMap_append, List.length_append]
  omega

theorem take_flat {evs : List Evn} {i : Nat} (hi : i < evs.length) : (evs.take (i + 1)).flatMap encE = (evs.take i).flatMap encE ++ (enc evs[i].kind ++ encT evs[i].text) := by
  rw [List.take_add_one, List.getElem?_eq_getElem hi]
  simp only [List.flatMap_append, Option.toList_some, List.flatMap_cons, List.flatMap_nil, List.append_nil]
  rfl

section
variable {w : World} {s0 s1 : ByteArray} {c1 c2 c3 c4 c5 c6 : Int} {p : Option Addr} {n c : Nat} {col : List Int} {evs : List Evn} {tag x2 x3 x4 x5 : Int}

theorem EncodeRun_both {K : Option Addr → Nat → Nat → Int → World → Prop} (hp : Rd w 2 p n (evs.flatMap evCells)) (hE : (evs.flatMap encE).length < 2 ^ 39) (hn2 : evs.length < 2 ^ 39) (hf : Fits [tag, x2, x3, x4, x5]) (hk : ∀ e ∈ evs, Fits [e.kind])
    (hK : ∀ q m d e w', Upd [] w w' → (Run.fits evs → e = 0 ∧ ByS w w' q m d (encR ⟨tag, evs, [x2, x3, x4, x5]⟩)) → (¬ Run.fits evs → e = 3 ∧ q = none ∧ m = 0 ∧ d = 0) → K q m d e w') :
    C_script_EncodeRun tag p n c x2 x3 x4 x5 w K := by
  obtain rfl : n = evs.length := by have := hp.1; rw [flat_len evCells_len] at this; omega
  apply C_script_EncodeRun.of
  unfold F_script_EncodeRun
  refine New_rule fun r w1 hr u1 b1 => ?_
  simp only [NN_some, addN, drw_cell, drw_heap, exS, exI, exB, exP, exM, exStr, exV, a0, a1, a2, a3, a4, a5, a6, a7, a8, a9, a10, a11, a12, a13, maxI_eq, Nat.zero_add, Nat.add_zero, Nat.mul_one, Option.isNone_some, Option.isNone_none, b1.cell]
  refine New_rule fun r1 w2 hr1 u2 b2 => ?_
  have W0 : WrS w1 w2 r1 [] (decide ((evs.length : Int) > 10000)) := WrS.new u2 (by omega) b2
  simp only [NN_some, addN, drw_cell, drw_heap, exS, exI, exB, exP, exM, exStr, exV, a0, a1, a2, a3, a4, a5, a6, a7, a8, a9, a10, a11, a12, a13, maxI_eq, Nat.zero_add, Nat.add_zero, Nat.mul_one, Option.isNone_some, Option.isNone_none, (b1.upd u2 (by simp)).cell]
  have hf2 : Fits [tag, (evs.length : Int)] := by
    intro x hx
    simp only [List.mem_cons, List.not_mem_nil, or_false] at hx
    rcases hx with rfl | rfl
    · exact hf _ (by simp)
    · omega
  have hl2 := encL_len hf2
  refine numbersLit_S (L := [tag, (evs.length : Int)]) W0 rfl rfl (by simp) hf2 (by simp) fun w3 W1 => ?_
  simp only [NN_some, addN, drw_cell, drw_heap, exS, exI, exB, exP, exM, exStr, exV, a0, a1, a2, a3, a4, a5, a6, a7, a8, a9, a10, a11, a12, a13, maxI_eq, Nat.zero_add, Nat.add_zero, Nat.mul_one, Option.isNone_some, Option.isNone_none, (b1.upd W1.upd (by simp)).cell]
  simp only [List.length_cons, List.length_nil, List.nil_append] at hl2 W1
  have hp1 := hp.keep u1
  unfold F_script_EncodeRun_L1
  refine ⟨fun s v => ∃ i : Nat, s.t24 = i ∧ i ≤ evs.length ∧ WrS w1 v r1 (encL [tag, (evs.length : Int)] ++ (evs.take i).flatMap encE) (decide ((evs.length : Int) > 10000) || (evs.take i).any (fun e => decide (65536 < e.text.length))), fun s _ => (evs.length - s.t24).toNat, ⟨0, rfl, by omega, by simpa using W1⟩, ?_⟩
  rintro ⟨t⟩ v ⟨i, rfl, hi, W⟩
  unfold B_script_EncodeRun_L1
  dsimp only at hi ⊢
  have htl := take_flat_len evs i
  refine ifC (fun hc => ?_) (fun hc => ?_)
  · simp at hc
    obtain ⟨x, hx, hcx⟩ := (hp1.keep W.upd).elem hc
    have ha := hcx 0 (by omega)
    have hb := hcx 1 (by omega)
    rw [flat_at evCells_len hc (by omega)] at ha hb
    have ha' : v.cell? ((x.add (i * 2)).add 0) = some (.int .i64 evs[i].kind) := by rw [addA]; exact ha
    have hb' : v.cell? ((x.add (i * 2)).add 1) = some (.string ⟨evs[i].text.toArray⟩) := by rw [addA]; exact hb
    have hme := mem_flat_len (List.getElem_mem hc)
    have hte := text_le evs[i]
    have hki := hk _ (List.getElem_mem hc)
    have hsz : ByteArray.size ⟨evs[i].text.toArray⟩ = evs[i].text.length := rfl
    simp only [NN_some, addN, drw_cell, drw_heap, exS, exI, exB, exP, exM, exStr, exV, a0, a1, a2, a3, a4, a5, a6, a7, a8, a9, a10, a11, a12, a13, maxI_eq, Nat.zero_add, Nat.add_zero, Nat.mul_one, Option.isNone_some, Option.isNone_none, Int.toNat_natCast, hx, ha', hb']
    refine ⟨by omega, by omega, New_rule fun r2 w4 hr2 u4 b4 => ?_⟩
    refine St_rule b4 (by simp) rfl fun w5 u5 b5 => ?_
    refine St_rule b5 (by simp) rfl fun w6 u6 b6 => ?_
    have u46 : Upd [] v w6 := u4.fresh (u5.both u6) (by simp; omega)
    simp at b6
    simp only [NN_some, addN, drw_cell, drw_heap, exS, exI, exB, exP, exM, exStr, exV, a0, a1, a2, a3, a4, a5, a6, a7, a8, a9, a10, a11, a12, a13, maxI_eq, Nat.zero_add, Nat.add_zero, Nat.mul_one, Option.isNone_some, Option.isNone_none, b6.cell]
    obtain ⟨F, h1, h2, h3⟩ := W
    have hr2 : r2 ∉ F := fun hx => by have := h1.inn _ hx; omega
    refine numbersLit_ok (L := [evs[i].kind]) (h1.keep u46) rfl rfl (by simp) hki (by simp only [List.length_append, List.length_cons, List.length_nil]; omega) fun w7 F7 h7 u7 s7 => ?_
    have hb7 := b6.upd u7 hr2
    have W7 := WrS.step (h2.after u46) h3 h7 u7 s7
    have hlk := encL_len hki
    simp only [List.length_cons, List.length_nil] at hlk
    simp only [NN_some, addN, drw_cell, drw_heap, exS, exI, exB, exP, exM, exStr, exV, a0, a1, a2, a3, a4, a5, a6, a7, a8, a9, a10, a11, a12, a13, maxI_eq, Nat.zero_add, Nat.add_zero, Nat.mul_one, Option.isNone_some, Option.isNone_none, hb7.cell]
    refine text_S W7 (by rw [hsz]; simp only [List.length_append]; omega) (by rw [hsz]; omega) fun w8 W8 => ?_
    refine ⟨⟨i + 1, by rw [i64id (by omega) (by omega)]; simp, by omega, ?_⟩, by rw [i64id (by omega) (by omega)]; simp; omega⟩
    rw [take_flat hc]
    have e1 : (evs.take (i + 1)).any (fun e => decide (65536 < e.text.length)) = ((evs.take i).any (fun e => decide (65536 < e.text.length)) || decide (65536 < evs[i].text.length)) := by
      rw [List.take_add_one, List.getElem?_eq_getElem hc]
      simp only [List.any_append, Option.toList_some, List.any_cons, List.any_nil, Bool.or_false]
    rw [e1, ← Bool.or_assoc]
    simpa [encL, List.append_assoc, hsz] using W8
  · simp at hc
    obtain rfl : i = evs.length := by omega
    rw [List.take_length] at W
    have hb := b1.upd W.upd (by simp)
    simp only [NN_some, addN, drw_cell, drw_heap, exS, exI, exB, exP, exM, exStr, exV, a0, a1, a2, a3, a4, a5, a6, a7, a8, a9, a10, a11, a12, a13, maxI_eq, Nat.zero_add, Nat.add_zero, Nat.mul_one, Option.isNone_some, Option.isNone_none, hb.cell]
    have hf4 : Fits [x2, x3, x4, x5] := fun x hx => hf x (by simp only [List.mem_cons] at hx ⊢; exact .inr hx)
    have hl4 := encL_len hf4
    refine numbersLit_S (L := [x2, x3, x4, x5]) W rfl rfl (by simp) hf4 (by simp only [List.length_append, List.length_cons, List.length_nil]; omega) fun w6 W4 => ?_
    have hu : Upd [] w w6 := u1.after W4.upd
    obtain ⟨F, h3, h4, h5⟩ := W4
    have heq : encL [tag, (evs.length : Int)] ++ evs.flatMap encE ++ encL [x2, x3, x4, x5] = encR ⟨tag, evs, [x2, x3, x4, x5]⟩ := by
      unfold encR
      simp [encL, List.append_assoc]
    rw [heq] at h3
    by_cases hfit : Run.fits evs
    · have eb : (decide ((evs.length : Int) > 10000) || evs.any (fun e => decide (65536 < e.text.length))) = false := by
        obtain ⟨a, b⟩ := hfit
        simp only [Bool.or_eq_false_iff, decide_eq_false_iff_not, List.any_eq_false]
        exact ⟨by omega, fun e he => by have := b e he; simp; omega⟩
      rw [eb] at h3
      exact done_ok h3 fun q m d G hs hG => hK q m d 0 w6 hu (fun _ => ⟨rfl, G, hs, hu, fun k hk => Nat.le_trans u1.size (h5 k (hG k hk))⟩) (fun h => absurd hfit h)
    · have eb : (decide ((evs.length : Int) > 10000) || evs.any (fun e => decide (65536 < e.text.length))) = true := by
        unfold Run.fits at hfit
        by_cases h1 : evs.length ≤ 10000
        · have : ¬ ∀ e ∈ evs, e.text.length ≤ 65536 := fun h => hfit ⟨h1, h⟩
          simp only [Classical.not_forall] at this
          obtain ⟨e, he, hne⟩ := this
          simp only [Bool.or_eq_true, List.any_eq_true]
          exact .inr ⟨e, he, by simp; omega⟩
        · simp; omega
      rw [eb] at h3
      exact done_bad h3 (hK none 0 0 3 w6 hu (fun h => absurd h hfit) (fun _ => ⟨rfl, rfl, rfl, rfl⟩))

/-- Bytes that have come since, and a row that lies apart. -/
def ByR (w0 w : World) (p : Option Addr) (n c : Nat) (l : List UInt8) (a : Option Addr) (k : Nat) (cs : List Value) : Prop :=
  ∃ G, SlAt w 1 p n c (bc l) G ∧ Upd [] w0 w ∧ (∀ x ∈ G, w0.heap.size ≤ x) ∧ Rd w 1 a k cs ∧ Clear a k G

theorem ByR.toS {w0 w : World} {p : Option Addr} {n c : Nat} {l : List UInt8} {a : Option Addr} {k : Nat} {cs : List Value} (h : ByR w0 w p n c l a k cs) : ByS w0 w p n c l := by
  obtain ⟨G, h1, h2, h3, _⟩ := h
  exact ⟨G, h1, h2, h3⟩

theorem ByR.row {w0 w : World} {p : Option Addr} {n c : Nat} {l : List UInt8} {a : Option Addr} {k : Nat} {cs : List Value} (h : ByR w0 w p n c l a k cs) : Rd w 1 a k cs := by
  obtain ⟨G, _, _, _, h, _⟩ := h
  exact h

theorem ByR.make {w0 w w' : World} {p a : Option Addr} {n c k : Nat} {l : List UInt8} {cs : List Value} (h : ByS w0 w p n c l) (u : Upd [] w w') (hr : Rd w' 1 a k cs) (hf : ∀ x, a = some x → k ≠ 0 → w.heap.size ≤ x.block) : ByR w0 w' p n c l a k cs := by
  obtain ⟨G, h1, h2, h3⟩ := h
  refine ⟨G, h1.upd u (by intro k _ h; cases h), h2.after u, h3, hr, fun x hx hk hm => ?_⟩
  have := h1.inn _ hm
  have := hf x hx hk
  omega

theorem RNum_step {w0 w : World} {p a : Option Addr} {n c k : Nat} {l : List UInt8} {cs : List Value} {x : Int} {K : Option Addr → Nat → Nat → World → Prop} (h : ByR w0 w p n c l a k cs) (h0 : -2 ^ 63 ≤ x) (h1 : x < 2 ^ 63) (hl : l.length < 2 ^ 45)
    (hK : ∀ p' n' c' w', ByR w0 w' p' n' c' (l ++ enc x) a k cs → K p' n' c' w') : C_ref27_number x w fun q m d w1 => App Tryd.prog #[28, 28] 28 #[.slice p n c, .slice q m d] w1 K := by
  have hel := enc_len h0 h1
  refine RNumber_ok h0 h1 fun q m d w1 B => ?_
  have e1 := h.toS.len
  have e2 := B.len
  have u1 := B.upd
  obtain ⟨H, h6, _⟩ := B
  obtain ⟨G, g1, g2, g3, g4, g5⟩ := h
  refine App_rule (hE := eS_28) (g1.upd u1 (by intro k _ h; cases h)) h6 (bc_one _) (by omega) fun p' c' F' w2 hs2 hu2 hsub => hK p' _ c' w2 ?_
  rw [← bc_append] at hs2
  have g4' := g4.keep u1
  refine ⟨F', hs2, g2.fresh (u1.after hu2) g3, fun y hy => (hsub y hy).elim (fun h => g3 y h) (fun h => Nat.le_trans (g2.after u1).size h), g4'.upd hu2 g5, g5.step hsub (Rd_low g4' (by omega))⟩

/-- Numbers from a row, appended. -/
theorem REncode_ok {K : Option Addr → Nat → Nat → Bool → World → Prop} (hp : Rd w 1 p n (col.map (.int .i64))) (hc : col.length < 2 ^ 35) (hf : Fits ([c1, c2, c3, c4, c5, c6] ++ col))
    (hK : ∀ q m d e w', Upd [] w w' → (Scr.fits s0 s1 col → e = true ∧ ByS w w' q m d (encS (scrOf s0 s1 [c1, c2, c3, c4, c5, c6] col))) → (¬ Scr.fits s0 s1 col → e = false ∧ q = none ∧ m = 0 ∧ d = 0) → K q m d e w') :
    C_ref27_Encode s0 s1 c1 c2 c3 c4 c5 c6 p n c w K := by
  obtain rfl : n = col.length := by have := hp.1; simp at this; exact this.symm
  apply C_ref27_Encode.of
  unfold F_ref27_Encode
  refine New_rule fun r w1 hr u1 b1 => ?_
  simp only [NN_some, addN, drw_cell, drw_heap, exS, exI, exB, exP, exM, exStr, exV, a0, a1, a2, a3, a4, a5, a6, a7, a8, a9, a10, a11, a12, a13, maxI_eq, Nat.zero_add, Nat.add_zero, Nat.mul_one, Option.isNone_some, Option.isNone_none, b1.cell]
  have bad : ∀ (h : ¬ Scr.fits s0 s1 col) , K none 0 0 false w1 := fun h => hK _ _ _ _ _ u1 (fun h' => absurd h' h) (fun _ => ⟨rfl, rfl, rfl, rfl⟩)
  unfold F_ref27_Encode_k1
  refine ifC (fun h => bad (fun hh => by simp at h; have := hh.1; omega)) (fun h0 => ?_)
  refine ifC (fun h => bad (fun hh => by simp at h; have := hh.2.1; omega)) (fun h1 => ?_)
  refine ifC (fun h => bad (fun hh => by simp at h; have := hh.2.2; omega)) (fun h2 => ?_)
  simp at h0 h1 h2
  have hfit : Scr.fits s0 s1 col := ⟨by omega, by omega, by omega⟩
  have hE0 := encT_len (s := s0) (by omega)
  have hE1 := encT_len (s := s1) (by omega)
  have ud : Upd [] w1 (drw w1) := drw_upd w1
  refine RText_ok (by omega) fun tP tN tC w2 B1 => ?_
  have hb2 := b1.upd (ud.after B1.upd) (by simp)
  simp only [NN_some, addN, drw_cell, drw_heap, exS, exI, exB, exP, exM, exStr, exV, a0, a1, a2, a3, a4, a5, a6, a7, a8, a9, a10, a11, a12, a13, maxI_eq, Nat.zero_add, Nat.add_zero, Nat.mul_one, Option.isNone_some, Option.isNone_none, hb2.cell]
  refine ⟨trivial, ?_⟩
  refine RText_ok (by omega) fun qP qN qC w3 B2 => ?_
  refine (B1.keep B2.upd).app B2 (by omega) fun oP oN oC w4 B3 => ?_
  have hb4 := b1.upd (ud.after B3.upd) (by simp)
  simp only [NN_some, addN, drw_cell, drw_heap, exS, exI, exB, exP, exM, exStr, exV, a0, a1, a2, a3, a4, a5, a6, a7, a8, a9, a10, a11, a12, a13, maxI_eq, Nat.zero_add, Nat.add_zero, Nat.mul_one, Option.isNone_some, Option.isNone_none, Nat.reduceAdd, hb4.cell]
  refine BSlP_rule (hE := eS_24) ([c1, c2, c3, c4, c5, c6, (col.length : Int)].map (Value.int .i64)) rfl (by intro v hv; simp at hv; rcases hv with h | h | h | h | h | h | h <;> (subst h; rfl)) rfl (by simp) fun w5 hs5 _ u5 => ?_
  rw [flat_ints] at hs5
  have hb5 := hb4.upd u5 (by simp)
  simp only [NN_some, addN, drw_cell, drw_heap, exS, exI, exB, exP, exM, exStr, exV, a0, a1, a2, a3, a4, a5, a6, a7, a8, a9, a10, a11, a12, a13, maxI_eq, Nat.zero_add, Nat.add_zero, Nat.mul_one, Option.isNone_some, Option.isNone_none, hb5.cell]
  have u15 := (u1.after (ud.after B3.upd)).after u5
  refine AppR_rule (hE := eS_24) rfl hs5 (hp.keep u15) (by intro v hv; simp at hv; obtain ⟨x, _, rfl⟩ := hv; rfl) (by simp; omega) fun lP lC lF w6 hs6 u6 s6 => ?_
  rw [← List.map_append] at hs6
  have u56 : Upd [] w4 w6 := u5.fresh u6 (by simp)
  have hsev : Fits ([c1, c2, c3, c4, c5, c6, (col.length : Int)] ++ col) := by
    intro x hx
    simp only [List.mem_append, List.mem_cons, List.not_mem_nil, or_false] at hx
    rcases hx with (h | h | h | h | h | h | h) | h
    · exact hf x (by simp [h])
    · exact hf x (by simp [h])
    · exact hf x (by simp [h])
    · exact hf x (by simp [h])
    · exact hf x (by simp [h])
    · exact hf x (by simp [h])
    · omega
    · exact hf x (by simp [h])
  obtain ⟨L, hL⟩ : ∃ L, L = [c1, c2, c3, c4, c5, c6, (col.length : Int)] ++ col := ⟨_, rfl⟩
  rw [← hL] at hs6 hsev
  have hLl : L.length = 7 + col.length := by rw [hL]; simp; omega
  have hLn : ([c1, c2, c3, c4, c5, c6, (col.length : Int)].map (Value.int .i64)).length + col.length = L.length := by rw [hL, List.length_append, List.length_map]
  have hlen := encL_len hsev
  unfold F_ref27_Encode_L1
  have hfr : ∀ x, lP = some x → [c1, c2, c3, c4, c5, c6, (col.length : Int)].length + col.length ≠ 0 → w4.heap.size ≤ x.block := by
    intro x hx _
    rcases hs6.2.2 with ⟨h, _⟩ | ⟨b, off, arr, hb, hF, _⟩
    · rw [h] at hx; cases hx
    · rw [hb] at hx; cases hx
      rcases s6 b (by rw [hF]; simp) with h | h
      · simp at h; show w4.heap.size ≤ b; omega
      · have := u5.size; show w4.heap.size ≤ b; omega
  have BR := ByR.make B3 u56 hs6.rd hfr
  refine ⟨fun s v => ∃ i : Nat, s.i = i ∧ i ≤ L.length ∧ ByR (drw w1) v s.outP s.outN s.outC (encT s0.data.toList ++ encT s1.data.toList ++ encL (L.take i)) lP _ _, fun s _ => (L.length - s.i).toNat, ⟨0, rfl, by omega, by simpa [encL] using BR⟩, ?_⟩
  rintro ⟨P, N, C, t⟩ v ⟨i, rfl, hi, B⟩
  unfold B_ref27_Encode_L1
  dsimp only at hi B ⊢
  have htk : (encL (L.take i)).length ≤ 10 * L.length := by
    have h1 := encL_len (L := L.take i) (fun x hx => hsev x (List.mem_of_mem_take hx))
    rw [List.length_take] at h1; omega
  refine ifC (fun hc => ?_) (fun hc => ?_)
  · simp at hc
    have hiL : i < L.length := by omega
    have hrd := B.row
    obtain ⟨x, hx, hcx⟩ := hrd.at (i := i) (by omega)
    rw [List.getElem?_map, List.getElem?_eq_getElem hiL] at hcx
    simp only [Option.map_some] at hcx
    have hfi := hsev L[i] (List.getElem_mem hiL)
    simp only [NN_some, addN, drw_cell, drw_heap, exS, exI, exB, exP, exM, exStr, exV, a0, a1, a2, a3, a4, a5, a6, a7, a8, a9, a10, a11, a12, a13, maxI_eq, Nat.zero_add, Nat.add_zero, Nat.mul_one, Option.isNone_some, Option.isNone_none, hx, hcx, Int.toNat_natCast]
    refine ⟨by omega, by omega, RNum_step B hfi.1 hfi.2 (by simp only [List.length_append]; omega) fun P' N' C' w8 B8 => ⟨⟨i + 1, by rw [i64id (by omega) (by omega)]; simp, by omega, ?_⟩, by rw [i64id (by omega) (by omega)]; simp; omega⟩⟩
    rw [encL_take hiL]; simpa [List.append_assoc, hx] using B8
  · simp at hc
    obtain rfl : i = L.length := by omega
    rw [List.take_length] at B
    have B := B.toS
    refine hK _ _ _ _ _ (u1.after (ud.after B.upd)) (fun _ => ⟨rfl, ?_⟩) (fun h => absurd hfit h)
    rw [encS_eq]
    rw [hL, encL_append] at B
    simpa [List.append_assoc] using B.back (u1.after ud)
end

end Go.Proofs.YtggbmakfifllnaaDoor
