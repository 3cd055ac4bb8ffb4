/- The document's codes of runs. -/
import Derived.Test.YtggbmakfifllnaaDoorEnc2
namespace Go.Proofs.YtggbmakfifllnaaDoor
open Go Go.D Go.Proofs
set_option linter.unusedSimpArgs false
set_option linter.unusedVariables false
set_option maxRecDepth 8000

section
variable {w : World} {p : Option Addr} {n c : Nat} {evs : List Evn} {tag x2 x3 x4 x5 : Int}

theorem REncodeRun_ok {K : Option Addr → Nat → Nat → Bool → World → Prop} (hp : Rd w 2 p n (evs.flatMap evCells)) (hE : (evs.flatMap encE).length < 2 ^ 39) (hn2 : evs.length < 2 ^ 39) (hf : Fits [tag, x2, x3, x4, x5]) (hk : ∀ e ∈ evs, Fits [e.kind])
    (hK : ∀ q m d e w', Upd [] w w' → (Run.fits evs → e = true ∧ ByS w w' q m d (encR ⟨tag, evs, [x2, x3, x4, x5]⟩)) → (¬ Run.fits evs → e = false ∧ q = none ∧ m = 0 ∧ d = 0) → K q m d e w') :
    C_ref27_EncodeRun tag p n c x2 x3 x4 x5 w K := by
  obtain rfl : n = evs.length := by have := hp.1; rw [flat_len evCells_len] at this; omega
  apply C_ref27_EncodeRun.of
  unfold F_ref27_EncodeRun
  refine New_rule fun r w1 hr u1 b1 => ?_
  simp only [NN_some, addN, drw_cell, drw_heap, exS, exI, exB, exP, exM, exStr, exV, a0, a1, a2, a3, a4, a5, a6, a7, a8, a9, a10, a11, a12, a13, maxI_eq, Nat.zero_add, Nat.add_zero, Nat.mul_one, Option.isNone_some, Option.isNone_none, b1.cell]
  refine ifC (fun h => hK _ _ _ _ _ u1 (fun h' => by simp at h; have := h'.1; omega) (fun _ => ⟨rfl, rfl, rfl, rfl⟩)) (fun h0 => ?_)
  simp at h0
  have ud : Upd [] w1 (drw w1) := drw_upd w1
  have htag := hf tag (by simp)
  have het := enc_len htag.1 htag.2
  have hen := enc_len (n := (evs.length : Int)) (by omega) (by omega)
  refine RNumber_ok htag.1 htag.2 fun tP tN tC w2 B1 => ?_
  have hb2 := b1.upd (ud.after B1.upd) (by simp)
  simp only [NN_some, addN, drw_cell, drw_heap, exS, exI, exB, exP, exM, exStr, exV, a0, a1, a2, a3, a4, a5, a6, a7, a8, a9, a10, a11, a12, a13, maxI_eq, Nat.zero_add, Nat.add_zero, Nat.mul_one, Option.isNone_some, Option.isNone_none, hb2.cell]
  refine ⟨trivial, ?_⟩
  refine RNumber_ok (by omega) (by omega) fun qP qN qC w3 B2 => ?_
  refine (B1.keep B2.upd).app B2 (by omega) fun oP oN oC w4 B3 => ?_
  have hp1 := hp.keep (u1.after ud)
  unfold F_ref27_EncodeRun_L1
  refine ⟨fun s v => ∃ i : Nat, s.i = i ∧ i ≤ evs.length ∧ ByS (drw w1) v s.outP s.outN s.outC (enc tag ++ enc (evs.length : Int) ++ (evs.take i).flatMap encE) ∧ ∀ e ∈ evs.take i, e.text.length ≤ 65536, fun s _ => (evs.length - s.i).toNat, ⟨0, rfl, by omega, by simpa using B3, by simp⟩, ?_⟩
  rintro ⟨P, N, C, t⟩ v ⟨i, rfl, hi, B, hsm⟩
  unfold B_ref27_EncodeRun_L1
  dsimp only at hi B ⊢
  have hbv := b1.upd (ud.after B.upd) (by simp)
  have htl := take_flat_len evs i
  simp only [NN_some, addN, drw_cell, drw_heap, exS, exI, exB, exP, exM, exStr, exV, a0, a1, a2, a3, a4, a5, a6, a7, a8, a9, a10, a11, a12, a13, maxI_eq, Nat.zero_add, Nat.add_zero, Nat.mul_one, Option.isNone_some, Option.isNone_none, hbv.cell]
  refine ifC (fun hc => ?_) (fun hc => ?_)
  · simp at hc
    obtain ⟨x, hx, hcx⟩ := (hp1.keep B.upd).elem hc
    have ha := hcx 0 (by omega)
    have hb := hcx 1 (by omega)
    rw [flat_at evCells_len hc (by omega)] at ha hb
    have ha' : v.cell? ((x.add (i * 2)).add 0) = some (.int .i64 evs[i].kind) := by rw [addA]; exact ha
    have hb' : v.cell? ((x.add (i * 2)).add 1) = some (.string ⟨evs[i].text.toArray⟩) := by rw [addA]; exact hb
    have hme := mem_flat_len (List.getElem_mem hc)
    have hte := text_le evs[i]
    have hki := hk _ (List.getElem_mem hc) evs[i].kind (by simp)
    have hke := enc_len hki.1 hki.2
    have hsz : ByteArray.size ⟨evs[i].text.toArray⟩ = evs[i].text.length := rfl
    simp only [NN_some, addN, drw_cell, drw_heap, exS, exI, exB, exP, exM, exStr, exV, a0, a1, a2, a3, a4, a5, a6, a7, a8, a9, a10, a11, a12, a13, maxI_eq, Nat.zero_add, Nat.add_zero, Nat.mul_one, Option.isNone_some, Option.isNone_none, Int.toNat_natCast, hx, ha', hb']
    refine ⟨by omega, by omega, ifC (fun h1 => ?_) (fun h1 => ?_)⟩
    · refine hK _ _ _ _ _ (u1.after (ud.after B.upd)) (fun h' => ?_) (fun _ => ⟨rfl, rfl, rfl, rfl⟩)
      have := h'.2 _ (List.getElem_mem hc)
      simp [hsz] at h1
      omega
    · simp [hsz] at h1
      refine ⟨by omega, by omega, by omega, by omega, ?_⟩
      refine RNumber_ok hki.1 hki.2 fun nP nN nC w5 B5 => ?_
      have uv5 : Upd [] v w5 := (drw_upd v).after B5.upd
      have hb5 := hbv.upd uv5 (by simp)
      have hc5 : w5.cell? ((x.add (i * 2)).add 1) = some (.string ⟨evs[i].text.toArray⟩) := uv5.cell hb' (by simp)
      simp only [NN_some, addN, drw_cell, drw_heap, exS, exI, exB, exP, exM, exStr, exV, a0, a1, a2, a3, a4, a5, a6, a7, a8, a9, a10, a11, a12, a13, maxI_eq, Nat.zero_add, Nat.add_zero, Nat.mul_one, Option.isNone_some, Option.isNone_none, hb5.cell, hc5, hb']
      refine ⟨by first | trivial | rfl | rw [hx], by first | trivial | rfl | rw [hx], ?_⟩
      refine (B.keep uv5).app B5 (by simp only [List.length_append]; omega) fun P1 N1 C1 w6 B6 => ?_
      have hb6 := b1.upd (ud.after B6.upd) (by simp)
      obtain ⟨x6, hx6, hcx6⟩ := (hp1.keep B6.upd).elem hc
      obtain rfl : x = x6 := by rw [hx] at hx6; simpa using hx6
      have hbx := hcx6 1 (by omega)
      rw [flat_at evCells_len hc (by omega)] at hbx
      have hb6' : w6.cell? ((x.add (i * 2)).add 1) = some (.string ⟨evs[i].text.toArray⟩) := by rw [addA]; exact hbx
      simp only [NN_some, addN, drw_cell, drw_heap, exS, exI, exB, exP, exM, exStr, exV, a0, a1, a2, a3, a4, a5, a6, a7, a8, a9, a10, a11, a12, a13, maxI_eq, Nat.zero_add, Nat.add_zero, Nat.mul_one, Option.isNone_some, Option.isNone_none, hb6.cell, hb6']
      refine ⟨by first | trivial | rfl | rw [hx], by first | trivial | rfl | rw [hx], ?_⟩
      refine RText_ok (by rw [hsz]; omega) fun tP tN tC w7 B7 => ?_
      have htl2 := encT_len (s := ⟨evs[i].text.toArray⟩) (by rw [hsz]; omega)
      rw [hsz] at htl2
      have htl3 : (encT evs[i].text).length ≤ evs[i].text.length + 10 := htl2
      refine (B6.keep B7.upd).app B7 (by simp only [List.length_append]; omega) fun P2 N2 C2 w8 B8 => ⟨⟨i + 1, by rw [i64id (by omega) (by omega)]; simp, by omega, ?_, ?_⟩, by rw [i64id (by omega) (by omega)]; simp; omega⟩
      · rw [take_flat hc]; simpa [List.append_assoc] using B8
      · intro e he
        rw [List.take_add_one, List.getElem?_eq_getElem hc] at he
        rcases List.mem_append.1 he with he | he
        · exact hsm e he
        · simp at he; subst he; omega
  · simp at hc
    obtain rfl : i = evs.length := by omega
    rw [List.take_length] at B hsm
    have hfit : Run.fits evs := ⟨by omega, hsm⟩
    have hf4 : Fits [x2, x3, x4, x5] := fun x hx => hf x (by simp only [List.mem_cons] at hx ⊢; exact .inr hx)
    have hlen := encL_len hf4
    simp only [List.length_cons, List.length_nil] at hlen
    refine BSlP_rule (hE := eS_24) ([x2, x3, x4, x5].map (Value.int .i64)) rfl (by intro v hv; simp at hv; rcases hv with h | h | h | h <;> (subst h; rfl)) rfl (by simp) fun w5 hs5 _ u5 => ?_
    rw [flat_ints] at hs5
    obtain ⟨L4, hL4⟩ : ∃ L, L = [x2, x3, x4, x5] := ⟨_, rfl⟩
    have h4 : L4.length = 4 := by rw [hL4]; rfl
    have h4' : (List.map (Value.int .i64) [x2, x3, x4, x5]).length = 4 := rfl
    rw [← hL4] at hs5 hf4 hlen
    have BR := ByR.make B u5 hs5.rd (by intro x hx _; cases hx; exact Nat.le_refl _)
    unfold F_ref27_EncodeRun_L2
    refine ⟨fun s v => ∃ j : Nat, s.i_1 = j ∧ j ≤ 4 ∧ ByR (drw w1) v s.outP_3 s.outN_3 s.outC_3 (enc tag ++ enc (evs.length : Int) ++ evs.flatMap encE ++ encL (L4.take j)) _ _ _, fun s _ => (4 - s.i_1).toNat, ⟨0, rfl, by omega, by simpa [encL] using BR⟩, ?_⟩
    rintro ⟨P, N, C, t⟩ v ⟨j, rfl, hj, B⟩
    unfold B_ref27_EncodeRun_L2
    dsimp only at hj B ⊢
    have htk : (encL (L4.take j)).length ≤ 40 := by
      have h1 := encL_len (L := L4.take j) (fun x hx => hf4 x (List.mem_of_mem_take hx))
      rw [List.length_take] at h1
      omega
    refine ifC (fun hc => ?_) (fun hc => ?_)
    · simp at hc
      obtain ⟨x, hx, hcx⟩ := B.row.at (i := j) (by omega)
      have hjl : j < L4.length := by omega
      rw [List.getElem?_map, List.getElem?_eq_getElem hjl] at hcx
      simp only [Option.map_some] at hcx
      have hfi := hf4 _ (List.getElem_mem hjl)
      have hx' := hx
      simp only [Option.some.injEq] at hx'
      subst hx'
      simp only [NN_some, addN, drw_cell, drw_heap, exS, exI, exB, exP, exM, exStr, exV, a0, a1, a2, a3, a4, a5, a6, a7, a8, a9, a10, a11, a12, a13, maxI_eq, Nat.zero_add, Nat.add_zero, Nat.mul_one, Option.isNone_some, Option.isNone_none] at hcx
      simp only [NN_some, addN, drw_cell, drw_heap, exS, exI, exB, exP, exM, exStr, exV, a0, a1, a2, a3, a4, a5, a6, a7, a8, a9, a10, a11, a12, a13, maxI_eq, Nat.zero_add, Nat.add_zero, Nat.mul_one, Option.isNone_some, Option.isNone_none, hcx, Int.toNat_natCast]
      refine ⟨by omega, by omega, RNum_step B hfi.1 hfi.2 (by simp only [List.length_append]; omega) fun P' N' C' w8 B8 => ⟨⟨j + 1, by rw [i64id (by omega) (by omega)]; simp, by omega, ?_⟩, by rw [i64id (by omega) (by omega)]; simp; omega⟩⟩
      rw [encL_take hjl, ← List.append_assoc]; exact B8
    · simp at hc
      obtain rfl : j = 4 := by omega
      have B := B.toS
      refine hK _ _ _ _ _ (u1.after (ud.after B.upd)) (fun _ => ⟨rfl, ?_⟩) (fun h => absurd hfit h)
      have heq : enc tag ++ enc (evs.length : Int) ++ evs.flatMap encE ++ encL (L4.take 4) = encR ⟨tag, evs, [x2, x3, x4, x5]⟩ := by
        unfold encR
        rw [hL4]
        simp [List.append_assoc]
      rw [heq] at B
      exact B.back (u1.after ud)
end

end Go.Proofs.YtggbmakfifllnaaDoor
