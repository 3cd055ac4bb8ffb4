/- A run's lines; the program's way. -/
import Derived.Test.YtggbmakfifllnaaDoorQuote2
namespace Go.Proofs.YtggbmakfifllnaaDoor
open Go Go.D Go.Proofs
set_option linter.unusedSimpArgs false
set_option linter.unusedVariables false
set_option maxRecDepth 8000

section
variable {w : World}

theorem line_ok {e : Evn} {K : ByteArray → World → Prop} (h : Tab w) (hl : e.text.length < 2 ^ 38) (hK : ∀ w', Upd [] w w' → K ⟨(lineP e).toArray⟩ w') : C_script_line e.kind ⟨e.text.toArray⟩ w K := by
  apply C_script_line.of
  unfold F_script_line
  refine New_rule fun r w1 hr u1 b1 => ?_
  simp only [NN_some, addN, drw_cell, drw_heap, exS, exI, exB, exP, exM, exStr, exV, a0, a1, a2, a3, a4, a5, a6, a7, a8, a9, a10, a11, a12, a13, maxI_eq, Nat.zero_add, Nat.add_zero, Nat.mul_one, Option.isNone_some, Option.isNone_none, b1.cell]
  refine Quote_ok (h.keep u1) hl fun w2 u2 => ?_
  have b2 := b1.upd u2 (by simp)
  have hq := quoteP_len e.text
  simp only [NN_some, addN, drw_cell, drw_heap, exS, exI, exB, exP, exM, exStr, exV, a0, a1, a2, a3, a4, a5, a6, a7, a8, a9, a10, a11, a12, a13, maxI_eq, Nat.zero_add, Nat.add_zero, Nat.mul_one, Option.isNone_some, Option.isNone_none, b2.cell]
  have hK2 := hK w2 (u1.after u2)
  unfold lineP at hK2
  have e32 : ∀ a : List UInt8, (⟨a.toArray⟩ : ByteArray) ++ ((⟨([32] : List UInt8).toArray⟩ : ByteArray) ++ ⟨(quoteP e.text).toArray⟩) = ⟨(a ++ ([32] ++ quoteP e.text)).toArray⟩ := fun a => by rw [appL, appL]
  refine ⟨by show (((1 : Nat) + (quoteP e.text).length : Nat) : Int) ≤ _; rw [maxI64]; omega, ?_⟩
  have go : ∀ a : List UInt8, a.length < 10 → K ⟨(a ++ ([32] ++ quoteP e.text)).toArray⟩ w2 → ((((⟨a.toArray⟩ : ByteArray).size + ((⟨([32] : List UInt8).toArray⟩ : ByteArray) ++ ⟨(quoteP e.text).toArray⟩).size : Nat) : Int) ≤ IntKind.i64.max ∧ K ((⟨a.toArray⟩ : ByteArray) ++ ((⟨([32] : List UInt8).toArray⟩ : ByteArray) ++ ⟨(quoteP e.text).toArray⟩)) w2) := by
    intro a ha hk
    rw [e32, appL, sizeL, sizeL, maxI64]
    exact ⟨by simp only [List.length_append, List.length_cons, List.length_nil]; omega, hk⟩
  refine ifC (fun h => ?_) (fun h1 => ?_)
  · simp at h; rw [if_pos h] at hK2
    exact go [97, 110, 115, 119, 101, 114] (by simp) (by simpa using hK2)
  simp at h1; rw [if_neg h1] at hK2
  refine ifC (fun h => ?_) (fun h1 => ?_)
  · simp at h; rw [if_pos h] at hK2
    exact go [119, 114, 105, 116, 101] (by simp) (by simpa using hK2)
  simp at h1; rw [if_neg h1] at hK2
  refine ifC (fun h => ?_) (fun h1 => ?_)
  · simp at h; rw [if_pos h] at hK2
    exact go [98, 97, 108, 108] (by simp) (by simpa using hK2)
  simp at h1; rw [if_neg h1] at hK2
  refine ifC (fun h => ?_) (fun h1 => ?_)
  · simp at h; rw [if_pos h] at hK2; exact hK2
  simp at h1; rw [if_neg h1] at hK2
  refine ifC (fun h => ?_) (fun h1 => ?_)
  · simp at h; rw [if_pos h] at hK2; exact hK2
  simp at h1; rw [if_neg h1] at hK2
  exact hK2

theorem Listing_ok {tag x2 x3 x4 x5 : Int} {p : Option Addr} {n c : Nat} {evs : List Evn} {K : ByteArray → World → Prop} (h : Tab w) (hp : Rd w 2 p n (evs.flatMap evCells)) (hE : (evs.flatMap (·.text)).length < 2 ^ 38) (hn2 : evs.length < 2 ^ 38)
    (hK : ∀ w', Upd [] w w' → K ⟨(listP ⟨tag, evs, [x2, x3, x4, x5]⟩).toArray⟩ w') : C_script_Listing tag p n c x2 x3 x4 x5 w K := by
  obtain rfl : n = evs.length := by have := hp.1; rw [flat_len evCells_len] at this; omega
  apply C_script_Listing.of
  unfold F_script_Listing
  refine New_rule fun r w1 hr u1 b1 => ?_
  refine BuS.new fun b w2 B2 => ?_
  have b2 := b1.upd B2.upd (by simp)
  simp only [NN_some, addN, drw_cell, drw_heap, exS, exI, exB, exP, exM, exStr, exV, a0, a1, a2, a3, a4, a5, a6, a7, a8, a9, a10, a11, a12, a13, maxI_eq, Nat.zero_add, Nat.add_zero, Nat.mul_one, Option.isNone_some, Option.isNone_none, b2.cell]
  unfold F_script_Listing_L1
  refine ⟨fun s v => ∃ i : Nat, s.t9 = i ∧ i ≤ evs.length ∧ BuS w1 v b ((evs.take i).flatMap fun e => lineP e ++ [10]), fun s _ => (evs.length - s.t9).toNat, ⟨0, rfl, by omega, by simpa using B2⟩, ?_⟩
  rintro ⟨t⟩ v ⟨i, rfl, hi, B⟩
  unfold B_script_Listing_L1
  dsimp only at B ⊢
  have hbv := b1.upd B.upd (by simp)
  have htl := list_flat_len (evs.take i)
  have htt : ((evs.take i).flatMap (·.text)).length ≤ (evs.flatMap (·.text)).length := by
    conv => rhs; rw [← List.take_append_drop i evs, List.flatMap_append, List.length_append]
    omega
  rw [List.length_take] at htl
  refine ifC (fun hc => ?_) (fun hc => ?_)
  · simp at hc
    obtain ⟨x, hx, hcx⟩ := ((hp.keep u1).keep B.upd).elem hc
    have ha := hcx 0 (by omega)
    have hb := hcx 1 (by omega)
    rw [flat_at evCells_len hc (by omega)] at ha hb
    have ha' : v.cell? ((x.add (i * 2)).add 0) = some (.int .i64 evs[i].kind) := by rw [addA]; exact ha
    have hb' : v.cell? ((x.add (i * 2)).add 1) = some (.string ⟨evs[i].text.toArray⟩) := by rw [addA]; exact hb
    have htxt : evs[i].text.length ≤ (evs.flatMap (·.text)).length := text_mem_len (List.getElem_mem hc)
    have hll := lineP_len evs[i]
    simp only [NN_some, addN, drw_cell, drw_heap, exS, exI, exB, exP, exM, exStr, exV, a0, a1, a2, a3, a4, a5, a6, a7, a8, a9, a10, a11, a12, a13, maxI_eq, Nat.zero_add, Nat.add_zero, Nat.mul_one, Option.isNone_some, Option.isNone_none, Int.toNat_natCast, hx, ha', hb']
    refine ⟨by omega, by omega, ?_⟩
    refine New_rule fun r2 w3 hr2 u3 b3 => ?_
    refine St_rule b3 (by simp) rfl fun w4 u4 b4 => ?_
    refine St_rule b4 (by simp) rfl fun w5 u5 b5 => ?_
    have h5 : w5.cell? ⟨r2, 0, none⟩ = some (.int .i64 evs[i].kind) := by rw [b5.cell]; simp
    have h6 : w5.cell? ⟨r2, 1, none⟩ = some (.string ⟨evs[i].text.toArray⟩) := by rw [b5.cell]; simp
    have uu : Upd [] v w5 := (u3.after (u4.both u5)).mono (by intro k hk; simp at hk; right; omega)
    simp only [NN_some, addN, drw_cell, drw_heap, exS, exI, exB, exP, exM, exStr, exV, a0, a1, a2, a3, a4, a5, a6, a7, a8, a9, a10, a11, a12, a13, maxI_eq, Nat.zero_add, Nat.add_zero, Nat.mul_one, Option.isNone_some, Option.isNone_none, h5, h6]
    have B5 := B.keep uu
    refine line_ok ((h.keep u1).keep B5.upd) (by omega) fun w6 u6 => ?_
    refine ⟨by show (((lineP evs[i]).length + 1 : Nat) : Int) ≤ _; rw [maxI64]; omega, ?_⟩
    show C_strings_Builder_WriteString _ ((⟨(lineP evs[i]).toArray⟩ : ByteArray) ++ (⟨([10] : List UInt8).toArray⟩ : ByteArray)) _ _
    rw [appL]
    refine (B5.keep u6).str (by simp only [List.length_append, List.length_cons, List.length_nil]; omega) fun w7 B7 => ?_
    refine ⟨⟨i + 1, by rw [i64id (by omega) (by omega)]; simp, by omega, ?_⟩, by rw [i64id (by omega) (by omega)]; omega⟩
    rw [List.take_add_one, List.getElem?_eq_getElem hc]
    simp only [List.flatMap_append, Option.toList_some, List.flatMap_cons, List.flatMap_nil, List.append_nil]
    exact B7
  · simp at hc
    obtain rfl : i = evs.length := by omega
    rw [List.take_length] at htl B
    simp only [NN_some, addN, drw_cell, drw_heap, exS, exI, exB, exP, exM, exStr, exV, a0, a1, a2, a3, a4, a5, a6, a7, a8, a9, a10, a11, a12, a13, maxI_eq, Nat.zero_add, Nat.add_zero, Nat.mul_one, Option.isNone_some, Option.isNone_none, hbv.cell]
    refine end_ok ?_
    have hel := endP_len tag
    refine ⟨by show (((endP tag).length + 1 : Nat) : Int) ≤ _; rw [maxI64]; omega, ?_⟩
    show C_strings_Builder_WriteString _ ((⟨(endP tag).toArray⟩ : ByteArray) ++ (⟨([10] : List UInt8).toArray⟩ : ByteArray)) _ _
    rw [appL]
    refine B.str (by simp only [List.length_append, List.length_cons, List.length_nil]; omega) fun w7 B7 => ?_
    refine B7.text (by simp) (by simp only [List.length_append, List.length_cons, List.length_nil]; omega) fun w8 u8 => ?_
    exact hK w8 (u1.after u8)
end

end Go.Proofs.YtggbmakfifllnaaDoor
