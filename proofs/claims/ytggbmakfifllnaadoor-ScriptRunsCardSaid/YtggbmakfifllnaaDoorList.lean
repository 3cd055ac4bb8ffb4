/- Listings: the document's way. -/
import Derived.Test.YtggbmakfifllnaaDoorQuote
namespace Go.Proofs.YtggbmakfifllnaaDoor
open Go Go.D Go.Proofs
set_option linter.unusedSimpArgs false
set_option linter.unusedVariables false
set_option maxRecDepth 8000

theorem appL (a b : List UInt8) : (⟨a.toArray⟩ : ByteArray) ++ (⟨b.toArray⟩ : ByteArray) = ⟨(a ++ b).toArray⟩ := by
  apply ByteArray.ext
  simp

/-- An event's line. -/
def lineP (e : Evn) : List UInt8 :=
  if e.kind = 1 then [97, 110, 115, 119, 101, 114, 32] ++ quoteP e.text
  else if e.kind = 2 then [119, 114, 105, 116, 101, 32] ++ quoteP e.text
  else if e.kind = 3 then [98, 97, 108, 108, 32] ++ quoteP e.text
  else if e.kind = 4 then [110, 111]
  else if e.kind = 5 then [104, 97, 108, 116]
  else [111, 100, 100]

def endP (t : Int) : List UInt8 :=
  if t = 1 then [97, 114, 103, 117, 109, 101, 110, 116]
  else if t = 2 then [115, 121, 110, 116, 97, 120]
  else if t = 3 then [99, 108, 97, 117, 115, 101]
  else if t = 4 then [100, 111, 110, 101]
  else if t = 5 then [115, 116, 101, 112, 115]
  else if t = 6 then [102, 117, 108, 108]
  else [111, 100, 100]

theorem endP_len (t : Int) : (endP t).length ≤ 8 := by
  unfold endP
  repeat' split
  all_goals simp

def listP (r : Rn) : List UInt8 := r.evs.flatMap (fun e => lineP e ++ [10]) ++ (endP r.tag ++ [10])

theorem quoteP_len (l : List UInt8) : (quoteP l).length ≤ 5 * l.length + 2 := by
  unfold quoteP
  have := flat_sign_len l
  split
  · omega
  · simp only [List.length_cons, List.length_append, List.length_nil]; omega

theorem lineP_len (e : Evn) : (lineP e).length ≤ 5 * e.text.length + 9 := by
  have := quoteP_len e.text
  unfold lineP
  repeat' split
  all_goals simp
  all_goals omega

section
variable {w : World}

theorem end_ok {t : Int} {K : ByteArray → World → Prop} (hK : K ⟨(endP t).toArray⟩ w) : C_script_end t w K := by
  apply C_script_end.of
  unfold F_script_end
  unfold endP at hK
  refine ifC (fun h => ?_) (fun h1 => ?_)
  · simp at h; rw [if_pos h] at hK; exact hK
  simp at h1; rw [if_neg h1] at hK
  refine ifC (fun h => ?_) (fun h1 => ?_)
  · simp at h; rw [if_pos h] at hK; exact hK
  simp at h1; rw [if_neg h1] at hK
  refine ifC (fun h => ?_) (fun h1 => ?_)
  · simp at h; rw [if_pos h] at hK; exact hK
  simp at h1; rw [if_neg h1] at hK
  refine ifC (fun h => ?_) (fun h1 => ?_)
  · simp at h; rw [if_pos h] at hK; exact hK
  simp at h1; rw [if_neg h1] at hK
  refine ifC (fun h => ?_) (fun h1 => ?_)
  · simp at h; rw [if_pos h] at hK; exact hK
  simp at h1; rw [if_neg h1] at hK
  refine ifC (fun h => ?_) (fun h1 => ?_)
  · simp at h; rw [if_pos h] at hK; exact hK
  simp at h1; rw [if_neg h1] at hK
  exact hK

theorem maxI64 : IntKind.i64.max = 2 ^ 63 - 1 := by decide

theorem list_flat_len : ∀ evs : List Evn, (evs.flatMap fun e => lineP e ++ [10]).length ≤ 5 * (evs.flatMap (·.text)).length + 10 * evs.length
  | [] => by simp
  | e :: evs => by
    have h1 := list_flat_len evs
    have h2 := lineP_len e
    simp only [List.flatMap_cons, List.length_append, List.length_cons, List.length_nil] at h1 ⊢
    omega

theorem text_mem_len {evs : List Evn} {e : Evn} (h : e ∈ evs) : e.text.length ≤ (evs.flatMap (·.text)).length := by
  obtain ⟨a, b, rfl⟩ := List.append_of_mem h
  simp only [List.flatMap_append, List.flatMap_cons, List.length_append]
  omega

theorem RListing_ok {tag x2 x3 x4 x5 : Int} {p : Option Addr} {n c : Nat} {evs : List Evn} {K : ByteArray → World → Prop} (hp : Rd w 2 p n (evs.flatMap evCells)) (hE : (evs.flatMap (·.text)).length < 2 ^ 38) (hn2 : evs.length < 2 ^ 38)
    (hK : ∀ w', Upd [] w w' → K ⟨(listP ⟨tag, evs, [x2, x3, x4, x5]⟩).toArray⟩ w') : C_ref27_Listing tag p n c x2 x3 x4 x5 w K := by
  obtain rfl : n = evs.length := by have := hp.1; rw [flat_len evCells_len] at this; omega
  apply C_ref27_Listing.of
  unfold F_ref27_Listing
  refine New_rule fun r w1 hr u1 b1 => ?_
  unfold F_ref27_Listing_L1
  refine ⟨fun s v => ∃ i : Nat, s.i = i ∧ i ≤ evs.length ∧ s.out = ⟨((evs.take i).flatMap fun e => lineP e ++ [10]).toArray⟩ ∧ Upd [] w1 v, fun s _ => (evs.length - s.i).toNat, ⟨0, rfl, by omega, rfl, Upd.refl _ _⟩, ?_⟩
  rintro ⟨out, t⟩ v ⟨i, rfl, hi, ho, hu⟩
  dsimp only at ho
  subst ho
  unfold B_ref27_Listing_L1
  have hbv := b1.upd hu (by simp)
  have htl := list_flat_len (evs.take i)
  have htt : ((evs.take i).flatMap (·.text)).length ≤ (evs.flatMap (·.text)).length := by
    conv => rhs; rw [← List.take_append_drop i evs, List.flatMap_append, List.length_append]
    omega
  rw [List.length_take] at htl
  simp only [NN_some, addN, drw_cell, drw_heap, exS, exI, exB, exP, exM, exStr, exV, a0, a1, a2, a3, a4, a5, a6, a7, a8, a9, a10, a11, a12, a13, maxI_eq, Nat.zero_add, Nat.add_zero, Nat.mul_one, Option.isNone_some, Option.isNone_none, hbv.cell]
  refine ifC (fun hc => ?_) (fun hc => ?_)
  · simp at hc
    have hel : ∀ {v'}, Upd [] w1 v' → ∃ x, p = some x ∧ v'.cell? ((x.add (i * 2)).add 0) = some (.int .i64 evs[i].kind) ∧ v'.cell? ((x.add (i * 2)).add 1) = some (.string ⟨evs[i].text.toArray⟩) := by
      intro v' u'
      obtain ⟨x, hx, hcx⟩ := ((hp.keep u1).keep u').elem hc
      have ha := hcx 0 (by omega)
      have hb := hcx 1 (by omega)
      rw [flat_at evCells_len hc (by omega)] at ha hb
      exact ⟨x, hx, by rw [addA]; exact ha, by rw [addA]; exact hb⟩
    obtain ⟨x, hx, ha, hb⟩ := hel hu
    have htxt : evs[i].text.length ≤ (evs.flatMap (·.text)).length := text_mem_len (List.getElem_mem hc)
    have hql := quoteP_len evs[i].text
    simp only [NN_some, addN, drw_cell, drw_heap, exS, exI, exB, exP, exM, exStr, exV, a0, a1, a2, a3, a4, a5, a6, a7, a8, a9, a10, a11, a12, a13, maxI_eq, Nat.zero_add, Nat.add_zero, Nat.mul_one, Option.isNone_some, Option.isNone_none, Int.toNat_natCast, hx, hb]
    refine ⟨by omega, by omega, RQuote_ok (by omega) fun w2 u2 => ?_⟩
    have hu2 := hu.after u2
    have hb2 := b1.upd hu2 (by simp)
    obtain ⟨x', hx', ha', _⟩ := hel hu2
    obtain rfl : x = x' := by rw [hx] at hx'; simpa using hx'
    simp only [NN_some, addN, drw_cell, drw_heap, exS, exI, exB, exP, exM, exStr, exV, a0, a1, a2, a3, a4, a5, a6, a7, a8, a9, a10, a11, a12, a13, maxI_eq, Nat.zero_add, Nat.add_zero, Nat.mul_one, Option.isNone_some, Option.isNone_none, hb2.cell, hx, ha']
    have nx : ∀ out2 : List UInt8, out2 = lineP evs[i] ++ [10] → (∃ j : Nat, (IntKind.i64.wrap ((i : Int) + 1)) = j ∧ j ≤ evs.length ∧ (⟨((evs.take i).flatMap (fun e => lineP e ++ [10]) ++ out2).toArray⟩ : ByteArray) = ⟨((evs.take j).flatMap fun e => lineP e ++ [10]).toArray⟩ ∧ Upd [] w1 w2) ∧ (evs.length - IntKind.i64.wrap ((i : Int) + 1)).toNat < (evs.length - (i : Int)).toNat := by
      intro out2 h
      refine ⟨⟨i + 1, by rw [i64id (by omega) (by omega)]; simp, by omega, ?_, hu2⟩, by rw [i64id (by omega) (by omega)]; omega⟩
      rw [List.take_add_one, List.getElem?_eq_getElem hc, h]
      simp only [List.flatMap_append, Option.toList_some, List.flatMap_cons, List.flatMap_nil, List.append_nil]
    refine ⟨by omega, by omega, ?_⟩
    unfold F_ref27_Listing_k1
    simp only [appL, sizeL, maxI64, List.length_append, List.length_cons, List.length_nil]
    refine ifC (fun h => ?_) (fun h1 => ?_)
    · simp at h
      refine ⟨by omega, by omega, by omega, ?_⟩
      have hnx := nx ([97, 110, 115, 119, 101, 114, 32] ++ quoteP evs[i].text ++ [10]) (by unfold lineP; rw [if_pos h])
      rw [← List.append_assoc, ← List.append_assoc] at hnx
      exact hnx
    simp at h1
    refine ifC (fun h => ?_) (fun h2 => ?_)
    · simp at h
      refine ⟨by omega, by omega, by omega, ?_⟩
      have hnx := nx ([119, 114, 105, 116, 101, 32] ++ quoteP evs[i].text ++ [10]) (by unfold lineP; rw [if_neg h1, if_pos h])
      rw [← List.append_assoc, ← List.append_assoc] at hnx
      exact hnx
    simp at h2
    refine ifC (fun h => ?_) (fun h3 => ?_)
    · simp at h
      refine ⟨by omega, by omega, by omega, ?_⟩
      have hnx := nx ([98, 97, 108, 108, 32] ++ quoteP evs[i].text ++ [10]) (by unfold lineP; rw [if_neg h1, if_neg h2, if_pos h])
      rw [← List.append_assoc, ← List.append_assoc] at hnx
      exact hnx
    simp at h3
    refine ifC (fun h => ?_) (fun h4 => ?_)
    · simp at h
      refine ⟨by omega, ?_⟩
      exact nx [110, 111, 10] (by unfold lineP; rw [if_neg h1, if_neg h2, if_neg h3, if_pos h]; rfl)
    simp at h4
    refine ifC (fun h => ?_) (fun h5 => ?_)
    · simp at h
      refine ⟨by omega, ?_⟩
      exact nx [104, 97, 108, 116, 10] (by unfold lineP; rw [if_neg h1, if_neg h2, if_neg h3, if_neg h4, if_pos h]; rfl)
    simp at h5
    refine ⟨by omega, ?_⟩
    exact nx [111, 100, 100, 10] (by unfold lineP; rw [if_neg h1, if_neg h2, if_neg h3, if_neg h4, if_neg h5]; rfl)
  · simp at hc
    obtain rfl : i = evs.length := by omega
    rw [List.take_length] at htl ⊢
    refine BSlP_rule (hE := eS_84) [.string ⟨#[111, 100, 100]⟩, .string ⟨#[97, 114, 103, 117, 109, 101, 110, 116]⟩, .string ⟨#[115, 121, 110, 116, 97, 120]⟩, .string ⟨#[99, 108, 97, 117, 115, 101]⟩, .string ⟨#[100, 111, 110, 101]⟩, .string ⟨#[115, 116, 101, 112, 115]⟩, .string ⟨#[102, 117, 108, 108]⟩] rfl (by intro v hv; simp at hv; rcases hv with h | h | h | h | h | h | h <;> (subst h; rfl)) rfl (by simp) fun w2 hs2 _ u2 => ?_
    have hu2 := hu.after u2
    have hb2 := b1.upd hu2 (by simp)
    have hfl : (evs.flatMap fun e => lineP e ++ [10]).length < 2 ^ 42 := by omega
    have hK2 := hK w2 (u1.after hu2)
    unfold listP at hK2
    simp only at hK2
    simp only [NN_some, addN, drw_cell, drw_heap, exS, exI, exB, exP, exM, exStr, exV, a0, a1, a2, a3, a4, a5, a6, a7, a8, a9, a10, a11, a12, a13, maxI_eq, Nat.zero_add, Nat.add_zero, Nat.mul_one, Option.isNone_some, Option.isNone_none, hb2.cell, appL, sizeL, maxI64, List.length_append, List.length_cons, List.length_nil]
    have hodd : ¬ (1 ≤ tag ∧ tag ≤ 6) → endP tag ++ [10] = [111, 100, 100, 10] := by
      intro h
      unfold endP
      rw [if_neg (by omega), if_neg (by omega), if_neg (by omega), if_neg (by omega), if_neg (by omega), if_neg (by omega)]
      rfl
    refine ifC (fun h => ?_) (fun h1 => ?_)
    · simp at h
      rw [hodd (by omega)] at hK2
      exact ⟨by omega, hK2⟩
    simp at h1
    refine ifC (fun h => ?_) (fun h2 => ?_)
    · simp at h
      rw [hodd (by omega)] at hK2
      exact ⟨by omega, hK2⟩
    simp at h2
    have hcs := hs2.rd
    rw [← List.append_assoc] at hK2
    have : tag = 1 ∨ tag = 2 ∨ tag = 3 ∨ tag = 4 ∨ tag = 5 ∨ tag = 6 := by omega
    rcases this with rfl | rfl | rfl | rfl | rfl | rfl
    all_goals
      rcases hcs.2 with h0 | ⟨x, hx, hcc⟩
      · simp at h0
      · cases hx
        first
        | exact ⟨by omega, by omega, ⟨(endP 1).toArray⟩, by have := hcc 1 (by simp); rw [addN, Nat.zero_add] at this; exact this.trans rfl, by rw [sizeL]; have := endP_len 1; omega, by rw [appL, sizeL, List.length_append]; have := endP_len 1; omega, by show K ((⟨(evs.flatMap fun e => lineP e ++ [10]).toArray⟩ ++ ⟨(endP 1).toArray⟩) ++ ⟨([10] : List UInt8).toArray⟩) w2; rw [appL, appL]; exact hK2⟩
        | exact ⟨by omega, by omega, ⟨(endP 2).toArray⟩, by have := hcc 2 (by simp); rw [addN, Nat.zero_add] at this; exact this.trans rfl, by rw [sizeL]; have := endP_len 2; omega, by rw [appL, sizeL, List.length_append]; have := endP_len 2; omega, by show K ((⟨(evs.flatMap fun e => lineP e ++ [10]).toArray⟩ ++ ⟨(endP 2).toArray⟩) ++ ⟨([10] : List UInt8).toArray⟩) w2; rw [appL, appL]; exact hK2⟩
        | exact ⟨by omega, by omega, ⟨(endP 3).toArray⟩, by have := hcc 3 (by simp); rw [addN, Nat.zero_add] at this; exact this.trans rfl, by rw [sizeL]; have := endP_len 3; omega, by rw [appL, sizeL, List.length_append]; have := endP_len 3; omega, by show K ((⟨(evs.flatMap fun e => lineP e ++ [10]).toArray⟩ ++ ⟨(endP 3).toArray⟩) ++ ⟨([10] : List UInt8).toArray⟩) w2; rw [appL, appL]; exact hK2⟩
        | exact ⟨by omega, by omega, ⟨(endP 4).toArray⟩, by have := hcc 4 (by simp); rw [addN, Nat.zero_add] at this; exact this.trans rfl, by rw [sizeL]; have := endP_len 4; omega, by rw [appL, sizeL, List.length_append]; have := endP_len 4; omega, by show K ((⟨(evs.flatMap fun e => lineP e ++ [10]).toArray⟩ ++ ⟨(endP 4).toArray⟩) ++ ⟨([10] : List UInt8).toArray⟩) w2; rw [appL, appL]; exact hK2⟩
        | exact ⟨by omega, by omega, ⟨(endP 5).toArray⟩, by have := hcc 5 (by simp); rw [addN, Nat.zero_add] at this; exact this.trans rfl, by rw [sizeL]; have := endP_len 5; omega, by rw [appL, sizeL, List.length_append]; have := endP_len 5; omega, by show K ((⟨(evs.flatMap fun e => lineP e ++ [10]).toArray⟩ ++ ⟨(endP 5).toArray⟩) ++ ⟨([10] : List UInt8).toArray⟩) w2; rw [appL, appL]; exact hK2⟩
        | exact ⟨by omega, by omega, ⟨(endP 6).toArray⟩, by have := hcc 6 (by simp); rw [addN, Nat.zero_add] at this; exact this.trans rfl, by rw [sizeL]; have := endP_len 6; omega, by rw [appL, sizeL, List.length_append]; have := endP_len 6; omega, by show K ((⟨(evs.flatMap fun e => lineP e ++ [10]).toArray⟩ ++ ⟨(endP 6).toArray⟩) ++ ⟨([10] : List UInt8).toArray⟩) w2; rw [appL, appL]; exact hK2⟩
end

end Go.Proofs.YtggbmakfifllnaaDoor
