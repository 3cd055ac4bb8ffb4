/- Decode. -/
import Derived.Test.YtggbmakfifllnaaDoorRead2
namespace Go.Proofs.YtggbmakfifllnaaDoor
open Go Go.D Go.Proofs
set_option linter.unusedSimpArgs false
set_option linter.unusedVariables false
set_option maxRecDepth 8000

theorem St9n {w : World} {r : Nat} {arr : Array Value} {v0 v1 v2 v3 v4 v5 v6 v7 v8 : Value} {K : World → Prop} (hb : Blk w r arr) (ha : arr.size = 9) (hv : ∀ v ∈ [v0, v1, v2, v3, v4, v5, v6, v7, v8], v.oneCell' = true) (hK : ∀ w', Upd [r] w w' → Blk w' r #[v0, v1, v2, v3, v4, v5, v6, v7, v8] → K w') :
    St w (⟨r, 0, none⟩ : Addr) v0 fun w0 => St w0 (⟨r, 1, none⟩ : Addr) v1 fun w1 => St w1 (⟨r, 2, none⟩ : Addr) v2 fun w2 => St w2 (⟨r, 3, none⟩ : Addr) v3 fun w3 => St w3 (⟨r, 4, none⟩ : Addr) v4 fun w4 => St w4 (⟨r, 5, none⟩ : Addr) v5 fun w5 => St w5 (⟨r, 6, none⟩ : Addr) v6 fun w6 => St w6 (⟨r, 7, none⟩ : Addr) v7 fun w7 => St w7 (⟨r, 8, none⟩ : Addr) v8 fun w8 => K w8 := by
  obtain ⟨c0, c1, c2, c3, c4, c5, c6, c7, c8, rfl⟩ : ∃ c0 c1 c2 c3 c4 c5 c6 c7 c8, arr = #[c0, c1, c2, c3, c4, c5, c6, c7, c8] := by
    rcases arr with ⟨l⟩
    rcases l with _ | ⟨c0, _ | ⟨c1, _ | ⟨c2, _ | ⟨c3, _ | ⟨c4, _ | ⟨c5, _ | ⟨c6, _ | ⟨c7, _ | ⟨c8, _ | ⟨c9, l⟩⟩⟩⟩⟩⟩⟩⟩⟩⟩ <;> simp at ha
    exact ⟨c0, c1, c2, c3, c4, c5, c6, c7, c8, rfl⟩
  refine St_acc (Upd.refl _ _) hb (by simp) (hv _ (by simp)) fun u0 t0 b0 => St_acc t0 b0 (by simp) (hv _ (by simp)) fun u1 t1 b1 => St_acc t1 b1 (by simp) (hv _ (by simp)) fun u2 t2 b2 => St_acc t2 b2 (by simp) (hv _ (by simp)) fun u3 t3 b3 => St_acc t3 b3 (by simp) (hv _ (by simp)) fun u4 t4 b4 => St_acc t4 b4 (by simp) (hv _ (by simp)) fun u5 t5 b5 => St_acc t5 b5 (by simp) (hv _ (by simp)) fun u6 t6 b6 => St_acc t6 b6 (by simp) (hv _ (by simp)) fun u7 t7 b7 => St_acc t7 b7 (by simp) (hv _ (by simp)) fun u8 t8 b8 => ?_
  simp at b8
  exact hK _ t8 b8

theorem St6n {w : World} {r : Nat} {arr : Array Value} {v0 v1 v2 v3 v4 v5 : Value} {K : World → Prop} (hb : Blk w r arr) (ha : arr.size = 6) (hv : ∀ v ∈ [v0, v1, v2, v3, v4, v5], v.oneCell' = true) (hK : ∀ w', Upd [r] w w' → Blk w' r #[v0, v1, v2, v3, v4, v5] → K w') :
    St w (⟨r, 0, none⟩ : Addr) v0 fun w0 => St w0 (⟨r, 1, none⟩ : Addr) v1 fun w1 => St w1 (⟨r, 2, none⟩ : Addr) v2 fun w2 => St w2 (⟨r, 3, none⟩ : Addr) v3 fun w3 => St w3 (⟨r, 4, none⟩ : Addr) v4 fun w4 => St w4 (⟨r, 5, none⟩ : Addr) v5 fun w5 => K w5 := by
  obtain ⟨c0, c1, c2, c3, c4, c5, rfl⟩ : ∃ c0 c1 c2 c3 c4 c5, arr = #[c0, c1, c2, c3, c4, c5] := by
    rcases arr with ⟨l⟩
    rcases l with _ | ⟨c0, _ | ⟨c1, _ | ⟨c2, _ | ⟨c3, _ | ⟨c4, _ | ⟨c5, _ | ⟨c6, l⟩⟩⟩⟩⟩⟩⟩ <;> simp at ha
    exact ⟨c0, c1, c2, c3, c4, c5, rfl⟩
  refine St_acc (Upd.refl _ _) hb (by simp) (hv _ (by simp)) fun u0 t0 b0 => St_acc t0 b0 (by simp) (hv _ (by simp)) fun u1 t1 b1 => St_acc t1 b1 (by simp) (hv _ (by simp)) fun u2 t2 b2 => St_acc t2 b2 (by simp) (hv _ (by simp)) fun u3 t3 b3 => St_acc t3 b3 (by simp) (hv _ (by simp)) fun u4 t4 b4 => St_acc t4 b4 (by simp) (hv _ (by simp)) fun u5 t5 b5 => ?_
  simp at b5
  exact hK _ t5 b5

/-! ## What is read, whatever comes -/

def onum (st : Option (List UInt8)) : Int × Option (List UInt8) := match st.bind dnum with
  | none => (0, none)
  | some (x, r) => (x, some r)

def otext (st : Option (List UInt8)) : List UInt8 × Option (List UInt8) := match st.bind dtext with
  | none => ([], none)
  | some (s, r) => (s, some r)

def onums : Nat → Option (List UInt8) → List Int × Option (List UInt8)
  | 0, st => ([], st)
  | k + 1, st => ((onums k st).1 ++ [(onum (onums k st).2).1], (onum (onums k st).2).2)

theorem onums_len (k : Nat) (st : Option (List UInt8)) : (onums k st).1.length = k := by
  induction k with
  | zero => rfl
  | succ k ih => simp [onums, ih]

theorem onums_bad (k : Nat) : (onums k none).2 = none := by
  induction k with
  | zero => rfl
  | succ k ih => simp [onums, ih, onum]

theorem onums_ok (k : Nat) (l : List UInt8) : (∀ ns r, dnums k l = some (ns, r) → onums k (some l) = (ns, some r)) ∧ (dnums k l = none → (onums k (some l)).2 = none) := by
  induction k with
  | zero => simp [onums, dnums]
  | succ k ih =>
    rw [dnums_succ]
    rcases hd : dnums k l with _ | ⟨ns, r⟩
    · have := ih.2 hd
      simp [onums, this, onum]
    · have := ih.1 _ _ hd
      rcases hn : dnum r with _ | ⟨n, r'⟩
      · simp [onums, this, onum, hn]
      · simp [onums, this, onum, hn]

/-- What is behind the texts, and what comes of it. -/
def fin (st : Option (List UInt8)) : Option (List Int) := match (onums 6 st).2.bind (dcount 1000) with
  | none => none
  | some (n, r) => match dnums n.toNat r with
    | none => none
    | some (ns, r2) => if r2 = [] then some ns else none

theorem fin_none : fin none = none := by unfold fin; rw [onums_bad]; rfl

theorem dscr_fin (l : List UInt8) : dscr l = (fin (otext (otext (some l)).2).2).map fun ns => ⟨(otext (some l)).1, (otext (otext (some l)).2).1, (onums 6 (otext (otext (some l)).2).2).1, ns⟩ := by
  unfold dscr
  rcases h1 : dtext l with _ | ⟨p, l1⟩
  · simp [otext, h1, fin_none]
  have e1 : otext (some l) = (p, some l1) := by simp [otext, h1]
  rw [e1]
  simp only
  rcases h2 : dtext l1 with _ | ⟨q, l2⟩
  · simp [otext, h2, fin_none]
  have e2 : otext (some l1) = (q, some l2) := by simp [otext, h2]
  rw [e2]
  simp only
  unfold fin
  rcases h3 : dnums 6 l2 with _ | ⟨cs, l3⟩
  · rw [(onums_ok 6 l2).2 h3]; rfl
  rw [(onums_ok 6 l2).1 _ _ h3]
  simp only [Option.bind_some, dcount]
  rcases h4 : dnum l3 with _ | ⟨n, l4⟩
  · rfl
  simp only
  by_cases hc : n < 0 ∨ 1000 < n
  · rw [if_pos hc, if_pos hc]; rfl
  rw [if_neg hc, if_neg hc]
  simp only
  rcases h5 : dnums n.toNat l4 with _ | ⟨ns, l5⟩
  · rfl
  simp only
  split <;> rfl

/-- A reader, good or bad. -/
def RdO (N : Nat) (w : World) (b : Nat) (st : Option (List UInt8)) : Prop := match st with
  | some l => RdAt N w b l false
  | none => ∃ l, RdAt N w b l true

section
variable {N : Nat} {w : World} {b : Nat} {st : Option (List UInt8)}

theorem RdO.upd {w' : World} {F : List Nat} (h : RdO N w b st) (u : Upd F w w') (hb : b ∉ F) (hF : ∀ k ∈ F, N ≤ k) : RdO N w' b st := by
  unfold RdO at h ⊢
  split at h
  · exact RdAt.upd h u hb hF
  · obtain ⟨l, h⟩ := h; exact ⟨l, RdAt.upd h u hb hF⟩

theorem RdO.low (h : RdO N w b st) : N ≤ b := by
  unfold RdO at h
  split at h
  · obtain ⟨p, n, c, _, _, _, h⟩ := h; exact h.1
  · obtain ⟨l, p, n, c, _, _, _, h⟩ := h; exact h.1

theorem RdO.lt (h : RdO N w b st) : b < w.heap.size := by
  unfold RdO at h
  split at h
  · obtain ⟨p, n, c, h, _⟩ := h; exact h.lt
  · obtain ⟨l, p, n, c, h, _⟩ := h; exact h.lt

theorem numberO {K : Int → World → Prop} (h : RdO N w b st) (hK : ∀ w', RdO N w' b (onum st).2 → Upd [b] w w' → K (onum st).1 w') : C_script_reader_number (some ⟨b, 0, none⟩) w K := by
  rcases st with _ | l
  · obtain ⟨l, h⟩ := h
    exact number_bad h fun w' h' u => hK w' ⟨l, h'⟩ u
  · refine number_ok h (fun x r w' hd h' u => ?_) (fun l' w' hd h' u => ?_)
    · have e : onum (some l) = (x, some r) := by simp [onum, hd]
      rw [e] at hK; exact hK w' h' u
    · have e : onum (some l) = (0, none) := by simp [onum, hd]
      rw [e] at hK; exact hK w' ⟨l', h'⟩ u

theorem textO {K : ByteArray → World → Prop} (h : RdO N w b st) (hK : ∀ w', RdO N w' b (otext st).2 → Upd [b] w w' → K ⟨(otext st).1.toArray⟩ w') : C_script_reader_text (some ⟨b, 0, none⟩) w K := by
  rcases st with _ | l
  · obtain ⟨l, h⟩ := h
    exact rtext_bad h fun w' h' u => hK w' ⟨l, h'⟩ u
  · refine rtext_ok h (fun s r w' hd h' u => ?_) (fun l' w' hd h' u => ?_)
    · have e : otext (some l) = (s, some r) := by simp [otext, hd]
      rw [e] at hK; exact hK w' h' u
    · have e : otext (some l) = ([], none) := by simp [otext, hd]
      rw [e] at hK; exact hK w' ⟨l', h'⟩ u

theorem wholeO {K : Bool → World → Prop} (h : RdO N w b st) (hK : K (decide (st = some [])) w) : C_script_reader_whole (some ⟨b, 0, none⟩) w K := by
  rcases st with _ | l
  · obtain ⟨l, h⟩ := h
    exact whole_ok h (by simpa using hK)
  · exact whole_ok h (by simpa using hK)

theorem rowO {most : Int} {one : Value} {K : World → Prop} {S : Nat → World → Prop} {good : Nat → Bool} (h : RdO N w b st) (hm : 0 ≤ most) (hm2 : most < 2 ^ 40)
    (hS : ∀ i v, S i v → ∃ l', RdAt N v b l' (!good i))
    (hstep : ∀ i v, good i = true → S i v → CallV Tryd.prog one [] v fun x v' => x = .tuple #[] ∧ S (i + 1) v')
    (h0 : ∀ x r w', st.bind (dcount most) = some (x, r) → RdAt N w' b r false → Upd [b] w w' → S 0 w' ∧ ∀ i v, S i v → i ≤ x.toNat → (i = x.toNat ∨ good i = false) → K v)
    (hb : ∀ w', st.bind (dcount most) = none → RdO N w' b none → Upd [b] w w' → K w') : C_script_reader_row (some ⟨b, 0, none⟩) most one w K := by
  rcases st with _ | l
  · obtain ⟨l, h⟩ := h
    apply C_script_reader_row.of
    unfold F_script_reader_row F_script_reader_row_L1
    refine count_bad hm h fun w1 h1 u1 => ?_
    refine ⟨fun s v => s.i = 0 ∧ v = w1, fun _ _ => 0, ⟨rfl, rfl⟩, ?_⟩
    rintro ⟨t⟩ v ⟨rfl, rfl⟩
    unfold B_script_reader_row_L1
    exact ifF (by simp) (hb v rfl ⟨l, h1⟩ u1)
  · exact row_ok h hm hm2 hS hstep (fun x r w' hd h1 u1 => h0 x r w' hd h1 u1) (fun l' w' hd h1 u1 => hb w' hd ⟨l', h1⟩ u1)
end

end Go.Proofs.YtggbmakfifllnaaDoor
