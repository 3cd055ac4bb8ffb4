/- Codes: the document's way. -/
import Derived.Test.YtggbmakfifllnaaDoorWrite
namespace Go.Proofs.YtggbmakfifllnaaDoor
open Go Go.D Go.Proofs
set_option linter.unusedSimpArgs false
set_option linter.unusedVariables false
set_option maxRecDepth 8000

/-- Bytes that have come since. -/
def ByS (w0 w : World) (p : Option Addr) (n c : Nat) (l : List UInt8) : Prop := ∃ G, SlAt w 1 p n c (bc l) G ∧ Upd [] w0 w ∧ ∀ k ∈ G, w0.heap.size ≤ k

section
variable {w0 w : World} {p q : Option Addr} {n c m d : Nat} {l l2 : List UInt8}

theorem ByS.len (h : ByS w0 w p n c l) : n = l.length := by
  obtain ⟨G, h, _⟩ := h
  have := h.1; rw [bc_len] at this; omega

theorem ByS.upd (h : ByS w0 w p n c l) : Upd [] w0 w := by obtain ⟨G, _, u, _⟩ := h; exact u

theorem ByS.rd (h : ByS w0 w p n c l) : Rd w 1 p n (bc l) := by obtain ⟨G, h, _⟩ := h; exact h.rd

theorem ByS.nil (w : World) : ByS w w none 0 0 [] := ⟨[], SlAt.nil w 1, Upd.refl _ _, by simp⟩

theorem ByS.keep {w' : World} (h : ByS w0 w p n c l) (u : Upd [] w w') : ByS w0 w' p n c l := by
  obtain ⟨G, h1, h2, h3⟩ := h
  exact ⟨G, h1.upd u (by intro k _ h; cases h), h2.after u, h3⟩

theorem ByS.back {w' : World} (h : ByS w0 w p n c l) (u : Upd [] w' w0) : ByS w' w p n c l := by
  obtain ⟨G, h1, h2, h3⟩ := h
  exact ⟨G, h1, u.after h2, fun k hk => Nat.le_trans u.size (h3 k hk)⟩

theorem ByS.step {w' : World} {G G' : List Nat} {p' : Option Addr} {n' c' : Nat} {l' : List UInt8} (h2 : Upd [] w0 w) (h3 : ∀ k ∈ G, w0.heap.size ≤ k) (h : SlAt w' 1 p' n' c' (bc l') G') (u : Upd G w w') (s : Sub G' G w) : ByS w0 w' p' n' c' l' :=
  ⟨G', h, h2.fresh u h3, fun k hk => (s k hk).elim (fun h => h3 k h) (fun h => Nat.le_trans h2.size h)⟩

theorem ByS.app {w1 : World} {K : Option Addr → Nat → Nat → World → Prop} (h : ByS w0 w p n c l) (h2 : ByS w1 w q m d l2) (hl : l.length + l2.length < 2 ^ 46)
    (hK : ∀ p' n' c' w', ByS w0 w' p' n' c' (l ++ l2) → K p' n' c' w') : App Tryd.prog #[28, 28] 28 #[.slice p n c, .slice q m d] w K := by
  have e1 := h.len
  have e2 := h2.len
  obtain ⟨G, h3, h4, h5⟩ := h
  obtain ⟨H, h6, _⟩ := h2
  refine App_rule (hE := eS_28) h3 h6 (bc_one _) (by omega) fun p' c' F' w2 hs2 hu2 hsub => hK p' _ c' w2 ?_
  rw [← bc_append] at hs2
  exact ByS.step h4 h5 hs2 hu2 hsub

theorem ByS.appB {x : UInt8} {v : Int} {K : Option Addr → Nat → Nat → World → Prop} (h : ByS w0 w p n c l) (hl : l.length < 2 ^ 45) (hv : v = (x.toNat : Int))
    (hK : ∀ p' n' c' w', ByS w0 w' p' n' c' (l ++ [x]) → K p' n' c' w') :
    BSl Tryd.prog 28 1 [(0, .int .u8 v)] w fun q m d w1 => App Tryd.prog #[28, 28] 28 #[.slice p n c, .slice q m d] w1 K := by
  subst hv
  refine BSl_rule (cs := bc [x]) eS_28 (fill_one rfl) (by rfl) (by omega) fun w1 hs1 hu1 => ?_
  exact (h.keep hu1).app ⟨[w.heap.size], hs1, hu1, by simp⟩ (by simp; omega) hK

theorem ByS.appS {s : ByteArray} {K : Option Addr → Nat → Nat → World → Prop} (h : ByS w0 w p n c l) (hl : l.length + s.size < 2 ^ 46)
    (hK : ∀ p' n' c' w', ByS w0 w' p' n' c' (l ++ s.data.toList) → K p' n' c' w') : App Tryd.prog #[28, 9] 28 #[.slice p n c, .string s] w K := by
  have e1 := h.len
  obtain ⟨G, h3, h4, h5⟩ := h
  refine AppS_rule (hE := eS_28) rfl h3 (by omega) fun p' c' F' w2 hs2 hu2 hsub => hK p' _ c' w2 ?_
  rw [← bc_append] at hs2
  exact ByS.step h4 h5 hs2 hu2 hsub

theorem RNumber_ok {x : Int} {K : Option Addr → Nat → Nat → World → Prop} (h0 : -2 ^ 63 ≤ x) (h1 : x < 2 ^ 63) (hK : ∀ p n c w', ByS w w' p n c (enc x) → K p n c w') : C_ref27_number x w K := by
  apply C_ref27_number.of
  unfold F_ref27_number
  have hz := zig_lt h0 h1
  have core : F_ref27_number_k1 K (zig x) w := by
    unfold F_ref27_number_k1 F_ref27_number_L1
    have hvl : (vl (zig x)).length ≤ 10 := vl_len (k := 9) (by omega)
    refine ⟨fun s v => ∃ (V : Nat) (l' : List UInt8), s.u_1 = V ∧ V ≤ zig x ∧ l' ++ vl V = vl (zig x) ∧ ByS w v s.outP s.outN s.outC l', fun s _ => s.u_1.toNat, ⟨zig x, [], rfl, Nat.le_refl _, rfl, ByS.nil w⟩, ?_⟩
    rintro ⟨u, oP, oN, oC⟩ v ⟨V, l', rfl, hVU, he, hw⟩
    unfold B_ref27_number_L1
    dsimp only at hw ⊢
    have hlen : l'.length ≤ 10 := by
      have := congrArg List.length he
      simp only [List.length_append] at this; omega
    have et : ((V : Int).tmod 128) = ((V % 128 : Nat) : Int) := by rw [Int.tmod_eq_emod_of_nonneg (by omega)]; omega
    have ed : ((V : Int).tdiv 128) = ((V / 128 : Nat) : Int) := by rw [Int.tdiv_eq_ediv_of_nonneg (by omega)]; omega
    refine ifC (fun hc => ?_) (fun hc => ?_)
    · simp at hc
      rw [vl_ge (by omega)] at he
      refine ⟨by omega, hw.appB (x := UInt8.ofNat (V % 128 + 128)) (by omega) ?_ fun p' n' c' w' h' => ⟨by omega, ⟨V / 128, l' ++ [UInt8.ofNat (V % 128 + 128)], ?_, by omega, ?_, h'⟩, ?_⟩⟩
      · rw [byteN (by omega), et, u8w', u8w']; omega
      · rw [ed, u64w']; omega
      · rw [← he]; simp
      · rw [ed, u64w']; simp; omega
    · simp at hc
      rw [vl_lt (by omega)] at he
      refine hw.appB (x := UInt8.ofNat V) (by omega) (by rw [byteN (by omega), u8w']; omega) fun p' n' c' w' h' => ?_
      rw [he] at h'
      exact hK _ _ _ _ h'
  refine ifC (fun hc => ?_) (fun hc => ?_)
  · simp at hc
    have e : IntKind.u64.wrap ((IntKind.u64.wrap ((2 : Int) * (IntKind.u64.wrap (IntKind.i64.wrap ((-1) - x))))) + (1 : Int)) = (zig x : Int) := by
      rw [i64id (by omega) (by omega), u64w', u64w', u64w']
      unfold zig
      rw [if_pos hc]; omega
    rw [e]; exact core
  · simp at hc
    have e : IntKind.u64.wrap ((2 : Int) * (IntKind.u64.wrap x)) = (zig x : Int) := by
      rw [u64w', u64w']
      unfold zig
      rw [if_neg (by omega)]; omega
    rw [e]; exact core

theorem RText_ok {s : ByteArray} {K : Option Addr → Nat → Nat → World → Prop} (hs : s.size < 2 ^ 40) (hK : ∀ p n c w', ByS w w' p n c (encT s.data.toList) → K p n c w') : C_ref27_text s w K := by
  apply C_ref27_text.of
  unfold F_ref27_text
  refine RNumber_ok (by omega) (by omega) fun p n c w1 h1 => ?_
  have he := enc_len (n := (s.size : Int)) (by omega) (by omega)
  refine h1.appS (by omega) fun p n c w2 h2 => hK _ _ _ _ ?_
  unfold encT
  rw [show s.data.toList.length = s.size by simp]
  exact h2

theorem encL_len : ∀ {L : List Int}, Fits L → (encL L).length ≤ 10 * L.length
  | [], _ => by simp [encL]
  | x :: L, hf => by
    have h1 := encL_len (L := L) (fun n hn => hf n (by simp [hn]))
    have h2 := enc_len (hf x (by simp)).1 (hf x (by simp)).2
    simp only [encL, List.flatMap_cons, List.length_append, List.length_cons] at h1 ⊢
    omega

theorem encL_take {L : List Int} {i : Nat} (hi : i < L.length) : encL (L.take (i + 1)) = encL (L.take i) ++ enc L[i] := by
  rw [List.take_add_one, List.getElem?_eq_getElem hi]
  simp only [encL, List.flatMap_append, Option.toList_some, List.flatMap_cons, List.flatMap_nil, List.append_nil]

theorem encL_append (a b : List Int) : encL (a ++ b) = encL a ++ encL b := by simp [encL]
end

/-- A script's parts. -/
def scrOf (s0 s1 : ByteArray) (caps col : List Int) : Scr := ⟨s0.data.toList, s1.data.toList, caps, col⟩

def Scr.fits (s0 s1 : ByteArray) (col : List Int) : Prop := s0.size ≤ 65536 ∧ s1.size ≤ 65536 ∧ col.length ≤ 1000

section
variable {w : World} {s0 s1 : ByteArray} {c1 c2 c3 c4 c5 c6 : Int} {p : Option Addr} {n c : Nat} {col : List Int}

theorem encT_len {s : ByteArray} (h : s.size < 2 ^ 40) : (encT s.data.toList).length ≤ s.size + 10 := by
  unfold encT
  have := enc_len (n := (s.size : Int)) (by omega) (by omega)
  rw [show s.data.toList.length = s.size by simp, List.length_append]
  simp at this ⊢
  omega

theorem encS_eq : encS (scrOf s0 s1 [c1, c2, c3, c4, c5, c6] col) = encT s0.data.toList ++ encT s1.data.toList ++ encL [c1, c2, c3, c4, c5, c6, (col.length : Int)] ++ encL col := by
  unfold encS scrOf
  simp [encL, List.append_assoc]

theorem Encode_both {K : Option Addr → Nat → Nat → Int → World → Prop} (hp : Rd w 1 p n (col.map (.int .i64))) (h0 : s0.size < 2 ^ 39) (h1 : s1.size < 2 ^ 39) (hc : col.length < 2 ^ 35) (hf : Fits ([c1, c2, c3, c4, c5, c6] ++ col))
    (hK : ∀ q m d e w', Upd [] w w' → (Scr.fits s0 s1 col → e = 0 ∧ ByS w w' q m d (encS (scrOf s0 s1 [c1, c2, c3, c4, c5, c6] col))) → (¬ Scr.fits s0 s1 col → e = 3 ∧ q = none ∧ m = 0 ∧ d = 0) → K q m d e w') :
    C_script_Encode s0 s1 c1 c2 c3 c4 c5 c6 p n c w K := by
  obtain rfl : n = col.length := by have := hp.1; simp at this; exact this.symm
  have hcol : Fits col := fun x hx => hf x (by simp [hx])
  have hsev : Fits [c1, c2, c3, c4, c5, c6, (col.length : Int)] := by
    intro x hx
    simp only [List.mem_cons, List.not_mem_nil, or_false] at hx
    rcases hx with h | h | h | h | h | h | h
    · exact hf x (by simp [h])
    · exact hf x (by simp [h])
    · exact hf x (by simp [h])
    · exact hf x (by simp [h])
    · exact hf x (by simp [h])
    · exact hf x (by simp [h])
    · omega
  apply C_script_Encode.of
  unfold F_script_Encode
  refine New_rule fun r w1 hr u1 b1 => ?_
  simp only [NN_some, addN, drw_cell, drw_heap, exS, exI, exB, exP, exM, exStr, exV, a0, a1, a2, a3, a4, a5, a6, a7, a8, a9, a10, a11, a12, a13, maxI_eq, Nat.zero_add, Nat.add_zero, Nat.mul_one, Option.isNone_some, Option.isNone_none, b1.cell]
  refine New_rule fun r1 w2 hr1 u2 b2 => ?_
  have hE0 := encT_len (s := s0) (by omega)
  have hE1 := encT_len (s := s1) (by omega)
  have W0 : WrS w1 w2 r1 [] (decide ((col.length : Int) > 1000)) := WrS.new u2 (by omega) b2
  simp only [NN_some, addN, drw_cell, drw_heap, exS, exI, exB, exP, exM, exStr, exV, a0, a1, a2, a3, a4, a5, a6, a7, a8, a9, a10, a11, a12, a13, maxI_eq, Nat.zero_add, Nat.add_zero, Nat.mul_one, Option.isNone_some, Option.isNone_none, (b1.upd u2 (by simp)).cell]
  refine text_S W0 (by simp; omega) (by omega) fun w3 W1 => ?_
  simp only [NN_some, addN, drw_cell, drw_heap, exS, exI, exB, exP, exM, exStr, exV, a0, a1, a2, a3, a4, a5, a6, a7, a8, a9, a10, a11, a12, a13, maxI_eq, Nat.zero_add, Nat.add_zero, Nat.mul_one, Option.isNone_some, Option.isNone_none, (b1.upd W1.upd (by simp)).cell]
  refine text_S W1 (by simp; omega) (by omega) fun w4 W2 => ?_
  simp only [NN_some, addN, drw_cell, drw_heap, exS, exI, exB, exP, exM, exStr, exV, a0, a1, a2, a3, a4, a5, a6, a7, a8, a9, a10, a11, a12, a13, maxI_eq, Nat.zero_add, Nat.add_zero, Nat.mul_one, Option.isNone_some, Option.isNone_none, Nat.reduceAdd, (b1.upd W2.upd (by simp)).cell]
  have hl7 := encL_len hsev
  have hlc := encL_len hcol
  simp only [List.length_cons, List.length_nil] at hl7
  refine numbersLit_S (L := [c1, c2, c3, c4, c5, c6, (col.length : Int)]) W2 rfl rfl (by simp) hsev (by simp only [List.length_append, List.length_cons, List.length_nil]; omega) fun w5 W3 => ?_
  simp only [NN_some, addN, drw_cell, drw_heap, exS, exI, exB, exP, exM, exStr, exV, a0, a1, a2, a3, a4, a5, a6, a7, a8, a9, a10, a11, a12, a13, maxI_eq, Nat.zero_add, Nat.add_zero, Nat.mul_one, Option.isNone_some, Option.isNone_none, (b1.upd W3.upd (by simp)).cell]
  refine numbers_S W3 (hp.keep u1) hcol (by simp only [List.length_append, List.length_nil]; omega) fun w6 W4 => ?_
  have hu : Upd [] w w6 := u1.after W4.upd
  obtain ⟨F, h3, h4, h5⟩ := W4
  by_cases hfit : Scr.fits s0 s1 col
  · have eb : ((decide ((col.length : Int) > 1000) || decide (65536 < s0.size)) || decide (65536 < s1.size)) = false := by
      obtain ⟨a, b, c⟩ := hfit
      simp; omega
    rw [eb] at h3
    refine done_ok h3 fun q m d G hs hG => hK q m d 0 w6 hu (fun _ => ⟨rfl, G, ?_, hu, fun k hk => Nat.le_trans u1.size (h5 k (hG k hk))⟩) (fun h => absurd hfit h)
    rw [encS_eq]
    simpa using hs
  · have eb : ((decide ((col.length : Int) > 1000) || decide (65536 < s0.size)) || decide (65536 < s1.size)) = true := by
      unfold Scr.fits at hfit
      simp; omega
    rw [eb] at h3
    exact done_bad h3 (hK none 0 0 3 w6 hu (fun h => absurd h hfit) (fun _ => ⟨rfl, rfl, rfl, rfl⟩))
end

end Go.Proofs.YtggbmakfifllnaaDoor
