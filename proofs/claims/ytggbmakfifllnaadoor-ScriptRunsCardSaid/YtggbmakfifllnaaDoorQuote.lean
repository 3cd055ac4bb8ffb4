/- How a name is quoted; the document's way. -/
import Derived.Test.YtggbmakfifllnaaDoorPlain3
namespace Go.Proofs.YtggbmakfifllnaaDoor
open Go Go.D Go.Proofs
set_option linter.unusedSimpArgs false
set_option linter.unusedVariables false
set_option maxRecDepth 8000

def hexD : List UInt8 := [48, 49, 50, 51, 52, 53, 54, 55, 56, 57, 97, 98, 99, 100, 101, 102]
def hexO (n : Nat) : UInt8 := hexD[n]?.getD 0

/-- How a byte stands between quotes. -/
def signP (c : UInt8) : List UInt8 :=
  if c.toNat = 39 ∨ c.toNat = 92 then [92, c]
  else if c.toNat = 10 then [92, 110]
  else if c.toNat = 9 then [92, 116]
  else if (16 ≤ c.toNat ∧ c.toNat < 32) ∨ c.toNat = 127 then [92, 120, hexO (c.toNat / 16), hexO (c.toNat % 16), 92]
  else if c.toNat < 16 then [92, 120, hexO c.toNat, 92]
  else [c]

def quoteP (l : List UInt8) : List UInt8 := if plainP l then l else 39 :: (l.flatMap signP ++ [39])

theorem signP_len (c : UInt8) : (signP c).length ≤ 5 := by
  unfold signP
  repeat' split
  all_goals simp

theorem flat_sign_len : ∀ l : List UInt8, (l.flatMap signP).length ≤ 5 * l.length
  | [] => by simp
  | c :: l => by
    have h1 := flat_sign_len l
    have h2 := signP_len c
    simp only [List.flatMap_cons, List.length_append, List.length_cons] at h1 ⊢
    omega

theorem flat_bytes : ∀ l : List UInt8, (bc l).flatMap (fun v => v.cells.toList) = bc l
  | [] => rfl
  | x :: l => by
    show (Value.int .u8 (x.toNat : Int)).cells.toList ++ (bc l).flatMap (fun v => v.cells.toList) = _
    rw [flat_bytes l]; rfl

section
variable {w0 w : World} {p : Option Addr} {n c : Nat} {l : List UInt8}

theorem ByS.appL {len : Nat} {ps : List (Nat × Value)} {K : Option Addr → Nat → Nat → World → Prop} (xs : List UInt8) (h : ByS w0 w p n c l) (hps : ps = ((bc xs).zipIdx 0).map fun x => (x.2, x.1)) (hn : len = xs.length) (hx : xs.length < 100) (hl : l.length < 2 ^ 45)
    (hK : ∀ p' n' c' w', ByS w0 w' p' n' c' (l ++ xs) → K p' n' c' w') :
    BSl Tryd.prog 28 len ps w fun q m d w1 => App Tryd.prog #[28, 28] 28 #[.slice p n c, .slice q m d] w1 K := by
  refine BSlP_rule (hE := eS_28) (bc xs) hps (by intro v hv; simp [bc] at hv; obtain ⟨x, _, rfl⟩ := hv; rfl) (by rw [bc_len]; exact hn) (by omega) fun w1 hs1 _ hu1 => ?_
  rw [flat_bytes] at hs1
  exact (h.keep hu1).app ⟨[w.heap.size], hs1, hu1, by simp⟩ (by omega) hK

theorem hex_at {m : Nat} (h : m < 16) : (⟨#[48, 49, 50, 51, 52, 53, 54, 55, 56, 57, 97, 98, 99, 100, 101, 102]⟩ : ByteArray)[m]? = some (hexO m) := by
  have := atL hexD m
  have hl : m < hexD.length := h
  rw [List.getElem?_eq_getElem hl] at this
  unfold hexO
  rw [List.getElem?_eq_getElem hl]
  exact this

theorem RQuote_ok {K : ByteArray → World → Prop} (hl : l.length < 2 ^ 38) (hK : ∀ w', Upd [] w w' → K ⟨(quoteP l).toArray⟩ w') : C_ref08_Quote ⟨l.toArray⟩ w K := by
  apply C_ref08_Quote.of
  unfold F_ref08_Quote
  refine RPlain_ok (by omega) ?_
  unfold quoteP at hK
  refine ifC (fun h => ?_) (fun h => ?_)
  · rw [if_pos h] at hK; exact hK w (Upd.refl _ _)
  rw [if_neg (by simp [h])] at hK
  refine BSl_rule (cs := bc [39]) eS_28 (fill_one rfl) (by rfl) (by omega) fun w1 hs1 hu1 => ?_
  have B0 : ByS w w1 (some ⟨w.heap.size, 0, none⟩) 1 1 [39] := ⟨[w.heap.size], hs1, hu1, by simp⟩
  unfold F_ref08_Quote_L1
  refine ⟨fun s v => ∃ i : Nat, s.i = i ∧ i ≤ l.length ∧ ByS w v s.outP s.outN s.outC (39 :: (l.take i).flatMap signP), fun s _ => (l.length - s.i).toNat, ⟨0, rfl, by omega, by simpa using B0⟩, ?_⟩
  rintro ⟨P, N, C, t⟩ v ⟨i, rfl, hi, B⟩
  unfold B_ref08_Quote_L1
  dsimp only at B ⊢
  rw [sizeL]
  have htl := flat_sign_len (l.take i)
  rw [List.length_take] at htl
  refine ifC (fun hc => ?_) (fun hc => ?_)
  · simp at hc
    have hget : (⟨l.toArray⟩ : ByteArray)[((i : Int)).toNat]? = some l[i] := by rw [Int.toNat_natCast, atL, List.getElem?_eq_getElem hc]
    refine ⟨by omega, _, hget, ?_⟩
    have hx := l[i].toNat_lt
    have htk : (l.take (i + 1)).flatMap signP = (l.take i).flatMap signP ++ signP l[i] := by
      rw [List.take_add_one, List.getElem?_eq_getElem hc]
      simp only [List.flatMap_append, Option.toList_some, List.flatMap_cons, List.flatMap_nil, List.append_nil]
    have nx : ∀ {p' n' c' w'} (xs : List UInt8), xs = signP l[i] → ByS w w' p' n' c' ((39 :: (l.take i).flatMap signP) ++ xs) → (∃ j : Nat, (IntKind.i64.wrap ((i : Int) + 1)) = j ∧ j ≤ l.length ∧ ByS w w' p' n' c' (39 :: (l.take j).flatMap signP)) ∧ (l.length - IntKind.i64.wrap ((i : Int) + 1)).toNat < (l.length - (i : Int)).toNat := by
      intro p' n' c' w' xs hxs hB
      refine ⟨⟨i + 1, by rw [i64id (by omega) (by omega)]; simp, by omega, ?_⟩, by rw [i64id (by omega) (by omega)]; omega⟩
      rw [htk, ← hxs]; simpa using hB
    have et : ((l[i].toNat : Int).tmod 16) = ((l[i].toNat % 16 : Nat) : Int) := by rw [Int.tmod_eq_emod_of_nonneg (by omega)]; omega
    have ed : IntKind.u8.wrap ((l[i].toNat : Int).tdiv 16) = ((l[i].toNat / 16 : Nat) : Int) := by rw [Int.tdiv_eq_ediv_of_nonneg (by omega), u8w']; omega
    have hB5 : ∀ (v' : World), ByS w v' P N C (39 :: (l.take i).flatMap signP) → ((16 ≤ l[i].toNat ∧ l[i].toNat < 32) ∨ l[i].toNat = 127) → signP l[i] = [92, 120, hexO (l[i].toNat / 16), hexO (l[i].toNat % 16), 92] := by
      intro v' _ h
      unfold signP
      rw [if_neg (by omega), if_neg (by omega), if_neg (by omega), if_pos h]
    unfold F_ref08_Quote_k1 F_ref08_Quote_k2
    rw [et, ed]
    have l1 : (39 :: (l.take i).flatMap signP).length < 2 ^ 45 := by simp only [List.length_cons]; omega
    have two : ∀ xs : List UInt8, xs = signP l[i] → xs.length < 100 → ∀ {len ps}, ps = ((bc xs).zipIdx 0).map (fun x => (x.2, x.1)) → len = xs.length → ∀ v', ByS w v' P N C (39 :: (l.take i).flatMap signP) → BSl Tryd.prog 28 len ps v' fun q m d w1 => App Tryd.prog #[28, 28] 28 #[.slice P N C, .slice q m d] w1 fun a b e w2 => (∃ j : Nat, (IntKind.i64.wrap ((i : Int) + 1)) = j ∧ j ≤ l.length ∧ ByS w w2 a b e (39 :: (l.take j).flatMap signP)) ∧ (l.length - IntKind.i64.wrap ((i : Int) + 1)).toNat < (l.length - (i : Int)).toNat :=
      fun xs hxs hlen _ _ hps hn v' hB => hB.appL xs hps hn hlen l1 fun p' n' c' w' h' => nx xs hxs h'
    refine ifC (fun g => ?_) (fun g1 => ?_)
    · simp at g
      exact two [92, l[i]] (by unfold signP; rw [if_pos (by omega)]) (by simp) rfl rfl v B
    simp at g1
    refine ifC (fun g => ?_) (fun g2 => ?_)
    · simp at g
      exact two [92, l[i]] (by unfold signP; rw [if_pos (by omega)]) (by simp) rfl rfl v B
    simp at g2
    refine ifC (fun g => ?_) (fun g3 => ?_)
    · simp at g
      exact two [92, 110] (by unfold signP; rw [if_neg (by omega), if_pos (by omega)]) (by simp) rfl rfl v B
    simp at g3
    refine ifC (fun g => ?_) (fun g4 => ?_)
    · simp at g
      exact two [92, 116] (by unfold signP; rw [if_neg (by omega), if_neg (by omega), if_pos (by omega)]) (by simp) rfl rfl v B
    simp at g4
    have rest : ¬ (16 ≤ l[i].toNat ∧ l[i].toNat < 32) → _ := fun h => h
    have five : ((16 ≤ l[i].toNat ∧ l[i].toNat < 32) ∨ l[i].toNat = 127) → _ := fun h => two [92, 120, hexO (l[i].toNat / 16), hexO (l[i].toNat % 16), 92] (hB5 v B h).symm (by simp) rfl rfl (drw v) (B.keep (drw_upd v))
    have low : ¬ (16 ≤ l[i].toNat ∧ l[i].toNat < 32) → ¬ l[i].toNat = 127 → l[i].toNat < 16 → _ := fun a b e => two [92, 120, hexO l[i].toNat, 92] (by unfold signP; rw [if_neg (by omega), if_neg (by omega), if_neg (by omega), if_neg (by omega), if_pos e]) (by simp) rfl rfl v B
    have asis : ¬ (16 ≤ l[i].toNat ∧ l[i].toNat < 32) → ¬ l[i].toNat = 127 → ¬ l[i].toNat < 16 → _ := fun a b e => two [l[i]] (by unfold signP; rw [if_neg (by omega), if_neg (by omega), if_neg (by omega), if_neg (by omega), if_neg e]) (by simp) rfl rfl v B
    refine ifC (fun g => ?_) (fun g5 => ?_)
    · simp at g
      refine ifC (fun g' => ?_) (fun g6 => ?_)
      · simp at g'
        exact ⟨by omega, by omega, _, by rw [Int.toNat_natCast]; exact hex_at (by omega), by omega, by omega, _, by rw [Int.toNat_natCast]; exact hex_at (by omega), five (.inl ⟨by omega, by omega⟩)⟩
      · simp at g6
        refine ifC (fun g' => ?_) (fun g7 => ?_)
        · simp at g'
          exact ⟨by omega, by omega, _, by rw [Int.toNat_natCast]; exact hex_at (by omega), by omega, by omega, _, by rw [Int.toNat_natCast]; exact hex_at (by omega), five (.inr (by omega))⟩
        · simp at g7
          exact ifF (by simp; omega) (asis (by omega) (by omega) (by omega))
    · simp at g5
      refine ifF (by simp; omega) (ifT (by simp; omega) ⟨by omega, _, by rw [Int.toNat_natCast]; exact hex_at (by omega), low (by omega) (by omega) (by omega)⟩)
  · simp at hc
    obtain rfl : i = l.length := by omega
    rw [List.take_length] at B
    refine B.appL [39] rfl rfl (by simp) (by simp only [List.length_cons]; have := flat_sign_len l; omega) fun p' n' c' w' h' => ?_
    refine Str_rule (e := 5) rfl rfl rfl h'.rd ⟨_, rfl, ?_⟩
    have := hK w' h'.upd
    simpa using this
end

end Go.Proofs.YtggbmakfifllnaaDoor
