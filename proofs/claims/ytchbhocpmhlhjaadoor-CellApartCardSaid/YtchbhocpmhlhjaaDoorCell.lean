/- What the listed variables hold; the library's functions; cells. -/
import Derived.Test.YtchbhocpmhlhjaaDoorShelf
import Derived.Test.YtchbhocpmhlhjaaDoorNum
import Derived.Test.YtchbhocpmhlhjaaDoorGenAll
import Derived.Shelf.Strconv.Itoa4
import Derived.Shelf.Strconv.ErrVarParseInt
import Derived.Shelf.Strings.Search2
namespace Go.Proofs.YtchbhocpmhlhjaaDoor
open Go Go.D Go.Proofs
set_option linter.unusedSimpArgs false
set_option linter.unusedVariables false
set_option maxRecDepth 8000

/-- The tags' names. -/
def names : List (List UInt8) := [[], [114, 101, 102], [115, 116, 114], [97, 116, 111, 109], [105, 110, 116], [102, 117, 110], [102, 114, 101, 101], [116, 97, 103, 55]]

/-- A tag's name. -/
def nameT (t : Int) : List UInt8 := if t < 0 ∨ 7 < t then [] else names[t.toNat]?.getD []

/-- What the listed variables hold. -/
structure Vars (W : World) : Prop where
  tab : Lib.TabIs Tryd.prog W "internal/strconv.uint64pow10" .u64 Lib.pow10Tab
  es : ∃ tp p, W.var? Tryd.prog "strconv.ErrSyntax" = some #[.iface tp p]
  er : ∃ tp p, W.var? Tryd.prog "strconv.ErrRange" = some #[.iface tp p]
  nm : ∀ i, i < 8 → W.cell? ⟨0, i, none⟩ = some (.string ⟨(names[i]?.getD []).toArray⟩)

theorem var_keep {W W' : World} {n : String} {cs : Array Value} (h : W.var? Tryd.prog n = some cs) (u : Upd [] W W') : W'.var? Tryd.prog n = some cs := by
  unfold World.var? at h ⊢
  obtain ⟨g, hg, h⟩ := Option.bind_eq_some_iff.1 h
  rw [hg]
  show (match W'.heap[g]? with | some (.cells cs _ _) => some cs | _ => none) = some cs
  rcases hh : W.heap[g]? with _ | o
  · rw [hh] at h; cases h
  · rw [u.blk g (Array.getElem?_eq_some_iff.1 hh).1 (by simp), hh]
    rw [hh] at h; exact h

section
variable {w : World}

theorem Vars.keep {w' : World} (V : Vars w) (u : Upd [] w w') : Vars w' :=
  ⟨var_keep V.tab u, (by obtain ⟨a, b, h⟩ := V.es; exact ⟨a, b, var_keep h u⟩), (by obtain ⟨a, b, h⟩ := V.er; exact ⟨a, b, var_keep h u⟩), fun i hi => u.cell (V.nm i hi) (by simp)⟩

theorem upd_of_below {w' : World} (h : RowKit.Below w.heap.size w w') : Upd [] w w' := ⟨h.os, h.tape, h.output, h.size, fun k hk _ => h.block k hk⟩

theorem upd_grow {w' : World} {k : Nat} {os : Array Obj} (h : w' = Go.Sort.grow (w.drewN k) os) : Upd [] w w' := by
  subst h
  refine ⟨rfl, rfl, rfl, ?_, fun i hi _ => ?_⟩
  · show w.heap.size ≤ (w.heap ++ os).size
    simp
  · show (w.heap ++ os)[i]? = _
    rw [Array.getElem?_append_left hi]

theorem Itoa_ok {n : Int} {K : ByteArray → World → Prop} (V : Vars w) (h0 : -2 ^ 63 ≤ n) (h1 : n < 2 ^ 63) (hK : ∀ w', Upd [] w w' → K ⟨(Lib.itoa n).toArray⟩ w') : C_strconv_Itoa n w K :=
  Calls.mono (Any.strconv_Itoa Tryd.layItoa n (by omega) (by omega) w V.tab) fun e w' ⟨he, k, os, hw⟩ => ⟨_, he, hK w' (upd_grow hw)⟩

theorem FormatInt_ok {n : Int} {K : ByteArray → World → Prop} (V : Vars w) (h0 : -2 ^ 63 ≤ n) (h1 : n < 2 ^ 63) (hK : ∀ w', Upd [] w w' → K ⟨(Lib.itoa n).toArray⟩ w') : C_strconv_FormatInt n 10 w K :=
  Calls.mono (Any.strconv_FormatInt_10 Tryd.layFormatInt n (by omega) (by omega) w V.tab) fun e w' ⟨he, k, os, hw⟩ => ⟨_, he, hK w' (upd_grow hw)⟩

theorem Index_ok {s : ByteArray} {c : UInt8} {K : Int → World → Prop} (hK : K (Lib.indexByte s.data.toList c) w) : C_internal_stringslite_Index s ⟨#[c]⟩ w K :=
  Calls.mono (Any.stringslite_Index_one Tryd.layIndex s c w) fun e w' ⟨he, hw⟩ => ⟨_, he, by rw [hw]; exact hK⟩

theorem ParseInt_ok {s : ByteArray} {K : Int → Value → World → Prop} (V : Vars w) (hs : s.size ≤ 2 ^ 40) (hok : ∀ v, Lib.parseIntB 64 s.data.toList = .ok v → ∀ w', Upd [] w w' → K v .nilIface w')
    (hno : (∀ v, Lib.parseIntB 64 s.data.toList ≠ .ok v) → ∀ x t u w', Upd [] w w' → K x (.iface t u) w') : C_strconv_ParseInt s 10 64 w K := by
  rcases h : Lib.parseIntB 64 s.data.toList with v | _ | _
  · refine Calls.mono (Any.strconv_ParseInt_10_at64_ok Tryd.layParseInt s (by omega) v h w) fun e w' ⟨he, hw⟩ => ⟨_, _, he, hok v h w' ?_⟩
    rcases hw with rfl | ⟨t, rfl⟩
    · exact Upd.refl _ _
    · exact upd_of_below (Lib.bytesWorld_below _ _ _)
  · obtain ⟨tp, p, hv⟩ := V.es
    exact Calls.mono (Any.strconv_ParseInt_10_at64_syntax_var Tryd.layParseInt s (by omega) h tp p w hv) fun e w' ⟨N, he, _, _, hb⟩ => ⟨_, _, he, hno (fun v hv => by rw [h] at hv; cases hv) _ _ _ w' (upd_of_below hb)⟩
  · obtain ⟨tp, p, hv⟩ := V.er
    exact Calls.mono (Any.strconv_ParseInt_10_at64_range_var Tryd.layParseInt s (by omega) h tp p w hv) fun e w' ⟨N, he, _, _, hb⟩ => ⟨_, _, he, hno (fun v hv => by rw [h] at hv; cases hv) _ _ _ w' (upd_of_below hb)⟩

/-! ## Cells -/

theorem Make_ok {tag n : Int} {K : Int → Int → World → Prop} (hK : 1 ≤ tag → tag ≤ 7 → -2 ^ 60 ≤ n → n < 2 ^ 60 → K (mkW tag n) 0 w) (hno : ¬ (1 ≤ tag ∧ tag ≤ 7 ∧ -2 ^ 60 ≤ n ∧ n < 2 ^ 60) → K 0 1 w) : C_cell_Make tag n w K := by
  apply C_cell_Make.of
  unfold F_cell_Make F_cell_Make_k1
  refine ifC (fun h => hno (by simp at h; omega)) fun h1 => ifC (fun h => hno (by simp at h; omega)) fun h2 => ifC (fun h => hno (by simp at h; omega)) fun h3 => ifC (fun h => hno (by simp at h; omega)) fun h4 => ⟨by omega, ?_⟩
  simp at h1 h2 h3 h4
  rw [mkW_or h1 h2]
  exact hK h1 h2 (by omega) (by omega)

theorem Tag_ok {x : Int} {K : Int → World → Prop} (h0 : 0 ≤ x) (h1 : x < 2 ^ 64) (hK : K (x % 8) w) : C_cell_Tag x w K := by
  apply C_cell_Tag.of
  unfold F_cell_Tag
  rw [and7 h0 h1, i64id (by omega) (by omega)]
  exact hK

/-- A word's number. -/
def numW (x : Int) : Int := if x % 8 = 0 then 0 else if x < 2 ^ 63 then x / 8 else x / 8 - 2 ^ 61

theorem Number_ok {x : Int} {K : Int → World → Prop} (h0 : 0 ≤ x) (h1 : x < 2 ^ 64) (hK : K (numW x) w) : C_cell_Number x w K := by
  apply C_cell_Number.of
  unfold F_cell_Number
  refine Tag_ok h0 h1 (ifC (fun h => ?_) fun h => ⟨by omega, ?_⟩)
  · simp at h
    unfold numW at hK
    rw [if_pos h] at hK; exact hK
  · have h : ¬ x % 8 = 0 := by simpa using h
    unfold numW at hK
    rw [if_neg h] at hK
    rw [shr3, i64w']
    split at hK
    · rw [if_neg (by omega), show x % 2 ^ 64 = x by omega]; exact hK
    · rw [if_pos (by omega), show (x % 2 ^ 64 - 2 ^ 64) / 8 = x / 8 - 2 ^ 61 by omega]; exact hK

theorem Is_ok {x tag : Int} {K : Bool → World → Prop} (h0 : 0 ≤ x) (h1 : x < 2 ^ 64) (hK : K (decide (0 < tag ∧ x % 8 = tag)) w) : C_cell_Is x tag w K := by
  apply C_cell_Is.of
  unfold F_cell_Is
  refine ifC (fun h => Tag_ok h0 h1 ?_) fun h => ?_
  · simp at h
    have e : (x % 8 == tag) = decide (0 < tag ∧ x % 8 = tag) := by
      rw [Bool.eq_iff_iff]; simp [h]
    rw [e]; exact hK
  · simp at h
    rw [decide_eq_false (by omega)] at hK; exact hK

theorem Name_ok {t : Int} {K : ByteArray → World → Prop} (V : Vars w) (hK : K ⟨(nameT t).toArray⟩ w) : C_cell_Name t w K := by
  apply C_cell_Name.of
  unfold F_cell_Name
  unfold nameT at hK
  refine ifC (fun h => ?_) fun h1 => ifC (fun h => ?_) fun h2 => ?_
  · simp at h
    rw [if_pos (by omega)] at hK; exact hK
  · simp at h
    rw [if_pos (by omega)] at hK; exact hK
  · simp at h1 h2
    rw [if_neg (by omega)] at hK
    refine ⟨h1, by omega, ?_⟩
    have := V.nm t.toNat (by omega)
    simp only [addN, Nat.zero_add, Nat.mul_one, this, exStr]
    exact hK

theorem nameT_eq {t : Int} (h0 : 0 ≤ t) (h1 : t ≤ 7) : nameT t = names[t.toNat]?.getD [] := by unfold nameT; rw [if_neg (by omega)]

theorem tag8 {t : Int} (h0 : 0 ≤ t) (h1 : t ≤ 7) : t = 0 ∨ t = 1 ∨ t = 2 ∨ t = 3 ∨ t = 4 ∨ t = 5 ∨ t = 6 ∨ t = 7 := by omega

theorem name_len (t : Int) : (nameT t).length ≤ 4 := by
  by_cases h : t < 0 ∨ 7 < t
  · unfold nameT; rw [if_pos h]; simp
  · rcases tag8 (t := t) (by omega) (by omega) with rfl | rfl | rfl | rfl | rfl | rfl | rfl | rfl <;> decide

theorem name_colon (t : Int) : (58 : UInt8) ∉ nameT t := by
  by_cases h : t < 0 ∨ 7 < t
  · unfold nameT; rw [if_pos h]; simp
  · rcases tag8 (t := t) (by omega) (by omega) with rfl | rfl | rfl | rfl | rfl | rfl | rfl | rfl <;> decide

theorem name_inj {t u : Int} (h0 : 0 ≤ t) (h1 : t ≤ 7) (g0 : 0 ≤ u) (g1 : u ≤ 7) (h : nameT t = nameT u) : t = u := by
  rcases tag8 h0 h1 with rfl | rfl | rfl | rfl | rfl | rfl | rfl | rfl <;> rcases tag8 g0 g1 with rfl | rfl | rfl | rfl | rfl | rfl | rfl | rfl <;> first | rfl | (exact absurd h (by decide))

/-- A word's text. -/
def textW (x : Int) : List UInt8 := if x % 8 = 0 then [46] else nameT (x % 8) ++ 58 :: Lib.itoa (numW x)

theorem numW_bnd {x : Int} (h0 : 0 ≤ x) (h1 : x < 2 ^ 64) : -2 ^ 60 ≤ numW x ∧ numW x < 2 ^ 60 := by
  unfold numW
  split
  · omega
  · split <;> omega

theorem itoa_len {n : Int} (h0 : -2 ^ 63 ≤ n) (h1 : n < 2 ^ 63) : (Lib.itoa n).length ≤ 21 := Lib.itoa_length_le n (by omega) (by omega)

theorem sizeL (l : List UInt8) : (⟨l.toArray⟩ : ByteArray).size = l.length := by simp [ByteArray.size]

theorem appL (l r : List UInt8) : (⟨l.toArray⟩ : ByteArray) ++ (⟨r.toArray⟩ : ByteArray) = ⟨(l ++ r).toArray⟩ := by
  apply ByteArray.ext
  simp

theorem maxI64 : IntKind.i64.max = 2 ^ 63 - 1 := by decide

theorem Text_ok {x : Int} {K : ByteArray → World → Prop} (V : Vars w) (h0 : 0 ≤ x) (h1 : x < 2 ^ 64) (hK : ∀ w', Upd [] w w' → K ⟨(textW x).toArray⟩ w') : C_cell_Text x w K := by
  apply C_cell_Text.of
  unfold F_cell_Text
  unfold textW at hK
  refine Tag_ok h0 h1 (ifC (fun h => ?_) fun h => Tag_ok h0 h1 (Name_ok V ?_))
  · simp at h
    rw [if_pos h] at hK; exact hK w (Upd.refl _ _)
  · have h : ¬ x % 8 = 0 := by simpa using h
    rw [if_neg h] at hK
    have e1 : (⟨#[58]⟩ : ByteArray) = ⟨([58] : List UInt8).toArray⟩ := rfl
    have hn := name_len (x % 8)
    have hb := numW_bnd h0 h1
    have hi := itoa_len (n := numW x) (by omega) (by omega)
    refine ⟨?_, Number_ok h0 h1 (Itoa_ok V (by omega) (by omega) fun w1 u1 => ⟨?_, ?_⟩)⟩
    · rw [e1, sizeL, sizeL, maxI64]; simp; omega
    · rw [e1, appL, sizeL, sizeL, maxI64]; simp; omega
    · rw [e1, appL, appL]
      have := hK w1 u1
      rw [List.append_assoc]
      exact this

end

end Go.Proofs.YtchbhocpmhlhjaaDoor
