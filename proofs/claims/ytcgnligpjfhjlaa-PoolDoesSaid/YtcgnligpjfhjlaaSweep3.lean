/- A pool: Sweep of all; the document's. -/
import Derived.Test.YtcgnligpjfhjlaaSweep2
namespace Go.Proofs.Ytcgnligpjfhjlaa
open Go Go.D Go.Proofs
set_option linter.unusedSimpArgs false
set_option linter.unusedVariables false
set_option maxRecDepth 8000

/-- Where the first segments end. -/
def upTo (d : PlD) (i : Nat) : Int := match d.L[i]? with | some y => y.start | none => d.top

section
variable {w : World} {d : PlD} {x : RxD}

theorem upTo_lt {i : Nat} (hi : i < d.L.length) : upTo d i = d.L[i].start := by unfold upTo; rw [List.getElem?_eq_getElem hi]
theorem upTo_succ (i : Nat) : upTo d (i + 1) = endOf d.L d.top i := rfl
theorem upTo_all : upTo d d.L.length = d.top := by unfold upTo; rw [List.getElem?_eq_none (Nat.le_refl _)]

theorem upTo_bnd (ok : PlOk d) (i : Nat) : 0 ≤ upTo d i ∧ upTo d i ≤ d.top := by
  by_cases hi : i < d.L.length
  · rw [upTo_lt hi]
    exact ⟨ok.start0 hi, ok.le _ (List.getElem_mem hi)⟩
  · unfold upTo; rw [List.getElem?_eq_none (by omega)]
    exact ⟨ok.top0, Int.le_refl _⟩

theorem Sweep_ok {r : Nat} {n : Int} {GA : List Nat} {Fl : List Bool} {K : Int → World → Prop} (h : Pl w d) (ok : PlOk d) (hn : 1 ≤ n) (hsw : Sw w r n [] GA) (hdis : Dis (r :: GA) d.FT)
    (hFl : ∀ k : Nat, (k : Int) < d.top → (at? Fl k = true ↔ freeP d k))
    (hK : ∀ w' d' G, Pl w' d' → PlOk d' → d'.a = d.a → d'.top = d.top → d'.limit = d.limit → d'.L.map (·.start) = d.L.map (·.start) → (∀ k : Int, freeP d' k ↔ freeP d k ∨ (0 ≤ k ∧ k < d.top ∧ k.tmod n = 0)) →
      Sw w' r n (askI Fl 0 d.top.toNat) G → Upd (d.FT ++ r :: GA) w w' → Sub d'.FT d.FT w → Sub (r :: G) (r :: GA) w → Dis (r :: G) d'.FT → K (cnt (goes Fl n) 0 d.top.toNat) w') :
    C_pool_Pool_Sweep d.a (.func (.func 52) #[.pointer (some ⟨r, 0, none⟩)] #[]) w K := by
  apply C_pool_Pool_Sweep.of
  unfold F_pool_Pool_Sweep F_pool_Pool_Sweep_L1
  have hlen := ok.len
  have hln := h.len
  have h3 := ok.top
  have h4 := ok.lim
  refine made_ok h ok.ne (ifF rfl ?_)
  have hL : w.cell? ⟨d.b, 0, none⟩ = some (.slice d.p d.n d.c) := by rw [h.blk.cell]; rfl
  have eN : NN d.a = NN (some ⟨d.b, 0, none⟩) := rfl
  rw [eN]
  simp only [NN_some, addN, Nat.add_zero, hL, exS]
  refine ⟨fun t v => 0 ≤ t.t15 ∧ t.t15 ≤ d.L.length ∧ ∃ d' G, Pl v d' ∧ PlOk d' ∧ d'.a = d.a ∧ d'.top = d.top ∧ d'.limit = d.limit ∧ d'.L.map (·.start) = d.L.map (·.start) ∧ (∀ j : Nat, t.t15 ≤ j → (d'.L[j]?).map (·.runs) = (d.L[j]?).map (·.runs)) ∧ (∀ k : Int, freeP d' k ↔ freeP d k ∨ (0 ≤ k ∧ k < upTo d t.t15.toNat ∧ k.tmod n = 0)) ∧
      Sw v r n (askI Fl 0 (upTo d t.t15.toNat).toNat) G ∧ t.n = cnt (goes Fl n) 0 (upTo d t.t15.toNat).toNat ∧ Upd (d.FT ++ r :: GA) w v ∧ Sub d'.FT d.FT w ∧ Sub (r :: G) (r :: GA) w ∧ Dis (r :: G) d'.FT, fun t _ => (d.L.length - t.t15).toNat, ⟨by simp, by simp, d, GA, h, ok, rfl, rfl, rfl, rfl, fun _ _ => rfl, fun k => ?_, ?_, ?_, Upd.refl _ _, Sub.refl _ _, Sub.refl _ _, hdis⟩, ?_⟩
  · simp only [Int.toNat_zero]
    rw [upTo_lt ok.ne, ok.first]
    constructor
    · exact fun e => .inl e
    · rintro (e | e)
      · exact e
      · omega
  · simp only [Int.toNat_zero]
    rw [upTo_lt ok.ne, ok.first]; exact hsw
  · simp only [Int.toNat_zero]
    rw [upTo_lt ok.ne, ok.first]; rfl
  rintro ⟨m, i⟩ v ⟨hi0, hi1, d', G, q, ok', ea, et, el, es, er, ef, hw, hm, U, sF, sG, dG⟩
  dsimp only at hi0 hi1 er ef hw hm
  unfold B_pool_Pool_Sweep_L1
  dsimp only
  have hl' : d'.L.length = d.L.length := by have := congrArg List.length es; simpa using this
  refine ifC (fun hc => ?_) (fun hc => ?_)
  · simp at hc
    have hil : i.toNat < d.L.length := by omega
    have hil' : i.toNat < d'.L.length := by omega
    obtain ⟨s, hs⟩ : ∃ s : Nat, i = s := ⟨i.toNat, by omega⟩
    subst hs
    simp only [Int.toNat_natCast] at hil hil' ef hw hm
    have est : d'.L[s].start = d.L[s].start := by
      have : (d'.L.map (·.start))[s]? = (d.L.map (·.start))[s]? := by rw [es]
      rw [List.getElem?_map, List.getElem?_map, List.getElem?_eq_getElem hil', List.getElem?_eq_getElem hil] at this
      simpa using this
    have eend : endOf d'.L d'.top s = endOf d.L d.top s := by
      unfold endOf
      rw [et]
      by_cases h5 : s + 1 < d.L.length
      · have : (d'.L.map (·.start))[s + 1]? = (d.L.map (·.start))[s + 1]? := by rw [es]
        rw [List.getElem?_map, List.getElem?_map, List.getElem?_eq_getElem (show s + 1 < d'.L.length by omega), List.getElem?_eq_getElem h5] at this
        rw [List.getElem?_eq_getElem (show s + 1 < d'.L.length by omega), List.getElem?_eq_getElem h5]
        simpa using this
      · rw [List.getElem?_eq_none (by omega), List.getElem?_eq_none (by omega)]
    have eru : d'.L[s].runs = d.L[s].runs := by
      have := er s (by omega)
      rw [List.getElem?_eq_getElem hil', List.getElem?_eq_getElem hil] at this
      simpa using this
    have h0 := ok.start0 hil
    have h1 := start_endOf ok hil
    have h2 := endOf_le ok s
    have hal := askI_len Fl 0 (upTo d s).toNat
    have hub := upTo_bnd ok s
    have hcl := cnt_le (goes Fl n) 0 (upTo d s).toNat
    rw [← ea]
    refine sweep_ok (Fl := Fl) q ok' hil' hn hw dG (by omega) (fun k hk1 hk2 => ?_) fun w2 sl rs F1 G2 q2 hr2 hf2 hw2 u2 f2 s2 g2 => ?_
    · rw [est] at hk1
      rw [eend] at hk2
      rw [eru, ← free_seg ok hil hk1 hk2]
      have := hFl k.toNat (by omega)
      rw [show ((k.toNat : Nat) : Int) = k by omega] at this
      exact this
    · rw [est] at q2
      rw [est, eend] at hr2 hw2 ⊢
      simp only [est, eend] at hf2
      have hkin : Kin d' (d'.put s d.L[s].start sl rs F1) s d'.L[s].start rs := by rw [est]; exact kin_put d' s d.L[s].start sl rs F1
      have hr3 : RunsOk d'.L[s].start (endOf d'.L d'.top s) rs := by rw [est, eend]; exact hr2
      have ok2 := ok'.kin hil' hkin hr3
      have hcl2 := cnt_le (goes Fl n) d.L[s].start.toNat (endOf d.L d.top s - d.L[s].start).toNat
      have eu : upTo d s = d.L[s].start := upTo_lt hil
      have eu2 : upTo d (s + 1) = endOf d.L d.top s := rfl
      have ecn : (upTo d (s + 1)).toNat = (upTo d s).toNat + (endOf d.L d.top s - d.L[s].start).toNat := by rw [eu, eu2]; omega
      rw [i64id (x := (s : Int) + 1) (by omega) (by omega), i64id (by omega) (by omega)]
      refine ⟨⟨by omega, by omega, d'.put s d.L[s].start sl rs F1, G2, q2, ok2, rfl, et, el, ?_, fun j hj => ?_, fun k => ?_, ?_, ?_, ?_, ?_, ?_, ?_⟩, by omega⟩
      · rw [kin_starts hil' hkin]; exact es
      · have : ¬ s = j := by omega
        show ((d'.L.set s ⟨d.L[s].start, sl, rs⟩)[j]?).map (·.runs) = _
        rw [List.getElem?_set_ne this]
        exact er j (by omega)
      · have est2 : ((s : Int) + 1).toNat = s + 1 := by omega
        rw [est2]
        have hk := (kin_free ok' hil' hkin hr3 (fun k => d.L[s].start ≤ k ∧ k < endOf d.L d.top s ∧ k.tmod n = 0) (fun t ht => by rw [est, eend]; exact ⟨ht.1, ht.2.1⟩) k).2 fun t => by
          rw [hf2 t]
          constructor
          · rintro ⟨e1, e2, e3 | e3⟩
            · left
              rw [eru, ← free_seg ok hil e1 e2]
              have := (hFl t.toNat (by omega)).1 e3
              rw [show ((t.toNat : Nat) : Int) = t by omega] at this
              exact this
            · exact .inr ⟨e1, e2, e3⟩
          · rintro (e | ⟨e1, e2, e3⟩)
            · rw [eru] at e
              obtain ⟨e1, e2⟩ := (ok.ok s hil).free e
              refine ⟨e1, e2, .inl ((hFl t.toNat (by omega)).2 ?_)⟩
              rw [show ((t.toNat : Nat) : Int) = t by omega, free_seg ok hil e1 e2]
              exact e
            · exact ⟨e1, e2, .inr e3⟩
        rw [hk, ef k, eu, eu2]
        constructor
        · rintro ((e | e) | e)
          · exact .inl e
          · exact .inr ⟨e.1, by omega, e.2.2⟩
          · exact .inr ⟨by omega, e.2.1, e.2.2⟩
        · rintro (e | e)
          · exact .inl (.inl e)
          · by_cases hk : k < d.L[s].start
            · exact .inl (.inr ⟨e.1, hk, e.2.2⟩)
            · exact .inr ⟨by omega, e.2.1, e.2.2⟩
      · rw [show ((s : Int) + 1).toNat = s + 1 by omega, ecn, askI_add, eu, Nat.zero_add]
        rw [eu] at hw2
        exact hw2
      · rw [show ((s : Int) + 1).toNat = s + 1 by omega, ecn, cnt_add, hm, eu, Nat.zero_add]
      · refine U.trans u2 (fun k hk => .inl hk) fun k hk => ?_
        rcases List.mem_append.1 hk with hk | hk
        · exact (sF k (q.iG k hk)).imp (fun e => List.mem_append.2 (.inl e)) (fun e => e)
        · exact (sG k hk).imp (fun e => List.mem_append.2 (.inr e)) (fun e => e)
      · intro k hk
        have hk : k ∈ d'.FT ++ F1 := hk
        rcases List.mem_append.1 hk with hk | hk
        · exact sF k hk
        · have := f2 k hk; have := U.size; right; omega
      · intro k hk
        rcases s2 k hk with e | e
        · exact sG k e
        · have := U.size; right; omega
      · intro k hk hx
        have hx : k ∈ d'.FT ++ F1 := hx
        rcases List.mem_append.1 hx with hx | hx
        · rcases s2 k hk with e | e
          · exact dG k e hx
          · have := q.inn k hx; omega
        · exact g2 k hk hx
  · simp at hc
    have hi : i.toNat = d.L.length := by omega
    rw [hi, upTo_all] at ef hw hm
    rw [hm]
    exact hK v d' G q ok' ea et el es ef hw U sF sG dG

end

end Go.Proofs.Ytcgnligpjfhjlaa
