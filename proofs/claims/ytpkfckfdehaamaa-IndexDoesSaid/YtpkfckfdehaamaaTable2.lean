/- A table of entries: what is added. -/
import Derived.Test.YtpkfckfdehaamaaTable
namespace Go.Proofs.Ytpkfckfdehaamaa
open Go Go.D Go.Proofs
set_option linter.unusedSimpArgs false
set_option linter.unusedVariables false
set_option maxRecDepth 8000

/-- The key under which it stands. -/
def nk (k : Key) : Key := if k.1 = 0 then zk else k

def insE (front : Bool) (E : List En) (e : En) : List En := if front then e :: E else E ++ [e]

theorem insE_ofKey (front : Bool) (E : List En) (e : En) (k : Key) : ofKey k (insE front E e) = if k = e.key then insE front (ofKey k E) e else ofKey k E := by
  unfold ofKey insE
  by_cases hk : k = e.key
  · subst hk
    cases front <;> simp
  · have : ¬ e.key = k := fun h => hk h.symm
    cases front <;> simp [hk, this]

theorem ins_eq {front : Bool} {E : List En} {e : En} {i : Nat} (hi : i ≤ (E.map rk).length) (hlt : ∀ j (hj : j < (E.map rk).length), j < i → (E.map rk)[j].1 < e.rank) (hge : ∀ j (hj : j < (E.map rk).length), i ≤ j → e.rank ≤ (E.map rk)[j].1)
    (hf : front = true → ∀ x ∈ E, e.rank < x.rank) (hb : front = false → ∀ x ∈ E, x.rank < e.rank) : (E.map rk).take i ++ (e.rank, e.id) :: (E.map rk).drop i = (insE front E e).map rk := by
  rw [List.length_map] at hi
  unfold insE
  cases front with
  | true =>
    have : i = 0 := by
      by_cases h0 : i = 0
      · exact h0
      · have h1 := hlt 0 (by rw [List.length_map]; omega) (by omega)
        have h2 := hf rfl E[0] (List.getElem_mem _)
        simp [rk] at h1
        omega
    subst this
    simp [rk]
  | false =>
    have : i = E.length := by
      by_cases h0 : i = E.length
      · exact h0
      · have h1 := hge i (by rw [List.length_map]; omega) (by omega)
        have h2 := hb rfl E[i] (List.getElem_mem (by omega))
        simp [rk] at h1
        omega
    subst this
    rw [List.take_of_length_le (by simp), List.drop_of_length_le (by simp)]
    simp [rk]

theorem key_ok {w : World} {k : Key} {K : Int → ByteArray → Int → World → Prop} (hK : ∀ w', Upd [] w w' → K (nk k).1 (nk k).2.1 (nk k).2.2 w') : C_index_key k.1 k.2.1 k.2.2 w K := by
  apply C_index_key.of
  unfold F_index_key
  refine New_rule fun r w1 hr u1 hb1 => New_rule fun q w2 hq u2 hb2 => ?_
  have hb1' := hb1.upd u2 (by simp)
  simp only [NN_some, addN, drw_cell, drw_heap, exS, exI, exB, exP, exM, exStr, exV, a0, a1, a2, a3, a4, a5, a6, a7, a8, a9, a10, a11, a12, a13, maxI_eq, Nat.zero_add, Nat.add_zero, Nat.mul_one, Option.isNone_some, Option.isNone_none, hb1'.cell]
  have U2 := u1.after u2
  unfold nk at hK
  refine ifC (fun hc => ?_) (fun hc => ?_)
  · simp at hc
    rw [if_pos hc] at hK
    refine St_acc (Upd.refl _ _) hb2 (by simp) rfl fun w3 u3 hb3 => St_acc u3 hb3 (by simp) rfl fun w4 u4 hb4 => St_acc u4 hb4 (by simp) rfl fun w5 u5 hb5 => ?_
    simp at hb5
    simp only [NN_some, addN, drw_cell, drw_heap, exS, exI, exB, exP, exM, exStr, exV, a0, a1, a2, a3, a4, a5, a6, a7, a8, a9, a10, a11, a12, a13, maxI_eq, Nat.zero_add, Nat.add_zero, Nat.mul_one, Option.isNone_some, Option.isNone_none, hb5.cell]
    exact hK w5 (U2.fresh u5 (by intro x hx; simp at hx; have := u1.size; omega))
  · simp at hc
    rw [if_neg hc] at hK
    refine St_acc (Upd.refl _ _) hb2 (by simp) rfl fun w3 u3 hb3 => St_acc u3 hb3 (by simp) rfl fun w4 u4 hb4 => St_acc u4 hb4 (by simp) rfl fun w5 u5 hb5 => ?_
    simp at hb5
    simp only [NN_some, addN, drw_cell, drw_heap, exS, exI, exB, exP, exM, exStr, exV, a0, a1, a2, a3, a4, a5, a6, a7, a8, a9, a10, a11, a12, a13, maxI_eq, Nat.zero_add, Nat.add_zero, Nat.mul_one, Option.isNone_some, Option.isNone_none, hb5.cell]
    exact hK w5 (U2.fresh u5 (by intro x hx; simp at hx; have := u1.size; omega))

theorem find_none {E : List En} {id : Int} : E.find? (fun e => decide (e.id = id)) = none ↔ id ∉ E.map (·.id) := by
  rw [List.find?_eq_none]
  simp

section
variable {w : World} {d : TbD} {B : Int}

/-- A table with one more. -/
theorem TbOk.ins {d' : TbD} (ok : TbOk d B) {front : Bool} {id : Int} {k : Key} (hid : id ∉ d.E.map (·.id)) (hlen : d.E.length < 4096)
    (hE : d'.E = insE front d.E ⟨if front then d.first - 1 else d.last + 1, id, nk k⟩) (hf : d'.first = if front then d.first - 1 else d.first) (hl : d'.last = if front then d.last else d.last + 1) : TbOk d' (B + 1) := by
  have hnk : (nk k).1 = 0 → nk k = zk := by
    unfold nk
    split
    · intro _; rfl
    · intro h; omega
  have b0 := ok.b0
  have b1 := ok.b1
  have b2 := ok.b2
  cases front with
  | true =>
    simp only [insE, if_true] at hE hf hl
    refine ⟨?_, ?_, ?_, ?_, ?_, by omega, by omega, by omega, by rw [hE]; simp; omega⟩
    · rw [hE, List.pairwise_cons]
      exact ⟨fun e he => by have := ok.lo e he; show d.first - 1 < e.rank; omega, ok.rising⟩
    · rw [hE, List.map_cons, List.nodup_cons]
      exact ⟨hid, ok.ids⟩
    · rw [hE]
      intro e he
      rcases List.mem_cons.1 he with rfl | he
      · exact hnk
      · exact ok.norm e he
    · rw [hE, hf]
      intro e he
      rcases List.mem_cons.1 he with rfl | he
      · exact Int.le_refl _
      · have := ok.lo e he; omega
    · rw [hE, hl]
      intro e he
      rcases List.mem_cons.1 he with rfl | he
      · show d.first - 1 ≤ d.last; omega
      · exact ok.hi e he
  | false =>
    simp only [insE, Bool.false_eq_true, if_false] at hE hf hl
    refine ⟨?_, ?_, ?_, ?_, ?_, by omega, by omega, by omega, by rw [hE]; simp; omega⟩
    · rw [hE, List.pairwise_append]
      exact ⟨ok.rising, by simp, fun a ha b hb => by simp at hb; subst hb; have := ok.hi a ha; show a.rank < d.last + 1; omega⟩
    · rw [hE, List.map_append, List.nodup_append]
      refine ⟨ok.ids, by simp, fun a ha b hb => ?_⟩
      simp at hb; subst hb
      rintro rfl; exact hid ha
    · rw [hE]
      intro e he
      rcases List.mem_append.1 he with he | he
      · exact ok.norm e he
      · simp at he; subst he; exact hnk
    · rw [hE, hf]
      intro e he
      rcases List.mem_append.1 he with he | he
      · exact ok.lo e he
      · simp at he; subst he; show d.first ≤ d.last + 1; omega
    · rw [hE, hl]
      intro e he
      rcases List.mem_append.1 he with he | he
      · have := ok.hi e he; omega
      · simp at he; subst he; exact Int.le_refl _

theorem find_insE {E : List En} {front : Bool} {e : En} (hid : e.id ∉ E.map (·.id)) (j : Int) : (insE front E e).find? (fun x => decide (x.id = j)) = if j = e.id then some e else E.find? fun x => decide (x.id = j) := by
  unfold insE
  cases front with
  | true =>
    simp only [if_true, List.find?_cons]
    by_cases hj : j = e.id
    · simp [hj]
    · have : ¬ e.id = j := fun h => hj h.symm
      simp [hj, this]
  | false =>
    simp only [Bool.false_eq_true, if_false, List.find?_append]
    by_cases hj : j = e.id
    · subst hj
      rw [find_none.2 hid]; simp
    · have : ¬ e.id = j := fun h => hj h.symm
      simp [hj, this]

theorem Add_k1 {r : Nat} {id : Int} {k : Key} {front : Bool} {wa : World} {K : Int → World → Prop} (h : Tb w d) (ok : TbOk d B) (hB : B < 2 ^ 60) (ua : Upd [] w wa) (hrw : w.heap.size ≤ r) (hbr : Blk wa r #[.int .i64 k.1, .string k.2.1, .int .i64 k.2.2])
    (hid : id ∉ d.E.map (·.id)) (hlen : d.E.length < 4096)
    (hK : ∀ w' d', Tb w' d' → TbOk d' (B + 1) → d'.a = d.a → d'.E = insE front d.E ⟨if front then d.first - 1 else d.last + 1, id, nk k⟩ → Upd d.FT w w' → Sub d'.FT d.FT w → K 0 w') :
    F_index_Table_Add_k1 d.a id K r (if front then d.first - 1 else d.last + 1) wa := by
  obtain ⟨rank, hrank⟩ : ∃ rank, rank = if front then d.first - 1 else d.last + 1 := ⟨_, rfl⟩
  rw [← hrank] at hK ⊢
  have b0 := ok.b0
  have b1 := ok.b1
  have b2 := ok.b2
  have ta := h.keep ua
  have hqFT : ∀ q, w.heap.size ≤ q → q ∉ d.FT := fun q hq hx => by have := h.inn q hx; omega
  unfold F_index_Table_Add_k1
  simp only [TbD.a, NN_some, addN, drw_cell, drw_heap, exS, exI, exB, exP, exM, exStr, exV, a0, a1, a2, a3, a4, a5, a6, a7, a8, a9, a10, a11, a12, a13, maxI_eq, Nat.zero_add, Nat.add_zero, Nat.mul_one, Option.isNone_some, Option.isNone_none, ta.blk.cell]
  -- the ends are set
  refine St_acc (Upd.refl _ _) ta.blk.drw (by simp) rfl fun w1 u1 hb1 => ?_
  refine St_acc u1 hb1 (by simp) rfl fun w2 u2 hb2 => ?_
  simp at hb2
  have hbr2 := hbr.drw.upd u2 (by simp; rintro rfl; exact hqFT _ hrw h.ib)
  simp only [NN_some, addN, drw_cell, drw_heap, exS, exI, exB, exP, exM, exStr, exV, a0, a1, a2, a3, a4, a5, a6, a7, a8, a9, a10, a11, a12, a13, maxI_eq, Nat.zero_add, Nat.add_zero, Nat.mul_one, Option.isNone_some, Option.isNone_none, hbr2.cell]
  refine key_ok fun w3 u3 => ?_
  have hb3 := hb2.upd u3 (by simp)
  have hbr3 := hbr2.upd u3 (by simp)
  refine St_acc (Upd.refl _ _) hbr3 (by simp) rfl fun w4 u4 hr4 => St_acc u4 hr4 (by simp) rfl fun w5 u5 hr5 => St_acc u5 hr5 (by simp) rfl fun w6 u6 hr6 => ?_
  simp at hr6
  refine New_rule fun q w7 hq u7 hq7 => ?_
  refine St_acc (Upd.refl _ _) hq7 (by simp) rfl fun w8 u8 hq8 => St_acc u8 hq8 (by simp) rfl fun w9 u9 hq9 => ?_
  simp at hq9
  have hwa := ua.size
  have hqw : w.heap.size ≤ q := by have h5 : wa.heap.size ≤ w2.heap.size := u2.size; have := u3.size; have := u6.size; omega
  have hrq : r ≠ q := by have := hr6.lt; omega
  have hbne : d.b ≠ r := fun hx => hqFT _ hrw (hx ▸ h.ib)
  have hbnq : d.b ≠ q := fun hx => hqFT _ hqw (hx ▸ h.ib)
  have U9 : Upd [d.b] w w9 := ((((((ua.after (drw_upd wa)).after u2).before u3).trans u6 (fun x hx => .inl hx) (fun x hx => by simp at hx; right; omega))).before u7).trans u9 (fun x hx => .inl hx) (fun x hx => by simp at hx; right; omega)
  have hb9 : Blk w9 d.b #[.map (some d.r), .slice d.ap d.an d.ac, .map (some d.m), .int .i64 (minI d.first rank), .int .i64 (max d.last rank)] := by
    have := ((hb3.upd u6 (by simpa using hbne)).upd u7 (by simp)).upd u9 (by simpa using hbnq)
    simpa using this
  have hr9 := (hr6.upd u7 (by simp)).upd u9 (by simpa using hrq)
  simp only [NN_some, addN, drw_cell, drw_heap, exS, exI, exB, exP, exM, exStr, exV, a0, a1, a2, a3, a4, a5, a6, a7, a8, a9, a10, a11, a12, a13, maxI_eq, Nat.zero_add, Nat.add_zero, Nat.mul_one, Option.isNone_some, Option.isNone_none, hb9.cell, hr9.cell, hq9.cell]
  have hrm9 := (h.rmap.upd U9 (by simpa using h.br.symm)).upd (drw_upd w9) (by simp)
  refine Lookup_rule (κ := Key) (kt := 26) (et := 58) (inj := kV) (z := .slice none 0 0) (k := nk k) keyKey (by rfl) ⟨_, rfl, rfl⟩ hrm9 ?_
  obtain ⟨p, n, c, hl, hrow⟩ := h.rows (nk k)
  refine ⟨p, n, c, hl, fun i hi => by simp [hq9.cell], fun i hi => by simp [hr9.cell], by simp [hb9.cell], ?_⟩
  have hrow9 : RowAt (drw w9) p n c ((ofKey (nk k) d.E).map rk) (d.F (nk k)) := SlAt.drw (SlAt.upd hrow U9 fun x hx => by simp; rintro rfl; exact h.bF _ hx)
  have hkl := ofKey_len (nk k) d.E
  have hff : ∀ x ∈ d.E, front = true → rank < x.rank := fun x hx hf => by have := ok.lo x hx; rw [hf] at hrank; simp at hrank; omega
  have hfb : ∀ x ∈ d.E, front = false → x.rank < rank := fun x hx hf => by have := ok.hi x hx; rw [hf] at hrank; simp at hrank; omega
  have hsub : ∀ x ∈ ofKey (nk k) d.E, x ∈ d.E := fun x hx => (List.mem_filter.1 hx).1
  -- into its row
  refine put_ok hrow9 (rising_key ok.rising _) (by rw [List.length_map]; omega) fun i p1 c1 F1 wA hi hlt hge hsA uA sA => ?_
  rw [ins_eq (front := front) (e := ⟨rank, id, nk k⟩) hi hlt hge (fun hf x hx => hff x (hsub x hx) hf) (fun hf x hx => hfb x (hsub x hx) hf)] at hsA
  have hFw : ∀ x ∈ d.F (nk k), x < w.heap.size := fun x hx => h.inn x (h.iF _ x hx)
  have hGw : ∀ x ∈ d.G, x < w.heap.size := fun x hx => h.inn x (h.iG x hx)
  have hrA := hr9.drw.upd uA fun hx => by have := hFw _ hx; omega
  have hqA := hq9.drw.upd uA fun hx => by have := hFw _ hx; omega
  have hbA := hb9.drw.upd uA (h.bF _)
  have hrmA := hrm9.upd uA (h.rF _)
  simp only [NN_some, addN, drw_cell, drw_heap, exS, exI, exB, exP, exM, exStr, exV, a0, a1, a2, a3, a4, a5, a6, a7, a8, a9, a10, a11, a12, a13, maxI_eq, Nat.zero_add, Nat.add_zero, Nat.mul_one, Option.isNone_some, Option.isNone_none, hbA.cell, hrA.cell, hr9.cell, hb9.cell]
  refine ⟨fun i hi => trivial, trivial, ?_⟩
  refine MUp_rule (κ := Key) (kt := 26) (et := 58) (inj := kV) (k := nk k) keyKey (by rfl) hrmA fun wB hrmB uB => ?_
  have hqB := hqA.upd uB (by simp; rintro rfl; exact hqFT _ hqw h.ir)
  have hrB := hrA.upd uB (by simp; rintro rfl; exact hqFT _ hrw h.ir)
  have hbB := hbA.upd uB (by simpa using h.br)
  simp only [NN_some, addN, drw_cell, drw_heap, exS, exI, exB, exP, exM, exStr, exV, a0, a1, a2, a3, a4, a5, a6, a7, a8, a9, a10, a11, a12, a13, maxI_eq, Nat.zero_add, Nat.add_zero, Nat.mul_one, Option.isNone_some, Option.isNone_none, hbB.cell, hqB.cell]
  have UB : Upd (d.b :: d.r :: d.F (nk k)) w wB := ((U9.before (drw_upd w9)).trans uA (fun x hx => by simp at hx; simp [hx]) (fun x hx => .inl (by simp [hx]))).trans uB (fun x hx => .inl hx) (fun x hx => by simp at hx; simp [hx])
  have hallB : RowAt (drw wB) d.ap d.an d.ac (d.E.map rk) d.G := SlAt.drw (SlAt.upd h.all UB fun x hx hy => by
    simp at hy
    rcases hy with rfl | rfl | hy
    · exact h.bG hx
    · exact h.rG hx
    · exact h.GF _ x hx hy)
  -- into the row of all
  refine put_ok hallB (rising_map ok.rising) (by rw [List.length_map]; omega) fun i p2 c2 G' wC hi2 hlt2 hge2 hsC uC sC => ?_
  rw [ins_eq (front := front) (e := ⟨rank, id, nk k⟩) hi2 hlt2 hge2 (fun hf x hx => hff x hx hf) (fun hf x hx => hfb x hx hf)] at hsC
  have hbC := hbB.drw.upd uC h.bG
  refine St_acc (Upd.refl _ _) hbC (by simp) rfl fun wD uD hbD => ?_
  simp at hbD
  have hrD := ((hrB.drw.upd uC fun hx => by have := hGw _ hx; omega)).upd uD (by simpa using hbne.symm)
  simp only [NN_some, addN, drw_cell, drw_heap, exS, exI, exB, exP, exM, exStr, exV, a0, a1, a2, a3, a4, a5, a6, a7, a8, a9, a10, a11, a12, a13, maxI_eq, Nat.zero_add, Nat.add_zero, Nat.mul_one, Option.isNone_some, Option.isNone_none, hbD.cell, hrD.cell]
  have UD : Upd (d.b :: d.r :: (d.F (nk k) ++ d.G)) w wD := ((UB.before (drw_upd wB)).trans uC (fun x hx => by simp at hx; rcases hx with h1 | h1 | h1 <;> simp [h1]) (fun x hx => .inl (by simp [hx]))).trans uD (fun x hx => .inl hx) (fun x hx => by simp at hx; simp [hx])
  have hmD : MapAt (drw wD) d.m (fun a : Int => Value.int .i64 a) d.AM := (h.amap.upd UD (by
    simp
    exact ⟨h.bm.symm, h.rm.symm, h.mF _, h.mG⟩)).upd (drw_upd wD) (by simp)
  refine MUp_rule (κ := Int) (kt := 3) (et := 64) (inj := fun a : Int => Value.int .i64 a) (k := id) keyId (by rfl) hmD fun wE hmE uE => ?_
  have UE : Upd (d.b :: d.r :: d.m :: (d.F (nk k) ++ d.G)) w wE := (UD.before (drw_upd wD)).trans uE (fun x hx => by simp at hx; rcases hx with h1 | h1 | h1 | h1 <;> simp [h1]) (fun x hx => by simp at hx; simp [hx])
  have hsz9 : w.heap.size ≤ w9.heap.size := U9.size
  have hszA : w9.heap.size ≤ wA.heap.size := uA.size
  have hszB := uB.size
  -- where the new parts lie
  have hF1 : ∀ x ∈ F1, x ∈ d.F (nk k) ∨ (w9.heap.size ≤ x ∧ x < wA.heap.size) := fun x hx => by
    have h5 := SlAt.inn hsA x hx
    rcases sA x hx with h1 | h1
    · exact .inl h1
    · exact .inr ⟨h1, h5⟩
  have hG1 : ∀ x ∈ G', x ∈ d.G ∨ wB.heap.size ≤ x := fun x hx => sC x hx
  have hbw := h.inn _ h.ib
  have hrw2 := h.inn _ h.ir
  have hmw := h.inn _ h.im
  have nF1 : ∀ y, y < w.heap.size → y ∉ d.F (nk k) → y ∉ F1 := fun y hy hn hx => by
    rcases hF1 y hx with h1 | h1
    · exact hn h1
    · omega
  have nG1 : ∀ y, y < w.heap.size → y ∉ d.G → y ∉ G' := fun y hy hn hx => by
    rcases hG1 y hx with h1 | h1
    · exact hn h1
    · omega
  have GF1 : Dis G' F1 := fun x hx hy => by
    rcases hG1 x hx with h1 | h1
    · rcases hF1 x hy with h2 | h2
      · exact h.GF _ x h1 h2
      · have := hGw x h1; omega
    · rcases hF1 x hy with h2 | h2
      · have := hFw x h2; omega
      · omega
  have uBD : Upd (d.b :: d.r :: d.G) wA wD := (((uB.before (drw_upd wB)).trans uC (fun x hx => by simp at hx; simp [hx]) (fun x hx => .inl (by simp [hx])))).trans uD (fun x hx => .inl hx) (fun x hx => by simp at hx; simp [hx])
  have uAE : Upd (d.b :: d.r :: d.m :: d.G) wA wE := ((uBD.before (drw_upd wD))).trans uE (fun x hx => by simp at hx; rcases hx with h1 | h1 | h1 <;> simp [h1]) (fun x hx => by simp at hx; simp [hx])
  have uBE : Upd (d.b :: d.m :: d.G) wB wE := (((((drw_upd wB).after uC).trans uD (H := d.b :: d.G) (fun x hx => .inl (by simp [hx])) (fun x hx => by simp at hx; simp [hx]))).before (drw_upd wD)).trans uE (fun x hx => by simp at hx; rcases hx with h1 | h1 <;> simp [h1]) (fun x hx => by simp at hx; simp [hx])
  have uCE : Upd [d.b, d.m] wC wE := (uD.before (drw_upd wD)).trans uE (fun x hx => by simp at hx; simp [hx]) (fun x hx => by simp at hx; simp [hx])
  refine hK wE { b := d.b, r := d.r, m := d.m, ap := p2, an := d.an + 1, ac := c2, first := if front then d.first - 1 else d.first, last := if front then d.last else d.last + 1, E := insE front d.E ⟨rank, id, nk k⟩, RM := put (nk k) (.slice p1 (n + 1) c1) d.RM, AM := put id (spotV ⟨rank, id, nk k⟩) d.AM, G := G', F := fun x => if x = nk k then F1 else d.F x, FT := d.FT ++ (F1 ++ G') } ?_ (ok.ins (front := front) (k := k) hid hlen (by rw [hrank]) rfl rfl) rfl rfl (UE.mono fun x hx => ?_) ?_
  · refine ⟨?_, ?_, h.ron.put, ?_, h.aon.put, ?_, ?_, ?_, h.br, h.bm, h.rm, nG1 _ hbw h.bG, nG1 _ hrw2 h.rG, nG1 _ hmw h.mG, ?_, ?_, ?_, ?_, ?_, ?_, ?_, ?_, ?_, ?_, ?_⟩
    · have := hbD.drw.upd uE (by simpa using h.bm)
      have e1 : minI d.first rank = if front then d.first - 1 else d.first := by
        unfold minI; rw [hrank]; cases front <;> simp <;> omega
      have e2 : max d.last rank = if front then d.last else d.last + 1 := by
        rw [hrank]; cases front <;> simp <;> omega
      rw [e1, e2] at this
      exact this
    · exact hrmB.upd uBE (by simp; exact ⟨h.br.symm, h.rm, h.rG⟩)
    · exact hmE
    · exact SlAt.upd hsC uCE fun x hx => by
        simp
        refine ⟨?_, ?_⟩
        · rintro rfl; exact nG1 _ hbw h.bG hx
        · rintro rfl; exact nG1 _ hmw h.mG hx
    · intro k'
      dsimp only
      by_cases hk' : k' = nk k
      · subst hk'
        refine ⟨p1, n + 1, c1, ?_, ?_⟩
        · rw [look_put, if_pos rfl]; rfl
        · rw [insE_ofKey, if_pos rfl, if_pos rfl]
          refine SlAt.upd hsA uAE fun x hx hy => ?_
          simp at hy
          rcases hy with rfl | rfl | rfl | hy
          · exact nF1 _ hbw (h.bF _) hx
          · exact nF1 _ hrw2 (h.rF _) hx
          · exact nF1 _ hmw (h.mF _) hx
          · exact nF1 x (hGw x hy) (fun hz => h.GF _ x hy hz) hx
      · obtain ⟨p', n', c', hl', hr'⟩ := h.rows k'
        refine ⟨p', n', c', ?_, ?_⟩
        · rw [look_put, if_neg hk']; exact hl'
        · rw [insE_ofKey, if_neg hk', if_neg hk']
          refine SlAt.upd hr' UE fun x hx hy => ?_
          simp at hy
          rcases hy with rfl | rfl | rfl | hy | hy
          · exact h.bF _ hx
          · exact h.rF _ hx
          · exact h.mF _ hx
          · exact h.FF _ _ hk' x hx hy
          · exact h.GF _ x hy hx
    · intro j
      dsimp only
      rw [look_put, find_insE hid]
      by_cases hj : j = id
      · rw [if_pos hj, if_pos hj]; rfl
      · rw [if_neg hj, if_neg hj]; exact h.spots j
    · intro k'; dsimp only; split
      · exact nF1 _ hbw (h.bF _)
      · exact h.bF _
    · intro k'; dsimp only; split
      · exact nF1 _ hrw2 (h.rF _)
      · exact h.rF _
    · intro k'; dsimp only; split
      · exact nF1 _ hmw (h.mF _)
      · exact h.mF _
    · intro k'; dsimp only; split
      · exact GF1
      · intro x hx hy
        exact nG1 x (h.inn x (h.iF _ x hy)) (fun hz => h.GF _ x hz hy) hx
    · intro k1 k2 hne
      dsimp only
      split
      · rename_i e1
        split
        · rename_i e2; exact absurd (e1.trans e2.symm) hne
        · rename_i e2
          intro x hx hy
          exact nF1 x (h.inn x (h.iF _ x hy)) (fun hz => h.FF _ _ (fun e => e2 e.symm) x hz hy) hx
      · rename_i e1
        split
        · rename_i e2
          intro x hx hy
          exact nF1 x (h.inn x (h.iF _ x hx)) (fun hz => h.FF _ _ e1 x hx hz) hy
        · exact h.FF _ _ hne
    · simp [h.ib]
    · simp [h.ir]
    · simp [h.im]
    · intro x hx; simp [hx]
    · intro k' x hx
      dsimp only at hx
      split at hx
      · simp [hx]
      · simp [h.iF _ x hx]
    · intro x hx
      simp at hx
      rcases hx with hx | hx | hx
      · exact h.inn.upd UE x hx
      · have := SlAt.inn hsA x hx; have := uAE.size; omega
      · have := SlAt.inn hsC x hx; have := uCE.size; omega
  · simp at hx
    rcases hx with rfl | rfl | rfl | hx | hx
    · exact .inl h.ib
    · exact .inl h.ir
    · exact .inl h.im
    · exact .inl (h.iF _ x hx)
    · exact .inl (h.iG x hx)
  · intro x hx
    simp at hx
    rcases hx with hx | hx | hx
    · exact .inl hx
    · rcases hF1 x hx with h1 | h1
      · exact .inl (h.iF _ x h1)
      · right; omega
    · rcases hG1 x hx with h1 | h1
      · exact .inl (h.iG x h1)
      · right; omega

end

end Go.Proofs.Ytpkfckfdehaamaa
