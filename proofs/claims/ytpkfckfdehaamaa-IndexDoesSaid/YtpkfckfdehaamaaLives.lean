/- What must come of every program comes. -/
import Derived.Test.YtpkfckfdehaamaaPure
namespace Go.Proofs.Ytpkfckfdehaamaa
open Go Go.D Go.Proofs
set_option linter.unusedSimpArgs false
set_option linter.unusedVariables false
set_option maxRecDepth 8000

theorem lives_ok {w : World} {K : Bool → World → Prop} (hK : ∀ w', Upd [] w w' → K true w') : C_law18_lives w K := by
  apply C_law18_lives.of
  unfold F_law18_lives F_law18_lives_k1 F_law18_lives_k2
  refine New_ok fun w1 d h1 ok1 hE1 u1 n1 => ifF rfl (New_rule fun r w2 hr u2 hb2 => ?_)
  refine St3 hb2 rfl (by simp [Value.oneCell']) fun w3 u3 hr3 => New_rule fun q w4 hq u4 hb4 => St3 hb4 rfl (by simp [Value.oneCell']) fun w5 u5 hq5 => ?_
  have hrq : r ≠ q := by have := hr3.lt; omega
  have hr5 := (hr3.upd u4 (by simp)).upd u5 (by simpa using hrq)
  have V5 : Upd [] w1 w5 := (((u2.fresh u3 (by intro x hx; simp at hx; omega)).after u4)).fresh u5 (by intro x hx; simp at hx; have := u2.size; have := u3.size; omega)
  have h5 := (h1.keep V5).keep (drw_upd w5)
  have hsz := V5.size
  have hrF : r ∉ d.FT := fun hx => by have := h1.inn r hx; omega
  have hqF : q ∉ d.FT := fun hx => by have := h1.inn q hx; have := u2.size; have := u3.size; omega
  simp only [NN_some, addN, drw_cell, drw_heap, exS, exI, exB, exP, exM, exStr, exV, a0, a1, a2, a3, a4, a5, a6, a7, a8, a9, a10, a11, a12, a13, maxI_eq, Nat.zero_add, Nat.add_zero, Nat.mul_one, Option.isNone_some, Option.isNone_none, hr5.cell, hq5.cell]
  have U5 := u1.after V5
  have n5 : Since d.FT w := n1
  -- the first one
  refine Add_ask (k := (3, ⟨#[102]⟩, 1)) (front := false) h5 ok1 (by omega) (fun hx => by rw [hE1] at hx; simp at hx) (fun _ hx => by rw [hE1] at hx; simp at hx) fun _ _ w6 d6 h6 ok6 ha6 hE6 u6 s6 => ?_
  rw [hE1] at hE6
  have U6 := (U5.after (drw_upd w5)).fresh u6 n5
  have n6 := n5.step s6 (Nat.le_trans u1.size hsz)
  have hr6 := hr5.drw.upd u6 hrF
  have hq6 := hq5.drw.upd u6 hqF
  have hrF6 : r ∉ d6.FT := fun hx => by
    rcases s6 r hx with h | h
    · exact hrF h
    · have h7 : w5.heap.size ≤ r := h
      have := hr5.lt; omega
  have hqF6 : q ∉ d6.FT := fun hx => by
    rcases s6 q hx with h | h
    · exact hqF h
    · have h7 : w5.heap.size ≤ q := h
      have := hq5.lt; omega
  simp only [NN_some, addN, drw_cell, drw_heap, exS, exI, exB, exP, exM, exStr, exV, a0, a1, a2, a3, a4, a5, a6, a7, a8, a9, a10, a11, a12, a13, maxI_eq, Nat.zero_add, Nat.add_zero, Nat.mul_one, Option.isNone_some, Option.isNone_none, hq6.cell, hq5.cell]
  refine ⟨fun i hi => trivial, ?_⟩
  rw [← ha6]
  refine Add_ask (k := (0, ⟨#[]⟩, 0)) (front := false) h6 ok6 (by omega) (fun hx => by rw [hE6] at hx; simp [insE] at hx) (fun _ hx => by rw [hE6] at hx; simp [insE] at hx) fun _ _ w7 d7 h7 ok7 ha7 hE7 u7 s7 => ?_
  have U7 := U6.fresh u7 n6
  have n7 := n6.step s7 U6.size
  have hr7 := hr6.upd u7 hrF6
  have hq7 := hq6.upd u7 hqF6
  have hrF7 : r ∉ d7.FT := fun hx => by
    rcases s7 r hx with h | h
    · exact hrF6 h
    · have := hr6.lt; omega
  have hqF7 : q ∉ d7.FT := fun hx => by
    rcases s7 q hx with h | h
    · exact hqF6 h
    · have := hq6.lt; omega
  simp only [NN_some, addN, drw_cell, drw_heap, exS, exI, exB, exP, exM, exStr, exV, a0, a1, a2, a3, a4, a5, a6, a7, a8, a9, a10, a11, a12, a13, maxI_eq, Nat.zero_add, Nat.add_zero, Nat.mul_one, Option.isNone_some, Option.isNone_none, hq7.cell]
  refine ⟨fun i hi => trivial, ?_⟩
  rw [← ha7]
  refine Add_ask (k := (2, ⟨#[98]⟩, 0)) (front := true) h7 ok7 (by omega) (fun hx => by rw [hE7, hE6] at hx; simp [insE] at hx) (fun _ hx => by rw [hE7, hE6] at hx; simp [insE] at hx) fun _ _ w8 d8 h8 ok8 ha8 hE8 u8 s8 => ?_
  have U8 := U7.fresh u8 n7
  have hr8 := hr7.upd u8 hrF7
  have hq8 := hq7.upd u8 hqF7
  rw [← ha8]
  rw [hE6] at hE7
  rw [hE7] at hE8
  simp [insE, nk, zk] at hE8
  obtain ⟨ra, rb, rc, hE⟩ : ∃ ra rb rc, d8.E = [⟨ra, 9, (2, ⟨#[98]⟩, 0)⟩, ⟨rb, 4, (3, ⟨#[102]⟩, 1)⟩, ⟨rc, 7, (0, ⟨#[]⟩, 0)⟩] := ⟨_, _, _, hE8⟩
  clear hE8
  have hbc : rb < rc := by
    have := ok8.rising
    rw [hE] at this
    simp at this; exact this.2
  have hab : ra < rb ∧ ra < rc := by
    have := ok8.rising
    rw [hE] at this
    simp at this; exact this.1
  simp only [NN_some, addN, drw_cell, drw_heap, exS, exI, exB, exP, exM, exStr, exV, a0, a1, a2, a3, a4, a5, a6, a7, a8, a9, a10, a11, a12, a13, maxI_eq, Nat.zero_add, Nat.add_zero, Nat.mul_one, Option.isNone_some, Option.isNone_none, hr8.cell]
  refine Head_ok (k := (3, ⟨#[102]⟩, 1)) h8 ok8 (by omega) fun w9 u9 => ?_
  have hr9 := hr8.upd u9 (by simp)
  have hq9 := hq8.upd u9 (by simp)
  have h9 := h8.keep u9
  have e1 : d8.E.find? (fun e => meets e.key (3, ⟨#[102]⟩, 1)) = some ⟨rb, 4, (3, ⟨#[102]⟩, 1)⟩ := by rw [hE]; rfl
  rw [e1]
  simp only [NN_some, addN, drw_cell, drw_heap, exS, exI, exB, exP, exM, exStr, exV, a0, a1, a2, a3, a4, a5, a6, a7, a8, a9, a10, a11, a12, a13, maxI_eq, Nat.zero_add, Nat.add_zero, Nat.mul_one, Option.isNone_some, Option.isNone_none, hr9.cell]
  refine Next_ok (k := (3, ⟨#[102]⟩, 1)) h9 ok8 (by omega) fun wa ua => ?_
  have hra := hr9.upd ua (by simp)
  have hqa := hq9.upd ua (by simp)
  have ha := h9.keep ua
  have e2 : ((d8.E.find? fun e => decide (e.id = 4)).bind fun e => nextE d8.E e.rank (3, ⟨#[102]⟩, 1)) = some ⟨rc, 7, (0, ⟨#[]⟩, 0)⟩ := by
    rw [hE]
    have h1 : ¬ rb < ra := by omega
    simp [nextE, meets, h1, hbc]
  rw [e2]
  simp only [NN_some, addN, drw_cell, drw_heap, exS, exI, exB, exP, exM, exStr, exV, a0, a1, a2, a3, a4, a5, a6, a7, a8, a9, a10, a11, a12, a13, maxI_eq, Nat.zero_add, Nat.add_zero, Nat.mul_one, Option.isNone_some, Option.isNone_none, hqa.cell]
  refine Next_ok (k := (2, ⟨#[98]⟩, 0)) ha ok8 (by omega) fun wb ub => ?_
  have hrb := hra.upd ub (by simp)
  have hqb := hqa.upd ub (by simp)
  have hb := ha.keep ub
  have e3 : ((d8.E.find? fun e => decide (e.id = 7)).bind fun e => nextE d8.E e.rank (2, ⟨#[98]⟩, 0)) = none := by
    rw [hE]
    have h1 : ¬ rc < ra := by omega
    have h2 : ¬ rc < rb := by omega
    simp [nextE, meets, h1, h2]
  rw [e3]
  refine ifT rfl (ifT rfl (ifT rfl (ifT rfl (ifT rfl (ifT rfl (ifT rfl (ifT rfl (Len_ok (hb.keep (drw_upd wb)) (ifT (by rw [hE]; rfl) ?_)))))))))
  have Ub := ((U8.after u9).after ua).after ub
  simp only [NN_some, addN, drw_cell, drw_heap, exS, exI, exB, exP, exM, exStr, exV, a0, a1, a2, a3, a4, a5, a6, a7, a8, a9, a10, a11, a12, a13, maxI_eq, Nat.zero_add, Nat.add_zero, Nat.mul_one, Option.isNone_some, Option.isNone_none, hqb.cell, hrb.cell]
  have hmet : (metE d8.E (2, ⟨#[98]⟩, 0)).map (·.id) = [9, 7] := by rw [hE]; rfl
  -- the last questions
  have fin : ∀ wc, Upd [] (drw wb) wc → C_index_Table_Drop d8.a 5 wc fun t87 w1_19 =>
      If (t87 == (4 : Int))
      (∃ t910 : Int, w1_19.cell? ((⟨r, 0, none⟩ : Addr).add 0) = some (.int .i64 t910) ∧
      ∃ t911 : ByteArray, w1_19.cell? ((⟨r, 0, none⟩ : Addr).add 1) = some (.string t911) ∧
      ∃ t912 : Int, w1_19.cell? ((⟨r, 0, none⟩ : Addr).add 2) = some (.int .i64 t912) ∧
      ∃ t920 : Int, w1_19.cell? ((⟨r, 0, none⟩ : Addr).add 0) = some (.int .i64 t920) ∧
      ∃ t921 : ByteArray, w1_19.cell? ((⟨r, 0, none⟩ : Addr).add 1) = some (.string t921) ∧
      ∃ t922 : Int, w1_19.cell? ((⟨r, 0, none⟩ : Addr).add 2) = some (.int .i64 t922) ∧
      C_index_Meet t910 t911 t912 t920 t921 t922 w1_19 fun t93 w1_20 =>
      If t93
      (∃ t960 : Int, w1_20.cell? ((⟨r, 0, none⟩ : Addr).add 0) = some (.int .i64 t960) ∧
      ∃ t961 : ByteArray, w1_20.cell? ((⟨r, 0, none⟩ : Addr).add 1) = some (.string t961) ∧
      ∃ t962 : Int, w1_20.cell? ((⟨r, 0, none⟩ : Addr).add 2) = some (.int .i64 t962) ∧
      ∃ t970 : Int, w1_20.cell? ((⟨q, 0, none⟩ : Addr).add 0) = some (.int .i64 t970) ∧
      ∃ t971 : ByteArray, w1_20.cell? ((⟨q, 0, none⟩ : Addr).add 1) = some (.string t971) ∧
      ∃ t972 : Int, w1_20.cell? ((⟨q, 0, none⟩ : Addr).add 2) = some (.int .i64 t972) ∧
      C_index_Meet t960 t961 t962 t970 t971 t972 w1_20 fun t98 w1_21 =>
      If (!t98)
      (∃ t1040 : Int, w1_21.cell? ((⟨q, 0, none⟩ : Addr).add 0) = some (.int .i64 t1040) ∧
      ∃ t1041 : ByteArray, w1_21.cell? ((⟨q, 0, none⟩ : Addr).add 1) = some (.string t1041) ∧
      ∃ t1042 : Int, w1_21.cell? ((⟨q, 0, none⟩ : Addr).add 2) = some (.int .i64 t1042) ∧
      C_index_KeyOf (3 : Int) (0 : Int) ⟨#[98]⟩ none 0 0 w1_21 fun t1030 t1031 t1032 w1_22 =>
      (∀ i, i < 3 → w1_22.cell? ((⟨q, 0, none⟩ : Addr).add i) = w1_21.cell? ((⟨q, 0, none⟩ : Addr).add i)) ∧
      AggEq Try.prog 26 (.agg #[.int .i64 t1030, .string t1031, .int .i64 t1032]) (.agg #[.int .i64 t1040, .string t1041, .int .i64 t1042]) fun bb =>
      If bb
      (C_index_First (0 : Int) (0 : Int) ⟨#[]⟩ none 0 0 w1_22 fun t1090 t1091 t1092 w1_23 =>
      AggEq Try.prog 26 (.agg #[.int .i64 t1090, .string t1091, .int .i64 t1092]) (.agg #[.int .i64 0, .string ⟨#[]⟩, .int .i64 0]) fun bb_1 =>
      K bb_1 w1_23)
      (K false w1_22))
      (K false w1_21))
      (K false w1_20))
      (K false w1_19) := by
    intro wc uc
    have hc := (hb.keep (drw_upd wb)).keep uc
    have Uc := (Ub.after (drw_upd wb)).after uc
    have hrc := hrb.drw.upd uc (by simp)
    have hqc := hqb.drw.upd uc (by simp)
    refine Drop_no hc (by rw [hE]; simp) fun wd hd ud => ifT rfl ?_
    have hrd := hrc.upd ud (by simp)
    have hqd := hqc.upd ud (by simp)
    simp only [NN_some, addN, drw_cell, drw_heap, exS, exI, exB, exP, exM, exStr, exV, a0, a1, a2, a3, a4, a5, a6, a7, a8, a9, a10, a11, a12, a13, maxI_eq, Nat.zero_add, Nat.add_zero, Nat.mul_one, Option.isNone_some, Option.isNone_none, hrd.cell]
    refine Meet_ok (k := (3, ⟨#[102]⟩, 1)) (k' := (3, ⟨#[102]⟩, 1)) fun we ue => ifT rfl ?_
    have hre := hrd.upd ue (by simp)
    have hqe := hqd.upd ue (by simp)
    simp only [NN_some, addN, drw_cell, drw_heap, exS, exI, exB, exP, exM, exStr, exV, a0, a1, a2, a3, a4, a5, a6, a7, a8, a9, a10, a11, a12, a13, maxI_eq, Nat.zero_add, Nat.add_zero, Nat.mul_one, Option.isNone_some, Option.isNone_none, hre.cell, hqe.cell]
    refine Meet_ok (k := (3, ⟨#[102]⟩, 1)) (k' := (2, ⟨#[98]⟩, 0)) fun wf uf => ifT rfl ?_
    have hqf := hqe.upd uf (by simp)
    simp only [NN_some, addN, drw_cell, drw_heap, exS, exI, exB, exP, exM, exStr, exV, a0, a1, a2, a3, a4, a5, a6, a7, a8, a9, a10, a11, a12, a13, maxI_eq, Nat.zero_add, Nat.add_zero, Nat.mul_one, Option.isNone_some, Option.isNone_none, hqf.cell]
    refine KeyOf_ok fun wg ug => ?_
    have hqg := hqf.upd ug (by simp)
    refine ⟨fun i hi => by simp [hqg.cell], keyEq (ifT rfl ?_)⟩
    refine First_ok (k := zk) (fun h => absurd rfl h) fun wh uh => keyEq ?_
    exact hK wh (((((Uc.after ud).after ue).after uf).after ug).after uh)
  simp only [addN, Nat.zero_add] at fin
  refine ⟨?_, ?_⟩
  · refine All_ok (k := (2, ⟨#[98]⟩, 0)) (hb.keep (drw_upd wb)) ok8 (by omega) fun p n c F wc hs uc nc => ?_
    rw [hmet] at hs
    refine BSlL_rule eS_43 [.int .i64 9, .int .i64 7] (by rfl) (by simp [Value.cells]) (by rfl) (by omega) fun wd hsd ud => ?_
    have hsd' : SlAt wd 1 (some ⟨wc.heap.size, 0, none⟩) 2 2 (([9, 7] : List Int).map (.int .i64)) [wc.heap.size] := hsd
    refine SameInts_ok (L := [9, 7]) ((hs.upd ud (by intro k _ h; cases h)).rd) hsd'.rd (by simp) fun we ue => ifT rfl (fin we ((uc.after ud).after ue))
  · refine BSlL_rule eS_43 [.int .i64 9, .int .i64 7] (by rfl) (by simp [Value.cells]) (by rfl) (by omega) fun wd hsd ud => ?_
    have hsd' : SlAt wd 1 (some ⟨(drw wb).heap.size, 0, none⟩) 2 2 (([9, 7] : List Int).map (.int .i64)) [(drw wb).heap.size] := hsd
    refine ⟨fun i hi => by simp [(hqb.drw.upd ud (by simp)).cell, hqb.cell], ?_⟩
    refine All_ok (k := (2, ⟨#[98]⟩, 0)) ((hb.keep (drw_upd wb)).keep ud) ok8 (by omega) fun p n c F we hs ue ne => ?_
    rw [hmet] at hs
    refine SameInts_ok (L := [9, 7]) hs.rd (hsd'.upd ue (by intro k _ h; cases h)).rd (by simp) fun wf uf => ifT rfl (fin wf ((ud.after ue).after uf))

end Go.Proofs.Ytpkfckfdehaamaa
