/- What any bytes are, as a script and as a run: the laws. -/
import Derived.Test.YtggbmakfifllnaaDoorLives
namespace Go.Proofs.YtggbmakfifllnaaDoor
open Go Go.D Go.Proofs
set_option linter.unusedSimpArgs false
set_option linter.unusedVariables false
set_option maxRecDepth 8000

theorem fit_wf {x : Int} (h : (Lit.int .i64 x).wf = true) : -2 ^ 63 ≤ x ∧ x < 2 ^ 63 := by
  simp only [Lit.wf, Bool.and_eq_true, decide_eq_true_eq] at h
  have h0 : -2 ^ 63 ≤ x := h.1
  have h1 : x ≤ 2 ^ 63 - 1 := h.2
  omega

theorem fits_c {x : Int} {l : List Int} (h : (Lit.int .i64 x).wf = true) (k : Fits l) : Fits (x :: l) := fun y hy => by
  rcases List.mem_cons.1 hy with rfl | hy
  · exact fit_wf h
  · exact k y hy

theorem bytes_of : ∀ L : List Int, (∀ x ∈ L, (Lit.int .u8 x).wf = true) → ∃ l : List UInt8, L.map (.int .u8) = bc l
  | [], _ => ⟨[], rfl⟩
  | x :: L, h => by
    obtain ⟨l, hl⟩ := bytes_of L (fun y hy => h y (by simp [hy]))
    have hx := h x (by simp)
    simp only [Lit.wf, Bool.and_eq_true, decide_eq_true_eq] at hx
    have h0 : 0 ≤ x := hx.1
    have h1 : x ≤ 255 := hx.2
    refine ⟨UInt8.ofNat x.toNat :: l, ?_⟩
    rw [List.map_cons, hl]
    show Value.int .u8 x :: bc l = .int .u8 ((UInt8.ofNat x.toNat).toNat : Int) :: bc l
    rw [byteN (by omega), Int.toNat_of_nonneg h0]

theorem flat_text_le : ∀ es : List Evn, (es.flatMap (·.text)).length ≤ (es.flatMap encE).length
  | [] => by simp
  | e :: es => by
    have h1 := flat_text_le es
    have h2 := text_le e
    simp only [List.flatMap_cons, List.length_append]
    omega

section
variable {w : World} {p : Option Addr} {n c : Nat} {l : List UInt8}

theorem scr_parts {s : Scr} (h : s.ok) : ∃ s0 s1 c1 c2 c3 c4 c5 c6 col, s = scrOf s0 s1 [c1, c2, c3, c4, c5, c6] col := by
  obtain ⟨c1, c2, c3, c4, c5, c6, hc⟩ := six_of h.2.2.1
  refine ⟨⟨s.pro.toArray⟩, ⟨s.que.toArray⟩, c1, c2, c3, c4, c5, c6, s.col, ?_⟩
  rw [← hc]; rfl

theorem ScriptDecodes_law (h : Tab w) (hp : Rd w 1 p n (bc l)) (hnc : n ≤ c) :
    C_law27_ScriptDecodes p n c w fun r w' => r = true ∧ Upd [] w w' := by
  have hln : l.length = n := by have := hp.1; rw [bc_len] at this; omega
  apply C_law27_ScriptDecodes.of
  unfold F_law27_ScriptDecodes
  refine ifC (fun g => lives_ok h fun w' u' => ⟨rfl, u'⟩) (fun g => ?_)
  simp at g
  refine BSlP_rule (hE := eS_28) [] rfl (by simp) rfl (by simp) fun w1 hs1 _ u1 => ?_
  refine AppR_rule (hE := eS_28) rfl hs1 (hp.keep u1) (bc_one _) (by simp; omega) fun p' c' F' w2 hs2 u2 s2 => ?_
  simp only [List.flatMap_nil, List.nil_append] at hs2
  have U2 : Upd [] w w2 := u1.fresh u2 (by intro k hk; simp at hk; omega)
  have hs2' := hs2.rd
  simp only [List.length_nil, Nat.zero_add] at hs2 hs2' ⊢
  refine Decode_ok hs2' (by have := hs2.2.1; omega) (by omega) fun s0 s1 c1 c2 c3 c4 c5 c6 q m d col w3 u3 hd hq => ?_
  refine New_rule fun r w4 hr u4 b4 => ?_
  simp only [addN, Nat.zero_add]
  refine St9n b4 (by rfl) (by simp [Value.oneCell']) fun w5 u5 b5 => ?_
  have U5 : Upd [] w3 w5 := u4.fresh u5 (by intro k hk; simp at hk; omega)
  have Ua : Upd [] w w5 := (U2.after u3).after U5
  refine RDecode_ok (hp.keep Ua) hnc (by omega) fun s0' s1' c1' c2' c3' c4' c5' c6' q' m' d' col' w6 u6 hd' hq' => ?_
  refine New_rule fun r' w7 hr' u7 b7 => ?_
  refine St9n b7 (by rfl) (by simp [Value.oneCell']) fun w8 u8 b8 => ?_
  have U8 : Upd [] w6 w8 := u7.fresh u8 (by intro k hk; simp at hk; omega)
  have Ub : Upd [] w5 w8 := u6.after U8
  refine lives_ok (h.keep (Ua.after Ub)) fun w9 u9 => ?_
  refine ifF rfl ?_
  have b5' := (b5.upd Ub (by simp)).upd u9 (by simp)
  have b8' := b8.upd u9 (by simp)
  simp only [NN_some, addN, drw_cell, drw_heap, exS, exI, exB, exP, exM, exStr, exV, a0, a1, a2, a3, a4, a5, a6, a7, a8, a9, a10, a11, a12, a13, maxI_eq, Nat.zero_add, Nat.add_zero, Nat.mul_one, Option.isNone_some, Option.isNone_none, b5'.cell, b8'.cell]
  have Uc : Upd [] w3 w9 := (U5.after Ub).after u9
  have hq9 := hq.keep Uc
  have hq9' := hq'.keep (U8.after u9)
  have hcl : col.length < 2 ^ 40 := by
    rcases hD : dscr l with _ | s
    · rw [hD] at hd
      have := (scrOf_inj (show scrOf _ _ _ _ = scrOf _ _ _ _ from hd)).2.2.2
      rw [← this]; decide
    · rw [hD] at hd
      have hk := (dscr_is hD).2
      have : s = scrOf s0 s1 [c1, c2, c3, c4, c5, c6] col := hd
      rw [this] at hk
      have := hk.2.2.2.1
      simp only [scrOf] at this; omega
  refine Same_ok hq9 hq9' hcl fun w10 u10 => ?_
  rw [← hd, ← hd']
  refine ifF (by simp) ?_
  have U10 : Upd [] w w10 := (Ua.after Ub).after (u9.after u10)
  have hown : Rd w10 1 p' n (bc l) := ((hs2'.keep u3).keep Uc).keep u10
  have hb := hp.keep U10
  have b5c := b5'.upd u10 (by simp)
  rcases hD : dscr l with _ | s
  · refine ifF (by simp) (ifT (by simp) (ifF (by simp) ?_))
    refine Str_rule (e := 5) rfl rfl rfl hown ⟨_, rfl, Str_rule (e := 5) rfl rfl rfl hb ⟨_, rfl, ?_⟩⟩
    unfold F_law27_ScriptDecodes_k2
    exact ifF (by simp) (ifT (by simp) ⟨rfl, U10⟩)
  · refine ifF (by simp) (ifF (by simp) ?_)
    refine Str_rule (e := 5) rfl rfl rfl hown ⟨_, rfl, Str_rule (e := 5) rfl rfl rfl hb ⟨_, rfl, ?_⟩⟩
    unfold F_law27_ScriptDecodes_k2
    refine ifF (by simp) (ifF (by simp) ?_)
    simp only [NN_some, addN, drw_cell, drw_heap, exS, exI, exB, exP, exM, exStr, exV, a0, a1, a2, a3, a4, a5, a6, a7, a8, a9, a10, a11, a12, a13, maxI_eq, Nat.zero_add, Nat.add_zero, Nat.mul_one, Option.isNone_some, Option.isNone_none, b5c.cell]
    rw [hD] at hd
    have hs : s = scrOf s0 s1 [c1, c2, c3, c4, c5, c6] col := hd
    obtain ⟨hl, hok⟩ := dscr_is hD
    subst hs
    obtain ⟨k0, k1, _, k3, k4, k5⟩ := hok
    simp only [scrOf] at k0 k1 k3 k4 k5
    have z0 : s0.size ≤ 65536 := by simpa using k0
    have z1 : s1.size ≤ 65536 := by simpa using k1
    refine Encode_both (hq9.keep u10) (by omega) (by omega) (by omega) (fun x hx => by rcases List.mem_append.1 hx with hx | hx; exact k4 x hx; exact k5 x hx) fun q4 m4 d4 e w11 u11 hy _ => ?_
    obtain ⟨rfl, B⟩ := hy ⟨z0, z1, k3⟩
    refine ifT (by decide) ?_
    rw [← hl] at B
    refine Str_rule (e := 5) rfl rfl rfl B.rd ⟨_, rfl, Str_rule (e := 5) rfl rfl rfl (hb.keep u11) ⟨_, rfl, ?_⟩⟩
    exact ⟨by simp, U10.after u11⟩

theorem ScriptReruns_law (h : Tab w) (hp : Rd w 1 p n (bc l)) (hnc : n ≤ c) :
    C_law27_ScriptReruns p n c w fun r w' => r = true ∧ Upd [] w w' := by
  have hln : l.length = n := by have := hp.1; rw [bc_len] at this; omega
  apply C_law27_ScriptReruns.of
  unfold F_law27_ScriptReruns
  refine ifC (fun g => lives_ok h fun w' u' => ⟨rfl, u'⟩) (fun g => ?_)
  simp at g
  refine DecodeRun_ok hp hnc (by omega) fun tag q m d c2 c3 c4 c5 es w1 u1 hd hq => ?_
  refine New_rule fun r w2 hr u2 b2 => ?_
  simp only [addN, Nat.zero_add]
  refine St6n b2 (by rfl) (by simp [Value.oneCell']) fun w3 u3 b3 => ?_
  have U3 : Upd [] w1 w3 := u2.fresh u3 (by intro k hk; simp at hk; omega)
  have Ua : Upd [] w w3 := u1.after U3
  refine RDecodeRun_ok (hp.keep Ua) hnc (by omega) fun tag' q' m' d' c2' c3' c4' c5' es' w4 u4 hd' hq' => ?_
  refine New_rule fun r' w5 hr' u5 b5 => ?_
  refine St6n b5 (by rfl) (by simp [Value.oneCell']) fun w6 u6 b6 => ?_
  have U6 : Upd [] w4 w6 := u5.fresh u6 (by intro k hk; simp at hk; omega)
  have Ub : Upd [] w3 w6 := u4.after U6
  refine lives_ok (h.keep (Ua.after Ub)) fun w7 u7 => ?_
  refine ifF rfl ?_
  have b3' := (b3.upd Ub (by simp)).upd u7 (by simp)
  have b6' := b6.upd u7 (by simp)
  simp only [NN_some, addN, drw_cell, drw_heap, exS, exI, exB, exP, exM, exStr, exV, a0, a1, a2, a3, a4, a5, a6, a7, a8, a9, a10, a11, a12, a13, maxI_eq, Nat.zero_add, Nat.add_zero, Nat.mul_one, Option.isNone_some, Option.isNone_none, b3'.cell, b6'.cell]
  have hq7 := hq.keep ((U3.after Ub).after u7)
  have hq7' := hq'.keep (U6.after u7)
  have hel : es.length < 2 ^ 40 := by
    rcases hD : drun l with _ | s
    · rw [hD] at hd
      have : noRun = ⟨tag, es, [c2, c3, c4, c5]⟩ := hd
      unfold noRun at this
      simp only [Rn.mk.injEq] at this
      rw [← this.2.1]; decide
    · rw [hD] at hd
      have hk := (drun_is hD).2
      have : s = ⟨tag, es, [c2, c3, c4, c5]⟩ := hd
      rw [this] at hk
      have := hk.2.2.1
      simp only at this; omega
  refine SameRun_ok hq7 hq7' hel fun w8 u8 => ?_
  rw [← hd, ← hd']
  refine ifF (by simp) ?_
  have U8 : Upd [] w w8 := (Ua.after Ub).after (u7.after u8)
  have b3c := b3'.upd u8 (by simp)
  rcases hD : drun l with _ | s
  · refine ifF (by simp) (ifT (by simp) (ifF (by simp) ?_))
    unfold F_law27_ScriptReruns_k2
    exact ifT (by simp) ⟨rfl, U8⟩
  · refine ifF (by simp) (ifF (by simp) ?_)
    unfold F_law27_ScriptReruns_k2
    refine ifF (by simp) ?_
    simp only [NN_some, addN, drw_cell, drw_heap, exS, exI, exB, exP, exM, exStr, exV, a0, a1, a2, a3, a4, a5, a6, a7, a8, a9, a10, a11, a12, a13, maxI_eq, Nat.zero_add, Nat.add_zero, Nat.mul_one, Option.isNone_some, Option.isNone_none, b3c.cell]
    rw [hD] at hd
    have hs : s = ⟨tag, es, [c2, c3, c4, c5]⟩ := hd
    obtain ⟨hl, hok⟩ := drun_is hD
    subst hs
    have hlr := encR_len hok
    obtain ⟨k0, k1, k2, k3, k4, k5⟩ := hok
    simp only at k0 k1 k2 k3 k5
    have hE := flat_encE_len k3
    have htx : (es.flatMap (·.text)).length ≤ l.length := by
      rw [hl]
      unfold encR
      simp only [List.length_append]
      have : (es.flatMap (·.text)).length ≤ (es.flatMap encE).length := flat_text_le es
      omega
    refine EncodeRun_both (hq7.keep u8) (by omega) (by omega) (fun x hx => by simp only [List.mem_cons] at hx; rcases hx with rfl | hx; exact ⟨k0, k1⟩; exact k5 x (by simpa using hx)) (fun e he x hx => by simp at hx; subst hx; exact ⟨(k3 e he).1, (k3 e he).2.1⟩) fun q4 m4 d4 e w9 u9 hy _ => ?_
    obtain ⟨rfl, B⟩ := hy ⟨k2, fun e he => (k3 e he).2.2⟩
    refine ifT (by decide) ?_
    rw [← hl] at B
    refine Str_rule (e := 5) rfl rfl rfl B.rd ⟨_, rfl, Str_rule (e := 5) rfl rfl rfl (hp.keep (U8.after u9)) ⟨_, rfl, ?_⟩⟩
    exact ⟨by simp, U8.after u9⟩
end

end Go.Proofs.YtggbmakfifllnaaDoor
