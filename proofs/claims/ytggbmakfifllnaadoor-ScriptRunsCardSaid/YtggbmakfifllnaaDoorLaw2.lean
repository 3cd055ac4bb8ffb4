/- Any script, any run: the laws. -/
import Derived.Test.YtggbmakfifllnaaDoorLaw
namespace Go.Proofs.YtggbmakfifllnaaDoor
open Go Go.D Go.Proofs
set_option linter.unusedSimpArgs false
set_option linter.unusedVariables false
set_option maxRecDepth 8000

theorem Rd_none (w : World) : Rd w 1 none 0 (bc []) := ⟨rfl, .inl rfl⟩

theorem encE_len' {e : Evn} (h0 : -2 ^ 63 ≤ e.kind) (h1 : e.kind < 2 ^ 63) (ht : e.text.length < 2 ^ 62) : (encE e).length ≤ 20 + e.text.length := by
  have h1 := enc_len h0 h1
  have h2 := enc_len (n := (e.text.length : Int)) (by omega) (by omega)
  unfold encE encT
  simp only [List.length_append]
  omega

theorem flat_encE_len' : ∀ {evs : List Evn}, (∀ e ∈ evs, Fits [e.kind]) → (evs.flatMap (·.text)).length < 2 ^ 62 → (evs.flatMap encE).length ≤ 20 * evs.length + (evs.flatMap (·.text)).length
  | [], _, _ => by simp
  | e :: evs, h, ht => by
    simp only [List.flatMap_cons, List.length_append] at ht ⊢
    have hk := h e (by simp) e.kind (by simp)
    have h1 := encE_len' hk.1 hk.2 (by omega)
    have h2 := flat_encE_len' (evs := evs) (fun x hx => h x (by simp [hx])) (by omega)
    simp only [List.length_cons]
    omega

section
variable {w : World} {p q : Option Addr} {n c m d : Nat} {s0 s1 : ByteArray} {c1 c2 c3 c4 c5 c6 : Int} {col : List Int}

theorem codes_k2 {w0 : World} {r : Nat} {t : Bool} (h : Tab w) (hp : Rd w 1 p n (col.map (.int .i64))) (h0 : s0.size < 2 ^ 38) (h1 : s1.size < 2 ^ 38) (hf : Fits ([c1, c2, c3, c4, c5, c6] ++ col)) (u0 : Upd [] w0 w)
    (hb : Blk w r #[.string s0, .string s1, .int .i64 c1, .int .i64 c2, .int .i64 c3, .int .i64 c4, .int .i64 c5, .int .i64 c6, .slice p n c]) (ht : t = false → n ≤ 2000) :
    F_law27_ScriptCodes_k2 (fun r w' => r = true ∧ Upd [] w0 w') r t w := by
  have hn : n = col.length := by have := hp.1; simp at this; omega
  unfold F_law27_ScriptCodes_k2
  refine ifC (fun g => lives_ok h fun w' u' => ⟨rfl, u0.after u'⟩) (fun g => ?_)
  have hn2 := ht g
  simp only [NN_some, addN, drw_cell, drw_heap, exS, exI, exB, exP, exM, exStr, exV, a0, a1, a2, a3, a4, a5, a6, a7, a8, a9, a10, a11, a12, a13, maxI_eq, Nat.zero_add, Nat.add_zero, Nat.mul_one, Option.isNone_some, Option.isNone_none, hb.cell]
  refine Encode_both hp (by omega) (by omega) (by omega) hf fun q1 m1 d1 e1 w1 u1 hy1 hno1 => ?_
  have hb1 := hb.upd u1 (by simp)
  simp only [NN_some, addN, drw_cell, drw_heap, exS, exI, exB, exP, exM, exStr, exV, a0, a1, a2, a3, a4, a5, a6, a7, a8, a9, a10, a11, a12, a13, maxI_eq, Nat.zero_add, Nat.add_zero, Nat.mul_one, Option.isNone_some, Option.isNone_none, hb1.cell]
  refine REncode_ok (hp.keep u1) (by omega) hf fun q2 m2 d2 e2 w2 u2 hy2 hno2 => ?_
  refine lives_ok ((h.keep u1).keep u2) fun w3 u3 => ?_
  refine ifF rfl ?_
  have U3 : Upd [] w w3 := (u1.after u2).after u3
  have hb3 := hb.upd U3 (by simp)
  by_cases hfit : Scr.fits s0 s1 col
  · obtain ⟨rfl, B1⟩ := hy1 hfit
    obtain ⟨rfl, B2⟩ := hy2 hfit
    have B1' := (B1.keep u2).keep u3
    have B2' := B2.keep u3
    refine Str_rule (e := 5) rfl rfl rfl B1'.rd ⟨_, rfl, Str_rule (e := 5) rfl rfl rfl B2'.rd ⟨_, rfl, ?_⟩⟩
    refine ifF (by simp) (ifF (by decide) (ifF (by decide) ?_))
    obtain ⟨sc, hsc⟩ : ∃ sc, sc = scrOf s0 s1 [c1, c2, c3, c4, c5, c6] col := ⟨_, rfl⟩
    have hok : sc.ok := by
      subst hsc
      obtain ⟨a, b, e⟩ := hfit
      exact ⟨by simpa [scrOf] using a, by simpa [scrOf] using b, rfl, e, fun x hx => hf x (List.mem_append_left _ hx), fun x hx => hf x (List.mem_append_right _ hx)⟩
    rw [← hsc] at B1'
    have hlen : (encS sc).length < 2 ^ 40 := by
      rw [hsc, encS_eq]
      have e0 := encT_len (s := s0) (by omega)
      have e1 := encT_len (s := s1) (by omega)
      have e2 := encL_len (L := [c1, c2, c3, c4, c5, c6, (col.length : Int)]) (by
        intro x hx
        simp only [List.mem_cons, List.not_mem_nil, or_false] at hx
        rcases hx with h | h | h | h | h | h | h
        · exact hf x (by simp [h])
        · exact hf x (by simp [h])
        · exact hf x (by simp [h])
        · exact hf x (by simp [h])
        · exact hf x (by simp [h])
        · exact hf x (by simp [h])
        · omega)
      have e3 := encL_len (L := col) (fun x hx => hf x (List.mem_append_right _ hx))
      simp only [List.length_append, List.length_cons, List.length_nil] at *
      omega
    refine Decode_ok B1'.rd B1'.nc hlen fun s0' s1' c1' c2' c3' c4' c5' c6' q' m' d' col' w4 u4 hd hq => ?_
    rw [dscr_enc hok] at hd ⊢
    refine New_rule fun r' w5 hr' u5 b5 => ?_
    refine St9n b5 (by rfl) (by simp [Value.oneCell']) fun w6 u6 b6 => ?_
    have U6 : Upd [] w4 w6 := u5.fresh u6 (by intro k hk; simp at hk; omega)
    refine ifT (by simp) ?_
    have hb6 := (hb3.upd u4 (by simp)).upd U6 (by simp)
    simp only [NN_some, addN, drw_cell, drw_heap, exS, exI, exB, exP, exM, exStr, exV, a0, a1, a2, a3, a4, a5, a6, a7, a8, a9, a10, a11, a12, a13, maxI_eq, Nat.zero_add, Nat.add_zero, Nat.mul_one, Option.isNone_some, Option.isNone_none, b6.cell, hb6.cell]
    have hcl : col'.length < 2 ^ 40 := by
      have : sc = scrOf s0' s1' [c1', c2', c3', c4', c5', c6'] col' := hd
      rw [this] at hok
      have := hok.2.2.2.1
      simp only [scrOf] at this; omega
    refine Same_ok (hq.keep U6) ((hp.keep U3).keep (u4.after U6)) hcl fun w7 u7 => ?_
    refine ⟨?_, u0.after ((U3.after (u4.after U6)).after u7)⟩
    rw [← hd, ← hsc]; simp
  · obtain ⟨rfl, rfl, rfl, rfl⟩ := hno1 hfit
    obtain ⟨rfl, rfl, rfl, rfl⟩ := hno2 hfit
    refine Str_rule (e := 5) rfl rfl rfl (Rd_none _) ⟨_, rfl, Str_rule (e := 5) rfl rfl rfl (Rd_none _) ⟨_, rfl, ?_⟩⟩
    refine ifF (by simp) (ifF (by decide) (ifT (by decide) ?_))
    exact ⟨by decide, u0.after U3⟩

theorem ScriptCodes_law (h : Tab w) (hp : Rd w 1 p n (col.map (.int .i64))) (h0 : s0.size < 2 ^ 38) (h1 : s1.size < 2 ^ 38) (hf : Fits ([c1, c2, c3, c4, c5, c6] ++ col)) :
    C_law27_ScriptCodes s0 s1 c1 c2 c3 c4 c5 c6 p n c w fun r w' => r = true ∧ Upd [] w w' := by
  apply C_law27_ScriptCodes.of
  unfold F_law27_ScriptCodes F_law27_ScriptCodes_k1
  refine New_rule fun r w1 hr u1 b1 => ?_
  simp only [NN_some, addN, drw_cell, drw_heap, exS, exI, exB, exP, exM, exStr, exV, a0, a1, a2, a3, a4, a5, a6, a7, a8, a9, a10, a11, a12, a13, maxI_eq, Nat.zero_add, Nat.add_zero, Nat.mul_one, Option.isNone_some, Option.isNone_none, b1.cell]
  have lv : C_law27_lives w1 fun t37 w1_2 => t37 = true ∧ Upd [] w w1_2 := lives_ok (h.keep u1) fun w' u' => ⟨rfl, u1.after u'⟩
  have kk : F_law27_ScriptCodes_k2 (fun r w' => r = true ∧ Upd [] w w') r (decide ((n : Int) > 2000)) w1 :=
    codes_k2 (h.keep u1) (hp.keep u1) h0 h1 hf u1 b1 (fun g => by simp at g; omega)
  exact ifC (fun _ => ifC (fun _ => lv) fun _ => ifC (fun _ => ifC (fun _ => lv) fun _ => kk) fun _ => kk) fun _ => ifC (fun _ => ifC (fun _ => lv) fun _ => kk) fun _ => kk

end

section
variable {w : World} {p : Option Addr} {n c : Nat} {evs : List Evn} {tag x2 x3 x4 x5 : Int}

theorem runs_k4 {w0 : World} {r : Nat} {q : Option Addr} {m d : Nat} {e : Int} {ok : Bool} (hp : Rd w 2 p n (evs.flatMap evCells)) (hE : (evs.flatMap encE).length < 2 ^ 38) (hn2 : evs.length < 2 ^ 38) (hf : Fits [tag, x2, x3, x4, x5]) (hk : ∀ e ∈ evs, Fits [e.kind]) (u0 : Upd [] w0 w)
    (hb : Blk w r #[.int .i64 tag, .slice p n c, .int .i64 x2, .int .i64 x3, .int .i64 x4, .int .i64 x5])
    (hy : Run.fits evs → e = 0 ∧ ok = true ∧ m ≤ d ∧ Rd w 1 q m (bc (encR ⟨tag, evs, [x2, x3, x4, x5]⟩))) (hno : ¬ Run.fits evs → e = 3 ∧ ok = false) :
    F_law27_ScriptRuns_k4 (fun r w' => r = true ∧ Upd [] w0 w') r q m d e ok w := by
  unfold F_law27_ScriptRuns_k4
  by_cases hfit : Run.fits evs
  · obtain ⟨rfl, rfl, hmd, hq⟩ := hy hfit
    refine ifF rfl ?_
    obtain ⟨rn, hrn⟩ : ∃ rn : Rn, rn = ⟨tag, evs, [x2, x3, x4, x5]⟩ := ⟨_, rfl⟩
    have hok : rn.ok := by
      subst hrn
      have ht := hf tag (by simp)
      refine ⟨ht.1, ht.2, hfit.1, fun e he => ?_, rfl, fun x hx => hf x (by simp only [List.mem_cons] at hx ⊢; exact .inr hx)⟩
      have := hk e he e.kind (by simp)
      exact ⟨this.1, this.2, hfit.2 e he⟩
    rw [← hrn] at hq
    have hlen : (encR rn).length < 2 ^ 40 := by
      have h4 := encL_len hok.2.2.2.2.2
      have h5 := hok.2.2.2.2.1
      have ht := hf tag (by simp)
      have h1 := enc_len ht.1 ht.2
      have h2 := enc_len (n := (evs.length : Int)) (by omega) (by omega)
      subst hrn
      unfold encR
      simp only [List.length_append] at h4 h5 ⊢
      omega
    refine DecodeRun_ok hq hmd hlen fun tag' q' m' d' c2' c3' c4' c5' es w1 u1 hd hq' => ?_
    rw [drun_enc hok] at hd ⊢
    refine New_rule fun r' w2 hr' u2 b2 => ?_
    simp only [addN, Nat.zero_add]
    refine St6n b2 (by rfl) (by simp [Value.oneCell']) fun w3 u3 b3 => ?_
    have U3 : Upd [] w1 w3 := u2.fresh u3 (by intro k hk; simp at hk; omega)
    refine ifT (by simp) ?_
    have hb3 := hb.upd (u1.after U3) (by simp)
    simp only [NN_some, addN, drw_cell, drw_heap, exS, exI, exB, exP, exM, exStr, exV, a0, a1, a2, a3, a4, a5, a6, a7, a8, a9, a10, a11, a12, a13, maxI_eq, Nat.zero_add, Nat.add_zero, Nat.mul_one, Option.isNone_some, Option.isNone_none, b3.cell, hb3.cell]
    have hel : es.length < 2 ^ 40 := by
      have : rn = ⟨tag', es, [c2', c3', c4', c5']⟩ := hd
      rw [this] at hok
      have := hok.2.2.1
      simp only at this; omega
    refine SameRun_ok (hq'.keep U3) (hp.keep (u1.after U3)) hel fun w4 u4 => ?_
    refine ⟨?_, u0.after ((u1.after U3).after u4)⟩
    rw [← hd, ← hrn]; simp
  · obtain ⟨rfl, rfl⟩ := hno hfit
    exact ifT rfl ⟨by decide, u0⟩

theorem runs_loop {r : Nat} {Kx : Int → World → Prop} {Kr : Bool → World → Prop} (hp : Rd w 2 p n (evs.flatMap evCells)) (hsz : ∀ e ∈ evs, e.text.length ≤ 2 ^ 50)
    (hb : Blk w r #[.int .i64 tag, .slice p n c, .int .i64 x2, .int .i64 x3, .int .i64 x4, .int .i64 x5]) (hr : C_law27_lives w Kr)
    (hx : ∀ z : Int, (evs.length ≤ 200 → z = ((evs.flatMap (·.text)).length : Int) ∧ (evs.flatMap (·.text)).length ≤ 200000) → Kx z w) : F_law27_ScriptRuns_L1 ⟨r, 0, none⟩ ⟨0, 0⟩ w Kx Kr := by
  obtain rfl : n = evs.length := by have := hp.1; rw [flat_len evCells_len] at this; omega
  unfold F_law27_ScriptRuns_L1
  refine ⟨fun s v => v = w ∧ ∃ i : Nat, s.i = i ∧ i ≤ evs.length ∧ s.n = (((evs.take i).flatMap (·.text)).length : Int) ∧ ((evs.take i).flatMap (·.text)).length ≤ 200000, fun s _ => (evs.length - s.i).toNat, ⟨rfl, 0, rfl, by omega, by simp, by simp⟩, ?_⟩
  rintro ⟨sn, si⟩ v ⟨rfl, i, hi0, hi, hn0, hs⟩
  dsimp only at hi0 hn0
  subst hi0 hn0
  unfold B_law27_ScriptRuns_L1
  dsimp only
  simp only [NN_some, addN, drw_cell, drw_heap, exS, exI, exB, exP, exM, exStr, exV, a0, a1, a2, a3, a4, a5, a6, a7, a8, a9, a10, a11, a12, a13, maxI_eq, Nat.zero_add, Nat.add_zero, Nat.mul_one, Option.isNone_some, Option.isNone_none, hb.cell]
  refine ifC (fun g => ifC (fun g2 => ?_) fun g2 => ?_) (fun g => ?_)
  · simp at g g2
    obtain ⟨x, hx', hcx⟩ := hp.elem g
    have hb2 := hcx 1 (by omega)
    rw [flat_at evCells_len g (by omega)] at hb2
    have hb' : v.cell? ((x.add (i * 2)).add 1) = some (.string ⟨evs[i].text.toArray⟩) := by rw [addA]; exact hb2
    have hle := hsz _ (List.getElem_mem g)
    simp only [NN_some, addN, drw_cell, drw_heap, exS, exI, exB, exP, exM, exStr, exV, a0, a1, a2, a3, a4, a5, a6, a7, a8, a9, a10, a11, a12, a13, maxI_eq, Nat.zero_add, Nat.add_zero, Nat.mul_one, Option.isNone_some, Option.isNone_none, Int.toNat_natCast, hx', hb', sizeL]
    refine ⟨by omega, by omega, ?_⟩
    have htk : ((evs.take (i + 1)).flatMap (·.text)).length = ((evs.take i).flatMap (·.text)).length + evs[i].text.length := by
      rw [List.take_add_one, List.getElem?_eq_getElem g]
      simp only [List.flatMap_append, Option.toList_some, List.flatMap_cons, List.flatMap_nil, List.append_nil, List.length_append]
    have ea : IntKind.i64.wrap ((((evs.take i).flatMap (·.text)).length : Int) + (evs[i].text.length : Int)) = (((evs.take i).flatMap (·.text)).length : Int) + (evs[i].text.length : Int) := i64id (by omega) (by omega)
    have eb : IntKind.i64.wrap ((i : Int) + 1) = (i : Int) + 1 := i64id (by omega) (by omega)
    simp only [ea, eb]
    refine ifC (fun g3 => hr) (fun g3 => ?_)
    have g3 := of_decide_eq_false g3
    exact ⟨⟨trivial, i + 1, by simp, by omega, by rw [htk]; simp, by rw [htk]; omega⟩, by omega⟩
  · simp at g g2
    exact hx _ (fun h => by omega)
  · simp at g
    obtain rfl : i = evs.length := by omega
    rw [List.take_length] at hs ⊢
    exact hx _ (fun _ => ⟨rfl, hs⟩)

theorem ScriptRuns_law (h : Tab w) (hp : Rd w 2 p n (evs.flatMap evCells)) (hsz : ∀ e ∈ evs, e.text.length ≤ 2 ^ 50) (hf : Fits [tag, x2, x3, x4, x5]) (hk : ∀ e ∈ evs, Fits [e.kind]) :
    C_law27_ScriptRuns tag p n c x2 x3 x4 x5 w fun r w' => r = true ∧ Upd [] w w' := by
  have hn : n = evs.length := by have := hp.1; rw [flat_len evCells_len] at this; omega
  apply C_law27_ScriptRuns.of
  unfold F_law27_ScriptRuns
  refine New_rule fun r w1 hr u1 b1 => ?_
  have hp1 := hp.keep u1
  have lv : C_law27_lives w1 fun t w' => t = true ∧ Upd [] w w' := lives_ok (h.keep u1) fun w' u' => ⟨rfl, u1.after u'⟩
  refine runs_loop hp1 hsz b1 lv fun z hz => ?_
  simp only [NN_some, addN, drw_cell, drw_heap, exS, exI, exB, exP, exM, exStr, exV, a0, a1, a2, a3, a4, a5, a6, a7, a8, a9, a10, a11, a12, a13, maxI_eq, Nat.zero_add, Nat.add_zero, Nat.mul_one, Option.isNone_some, Option.isNone_none, b1.cell]
  refine ifC (fun _ => lv) fun g => ?_
  simp at g
  obtain ⟨rfl, htot⟩ := hz (by omega)
  have hE := flat_encE_len' hk (by omega)
  refine EncodeRun_both hp1 (by omega) (by omega) hf hk fun q1 m1 d1 e1 w2 u2 hy1 hno1 => ?_
  have b2 := b1.upd u2 (by simp)
  simp only [NN_some, addN, drw_cell, drw_heap, exS, exI, exB, exP, exM, exStr, exV, a0, a1, a2, a3, a4, a5, a6, a7, a8, a9, a10, a11, a12, a13, maxI_eq, Nat.zero_add, Nat.add_zero, Nat.mul_one, Option.isNone_some, Option.isNone_none, b2.cell]
  refine REncodeRun_ok (hp1.keep u2) (by omega) (by omega) hf hk fun q2 m2 d2 e2 w3 u3 hy2 hno2 => ?_
  have ud := drw_upd w3
  refine lives_ok ((((h.keep u1).keep u2).keep u3).keep ud) fun w4 u4 => ?_
  refine ifF rfl ?_
  have U4 : Upd [] w1 w4 := (u2.after u3).after (ud.after u4)
  have b4 := b1.upd U4 (by simp)
  have hp4 := hp1.keep U4
  obtain ⟨l, hl1, hl2, hye⟩ : ∃ l, Rd w4 1 q1 m1 (bc l) ∧ Rd w4 1 q2 m2 (bc l) ∧ ((Run.fits evs → e1 = 0 ∧ e2 = true ∧ m1 ≤ d1 ∧ l = encR ⟨tag, evs, [x2, x3, x4, x5]⟩) ∧ (¬ Run.fits evs → e1 = 3 ∧ e2 = false)) := by
    by_cases hfit : Run.fits evs
    · obtain ⟨h1, B1⟩ := hy1 hfit
      obtain ⟨h2, B2⟩ := hy2 hfit
      exact ⟨_, ((B1.rd.keep u3).keep ud).keep u4, (B2.rd.keep ud).keep u4, fun _ => ⟨h1, h2, B1.nc, rfl⟩, fun h => absurd hfit h⟩
    · obtain ⟨h1, rfl, rfl, rfl⟩ := hno1 hfit
      obtain ⟨h2, rfl, rfl, rfl⟩ := hno2 hfit
      exact ⟨[], Rd_none _, Rd_none _, fun h => absurd h hfit, fun _ => ⟨h1, h2⟩⟩
  have hee : ((e1 == (0 : Int)) == e2) = true := by
    by_cases hfit : Run.fits evs
    · obtain ⟨h1, h2, _⟩ := hye.1 hfit; rw [h1, h2]; rfl
    · obtain ⟨h1, h2⟩ := hye.2 hfit; rw [h1, h2]; rfl
  have k4 : ∀ {v : World}, Upd [] w4 v → F_law27_ScriptRuns_k4 (fun r w' => r = true ∧ Upd [] w w') r q1 m1 d1 e1 e2 v := fun {v} uv =>
    runs_k4 (hp4.keep uv) (by omega) (by omega) hf hk ((u1.after U4).after uv) (b4.upd uv (by simp)) (fun hfit => by obtain ⟨a, b, cc, e⟩ := hye.1 hfit; subst e; exact ⟨a, b, cc, hl1.keep uv⟩) hye.2
  refine ⟨Str_rule (e := 5) rfl rfl rfl hl1 ⟨_, rfl, Str_rule (e := 5) rfl rfl rfl hl2 ⟨_, rfl, ifF (by simp) (ifF (by rw [hee]; rfl) ?_)⟩⟩, Str_rule (e := 5) rfl rfl rfl hl2 ⟨_, rfl, Str_rule (e := 5) rfl rfl rfl hl1 ⟨_, rfl, ifF (by simp) (ifF (by rw [hee]; rfl) ?_)⟩⟩⟩
  all_goals
    simp only [NN_some, addN, drw_cell, drw_heap, exS, exI, exB, exP, exM, exStr, exV, a0, a1, a2, a3, a4, a5, a6, a7, a8, a9, a10, a11, a12, a13, maxI_eq, Nat.zero_add, Nat.add_zero, Nat.mul_one, Option.isNone_some, Option.isNone_none, b4.cell]
    refine ifC (fun g2 => ?_) (fun g2 => ?_)
    · have g2 := of_decide_eq_true g2
      have hel : evs.length < 2 ^ 38 := by omega
      refine Listing_ok ((h.keep u1).keep U4) hp4 (by omega) hel fun w5 u5 => ?_
      have b5 := b4.upd u5 (by simp)
      refine ⟨fun i hi => ?_, ?_⟩
      · rw [b5.cell]
      refine RListing_ok (hp4.keep u5) (by omega) hel fun w6 u6 => ?_
      unfold F_law27_ScriptRuns_k2
      exact ifF (by simp) (k4 (u5.after u6))
    · exact k4 (Upd.refl _ _)
end

end Go.Proofs.YtggbmakfifllnaaDoor
