/- What must come of every program comes. -/
import Derived.Test.YtcgnligpjfhjlaaPool6
namespace Go.Proofs.Ytcgnligpjfhjlaa
open Go Go.D Go.Proofs
set_option linter.unusedSimpArgs false
set_option linter.unusedVariables false
set_option maxRecDepth 8000

/-- A pool of one segment. -/
structure One (w : World) (d : PlD) (top lim : Int) (rs : List Run2) : Prop where
  pl : Pl w d
  ok : PlOk d
  top : d.top = top
  lim : d.limit = lim
  L : ∃ sl, d.L = [⟨0, sl, rs⟩]

section
variable {w : World} {d : PlD} {top lim : Int} {rs : List Run2}

theorem One.keep {w' : World} (o : One w d top lim rs) (u : Upd [] w w') : One w' d top lim rs := ⟨o.pl.keep u, o.ok, o.top, o.lim, o.L⟩

theorem One.len (o : One w d top lim rs) : d.L.length = 1 := by
  obtain ⟨sl, h⟩ := o.L
  rw [h]; rfl

theorem One.seg (o : One w d top lim rs) : (d.L[0]'(by rw [o.len]; omega)).start = 0 ∧ (d.L[0]'(by rw [o.len]; omega)).runs = rs := by
  obtain ⟨sl, h⟩ := o.L
  have : d.L[0]? = some ⟨0, sl, rs⟩ := by rw [h]; rfl
  rw [List.getElem?_eq_getElem (by rw [o.len]; omega)] at this
  rw [Option.some.inj this]; exact ⟨rfl, rfl⟩

theorem One.kin {w' : World} {d' : PlD} {rs' : List Run2} (o : One w d top lim rs) (h' : Pl w' d') (k : Kin d d' 0 (d.L[0]'(by rw [o.len]; omega)).start rs') (hr : RunsOk 0 top rs') : One w' d' top lim rs' := by
  have hl := o.len
  have hs := o.seg
  have he : endOf d.L d.top 0 = top := by unfold endOf; rw [List.getElem?_eq_none (by omega)]; exact o.top
  refine ⟨h', o.ok.kin (by omega) k (by rw [hs.1, he]; exact hr), by rw [k.top]; exact o.top, by rw [k.limit]; exact o.lim, ?_⟩
  obtain ⟨sl, h1⟩ := o.L
  obtain ⟨sl', h2⟩ := k.L
  refine ⟨sl', ?_⟩
  rw [h2, hs.1, h1]; rfl

theorem One.free (o : One w d top lim rs) (k : Int) : freeP d k ↔ isFree rs k := by
  obtain ⟨sl, h1⟩ := o.L
  unfold freeP
  rw [h1]; simp

theorem One.left (o : One w d top lim rs) : leftP d = lim - top + sumR rs := by
  obtain ⟨sl, h1⟩ := o.L
  unfold leftP
  rw [h1, o.top, o.lim]; simp

theorem PlOk.grow {n : Int} (ok : PlOk d) (h0 : 0 ≤ n) (h1 : d.top + n ≤ d.limit) : PlOk { d with top := d.top + n } := by
  refine ⟨ok.ne, ok.len, ok.first, ok.mono, fun x hx => ?_, h1, ok.lim, fun i hi => ?_⟩
  · have := ok.le x hx
    show x.start ≤ d.top + n
    omega
  · show RunsOk d.L[i].start (endOf d.L (d.top + n) i) d.L[i].runs
    refine (ok.ok i hi).wide (Int.le_refl _) ?_
    unfold endOf
    split
    · exact Int.le_refl _
    · omega

theorem One.take_top {n : Int} {K : Int → Int → World → Prop} (o : One w d top lim rs) (hn : 1 ≤ n ∧ n ≤ lim - top) (hf : fits rs n = none)
    (hK : ∀ w' d', One w' d' (top + n) lim rs → d'.a = d.a → Upd d.FT w w' → Sub d'.FT d.FT w → K top 0 w') : C_pool_Pool_Take d.a n w K := by
  have hs := o.seg
  have ht := o.top
  have hl := o.lim
  have := o.ok.lim
  have := o.ok.top0
  refine Take_ok o.pl o.ok (by omega) (s := 0) (by rw [o.len]; omega) (by rw [o.len]) (fun h => by omega) (fun _ i hi => ?_) (fun _ _ h => by omega) fun _ _ _ w' h' u' => ?_
  · rw [hs.2, hf] at hi; cases hi
  · have := hK w' _ ⟨h', o.ok.grow (n := n) (by omega) (by omega), by rw [← ht], hl, o.L⟩ rfl u' (fun x hx => .inl hx)
    rw [ht]; exact this

theorem One.take_hit {n : Int} {i : Nat} {r : Run2} {K : Int → Int → World → Prop} (o : One w d top lim rs) (hn : 1 ≤ n ∧ n ≤ 2 ^ 40) (hf : fits rs n = some i) (hr : rs[i]? = some r)
    (hK : ∀ w' d', One w' d' top lim (takeL i n rs) → d'.a = d.a → Upd d.FT w w' → Sub d'.FT d.FT w → K r.1 0 w') : C_pool_Pool_Take d.a n w K := by
  have hs := o.seg
  have hl := o.len
  have hrok := o.ok.ok 0 (by omega)
  have he : endOf d.L d.top 0 = top := by unfold endOf; rw [List.getElem?_eq_none (by omega)]; exact o.top
  rw [hs.1, hs.2, he] at hrok
  obtain ⟨hi, hri⟩ := List.getElem?_eq_some_iff.1 hr
  refine Take_ok o.pl o.ok (by omega) (s := 0) (by omega) (by rw [hl]) (fun h => by omega) (fun _ j hj hjl w' d' h' k' u' s' => ?_) (fun _ h => by rw [hs.2, hf] at h; cases h) fun _ h => by rw [hs.2, hf] at h; cases h
  rw [hs.2, hf] at hj
  obtain rfl := Option.some.inj hj
  have e : d.L[0].runs[i] = r := by
    have : d.L[0].runs[i]? = rs[i]? := by rw [hs.2]
    rw [List.getElem?_eq_getElem hjl, hr] at this
    exact Option.some.inj this
  rw [e]
  obtain ⟨_, hfit⟩ := fits_some hf
  rw [hs.2] at k'
  exact hK w' d' (o.kin h' k' (takeL_ok hrok hi hn.1 hfit).1) k'.a u' s'

theorem One.give {t m : Int} {K : Int → World → Prop} (o : One w d top lim []) (h0 : 0 ≤ t) (hm : 1 ≤ m) (h1 : t + m ≤ top)
    (hK : ∀ w' d', One w' d' top lim [(t, m)] → d'.a = d.a → Upd d.FT w w' → Sub d'.FT d.FT w → K 0 w') : C_pool_Pool_Give d.a t m w K := by
  have hs := o.seg
  have hl := o.len
  have ht := o.top
  have := o.ok.top
  have := o.ok.lim
  have he : endOf d.L d.top 0 = top := by unfold endOf; rw [List.getElem?_eq_none (by omega)]; exact ht
  have hmay : mayGive d t m 0 := ⟨hm, by omega, by rw [hs.1]; exact h0, by rw [he]; exact h1, fun r hr => by rw [hs.2] at hr; cases hr⟩
  refine Give_ok o.pl o.ok (by omega) (fun h => absurd hmay (h 0)) fun s hg hs' i w' d' hi hlt hge h' k' u' s' => ?_
  obtain rfl : s = 0 := by omega
  have hi0 : i = 0 := by rw [hs.2] at hi; simpa using hi
  subst hi0
  rw [hs.2] at k'
  have e : giveL 0 (t, m) [] = [(t, m)] := by simp [giveL, joinL]
  rw [e] at k'
  refine hK w' d' (o.kin h' k' ⟨by simp, fun r hr => ?_⟩) k'.a u' s'
  simp at hr; subst hr
  exact ⟨h0, hm, h1⟩

end

theorem runEq {a b : Run2} {K : Bool → Prop} (h : K (decide (a = b))) : AggEq Try.prog 58 (.agg #[.int .i64 a.1, .int .i64 a.2]) (.agg #[.int .i64 b.1, .int .i64 b.2]) K := by
  refine AggEq_ints [(.i64, a.1), (.i64, a.2)] [(.i64, b.1), (.i64, b.2)] (by kernel_rfl) (by kernel_rfl) (by kernel_rfl) rfl rfl rfl ?_
  have e : decide ([(IntKind.i64, a.1), (.i64, a.2)].map (·.2) = [(IntKind.i64, b.1), (.i64, b.2)].map (·.2)) = decide (a = b) := by
    congr 1
    simp [Prod.ext_iff]
  rw [e]; exact h

theorem lives_ok {w : World} {K : Bool → World → Prop} (hK : ∀ w', Upd [] w w' → K true w') : C_law03_lives w K := by
  apply C_law03_lives.of
  unfold F_law03_lives F_law03_lives_k1
  refine New_ok (by omega) (by omega) fun w1 d1 h1 ok1 et1 el1 hL1 u1 n1 => ifF rfl (ifF rfl ?_)
  have o1 : One w1 d1 0 9 [] := ⟨h1, ok1, et1, el1, hL1⟩
  refine o1.take_top (by omega) (by rfl) fun w2 d2 o2 a2 u2 s2 => ?_
  rw [← a2]
  refine o2.give (by omega) (by omega) (by omega) fun w3 d3 o3 a3 u3 s3 => ?_
  rw [← a3]
  refine o3.take_hit (i := 0) (r := (0, 3)) (by omega) (by decide) (by rfl) fun w4 d4 o4 a4 u4 s4 => ?_
  rw [← a4]
  have e4 : takeL 0 2 [((0 : Int), (3 : Int))] = [(2, 1)] := by decide
  rw [e4] at o4
  refine o4.take_top (by omega) (by decide) fun w5 d5 o5 a5 u5 s5 => ?_
  rw [← a5]
  have U2 : Upd [] w w2 := u1.fresh u2 n1
  have n2 := n1.step s2 u1.size
  have U3 := U2.fresh u3 n2
  have n3 := n2.step s3 U2.size
  have U4 := U3.fresh u4 n3
  have n4 := n3.step s4 U3.size
  have U5 := U4.fresh u5 n4
  have n5 := n4.step s5 U4.size
  have hl5 := o5.len
  refine Runs_ok o5.pl o5.ok (by omega) (by omega) fun p6 m6 c6 F6 w6 hs6 u6 n6 => ?_
  have hs6 : RowAt w6 p6 m6 c6 (d5.L[0]'(by omega)).runs F6 := hs6
  rw [o5.seg.2] at hs6
  have o6 := o5.keep u6
  have U6 := U5.after u6
  refine New_bad (by omega) ?_
  have hm6 := RowAt.len hs6
  obtain ⟨b, off, hp, c0, c1⟩ := RowAt.get hs6 (i := 0) (by simp)
  simp only [Nat.zero_mul, Nat.add_zero, List.getElem_cons_zero] at c0 c1
  simp only [NN_some, addN, Nat.zero_add, Nat.add_zero, Int.toNat_zero, Nat.zero_mul, hp, c0, c1, exI]
  refine ifT rfl (ifT rfl (ifT rfl (ifT rfl (ifT rfl (ifT rfl (ifT rfl (ifT (by simp at hm6; simp [hm6]) ⟨by omega, by simp at hm6; omega, ?_⟩)))))))
  refine runEq (a := (2, 1)) (b := (2, 1)) ?_
  refine ifT (by decide) ?_
  refine Free_ok o6.pl o6.ok fun b7 w7 hb7 u7 => ?_
  have hb7 : b7 = true := hb7.2 ⟨by omega, by rw [o6.top]; omega, (o6.free 2).2 ⟨(2, 1), by simp, by simp, by simp⟩⟩
  refine ifT hb7 ?_
  have o7 := o6.keep u7
  refine Free_ok o7.pl o7.ok fun b8 w8 hb8 u8 => ?_
  have hb8 : b8 = false := by
    cases b8 with
    | false => rfl
    | true =>
      obtain ⟨_, _, hf⟩ := hb8.1 rfl
      obtain ⟨r, hr, x, y⟩ := (o7.free 1).1 hf
      simp at hr; subst hr; simp at x
  refine ifT (by simp [hb8]) ?_
  have o8 := o7.keep u8
  refine Top_ok o8.pl o8.ok.ne (ifT (by rw [o8.top]; rfl) (Limit_ok o8.pl o8.ok.ne (ifT (by rw [o8.lim]; rfl) (Left_ok o8.pl o8.ok fun w9 u9 => ?_))))
  refine ifT (by rw [o8.left]; rfl) ?_
  have o9 := o8.keep u9
  have U9 := ((U6.after u7).after u8).after u9
  refine Open6 o9.pl o9.ok (fun h => by have := o9.len; omega) fun _ w10 d10 h10 g10 e10 u10 s10 => ?_
  refine ifT rfl ?_
  rw [← g10.a]
  have U10 := U9.fresh u10 n5
  have n10 := n5.step s10 U9.size
  obtain ⟨sl, hL5⟩ := o5.L
  have hL10 : d10.L = [⟨0, sl, [(2, 1)]⟩, ⟨5, (none, 0, 0), []⟩] := by rw [e10, hL5, o5.top]; rfl
  have ht10 : d10.top = 5 := by rw [g10.top]; exact o5.top
  have hl10 : d10.L.length = 2 := by rw [hL10]; rfl
  refine Segment_ok h10 g10.ok (by omega) (by omega) fun s w11 hs hs1 hs2 u11 => ?_
  have hs0 : s = 0 := by
    have h1 : d10.L[1]? = some ⟨5, (none, 0, 0), []⟩ := by rw [hL10]; rfl
    by_cases hs' : s = 1
    · subst hs'
      rw [List.getElem?_eq_getElem hs] at h1
      have := hs1 hs
      rw [Option.some.inj h1] at this
      simp at this
    · omega
  subst hs0
  refine ifT rfl ?_
  have h11 := h10.keep u11
  refine Starts_ok h11 g10.ok fun p12 m12 c12 F12 w12 hs12 u12 n12 => ?_
  have hm12 : m12 = 2 := by have := hs12.1; simp [hl10] at this; omega
  refine ifT (by rw [hm12]; rfl) ?_
  have h12 := h11.keep u12
  have U12 := (U10.after u11).after u12
  refine Close6 h12 g10.ok (fun h => by omega) fun s hs hs2 w13 d13 h13 g13 e13 u13 s13 => ifT rfl ?_
  rw [← g13.a]
  have U13 := U12.fresh u13 n10
  have n13 := n10.step s13 U12.size
  obtain ⟨sl', hL13⟩ := e13
  have hl13 : d13.L.length = 1 := by rw [hL13, List.length_set, List.length_take]; omega
  refine Close6 h13 g13.ok (fun h w14 h14 u14 => ifT rfl ?_) fun s hs => by omega
  have U14 := U13.after u14
  refine Back6 h14 g13.ok (s := 0) (by omega) (by omega) fun w15 d15 h15 ok15 a15 et15 _ _ _ u15 s15 => ifT rfl ?_
  rw [← a15]
  have U15 := U14.fresh u15 n13
  refine Top_ok h15 ok15.ne (ifT ?_ (hK w15 U15))
  rw [et15]
  have := g13.ok.first
  rw [this]; rfl

end Go.Proofs.Ytcgnligpjfhjlaa
