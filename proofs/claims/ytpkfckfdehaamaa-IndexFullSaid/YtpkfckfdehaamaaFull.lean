/- There are at most so many entries: the law. -/
import Derived.Test.YtpkfckfdehaamaaLives
namespace Go.Proofs.Ytpkfckfdehaamaa
open Go Go.D Go.Proofs
set_option linter.unusedSimpArgs false
set_option linter.unusedVariables false
set_option maxRecDepth 8000

theorem IndexFull_law {w : World} {n : Int} {k : Key} : C_law18_IndexFull n k.1 k.2.1 k.2.2 w fun r w' => r = true ∧ Upd [] w w' := by
  apply C_law18_IndexFull.of
  unfold F_law18_IndexFull F_law18_IndexFull_k1
  refine New_rule fun r w1 hr u1 hb1 => ?_
  have out : C_law18_lives w1 fun t22 w1_2 => t22 = true ∧ Upd [] w w1_2 := lives_ok fun w2 u2 => ⟨rfl, u1.after u2⟩
  refine ifC (fun _ => out) fun hn0 => ifC (fun _ => out) fun hn1 => ?_
  simp at hn0 hn1
  have main : F_law18_IndexFull_k5 n (fun r w' => r = true ∧ Upd [] w w') r w1 := by
    unfold F_law18_IndexFull_k5 F_law18_IndexFull_L1 F_law18_IndexFull_k3 F_law18_IndexFull_k4
    refine New_ok fun w2 d h2 ok2 hE2 u2 n2 => lives_ok fun w3 u3 => ifF rfl (ifF rfl ?_)
    have h3 := h2.keep u3
    have hb3 := (hb1.upd u2 (by simp)).upd u3 (by simp)
    have hrF : r ∉ d.FT := fun hx => by have := n2 r hx; have := hb1.lt; omega
    have U3 := (u1.after u2).after u3
    have N2 : Since d.FT w := fun x hx => by have := n2 x hx; have := u1.size; omega
    refine ⟨fun s v => 0 ≤ s.i ∧ s.i ≤ n ∧ ∃ d', d'.a = d.a ∧ Tb v d' ∧ TbOk d' s.i ∧ d'.E.map (·.id) = (List.range (min s.i.toNat 4096)).map (fun x : Nat => (x : Int)) ∧ Blk v r #[.int .i64 k.1, .string k.2.1, .int .i64 k.2.2] ∧ r ∉ d'.FT ∧ Upd [] w v ∧ Since d'.FT w, fun s _ => (n - s.i).toNat, ⟨by simp, by simpa using hn0, d, rfl, h3, ok2, by rw [hE2]; rfl, hb3, hrF, U3, N2⟩, ?_⟩
    rintro ⟨i⟩ v ⟨hi0, hi1, d', ha, ht, ok, hids, hbv, hrF', U, N⟩
    dsimp only at hi0 hi1 hids
    replace ok : TbOk d' i := ok
    have hlen : d'.E.length = min i.toNat 4096 := by
      have := congrArg List.length hids
      simpa using this
    unfold B_law18_IndexFull_L1 F_law18_IndexFull_k2
    dsimp only
    rw [← ha]
    have hnot : ∀ x : Int, ((min i.toNat 4096 : Nat) : Int) ≤ x → x ∉ d'.E.map (·.id) := fun x hx hm => by
      rw [hids] at hm
      obtain ⟨y, hy, rfl⟩ := List.mem_map.1 hm
      rw [List.mem_range] at hy
      omega
    simp only [NN_some, addN, drw_cell, drw_heap, exS, exI, exB, exP, exM, exStr, exV, a0, a1, a2, a3, a4, a5, a6, a7, a8, a9, a10, a11, a12, a13, maxI_eq, Nat.zero_add, Nat.add_zero, Nat.mul_one, Option.isNone_some, Option.isNone_none, hbv.cell]
    refine ifC (fun hc => ifC (fun hc2 => ?_) (fun hc2 => ?_)) (fun hc => ?_)
    · -- full
      simp at hc hc2
      refine Add_ask (k := k) (front := false) ht ok (by omega) (fun hx => absurd hx (hnot i (by omega))) (fun _ _ w5 h5 u5 => ?_) (fun _ hx => by omega)
      refine ifF rfl ?_
      rw [i64id (by omega) (by omega)]
      have ok5 : TbOk d' (i + 1) := ⟨ok.rising, ok.ids, ok.norm, ok.lo, ok.hi, by have := ok.b0; omega, ok.b1, by have := ok.b2; omega, ok.len⟩
      exact ⟨⟨by omega, by omega, d', rfl, h5, ok5, by rw [hids, show min (i + 1).toNat 4096 = min i.toNat 4096 by omega], hbv.upd u5 (by simp), hrF', U.after u5, N⟩, by omega⟩
    · simp at hc hc2
      refine Add_ask (k := k) (front := false) ht ok (by omega) (fun hx => absurd hx (hnot i (by omega))) (fun _ hx => by omega) (fun _ _ w5 d5 h5 ok5 ha5 hE5 u5 s5 => ?_)
      refine ifF rfl ?_
      rw [i64id (by omega) (by omega)]
      refine ⟨⟨by omega, by omega, d5, ha5, h5, ok5, ?_, hbv.upd u5 hrF', ?_, U.fresh u5 N, N.step s5 U.size⟩, by omega⟩
      · rw [hE5]
        simp only [insE, Bool.false_eq_true, if_false, List.map_append, List.map_cons, List.map_nil]
        rw [hids, show min (i + 1).toNat 4096 = min i.toNat 4096 + 1 by omega, List.range_succ, List.map_append]
        congr 1
        simp; omega
      · intro hx
        rcases s5 r hx with h | h
        · exact hrF' h
        · have := hbv.lt; omega
    · simp at hc
      obtain rfl : i = n := by omega
      by_cases h4 : i ≤ 4096
      · refine ifT (by simpa using h4) (Len_ok ht (ifT ?_ ⟨trivial, U⟩))
        rw [hlen]; simp; omega
      · refine ifF (by simpa using h4) (ifT (by simp; omega) (Len_ok ht (ifT ?_ ?_)))
        · rw [hlen]; simp; omega
        · have h5m : (5 : Int) ∈ d'.E.map (·.id) := by
            rw [hids]
            exact List.mem_map.2 ⟨5, by rw [List.mem_range]; omega, rfl⟩
          obtain ⟨e, he, he5⟩ := List.mem_map.1 h5m
          have hdr := @Drop_ok v d' i e
          rw [he5] at hdr
          refine hdr ht ok he fun w5 d5 h5 ok5 ha5 hE5 u5 s5 => ifT rfl ?_
          have hb5 := hbv.upd u5 hrF'
          have U5 := U.fresh u5 N
          have N5 := N.step s5 U.size
          simp only [NN_some, addN, drw_cell, drw_heap, exS, exI, exB, exP, exM, exStr, exV, a0, a1, a2, a3, a4, a5, a6, a7, a8, a9, a10, a11, a12, a13, maxI_eq, Nat.zero_add, Nat.add_zero, Nat.mul_one, Option.isNone_some, Option.isNone_none, hb5.cell]
          rw [← ha5]
          have hl5 : d5.E.length < 4096 := by
            rw [hE5]
            unfold outE
            have : (d'.E.filter fun e => !decide (e.id = 5)).length < d'.E.length := by
              rw [List.length_filter_lt_length_iff_exists]
              exact ⟨e, he, by simp [he5]⟩
            omega
          have hn5 : (9999 : Int) ∉ d5.E.map (·.id) := fun hx => by
            rw [hE5] at hx
            obtain ⟨x, hx, hx9⟩ := List.mem_map.1 hx
            exact hnot 9999 (by omega) (List.mem_map.2 ⟨x, (List.mem_filter.1 hx).1, hx9⟩)
          refine Add_ask (k := k) (front := true) h5 ok5 (by omega) (fun hx => absurd hx hn5) (fun _ hx => by omega) (fun _ _ w6 d6 h6 ok6 ha6 hE6 u6 s6 => ⟨by simp, U5.fresh u6 N5⟩)
  refine ifC (fun hc => ifC (fun hc2 => out) (fun hc2 => main)) (fun hc => main)

end Go.Proofs.Ytpkfckfdehaamaa
