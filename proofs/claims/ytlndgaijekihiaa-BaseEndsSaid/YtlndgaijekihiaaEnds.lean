import Derived.Test.YtlndgaijekihiaaPs2
import Derived.Test.YtlndgaijekihiaaBs10
import Derived.Test.YtlndgaijekihiaaTm9
namespace Go.Proofs.Ytlndgaijekihiaa
open Go Go.D Go.Proofs
set_option linter.unusedSimpArgs false
set_option linter.unusedVariables false
set_option maxRecDepth 8000
def tI (n : Int) : Tm := .mk 2 n ⟨#[]⟩ []
def tP (t : Tm) : Tm := .mk 4 0 ⟨#[112]⟩ [t]
def kP : PKey := (⟨#[112]⟩, 1)
theorem tP_size (n : Int) : (tP (tI n)).size = 2 := rfl
theorem lives_ok {w : World} {K : Bool → World → Prop} (hK : ∀ w', Upd [] w w' → K true w') : C_law19_lives w K := by
 apply C_law19_lives.of
 unfold F_law19_lives
 refine BNew_ok (by omega) (by omega) fun w1 d1 h1 ok1 eS1 eP1 eg1 el1 u1 sF1 _ => ifF rfl (ifF rfl ?_)
 have low1 := h1.lowG
 refine fact_ok fun w2 q2 c2 G2 ra2 in2 s2 u2 => ?_
 refine BSlL_rule eS_35 [.agg #[.int .i64 25, .string ⟨#[]⟩, .int .i64 0, .int .i64 0, .int .i64 0]] (by rfl) (by simp [Value.cells]) (by rfl) (by omega) fun w3 hs3 u3 => ?_
 obtain ⟨ins, hins⟩ : ∃ ins : InsT, ins = (25, ⟨#[]⟩, 0, 0, 0) := ⟨_, rfl⟩
 have hs3' : SlAt w3 5 (some ⟨w2.heap.size, 0, none⟩) 1 1 ([ins].flatMap insC) [w2.heap.size] := by
  rw [hins]
  simpa [Value.cells, insC] using hs3
 have sz2 := u2.size
 have sz1 := u1.size
 have U3 := u2.after u3
 have h3 := h1.keep U3
 have d3 : Dis (G2 ++ [w2.heap.size]) d1.F := fun j hj hx => by
  have := low1 j hx
  rcases List.mem_append.1 hj with g | g
  ·have := s2 j g; omega
  ·simp at g; omega
 have i0 : ∀ k', idsP d1.PT k' = [] := fun k' => by rw [eP1]; rfl
 have n0 : findP d1.PT kP = none := by rw [eP1]; rfl
 refine Add_ok (h := tP (tI 1)) (gs := []) (code := [ins]) (F := G2 ++ [w2.heap.size]) h3 ok1 (by rw [eg1]; decide) (fun j hj => ?_) d3 (show (⟨#[112]⟩ : ByteArray).size < 2 ^ 63 by decide) (RdA.sub (fun k hk => by simp [hk]) _ (RdA.keep u3 ra2) : RdA w3 _ (tP (tI 1)).l q2 0) (by rw [tP_size]; omega) (fun i hi => absurd hi (by simp)) (by simp) (by simp)
  ⟨hs3'.rd, fun x hx _ => by cases hx; simp⟩ (by simp) (fun e w' hbad _ _ => ?_) fun w4 d4 ad4 h4 ok4 u4 sb4 _ => ?_
 ·rcases List.mem_append.1 hj with g | g
  ·have := in2 j g; have := u3.size; omega
  ·exact hs3'.inn j g
 ·exfalso
  rcases hbad with ⟨_, g⟩ | g | g
  ·exact g rfl
  ·rw [eS1, el1] at g; simp at g
  ·rw [i0] at g; simp at g
 obtain ⟨s0, hS4, a1, a2, a3, a4, a5, a6⟩ := ad4.S
 rw [eS1, List.nil_append] at hS4
 have eg4 : d4.gen = 1 := by rw [ad4.gen, eg1]; rfl
 have el4 : d4.limit = 3 := by rw [ad4.limit, el1]
 have W3 : Upd [] w w3 := u1.after U3
 have W4 : Upd [] w w4 := W3.fresh u4 sF1
 have low4 := h4.lowG
 rw [← ad4.a]
 refine fact_ok fun w5 q5 c5 G5 ra5 in5 s5 u5 => ?_
 have d5 : Dis G5 d4.F := fun j hj hx => by have := low4 j hx; have := s5 j hj; omega
 have i4 : idsP d4.PT kP = [0] := by
  have := ad4.ids kP
  rw [if_pos (show kP = ((tP (tI 1)).s, ((tP (tI 1)).l.length : Int)) from rfl), i0, eS1] at this
  exact this
 refine Add_ok (h := tP (tI 2)) (gs := []) (code := []) (F := G5) (h4.keep u5) ok4 (by rw [eg4]; decide) in5 d5 (show (⟨#[112]⟩ : ByteArray).size < 2 ^ 63 by decide) (show RdA w5 _ (tP (tI 2)).l q5 0 from ra5) (by rw [tP_size]; omega) (fun i hi => absurd hi (by simp)) (by simp) (by simp)
  ⟨⟨rfl, .inl rfl⟩, fun x hx _ => by cases hx⟩ (by simp) (fun e w' hbad _ _ => ?_) fun w6 d6 ad6 h6 ok6 u6 sb6 _ => ?_
 ·exfalso
  rcases hbad with ⟨_, g⟩ | g | g
  ·exact g rfl
  ·rw [hS4, el4] at g; simp at g
  ·rw [show ((tP (tI 2)).s, ((tP (tI 2)).l.length : Int)) = kP from rfl, i4] at g; simp at g
 obtain ⟨s1, hS6, b1, b2, b3, b4, b5, b6⟩ := ad6.S
 rw [hS4] at hS6
 have hS6 : d6.S = [s0, s1] := hS6
 have eg6 : d6.gen = 2 := by rw [ad6.gen, eg4]; rfl
 rw [eg4] at b5
 rw [eg1] at a5
 have sF4 : Since d4.F w := sF1.step sb4 W3.size
 have W6 : Upd [] w w6 := (W4.after u5).fresh u6 sF4
 have i6 : idsP d6.PT kP = [1, 0] := by
  have := ad6.ids kP
  rw [if_pos (show kP = ((tP (tI 2)).s, ((tP (tI 2)).l.length : Int)) from rfl), show ((tP (tI 2)).s, ((tP (tI 2)).l.length : Int)) = kP from rfl, i4, hS4] at this
  exact this
 have f4 : (findP d4.PT kP).isSome = true := (ad4.known kP).2 (.inl rfl)
 have k4 := ad4.keys
 rw [show ((tP (tI 1)).s, ((tP (tI 1)).l.length : Int)) = kP from rfl, n0, eP1] at k4
 have k6 := ad6.keys
 rw [show ((tP (tI 2)).s, ((tP (tI 2)).l.length : Int)) = kP from rfl, if_pos f4, k4] at k6
 have l6 : d6.PT.length = 1 := by have := congrArg List.length k6; simpa using this
 have kn6 : ∀ k', (findP d6.PT k').isSome = true ↔ k' = kP := fun k' => by
  have h1 := ad6.known k'
  have h2 := ad4.known k'
  rw [eP1] at h2
  rw [h1, h2]
  constructor
  ·rintro (g | g | g)
   ·exact g
   ·exact g
   ·cases g
  ·exact fun g => .inl g
 rw [← ad6.a, hS4, eS1]
 refine Kill_ok h6 (by rw [eg6]; decide) (fun w' _ _ hn _ => ?_) (fun s hs => (ok6.born s hs).2.2.1) (fun i hi hid hdead w7 h7 u7 => ?_) ok6.gen
 ·exact absurd ⟨0, rfl, by rw [hS6]; simp, by simp [hS6, a6]⟩ hn
 have hi0 : i = 0 := by have hid : ((([] : List Slt).length : Nat) : Int) = i := hid; simp at hid; omega
 subst hi0
 have ok7 := killed_ok ok6 hi
 obtain ⟨d7, hd7⟩ : ∃ d7, d7 = ({ d6 with gen := d6.gen + 1, S := d6.S.set 0 { d6.S[0] with dead := d6.gen + 1 } } : BsD) := ⟨_, rfl⟩
 rw [← hd7] at h7 ok7
 have e70 : d6.S[0] = s0 := by simp [hS6]
 have hS7 : d7.S = [{ s0 with dead := 3 }, s1] := by
  rw [hd7]
  show d6.S.set 0 { d6.S[0] with dead := d6.gen + 1 } = _
  rw [e70, eg6, hS6]; rfl
 have eg7 : d7.gen = 3 := by rw [hd7]; show d6.gen + 1 = 3; rw [eg6]; rfl
 have eP7 : d7.PT = d6.PT := by rw [hd7]
 have sF6 : Since d6.F w := sF4.step sb6 (by have := W4.size; have := u5.size; omega)
 have W7 : Upd [] w w7 := W6.fresh u7 sF6
 have l1 : ∀ g : Int, livesI d7.S g 1 = s1.lives g := fun g => by
  have := livesI_at (S := d7.S) (gen := g) (i := 1) (by rw [hS7]; simp)
  rw [show ((1 : Nat) : Int) = 1 from rfl] at this
  rw [this]; simp [hS7]
 have l0 : ∀ g : Int, livesI d7.S g 0 = Slt.lives { s0 with dead := 3 } g := fun g => by
  have := livesI_at (S := d7.S) (gen := g) (i := 0) (by rw [hS7]; simp)
  rw [show ((0 : Nat) : Int) = 0 from rfl] at this
  rw [this]; simp [hS7]
 have T2 : tells d7.S d7.PT kP 2 = [1, 0] := by
  unfold tells
  rw [eP7, i6, List.filter_cons_of_pos (by rw [l1]; unfold Slt.lives; rw [b5, b6]; rfl), List.filter_cons_of_pos (by rw [l0]; unfold Slt.lives; simp [a5])]
  rfl
 have T3 : tells d7.S d7.PT kP 3 = [1] := by
  unfold tells
  rw [eP7, i6, List.filter_cons_of_pos (by rw [l1]; unfold Slt.lives; rw [b5, b6]; rfl), List.filter_cons_of_neg (by rw [l0]; unfold Slt.lives; simp)]
  rfl
 have ea7 : d6.a = d7.a := by rw [hd7]; rfl
 have hg7 : d7.gen < 2 ^ 40 := by rw [eg7]; decide
 rw [ea7]
 refine BHead_ok (k := kP) h7 ok7 hg7 fun w8 u8 => ?_
 rw [T2]
 refine BNext_ok (k := kP) (gen := 2) (i := 0) (by rw [T2]; simp) (by simp [T2]) (h7.keep u8) ok7 hg7 fun w9 u9 => ?_
 rw [T2]
 have V9 := u8.after u9
 refine BNext_ok (k := kP) (gen := 3) (i := 0) (by rw [T3]; simp) (by simp [T3]) (h7.keep V9) ok7 hg7 fun w10 u10 => ?_
 rw [T3]
 have V10 := V9.after u10
 have hs1 : d7.S[1]? = some s1 := by rw [hS7]; rfl
 have hs0 : d7.S[0]? = some { s0 with dead := 3 } := by rw [hS7]; rfl
 refine Clause_s (i := 1) (s := s1) rfl hs1 (h7.keep V10) (by rw [b1, tP_size]; omega) (by rw [b2]; simp) (by rw [b2]; simp) fun w11 q11 c11 p11 c11' Y11 ra11 in11 sY11 u11 => ?_
 rw [b1] at ra11 ⊢
 rw [b2, b3]
 refine New_rule fun r w12 hr u12 b12 => ?_
 refine St6q b12 rfl (by simp [Value.oneCell']) fun w13 u13 b13 => ?_
 have sz11 := u11.size
 have V11 := V10.after u11
 have v11s := V11.size
 have V13 : Upd [] w7 w13 := (V11.after u12).fresh u13 (by intro k hk; simp at hk; omega)
 refine At_s (i := 0) (s := { s0 with dead := 3 }) (x := ins) (l := []) rfl hs0 a4 (h7.keep V13) fun w14 u14 => ?_
 refine New_rule fun r1 w15 hr1 u15 b15 => ?_
 refine St5q b15 rfl (by simp [Value.oneCell']) fun w16 u16 b16 => ?_
 have V14 := V13.after u14
 have v14s := V14.size
 have V16 : Upd [] w7 w16 := (V14.after u15).fresh u16 (by intro k hk; simp at hk; omega)
 refine BNew_no (ifT rfl (ifT rfl (ifT rfl (ifT rfl (ifT rfl ?_)))))
 have ud := drw_upd w16
 have V := V16.after ud
 refine Gen_ok (h7.keep V) (ifT (by rw [eg7]; rfl) (ifT rfl (ifT rfl (ifT rfl (ifT rfl (ifT rfl ?_))))))
 refine Lives_ok (h7.keep V) fun w17 u17 => ifT (by show livesI d7.S 2 0 = true; rw [l0]; unfold Slt.lives; simp [a5]) ?_
 have V17 := V.after u17
 refine Lives_ok (h7.keep V17) fun w18 u18 => ifT (by show (!livesI d7.S 3 0) = true; rw [l0]; unfold Slt.lives; simp) ?_
 have V18 := V17.after u18
 refine Known_ok (k := kP) (h7.keep V18) (ifT (by rw [eP7]; exact (kn6 kP).2 rfl) ?_)
 refine Known_ok (k := (⟨#[112]⟩, 2)) (h7.keep V18) (ifT (by
  have : (findP d7.PT (⟨#[112]⟩, 2)).isSome = false := by
   rcases e : (findP d7.PT (⟨#[112]⟩, 2)).isSome with _ | _
   ·rfl
   ·rw [eP7] at e
    have := (kn6 _).1 e
    cases this
  rw [this]; rfl) (ifT rfl ?_))
 have b13' : Blk w18 r _ := (((((((b13.upd u14 (by simp)).upd u15 (by simp)).upd u16 (by simp; have := b13.lt; have := u14.size; omega)).upd ud (by simp)).upd u17 (by simp)).upd u18 (by simp)))
 have b16' : Blk w18 r1 _ := ((b16.upd ud (by simp)).upd u17 (by simp)).upd u18 (by simp)
 refine ⟨_, b13'.cell 0, _, b13'.cell 1, _, b13'.cell 2, _, _, _, b13'.cell 3, fact_ok fun w19 q19 c19 G19 ra19 in19 s19 u19 => ⟨fun j hj => ?_, ?_⟩⟩
 ·have e1 := (b13'.upd u19 (by simp)).cell j
  have e2 := b13'.cell j
  simp only [NN_some, addN, drw_cell, drw_heap, exS, exI, exB, exP, exM, exStr, exV, a0, a1, a2, a3, a4, a5, a6, a7, a8, a9, a10, a11, a12, a13, maxI_eq, Nat.zero_add, Nat.add_zero, Nat.mul_one, Option.isNone_some, Option.isNone_none]
  rw [e1, e2]
 have nY : ∀ k ∈ Y11, k < w11.heap.size := in11
 have raY : RdA w18 Y11 (tP (tI 2)).l q11 0 := by
  have rr : r ∉ Y11 := fun hx => by have := nY r hx; omega
  have rr1 : r1 ∉ Y11 := fun hx => by have := nY r1 hx; have := u12.size; have := u13.size; have := u14.size; omega
  have a := RdA.keep u14 (RdA.upd' u13 (fun k hk hx => by simp at hx; subst hx; exact rr hk) (RdA.keep u12 ra11))
  have b := RdA.upd' u16 (fun k hk hx => by simp at hx; subst hx; exact rr1 hk) (RdA.keep u15 a)
  exact RdA.keep u18 (RdA.keep u17 (RdA.keep ud b))
 refine Exact_ok (tP (tI 2)) (RdA.keep u19 raY) (show RdA w19 G19 (tP (tI 2)).l q19 0 from ra19) (by rw [tP_size]; omega) fun w20 u20 => ifT rfl (ifT rfl ?_)
 have V20 := (V18.after u19).after u20
 have b20 := (b16'.upd u19 (by simp)).upd u20 (by simp)
 refine ⟨_, b20.cell 0, ifT (by rw [hins]; rfl) (Size_s (i := 0) rfl hs0 (h7.keep V20) (ifT (by show (((s0.code.length : Nat) : Int) == 1) = true; rw [a4]; rfl) ?_))⟩
 refine Preds_ok (h7.keep V20) ok7 hg7 (by rw [eP7, l6]; decide) fun w21 p21 c21 G21 E' hE _ _ u21 => ifT (by rw [hE.length_eq, List.length_map, eP7, l6]; rfl) ?_
 have V21 := V20.after u21
 refine Slots_ok (h7.keep V21) (by rw [hS7]; simp) fun w22 u22 => ifT (by rw [hS7]; rfl) ?_
 exact hK w22 (W7.after (V21.after u22))
theorem see_bools {P : Program} {w : World} {f : Nat} {t e : TypeId} {cs : List Value} (ht : P.underlying t = some (.slice e)) (he : P.underlying e = some .bool) (hsz : P.cellsOf e = 1) (h : Sees P w f t cs) :
  ∃ p n c, ∃ L : List Bool, cs = [.slice p n c] ∧ n = L.length ∧ Rd w 1 p n (L.map .bool) := by
 obtain ⟨p, n, c, cs', g, _, h1, h2, h3, h4, h5⟩ := see_slice ht hsz h
 obtain ⟨L, hL, hp⟩ := pick (p := fun i a => cs'[i]? = some (.bool a)) (n := n) (fun i hi => by
  obtain ⟨a, ha⟩ := see_bool he (h5 i hi)
  refine ⟨a, ?_⟩
  have : ((cs'.drop (i * 1)).take 1)[0]? = some (.bool a) := by rw [ha]; rfl
  rw [List.getElem?_take, if_pos (by omega), List.getElem?_drop] at this
  simpa using this)
 have e : cs' = L.map .bool := by
  apply List.ext_getElem?
  intro i
  have hl := h4.1
  by_cases hi : i < n
  ·rw [List.getElem?_map, List.getElem?_eq_getElem (show i < L.length by omega), (hp i (by omega))]; rfl
  ·rw [List.getElem?_eq_none (by omega), List.getElem?_eq_none (by simp; omega)]
 subst e
 exact ⟨p, n, c, L, h1, hL.symm, h4⟩
section
variable {w : World} {d : BsD}
theorem tells_all (ok : BsOk d) (h0 : ∀ s ∈ d.S, s.dead = 0) (k : PKey) : tells d.S d.PT k d.gen = idsP d.PT k := by
 unfold tells
 refine List.filter_eq_self.2 fun i hi => ?_
 rcases e : findP d.PT k with _ | t
 ·rw [idsP_none e] at hi; cases hi
 ·rw [idsP_some e] at hi
  obtain ⟨a, b, _⟩ := ok.ids _ (findP_mem e) i hi
  have hl : i.toNat < d.S.length := by omega
  have := livesI_at (S := d.S) (gen := d.gen) hl
  rw [show ((i.toNat : Nat) : Int) = i by omega] at this
  rw [this]
  unfold Slt.lives
  rw [h0 _ (List.getElem_mem hl)]
  have := (ok.born _ (List.getElem_mem hl)).2.1
  simp [this]
theorem BaseEnds_law {w : World} {p : Option Addr} {n c : Nat} {L : List Bool} (hl : Rd w 1 p n (L.map .bool)) (hn : n = L.length) : C_law19_BaseEnds p n c w fun r w' => r = true ∧ Upd [] w w' := by
 apply C_law19_BaseEnds.of
 unfold F_law19_BaseEnds F_law19_BaseEnds_k1
 refine BNew_ok (by omega) (by omega) fun w1 d1 h1 ok1 eS1 eP1 eg1 el1 u1 sF1 eZ1 => lives_ok fun w2 u2 => ifF rfl (ifF rfl (ifF rfl ?_))
 have U2 := u1.after u2
 refine ifC (fun _ => lives_ok fun w3 u3 => ⟨rfl, U2.after u3⟩) (fun g100 => ?_)
 have g100 := of_decide_eq_false g100
 have hi1 : idsP d1.PT kP = [] := by rw [eP1]; rfl
 unfold F_law19_BaseEnds_L1
 refine ⟨fun s z => ∃ (i : Nat) (d : BsD) (T : List Int) (G : List Nat), s.i = i ∧ i ≤ n ∧ Bs z d ∧ BsOk d ∧ d.a = d1.a ∧ d.limit = 1000 ∧ d.gen = i ∧ d.S.length = i ∧ (∀ s ∈ d.S, s.dead = 0) ∧ idsP d.PT kP = T ∧ T.length = i ∧ s.wantN = i ∧ SlAt z 1 s.wantP i s.wantC (T.map (.int .i64)) G ∧ Since G w ∧ Dis G d.F ∧ Since d.F w ∧ Dis d.Z G ∧ Upd [] w z,
  fun s _ => (n - s.i).toNat, ⟨0, d1, [], [], rfl, by omega, h1.keep u2, ok1, rfl, el1, eg1, by rw [eS1]; rfl, by rw [eS1]; simp, hi1, rfl, rfl, SlAt.nil _ _, (by intro k hk; cases hk), (by intro k hk; cases hk), sF1, (by rw [eZ1]; intro k hk; cases hk), U2⟩, ?_⟩
 rintro ⟨wp, wn, wc, si⟩ z ⟨i, d, T, G, e0, hi, h, ok, ea, el, eg, eS, hdead, hids, hT, e1, hs, sG, dG, sF, dZ, uz⟩
 dsimp only at e0 e1 hs
 subst e0
 have e1 := e1.symm
 subst e1
 unfold B_law19_BaseEnds_L1
 refine ifC (fun g => ?_) (fun g => ?_)
 ·have gi : i < n := by have := of_decide_eq_true g; dsimp only at this; omega
  have ud := drw_upd z
  obtain ⟨x, hx, hc⟩ := hl.at (i := i) (by omega)
  have hb : ∃ b : Bool, w.cell? (x.add i) = some (.bool b) := ⟨L[i]'(by omega), by rw [hc, List.getElem?_map, List.getElem?_eq_getElem (by omega)]; rfl⟩
  obtain ⟨b, hb⟩ := hb
  have cell : ∀ {z' : World}, Upd [] w z' → z'.cell? (x.add i) = some (.bool b) := fun u => u.cell hb (by simp)
  have cz : z.cell? (x.add i) = some (.bool b) := cell uz
  refine ⟨by show (0 : Int) ≤ (i : Int); omega, by show (i : Int) < _; omega, ?_⟩
  rw [hx]
  simp only [NN_some, addN, drw_cell, drw_heap, exS, exI, exB, exP, exM, exStr, exV, a0, a1, a2, a3, a4, a5, a6, a7, a8, a9, a10, a11, a12, a13, maxI_eq, Nat.zero_add, Nat.add_zero, Nat.mul_one, Option.isNone_some, Option.isNone_none, Int.toNat_natCast, Nat.mul_one, cz]
  have Ud := uz.after ud
  refine rVar_ok fun w5 u5 => ⟨cell (Ud.after u5), ?_⟩
  have low := h.lowG
  have zd := ud.size
  obtain ⟨t, ht⟩ : ∃ t : Tm, t = .mk 1 0 ⟨#[]⟩ [] := ⟨_, rfl⟩
  refine BSlL_rule eS_29 [.agg #[.int .i64 1, .int .i64 0, .string ⟨#[]⟩, .slice none 0 0]] (by rfl) (by simp [Value.cells]) (by rfl) (by omega) fun w6 hs6 u6 => ⟨cell ((Ud.after u5).after u6), ?_⟩
  refine comp1_row (t := t) (by rw [ht]; rfl) (by rw [ht]; show (⟨#[]⟩ : ByteArray).size < 2 ^ 63; decide) (by rw [ht]; exact (by simpa [Value.cells] using hs6 : SlAt w6 4 (some ⟨w5.heap.size, 0, none⟩) 1 1 [.int .i64 1, .int .i64 0, .string ⟨#[]⟩, .slice none 0 0] [w5.heap.size])) fun w7 q7 c7 G7 ra7 in7 s7 u7 => ⟨cell (((Ud.after u5).after u6).after u7), ?_⟩
  have V7 := (ud.after u5).after (u6.after u7)
  have V5 := (ud.after u5)
  have v5s := V5.size
  have sF7 : ∀ j ∈ G7 ++ [w5.heap.size], z.heap.size ≤ j := fun j hj => by
   rcases List.mem_append.1 hj with g | g
   ·have := s7 j g; have := u6.size; omega
   ·simp at g; omega
  have d7 : Dis (G7 ++ [w5.heap.size]) d.F := fun j hj hx => by have := sF7 j hj; have := low j hx; omega
  rw [← ea]
  have zsz : (tP t).size = 2 := by rw [ht]; rfl
  refine Add_ok (h := tP t) (gs := []) (code := []) (F := G7 ++ [w5.heap.size]) (h.keep V7) ok (by rw [eg]; omega) in7 d7 (show (⟨#[112]⟩ : ByteArray).size < 2 ^ 63 by decide) (show RdA w7 _ (tP t).l q7 0 from ra7) (by rw [zsz]; omega) (fun i hi => absurd hi (by simp)) (by simp) (by simp)
   ⟨⟨rfl, .inl rfl⟩, fun x hx _ => by cases hx⟩ (by simp) (fun e w' hbad _ _ => ?_) fun w8 d8 ad h8 ok8 u8 sb8 sZ8 => ?_
  ·exfalso
   rcases hbad with ⟨_, g⟩ | g | g
   ·exact g rfl
   ·rw [eS, el] at g; omega
   ·rw [show ((tP t).s, ((tP t).l.length : Int)) = kP from rfl, hids] at g; omega
  have U7 := uz.after V7
  have U8 : Upd [] w w8 := U7.fresh u8 sF
  obtain ⟨s8, eS8, _, _, _, _, _, e8⟩ := ad.S
  have ids8 : idsP d8.PT kP = insI b T i := by
   have := ad.ids kP
   rw [if_pos (show kP = ((tP t).s, ((tP t).l.length : Int)) from rfl), show ((tP t).s, ((tP t).l.length : Int)) = kP from rfl, hids, eS] at this
   exact this
  have dead8 : ∀ s ∈ d8.S, s.dead = 0 := fun s hs => by
   rw [eS8] at hs
   rcases List.mem_append.1 hs with g | g
   ·exact hdead s g
   ·simp at g; subst g; exact e8
  have zs := uz.size
  have v7s := V7.size
  have sF8 : Since d8.F w := sF.step sb8 U7.size
  have inG := hs.inn
  have hs8 := (hs.upd V7 (by intro k _ h; cases h)).upd u8 dG
  have low8 := h8.lowG
  have dG8 : Dis G d8.F := fun j hj hx => by
   rcases sb8 j hx with g | g
   ·exact dG j hj g
   ·have := inG j hj; omega
  refine ifF rfl (ifF (by rw [eS]; simp) ⟨by omega, by omega, b, cell U8, ifC (fun gb => ?_) (fun gb => ?_)⟩)
  ·refine BSlL_rule eS_47 [.int .i64 d.S.length] (by rfl) (by simp [Value.cells]) (by rfl) (by omega) fun w9 hs9 u9 => ?_
   have hs9' : SlAt w9 1 (some ⟨w8.heap.size, 0, none⟩) 1 1 [.int .i64 d.S.length] [w8.heap.size] := by simpa [Value.cells] using hs9
   refine App_rule (hE := eS_47) hs9' (hs8.upd u9 (by intro k _ h; cases h)) (fun v hv => by obtain ⟨q, _, rfl⟩ := List.mem_map.1 hv; rfl) (by omega) fun p10 c10 G10 w10 hs10 u10 g10 => ?_
   unfold F_law19_BaseEnds_k2
   dsimp only
   rw [i64id (by omega) (by omega)]
   have w8s := U8.size
   have w9s := u9.size
   have U10 : Upd [] w w10 := (U8.after u9).fresh u10 (by intro k hk; simp at hk; omega)
   have F8 : Dis d8.F [w8.heap.size] := fun k hk hx => by simp at hx; have := low8 k hk; omega
   have nZ : Dis d8.Z G10 := fun k hk hx => by
    rcases g10 k hx with g | g
    ·simp at g; have := h8.Zi k hk; omega
    ·have := h8.Zi k hk; omega
   have Z8 : Dis d8.Z [w8.heap.size] := fun k hk hx => by simp at hx; have := h8.Zi k hk; omega
   refine ⟨⟨i + 1, d8, d.S.length :: T, G10, by simp, by omega, (h8.keep u9).upd u10 F8 Z8, ok8, ad.a, ad.limit.trans el, by rw [ad.gen, eg]; simp, by rw [eS8, List.length_append, eS]; rfl, dead8, by rw [ids8, gb, eS]; rfl, by rw [List.length_cons, hT], by omega, ?_, fun k hk => ?_, fun k hk hx => ?_, sF8, nZ, U10⟩, by omega⟩
   ·have : SlAt w10 1 p10 (1 + i) c10 _ G10 := hs10
    rw [Nat.add_comm i 1]
    simpa using this
   ·rcases g10 k hk with g | g
    ·simp at g; omega
    ·omega
   ·rcases g10 k hk with g | g
    ·simp at g; have := low8 k hx; omega
    ·have := low8 k hx; omega
  ·refine BSlL_rule eS_47 [.int .i64 d.S.length] (by rfl) (by simp [Value.cells]) (by rfl) (by omega) fun w9 hs9 u9 => ?_
   have hs9' : SlAt w9 1 (some ⟨w8.heap.size, 0, none⟩) 1 1 [.int .i64 d.S.length] [w8.heap.size] := by simpa [Value.cells] using hs9
   refine App_rule (hE := eS_47) (hs8.upd u9 (by intro k _ h; cases h)) hs9' (by simp [Value.oneCell']) (by omega) fun p10 c10 G10 w10 hs10 u10 g10 => ?_
   unfold F_law19_BaseEnds_k2
   dsimp only
   rw [i64id (by omega) (by omega)]
   have w8s := U8.size
   have w9s := u9.size
   have U10 : Upd [] w w10 := (U8.after u9).fresh u10 sG
   have nZ : Dis d8.Z G := fun k hk hx => by
    rcases sZ8 k hk with g | g
    ·exact dZ k g hx
    ·have := inG k hx; omega
   have nZ' : Dis d8.Z G10 := fun k hk hx => by
    rcases g10 k hx with g | g
    ·exact nZ k hk g
    ·have := h8.Zi k hk; omega
   refine ⟨⟨i + 1, d8, T ++ [(d.S.length : Int)], G10, by simp, by omega, (h8.keep u9).upd u10 dG8.symm nZ, ok8, ad.a, ad.limit.trans el, by rw [ad.gen, eg]; simp, by rw [eS8, List.length_append, eS]; rfl, dead8, by rw [ids8, gb, eS]; rfl, by rw [List.length_append, hT]; rfl, by omega, ?_, fun k hk => ?_, fun k hk hx => ?_, sF8, nZ', U10⟩, by omega⟩
   ·have : SlAt w10 1 p10 (i + 1) c10 _ G10 := hs10
    rw [List.map_append]
    simpa using this
   ·rcases g10 k hk with g | g
    ·exact sG k g
    ·omega
   ·rcases g10 k hk with g | g
    ·exact dG8 k g hx
    ·have := low8 k hx; omega
 ·have gi : i = n := by have := of_decide_eq_false g; dsimp only at this; omega
  subst gi
  have hT2 := tells_all ok hdead kP
  rw [hids] at hT2
  rw [← ea]
  refine Gen_ok h ?_
  refine all_ok (k := kP) (gen := d.gen) h ok (by rw [eg]; omega) (by rw [hT2]; omega) fun w3 p3 c3 G3 hs3 _ u3 => ?_
  rw [hT2] at hs3 ⊢
  refine Ix.SameInts_ok (L := T) hs3.rd (by have := (hs.upd u3 (by intro k _ h; cases h)).rd; exact this) (by omega) fun w4 u4 => ifT rfl (Gen_ok ((h.keep u3).keep u4) ?_)
  exact ⟨by rw [eg]; simp, uz.after (u3.after u4)⟩
end
end Go.Proofs.Ytlndgaijekihiaa
