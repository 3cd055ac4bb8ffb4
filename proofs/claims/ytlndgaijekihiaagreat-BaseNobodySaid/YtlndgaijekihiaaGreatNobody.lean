/- What must come of every program. -/
import Derived.Test.YtlndgaijekihiaaGreatPs2
import Derived.Test.YtlndgaijekihiaaGreatBs10
import Derived.Test.YtlndgaijekihiaaGreatTm9
namespace Go.Proofs.YtlndgaijekihiaaGreat
open Go Go.D Go.Proofs
set_option linter.unusedSimpArgs false
set_option linter.unusedVariables false
set_option maxRecDepth 8000

def tI (n : Int) : Tm := .mk 2 n ⟨#[]⟩ []
def tP (t : Tm) : Tm := .mk 4 0 ⟨#[112]⟩ [t]
def kP : PKey := (⟨#[112]⟩, 1)
theorem tP_size (n : Int) : (tP (tI n)).size = 2 := rfl

theorem two_cases {α : Type} {l : List α} {a b : α} {i : Nat} {x : α} (h : l = [a, b]) : (l[0]? = some a ∧ l[1]? = some b) := by rw [h]; exact ⟨rfl, rfl⟩

theorem lives_ok {w : World} {K : Bool → World → Prop} (hK : ∀ w', Upd [] w w' → K true w') : C_law19_lives w K := by
  apply C_law19_lives.of
  unfold F_law19_lives
  refine BNew_ok (by omega) (by omega) fun w1 d1 h1 ok1 eS1 eP1 eg1 el1 u1 sF1 _ => ifF rfl (ifF rfl ?_)
  have low1 := h1.lowG
  refine fact_ok fun w2 q2 c2 G2 ra2 in2 s2 u2 => ?_
  refine BSlL_rule eS_28 [.agg #[.int .i64 25, .string ⟨#[]⟩, .int .i64 0, .int .i64 0, .int .i64 0]] (by rfl) (by simp [Value.cells]) (by rfl) (by omega) fun w3 hs3 u3 => ?_
  obtain ⟨ins, hins⟩ : ∃ ins : InsT, ins = (25, ⟨#[]⟩, 0, 0, 0) := ⟨_, rfl⟩
  have hs3' : SlAt w3 5 (some ⟨w2.heap.size, 0, none⟩) 1 1 ([ins].flatMap insC) [w2.heap.size] := by
    rw [hins]
    simpa [Value.cells, insC] using hs3
  have sz2 := u2.size
  have sz1 := u1.size
  have U3 := u2.after u3
  have h3 := h1.keep U3
  have d3 : Dis (G2 ++ [w2.heap.size]) d1.F := fun j hj hx => by
    have := low1 j hx
    rcases List.mem_append.1 hj with g | g
    · have := s2 j g; omega
    · simp at g; omega
  have i0 : ∀ k', idsP d1.PT k' = [] := fun k' => by rw [eP1]; rfl
  have n0 : findP d1.PT kP = none := by rw [eP1]; rfl
  refine Add_ok (h := tP (tI 1)) (gs := []) (code := [ins]) (F := G2 ++ [w2.heap.size]) h3 ok1 (by rw [eg1]; decide) (fun j hj => ?_) d3 (show (⟨#[112]⟩ : ByteArray).size < 2 ^ 63 by decide) (RdA.sub (fun k hk => by simp [hk]) _ (RdA.keep u3 ra2) : RdA w3 _ (tP (tI 1)).l q2 0) (by rw [tP_size]; omega) (fun i hi => absurd hi (by simp)) (by simp) (by simp)
    ⟨hs3'.rd, fun x hx _ => by cases hx; simp⟩ (by simp) (fun e w' hbad _ _ => ?_) fun w4 d4 ad4 h4 ok4 u4 sb4 _ => ?_
  · rcases List.mem_append.1 hj with g | g
    · have := in2 j g; have := u3.size; omega
    · exact hs3'.inn j g
  · exfalso
    rcases hbad with ⟨_, g⟩ | g | g
    · exact g rfl
    · rw [eS1, el1] at g; simp at g
    · rw [i0] at g; simp at g
  obtain ⟨s0, hS4, a1, a2, a3, a4, a5, a6⟩ := ad4.S
  rw [eS1, List.nil_append] at hS4
  have eg4 : d4.gen = 1 := by rw [ad4.gen, eg1]; rfl
  have el4 : d4.limit = 3 := by rw [ad4.limit, el1]
  have W3 : Upd [] w w3 := u1.after U3
  have W4 : Upd [] w w4 := W3.fresh u4 sF1
  have low4 := h4.lowG
  rw [← ad4.a]
  refine fact_ok fun w5 q5 c5 G5 ra5 in5 s5 u5 => ?_
  have d5 : Dis G5 d4.F := fun j hj hx => by have := low4 j hx; have := s5 j hj; omega
  have i4 : idsP d4.PT kP = [0] := by
    have := ad4.ids kP
    rw [if_pos (show kP = ((tP (tI 1)).s, ((tP (tI 1)).l.length : Int)) from rfl), i0, eS1] at this
    exact this
  refine Add_ok (h := tP (tI 2)) (gs := []) (code := []) (F := G5) (h4.keep u5) ok4 (by rw [eg4]; decide) in5 d5 (show (⟨#[112]⟩ : ByteArray).size < 2 ^ 63 by decide) (show RdA w5 _ (tP (tI 2)).l q5 0 from ra5) (by rw [tP_size]; omega) (fun i hi => absurd hi (by simp)) (by simp) (by simp)
    ⟨⟨rfl, .inl rfl⟩, fun x hx _ => by cases hx⟩ (by simp) (fun e w' hbad _ _ => ?_) fun w6 d6 ad6 h6 ok6 u6 sb6 _ => ?_
  · exfalso
    rcases hbad with ⟨_, g⟩ | g | g
    · exact g rfl
    · rw [hS4, el4] at g; simp at g
    · rw [show ((tP (tI 2)).s, ((tP (tI 2)).l.length : Int)) = kP from rfl, i4] at g; simp at g
  obtain ⟨s1, hS6, b1, b2, b3, b4, b5, b6⟩ := ad6.S
  rw [hS4] at hS6
  have hS6 : d6.S = [s0, s1] := hS6
  have eg6 : d6.gen = 2 := by rw [ad6.gen, eg4]; rfl
  rw [eg4] at b5
  rw [eg1] at a5
  have sF4 : Since d4.F w := sF1.step sb4 W3.size
  have W6 : Upd [] w w6 := (W4.after u5).fresh u6 sF4
  have i6 : idsP d6.PT kP = [1, 0] := by
    have := ad6.ids kP
    rw [if_pos (show kP = ((tP (tI 2)).s, ((tP (tI 2)).l.length : Int)) from rfl), show ((tP (tI 2)).s, ((tP (tI 2)).l.length : Int)) = kP from rfl, i4, hS4] at this
    exact this
  have f4 : (findP d4.PT kP).isSome = true := (ad4.known kP).2 (.inl rfl)
  have k4 := ad4.keys
  rw [show ((tP (tI 1)).s, ((tP (tI 1)).l.length : Int)) = kP from rfl, n0, eP1] at k4
  have k6 := ad6.keys
  rw [show ((tP (tI 2)).s, ((tP (tI 2)).l.length : Int)) = kP from rfl, if_pos f4, k4] at k6
  have l6 : d6.PT.length = 1 := by have := congrArg List.length k6; simpa using this
  have kn6 : ∀ k', (findP d6.PT k').isSome = true ↔ k' = kP := fun k' => by
    have h1 := ad6.known k'
    have h2 := ad4.known k'
    rw [eP1] at h2
    rw [h1, h2]
    constructor
    · rintro (g | g | g)
      · exact g
      · exact g
      · cases g
    · exact fun g => .inl g
  rw [← ad6.a, hS4, eS1]
  refine Kill_ok h6 (by rw [eg6]; decide) (fun w' _ _ hn _ => ?_) (fun s hs => (ok6.born s hs).2.2.1) (fun i hi hid hdead w7 h7 u7 => ?_) ok6.gen
  · exact absurd ⟨0, rfl, by rw [hS6]; simp, by simp [hS6, a6]⟩ hn
  have hi0 : i = 0 := by have hid : ((([] : List Slt).length : Nat) : Int) = i := hid; simp at hid; omega
  subst hi0
  have ok7 := killed_ok ok6 hi
  obtain ⟨d7, hd7⟩ : ∃ d7, d7 = ({ d6 with gen := d6.gen + 1, S := d6.S.set 0 { d6.S[0] with dead := d6.gen + 1 } } : BsD) := ⟨_, rfl⟩
  rw [← hd7] at h7 ok7
  have e70 : d6.S[0] = s0 := by simp [hS6]
  have hS7 : d7.S = [{ s0 with dead := 3 }, s1] := by
    rw [hd7]
    show d6.S.set 0 { d6.S[0] with dead := d6.gen + 1 } = _
    rw [e70, eg6, hS6]; rfl
  have eg7 : d7.gen = 3 := by rw [hd7]; show d6.gen + 1 = 3; rw [eg6]; rfl
  have eP7 : d7.PT = d6.PT := by rw [hd7]
  have sF6 : Since d6.F w := sF4.step sb6 (by have := W4.size; have := u5.size; omega)
  have W7 : Upd [] w w7 := W6.fresh u7 sF6
  have l1 : ∀ g : Int, livesI d7.S g 1 = s1.lives g := fun g => by
    have := livesI_at (S := d7.S) (gen := g) (i := 1) (by rw [hS7]; simp)
    rw [show ((1 : Nat) : Int) = 1 from rfl] at this
    rw [this]; simp [hS7]
  have l0 : ∀ g : Int, livesI d7.S g 0 = Slt.lives { s0 with dead := 3 } g := fun g => by
    have := livesI_at (S := d7.S) (gen := g) (i := 0) (by rw [hS7]; simp)
    rw [show ((0 : Nat) : Int) = 0 from rfl] at this
    rw [this]; simp [hS7]
  have T2 : tells d7.S d7.PT kP 2 = [1, 0] := by
    unfold tells
    rw [eP7, i6, List.filter_cons_of_pos (by rw [l1]; unfold Slt.lives; rw [b5, b6]; rfl), List.filter_cons_of_pos (by rw [l0]; unfold Slt.lives; simp [a5])]
    rfl
  have T3 : tells d7.S d7.PT kP 3 = [1] := by
    unfold tells
    rw [eP7, i6, List.filter_cons_of_pos (by rw [l1]; unfold Slt.lives; rw [b5, b6]; rfl), List.filter_cons_of_neg (by rw [l0]; unfold Slt.lives; simp)]
    rfl
  have ea7 : d6.a = d7.a := by rw [hd7]; rfl
  have hg7 : d7.gen < 2 ^ 40 := by rw [eg7]; decide
  rw [ea7]
  refine BHead_ok (k := kP) h7 ok7 hg7 fun w8 u8 => ?_
  rw [T2]
  refine BNext_ok (k := kP) (gen := 2) (i := 0) (by rw [T2]; simp) (by simp [T2]) (h7.keep u8) ok7 hg7 fun w9 u9 => ?_
  rw [T2]
  have V9 := u8.after u9
  refine BNext_ok (k := kP) (gen := 3) (i := 0) (by rw [T3]; simp) (by simp [T3]) (h7.keep V9) ok7 hg7 fun w10 u10 => ?_
  rw [T3]
  have V10 := V9.after u10
  have hs1 : d7.S[1]? = some s1 := by rw [hS7]; rfl
  have hs0 : d7.S[0]? = some { s0 with dead := 3 } := by rw [hS7]; rfl
  refine Clause_s (i := 1) (s := s1) rfl hs1 (h7.keep V10) (by rw [b1, tP_size]; omega) (by rw [b2]; simp) (by rw [b2]; simp) fun w11 q11 c11 p11 c11' Y11 ra11 in11 sY11 u11 => ?_
  rw [b1] at ra11 ⊢
  rw [b2, b3]
  refine New_rule fun r w12 hr u12 b12 => ?_
  refine St6q b12 rfl (by simp [Value.oneCell']) fun w13 u13 b13 => ?_
  have sz11 := u11.size
  have V11 := V10.after u11
  have v11s := V11.size
  have V13 : Upd [] w7 w13 := (V11.after u12).fresh u13 (by intro k hk; simp at hk; omega)
  refine At_s (i := 0) (s := { s0 with dead := 3 }) (x := ins) (l := []) rfl hs0 a4 (h7.keep V13) fun w14 u14 => ?_
  refine New_rule fun r1 w15 hr1 u15 b15 => ?_
  refine St5q b15 rfl (by simp [Value.oneCell']) fun w16 u16 b16 => ?_
  have V14 := V13.after u14
  have v14s := V14.size
  have V16 : Upd [] w7 w16 := (V14.after u15).fresh u16 (by intro k hk; simp at hk; omega)
  refine BNew_no (ifT rfl (ifT rfl (ifT rfl (ifT rfl (ifT rfl ?_)))))
  have ud := drw_upd w16
  have V := V16.after ud
  refine Gen_ok (h7.keep V) (ifT (by rw [eg7]; rfl) (ifT rfl (ifT rfl (ifT rfl (ifT rfl (ifT rfl ?_))))))
  refine Lives_ok (h7.keep V) fun w17 u17 => ifT (by show livesI d7.S 2 0 = true; rw [l0]; unfold Slt.lives; simp [a5]) ?_
  have V17 := V.after u17
  refine Lives_ok (h7.keep V17) fun w18 u18 => ifT (by show (!livesI d7.S 3 0) = true; rw [l0]; unfold Slt.lives; simp) ?_
  have V18 := V17.after u18
  refine Known_ok (k := kP) (h7.keep V18) (ifT (by rw [eP7]; exact (kn6 kP).2 rfl) ?_)
  refine Known_ok (k := (⟨#[112]⟩, 2)) (h7.keep V18) (ifT (by
    have : (findP d7.PT (⟨#[112]⟩, 2)).isSome = false := by
      rcases e : (findP d7.PT (⟨#[112]⟩, 2)).isSome with _ | _
      · rfl
      · rw [eP7] at e
        have := (kn6 _).1 e
        cases this
    rw [this]; rfl) (ifT rfl ?_))
  have b13' : Blk w18 r _ := (((((((b13.upd u14 (by simp)).upd u15 (by simp)).upd u16 (by simp; have := b13.lt; have := u14.size; omega)).upd ud (by simp)).upd u17 (by simp)).upd u18 (by simp)))
  have b16' : Blk w18 r1 _ := ((b16.upd ud (by simp)).upd u17 (by simp)).upd u18 (by simp)
  refine ⟨_, b13'.cell 0, _, b13'.cell 1, _, b13'.cell 2, _, _, _, b13'.cell 3, fact_ok fun w19 q19 c19 G19 ra19 in19 s19 u19 => ⟨fun j hj => ?_, ?_⟩⟩
  · have e1 := (b13'.upd u19 (by simp)).cell j
    have e2 := b13'.cell j
    simp only [NN_some, addN, drw_cell, drw_heap, exS, exI, exB, exP, exM, exStr, exV, a0, a1, a2, a3, a4, a5, a6, a7, a8, a9, a10, a11, a12, a13, maxI_eq, Nat.zero_add, Nat.add_zero, Nat.mul_one, Option.isNone_some, Option.isNone_none]
    rw [e1, e2]
  have nY : ∀ k ∈ Y11, k < w11.heap.size := in11
  have raY : RdA w18 Y11 (tP (tI 2)).l q11 0 := by
    have rr : r ∉ Y11 := fun hx => by have := nY r hx; omega
    have rr1 : r1 ∉ Y11 := fun hx => by have := nY r1 hx; have := u12.size; have := u13.size; have := u14.size; omega
    have a := RdA.keep u14 (RdA.upd' u13 (fun k hk hx => by simp at hx; subst hx; exact rr hk) (RdA.keep u12 ra11))
    have b := RdA.upd' u16 (fun k hk hx => by simp at hx; subst hx; exact rr1 hk) (RdA.keep u15 a)
    exact RdA.keep u18 (RdA.keep u17 (RdA.keep ud b))
  refine Exact_ok (tP (tI 2)) (RdA.keep u19 raY) (show RdA w19 G19 (tP (tI 2)).l q19 0 from ra19) (by rw [tP_size]; omega) fun w20 u20 => ifT rfl (ifT rfl ?_)
  have V20 := (V18.after u19).after u20
  have b20 := (b16'.upd u19 (by simp)).upd u20 (by simp)
  refine ⟨_, b20.cell 0, ifT (by rw [hins]; rfl) (Size_s (i := 0) rfl hs0 (h7.keep V20) (ifT (by show (((s0.code.length : Nat) : Int) == 1) = true; rw [a4]; rfl) ?_))⟩
  refine Preds_ok (h7.keep V20) ok7 hg7 (by rw [eP7, l6]; decide) fun w21 p21 c21 G21 E' hE _ _ u21 => ifT (by rw [hE.length_eq, List.length_map, eP7, l6]; rfl) ?_
  have V21 := V20.after u21
  refine Slots_ok (h7.keep V21) (by rw [hS7]; simp) fun w22 u22 => ifT (by rw [hS7]; rfl) ?_
  exact hK w22 (W7.after (V21.after u22))

end Go.Proofs.YtlndgaijekihiaaGreat

/- A nil base. -/
namespace Go.Proofs.YtlndgaijekihiaaGreat
open Go Go.D Go.Proofs
set_option linter.unusedSimpArgs false
set_option linter.unusedVariables false
set_option maxRecDepth 8000

section
variable {w : World}

theorem bhas_no {id : Int} {K : Bool → World → Prop} (hK : K false w) : C_base_Base_has none id w K := by
  apply C_base_Base_has.of; unfold F_base_Base_has
  exact bmade_no (ifF rfl hK)

theorem bmay_no {id : Int} {K : Int → World → Prop} (hK : K 6 w) : C_base_Base_may none id w K := by
  apply C_base_Base_may.of; unfold F_base_Base_may
  exact bmade_no (ifT rfl hK)

theorem BaseNobody_law {o0 o1 o2 o6 o9 o10 o12 o13 : Int} {o3 o11 : ByteArray} {o4P o5P o7P : Option Addr} {o4N o4C o5N o5C o7N o7C : Nat} {o8 : Bool} :
    C_law19_BaseNobody o0 o1 o2 o3 o4P o4N o4C o5P o5N o5C o6 o7P o7N o7C o8 o9 o10 o11 o12 o13 w fun r w' => r = true ∧ Upd [] w w' := by
  apply C_law19_BaseNobody.of
  unfold F_law19_BaseNobody F_law19_BaseNobody_k1
  refine New_rule fun r w1 hr u1 b1 => ?_
  simp only [NN_some, addN, drw_cell, drw_heap, exS, exI, exB, exP, exM, exStr, exV, a0, a1, a2, a3, a4, a5, a6, a7, a8, a9, a10, a11, a12, a13, maxI_eq, Nat.zero_add, Nat.add_zero, Nat.mul_one, Option.isNone_some, Option.isNone_none, Nat.reduceAdd, b1.cell]
  apply C_base_Base_Add.of; unfold F_base_Base_Add
  refine New_rule fun r2 w2 hr2 u2 b2 => bmade_no (ifT rfl ?_)
  have B2 := b1.upd u2 (by simp)
  simp only [NN_some, addN, drw_cell, drw_heap, exS, exI, exB, exP, exM, exStr, exV, a0, a1, a2, a3, a4, a5, a6, a7, a8, a9, a10, a11, a12, a13, maxI_eq, Nat.zero_add, Nat.add_zero, Nat.mul_one, Option.isNone_some, Option.isNone_none, Nat.reduceAdd, B2.cell]
  apply C_base_Base_Head.of; unfold F_base_Base_Head
  refine New_rule fun r3 w3 hr3 u3 b3 => bmade_no (ifT rfl ?_)
  have B3 := B2.upd u3 (by simp)
  simp only [NN_some, addN, drw_cell, drw_heap, exS, exI, exB, exP, exM, exStr, exV, a0, a1, a2, a3, a4, a5, a6, a7, a8, a9, a10, a11, a12, a13, maxI_eq, Nat.zero_add, Nat.add_zero, Nat.mul_one, Option.isNone_some, Option.isNone_none, Nat.reduceAdd, B3.cell]
  apply C_base_Base_Next.of; unfold F_base_Base_Next
  refine New_rule fun r4 w4 hr4 u4 b4 => bhas_no (ifT rfl ?_)
  have B4 := B3.upd u4 (by simp)
  simp only [NN_some, addN, drw_cell, drw_heap, exS, exI, exB, exP, exM, exStr, exV, a0, a1, a2, a3, a4, a5, a6, a7, a8, a9, a10, a11, a12, a13, maxI_eq, Nat.zero_add, Nat.add_zero, Nat.mul_one, Option.isNone_some, Option.isNone_none, Nat.reduceAdd, B4.cell]
  have U4 := ((u1.after u2).after u3).after u4
  have s4 := U4.size
  have l1 := b1.lt
  have s234 := ((u2.after u3).after u4).size
  apply C_base_Base_Clause.of; unfold F_base_Base_Clause
  refine New_rule fun r5 w5 hr5 u5 b5 => bmay_no (ifT rfl ?_)
  refine St6q b5 rfl (by simp [Value.oneCell']) fun w6 u6 b6 => ?_
  have B5 := B4.upd u5 (by simp)
  have B6 := B5.upd u6 (by simp; omega)
  have U6 : Upd [] w w6 := (U4.after u5).fresh u6 (by intro k hk; simp at hk; omega)
  simp only [NN_some, addN, drw_cell, drw_heap, exS, exI, exB, exP, exM, exStr, exV, a0, a1, a2, a3, a4, a5, a6, a7, a8, a9, a10, a11, a12, a13, maxI_eq, Nat.zero_add, Nat.add_zero, Nat.mul_one, Option.isNone_some, Option.isNone_none, Nat.reduceAdd, b6.cell]
  refine New_rule fun r7 w7 hr7 u7 b7 => ?_
  have s6 := u6.size
  have s5 := u5.size
  refine St6q b7 rfl (by simp [Value.oneCell']) fun w8 u8 b8 => ?_
  have B7 := B6.upd u7 (by simp)
  have B8 := B7.upd u8 (by simp; omega)
  have U8 : Upd [] w w8 := (U6.after u7).fresh u8 (by intro k hk; simp at hk; omega)
  simp only [NN_some, addN, drw_cell, drw_heap, exS, exI, exB, exP, exM, exStr, exV, a0, a1, a2, a3, a4, a5, a6, a7, a8, a9, a10, a11, a12, a13, maxI_eq, Nat.zero_add, Nat.add_zero, Nat.mul_one, Option.isNone_some, Option.isNone_none, Nat.reduceAdd, B8.cell]
  apply C_base_Base_Code.of; unfold F_base_Base_Code
  refine bmay_no (ifT rfl ?_)
  simp only [NN_some, addN, drw_cell, drw_heap, exS, exI, exB, exP, exM, exStr, exV, a0, a1, a2, a3, a4, a5, a6, a7, a8, a9, a10, a11, a12, a13, maxI_eq, Nat.zero_add, Nat.add_zero, Nat.mul_one, Option.isNone_some, Option.isNone_none, Nat.reduceAdd, B8.cell]
  apply C_base_Base_At.of; unfold F_base_Base_At F_base_Base_At_k1
  refine New_rule fun r9 w9 hr9 u9 b9 => bhas_no (ifT rfl ?_)
  refine St5q b9 rfl (by simp [Value.oneCell']) fun w10 u10 b10 => ?_
  have s7 := u7.size
  have s8 := u8.size
  have B9 := B8.upd u9 (by simp)
  have B10 := B9.upd u10 (by simp; omega)
  have U10 : Upd [] w w10 := (U8.after u9).fresh u10 (by intro k hk; simp at hk; omega)
  simp only [NN_some, addN, drw_cell, drw_heap, exS, exI, exB, exP, exM, exStr, exV, a0, a1, a2, a3, a4, a5, a6, a7, a8, a9, a10, a11, a12, a13, maxI_eq, Nat.zero_add, Nat.add_zero, Nat.mul_one, Option.isNone_some, Option.isNone_none, Nat.reduceAdd, b10.cell]
  refine New_rule fun r11 w11 hr11 u11 b11 => ?_
  have s9 := u9.size
  have s10 := u10.size
  refine St5q b11 rfl (by simp [Value.oneCell']) fun w12 u12 b12 => ?_
  have B11 := B10.upd u11 (by simp)
  have B12 := B11.upd u12 (by simp; omega)
  have U12 : Upd [] w w12 := (U10.after u11).fresh u12 (by intro k hk; simp at hk; omega)
  refine lives_ok fun w13 u13 => ifT rfl (ifT rfl (ifT rfl ?_))
  have B13 := B12.upd u13 (by simp)
  have U13 := U12.after u13
  simp only [NN_some, addN, drw_cell, drw_heap, exS, exI, exB, exP, exM, exStr, exV, a0, a1, a2, a3, a4, a5, a6, a7, a8, a9, a10, a11, a12, a13, maxI_eq, Nat.zero_add, Nat.add_zero, Nat.mul_one, Option.isNone_some, Option.isNone_none, Nat.reduceAdd, B13.cell]
  apply C_base_Base_Kill.of; unfold F_base_Base_Kill
  refine bmay_no (ifT rfl (ifT rfl ?_))
  apply C_base_Base_Generation.of; unfold F_base_Base_Generation
  refine bmade_no (ifT rfl (ifT rfl ?_))
  simp only [NN_some, addN, drw_cell, drw_heap, exS, exI, exB, exP, exM, exStr, exV, a0, a1, a2, a3, a4, a5, a6, a7, a8, a9, a10, a11, a12, a13, maxI_eq, Nat.zero_add, Nat.add_zero, Nat.mul_one, Option.isNone_some, Option.isNone_none, Nat.reduceAdd, B13.cell]
  apply C_base_Base_Lives.of; unfold F_base_Base_Lives
  refine bhas_no (ifT rfl (ifT rfl (ifT rfl (ifT rfl ?_))))
  simp only [NN_some, addN, drw_cell, drw_heap, exS, exI, exB, exP, exM, exStr, exV, a0, a1, a2, a3, a4, a5, a6, a7, a8, a9, a10, a11, a12, a13, maxI_eq, Nat.zero_add, Nat.add_zero, Nat.mul_one, Option.isNone_some, Option.isNone_none, Nat.reduceAdd, B13.cell]
  apply C_base_Base_Known.of; unfold F_base_Base_Known
  refine bmade_no (ifF rfl (ifT rfl (ifT rfl (ifT rfl ?_))))
  simp only [NN_some, addN, drw_cell, drw_heap, exS, exI, exB, exP, exM, exStr, exV, a0, a1, a2, a3, a4, a5, a6, a7, a8, a9, a10, a11, a12, a13, maxI_eq, Nat.zero_add, Nat.add_zero, Nat.mul_one, Option.isNone_some, Option.isNone_none, Nat.reduceAdd, B13.cell]
  apply C_base_Base_Size.of; unfold F_base_Base_Size
  refine bhas_no (ifT rfl (ifT rfl (ifT rfl ?_)))
  apply C_base_Base_Preds.of; unfold F_base_Base_Preds
  refine bmade_no (ifT rfl (ifT rfl ?_))
  apply C_base_Base_Slots.of; unfold F_base_Base_Slots
  refine bmade_no (ifT rfl (ifT rfl ?_))
  apply C_base_Base_Reclaim.of; unfold F_base_Base_Reclaim
  exact bmade_no (ifT rfl ⟨rfl, U13⟩)

end

end Go.Proofs.YtlndgaijekihiaaGreat
