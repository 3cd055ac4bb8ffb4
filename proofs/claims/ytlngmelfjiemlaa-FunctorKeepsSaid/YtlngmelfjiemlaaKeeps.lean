/- Functors that are marked keep their numbers: the law. -/
import Derived.Test.YtlngmelfjiemlaaDoes
namespace Go.Proofs.Ytlngmelfjiemlaa
open Go Go.D Go.Proofs
set_option linter.unusedSimpArgs false
set_option linter.unusedVariables false
set_option maxRecDepth 8000

instance : Inhabited OpV := ⟨⟨0, ⟨#[]⟩, 0⟩⟩

/-- The even ones of the calls, from what was put: where they are, and which are marked. -/
def Ev (os : List OpV) (I : List Int) (L : List Slot) (FL : List Fn.Slot) (k : Nat) : Prop :=
  ∀ j (hj : j < os.length), j % 2 = 0 → I[j]? = some (-1) ∨ ∃ (id i : Nat) (m m' : Bool), I[j]? = some (id : Int) ∧ FL[id]? = some ⟨((i : Nat), os[j].id), true, m⟩ ∧ L[i]? = some ⟨os[j].name, true, m'⟩ ∧ (j < k → m = true)

theorem markF_get {FL : List Fn.Slot} {x : Int} {id : Nat} {k : Fn.Key} {m : Bool} (h : FL[id]? = some ⟨k, true, m⟩) : ∃ m2, (markF FL x)[id]? = some ⟨k, true, m2⟩ ∧ (m = true → m2 = true) ∧ (x = id → m2 = true) := by
  unfold markF
  by_cases hx : x = id
  · subst hx
    have hn : Fn.isN FL (id : Nat) = true := by unfold Fn.isN; simp [h]
    simp only [hn, Int.toNat_natCast, h]
    exact ⟨true, List.getElem?_set_self (List.getElem?_eq_some_iff.1 h).1, fun _ => rfl, fun _ => rfl⟩
  · split
    · rename_i s hn hs
      obtain ⟨h0, _, _⟩ := Fn.isN_get hn
      refine ⟨m, ?_, fun e => e, fun e => absurd e hx⟩
      rw [List.getElem?_set_ne (by omega)]; exact h
    · exact ⟨m, h, fun e => e, fun e => absurd e hx⟩

theorem Ev.mark {os : List OpV} {I : List Int} {L : List Slot} {FL : List Fn.Slot} {k : Nat} {x : Int} (h : Ev os I L FL k) (hk2 : k % 2 = 0) (hx : I[k]? = some x) : Ev os I L (markF FL x) (k + 2) := fun j hj he => by
  rcases h j hj he with e | ⟨id, i, m, m', h1, h2, h3, h4⟩
  · exact .inl e
  · obtain ⟨m2, g1, g2, g3⟩ := markF_get (x := x) h2
    refine .inr ⟨id, i, m2, m', h1, g1, h3, fun hk => ?_⟩
    by_cases hjk : j < k
    · exact g2 (h4 hjk)
    · have hjk2 : j = k := by omega
      subst hjk2
      rw [hx] at h1
      exact g3 (Option.some.inj h1)

/-- A sweep of the functors, of which all even ones are marked. -/
theorem Ev.sweep {os : List OpV} {I : List Int} {L : List Slot} {FL : List Fn.Slot} {k : Nat} (h : Ev os I L FL k) (hk : os.length ≤ k) : Ev os I L (Fn.swL FL FL.length) 0 := fun j hj he => by
  rcases h j hj he with e | ⟨id, i, m, m', h1, h2, h3, h4⟩
  · exact .inl e
  · have hm := h4 (by omega)
    subst hm
    have hl := (List.getElem?_eq_some_iff.1 h2).1
    refine .inr ⟨id, i, false, m', h1, ?_, h3, fun hk => by omega⟩
    rw [Fn.swL_get, if_pos hl, h2]
    rfl

/-- The names are marked, and swept. -/
theorem Ev.names {os : List OpV} {I : List Int} {L : List Slot} {FL : List Fn.Slot} (h : Ev os I L FL 0) : Ev os I (swL (mkA L (namesF FL)) (mkA L (namesF FL)).length) FL 0 := fun j hj he => by
  rcases h j hj he with e | ⟨id, i, m, m', h1, h2, h3, h4⟩
  · exact .inl e
  · have hmem : ((i : Nat) : Int) ∈ namesF FL := by
      unfold namesF
      rw [List.mem_map]
      exact ⟨_, List.mem_filter.2 ⟨List.mem_of_getElem? h2, rfl⟩, rfl⟩
    have hg := mkA_get L (namesF FL) i
    rw [h3] at hg
    simp only [Option.map_some, decide_eq_true hmem] at hg
    have hl := (List.getElem?_eq_some_iff.1 hg).1
    refine .inr ⟨id, i, m, false, h1, h2, ?_, h4⟩
    rw [swL_get, if_pos hl, hg]
    simp [swS, goneS]

theorem Ev.put {os : List OpV} {I : List Int} {L : List Slot} {FL : List Fn.Slot} {k : Nat} {alim made flim : Int} {n : ByteArray} {ar : Int} (h : Ev os I L FL k) : Ev os I (putA alim made L flim FL n ar).L (putA alim made L flim FL n ar).F k := fun j hj he => by
  rcases h j hj he with e | ⟨id, i, m, m', h1, h2, h3, h4⟩
  · exact .inl e
  · exact .inr ⟨id, i, m, m', h1, put_stayF h2 rfl, put_stayN h3 rfl, h4⟩

/-- What was put, one by one. -/
def Pu (os : List OpV) (I : List Int) (L : List Slot) (FL : List Fn.Slot) : Prop :=
  ∀ j (hj : j < os.length), j < I.length → I[j]? = some (-1) ∨ ∃ id : Nat, I[j]? = some (id : Int) ∧ At L FL id os[j].name os[j].id

theorem Pu.next {os : List OpV} {I : List Int} {L : List Slot} {FL : List Fn.Slot} {alim made flim : Int} (h : Pu os I L FL) (hI : I.length < os.length) {x : Int}
    (hx : x = if (putA alim made L flim FL os[I.length].name os[I.length].id).e = 0 then (putA alim made L flim FL os[I.length].name os[I.length].id).i else -1) :
    Pu os (I ++ [x]) (putA alim made L flim FL os[I.length].name os[I.length].id).L (putA alim made L flim FL os[I.length].name os[I.length].id).F := fun j hj hjI => by
  by_cases hjl : j < I.length
  · rw [List.getElem?_append_left hjl]
    rcases h j hj hjl with e | ⟨id, h1, h2⟩
    · exact .inl e
    · exact .inr ⟨id, h1, h2.put⟩
  · have hjl : j = I.length := by simp at hjI; omega
    subst hjl
    have e : (I ++ [x])[I.length]? = some x := by simp
    rw [e]
    split at hx
    · rename_i he
      obtain ⟨id, h1, h2⟩ := put_At he
      exact .inr ⟨id, by rw [hx, h1], h2⟩
    · exact .inl (by rw [hx])

theorem Pu.ev {os : List OpV} {I : List Int} {L : List Slot} {FL : List Fn.Slot} (h : Pu os I L FL) (hI : I.length = os.length) : Ev os I L FL 0 := fun j hj _ => by
  rcases h j hj (by omega) with e | ⟨id, h1, i, m, m', h2, h3⟩
  · exact .inl e
  · exact .inr ⟨id, i, m, m', h1, h2, h3, fun hk => by omega⟩

theorem FunctorKeeps_law {w : World} {rounds : Int} {p : Option Addr} {n c : Nat} {ls : List Value} (hl : Rd w 3 p n ls) (ho : Ops ls n) : C_law05_FunctorKeeps p n c rounds w fun r w' => r = true ∧ Upd [] w w' := by
  apply C_law05_FunctorKeeps.of
  unfold F_law05_FunctorKeeps F_law05_FunctorKeeps_k2 F_law05_FunctorKeeps_k3 F_law05_FunctorKeeps_k1 F_law05_FunctorKeeps_L1
  obtain ⟨os, hos, hcells⟩ := pick (p := fun i (o : OpV) => (ls.drop (i * 3)).take 3 = o.cells) ho
  refine Tl.new (w := w) (Upd.refl _ _) (by omega) (by omega) fun w1 ab t1 => Bf.new t1 (by omega) (by omega) fun w2 d b2 u2 => ?_
  obtain ⟨a, ha⟩ : ∃ a, a = (some ⟨ab, 0, none⟩ : Option Addr) := ⟨_, rfl⟩
  obtain ⟨fa, hfa⟩ : ∃ fa, fa = d.a := ⟨_, rfl⟩
  have hn : fa.isNone = false := by rw [hfa]; rfl
  have hna : a.isNone = false := by rw [ha]; rfl
  rw [← hfa, ← ha] at b2 ⊢
  refine lives_ok fun w3 u3 => ifF rfl (ifF rfl (ifF rfl (ifF hna (ifF hn ?_))))
  have b3 := b2.keep u3
  refine ifC (fun _ => lives_ok fun w4 u4 => ifT rfl (ifT rfl ⟨rfl, (b3.keep u4).U⟩)) (fun hn50 => ?_)
  simp at hn50
  have rdo : ∀ {j : Nat} (hj : j < os.length), ∃ x, p = some x ∧ ∀ w', Upd [] w w' → w'.cell? (x.add (j * 3 + 1)) = some (.string os[j].name) ∧ w'.cell? (x.add (j * 3 + 2)) = some (.int .i64 os[j].id) := by
    intro j hj
    obtain ⟨x, hx, _⟩ := hl.elem (i := j) (by omega)
    refine ⟨x, hx, fun w' u => ?_⟩
    obtain ⟨y, hy, hc⟩ := (hl.keep u).elem (i := j) (by omega)
    obtain rfl := Option.some.inj (hx.symm.trans hy)
    have key : ∀ q, q < 3 → w'.cell? (x.add (j * 3 + q)) = os[j].cells[q]? := fun q hq => by
      rw [hc q hq, ← hcells j hj, List.getElem?_take, if_pos hq, List.getElem?_drop]
    exact ⟨key 1 (by omega), key 2 (by omega)⟩
  refine ⟨fun s v => 0 ≤ s.i ∧ s.i ≤ n ∧ ∃ L made FL d I F, Bf w v F a fa L made 16384 FL 16384 d ∧ SlAt v 1 s.idsP s.idsN s.idsC (I.map (.int .i64)) F ∧ Since F w ∧ (I.length : Int) = s.i ∧ 0 ≤ made ∧ made ≤ s.i ∧ Pu os I L FL, fun s _ => (n - s.i).toNat,
    ⟨by simp, by simp, initL, 0, [], d, [], [], b3.less (by simp), SlAt.nil _ _, (by intro k hk; cases hk), by simp, by omega, by simp, fun j hj h => by simp at h⟩, ?_⟩
  clear b3 b2 t1 hfa ha
  rintro ⟨ip, iN, ic, i⟩ v ⟨hi0, hi1, L, made, FL, d, I, F, b, hI, hF, hIl, hm0, hm1, hpu⟩
  dsimp only at hi0 hi1 hI hIl hm1
  unfold B_law05_FunctorKeeps_L1 F_law05_FunctorKeeps_k4
  dsimp only
  refine ifC (fun hc => ?_) (fun hc => ?_)
  · simp at hc
    have hil : I.length < os.length := by omega
    have hiI : i.toNat = I.length := by omega
    obtain ⟨x, hx, hcell⟩ := rdo hil
    subst hx
    have bd := b.keep (drw_upd v)
    obtain ⟨c1, c2⟩ := hcell _ bd.U
    simp only [NN_some, addA, hiI, c1, c2, exStr, exI]
    have hpm := put_made 16384 made L 16384 FL os[I.length].name os[I.length].id
    refine ⟨hi0, hc, hi0, hc, ?_⟩
    refine bd.put (by omega) fun v1 d1 b1 f1 => ?_
    have hI1 := f1.sl hI.drw (fun _ h => h)
    have fin : ∀ {k : Int}, (k = if (putA 16384 made L 16384 FL os[I.length].name os[I.length].id).e = 0 then (putA 16384 made L 16384 FL os[I.length].name os[I.length].id).i else -1) →
        BSl Try.prog 43 1 [(0, .int .i64 k)] v1 fun t87P t87N t87C w1_10 => App Try.prog #[43, 43] 43 #[.slice ip iN ic, .slice t87P t87N t87C] w1_10 fun t88P t88N t88C w1_11 =>
          (0 ≤ IntKind.i64.wrap (i + 1) ∧ IntKind.i64.wrap (i + 1) ≤ n ∧ ∃ L made FL d I F, Bf w w1_11 F a fa L made 16384 FL 16384 d ∧ SlAt w1_11 1 t88P t88N t88C (I.map (.int .i64)) F ∧ Since F w ∧ (I.length : Int) = IntKind.i64.wrap (i + 1) ∧ 0 ≤ made ∧ made ≤ IntKind.i64.wrap (i + 1) ∧ Pu os I L FL) ∧ (n - IntKind.i64.wrap (i + 1)).toNat < (n - i).toNat := by
      intro k hk
      refine BSlL_rule eS_43 [.int .i64 k] (by rfl) (by simp [Value.cells]) (by rfl) (by omega) fun v2 hs2 u2 => ?_
      have hIN := hI.1
      simp at hIN
      refine App_rule (hE := eS_43) (hI1.upd u2 (by intro k _ h; cases h)) hs2 (by simp [Value.cells, Value.oneCell']) (by omega) fun p' c' F' v3 hs3 u3 s3 => ?_
      have hs3' : SlAt v3 1 p' (iN + 1) c' ((I ++ [k]).map (.int .i64)) F' := by
        rw [List.map_append]
        simpa [Value.cells] using hs3
      have b3 := (b1.keep u2).own u3 (fun _ h => h) hF s3 hs3.inn
      have hF' : Since F' w := hF.step s3 (Nat.le_trans b1.U.size u2.size)
      rw [i64id (by omega) (by omega)]
      exact ⟨⟨by omega, by omega, _, _, _, d1, I ++ [k], F', b3, hs3', hF', by simp; omega, by omega, by omega, hpu.next hil hk⟩, by omega⟩
    refine ifC (fun he => fin ?_) (fun he => fin ?_)
    · simp at he
      rw [if_neg he]
    · simp at he
      rw [if_pos he]
  · -- rounds
    simp at hc
    have hIo : I.length = os.length := by omega
    have hev := hpu.ev hIo
    have hIN : iN = I.length := by have := hI.1; simp at this; exact this.symm
    unfold F_law05_FunctorKeeps_L2
    refine ⟨fun s z => 0 ≤ s.n ∧ s.n ≤ 3 ∧ ∃ L made FL d, Bf w z F a fa L made 16384 FL 16384 d ∧ SlAt z 1 ip iN ic (I.map (.int .i64)) F ∧ 0 ≤ made ∧ made ≤ 50 + s.n ∧ Ev os I L FL 0, fun s _ => (3 - s.n).toNat, ⟨by simp, by simp, L, made, FL, d, b, hI, hm0, by simp; omega, hev⟩, ?_⟩
    clear hev hpu hm1 hm0 hc
    clear b hI
    clear d FL made L
    rintro ⟨q⟩ z ⟨hq0, hq3, L, made, FL, d, b, hI, hm0, hm1, hev⟩
    dsimp only at hq0 hq3 hm1
    -- the end
    have last : F_law05_FunctorKeeps_L4 p n c fa ip iN ic ⟨(0 : Int)⟩ z (fun w1_24 => true = true ∧ Upd [] w w1_24) (fun t4_1 w1_25 => t4_1 = true ∧ Upd [] w w1_25) := by
      unfold F_law05_FunctorKeeps_L4
      refine ⟨fun s z' => 0 ≤ s.i_2 ∧ s.i_2 ≤ n + 1 ∧ s.i_2 % 2 = 0 ∧ Bf w z' F a fa L made 16384 FL 16384 d ∧ SlAt z' 1 ip iN ic (I.map (.int .i64)) F, fun s _ => (n + 1 - s.i_2).toNat, ⟨by simp, by simp; omega, by simp, b, hI⟩, ?_⟩
      rintro ⟨j⟩ z' ⟨hj0, hj1, hj2, bj, hIj⟩
      dsimp only at hj0 hj1 hj2
      unfold B_law05_FunctorKeeps_L4 F_law05_FunctorKeeps_k5 F_law05_FunctorKeeps_k6
      dsimp only
      refine ifC (fun hc3 => ?_) (fun _ => ⟨rfl, bj.U⟩)
      simp at hc3
      have hjo : j.toNat < os.length := by omega
      have go : ∀ {z2 : World}, Bf w z2 F a fa L made 16384 FL 16384 d → SlAt z2 1 ip iN ic (I.map (.int .i64)) F → (0 ≤ IntKind.i64.wrap (j + 2) ∧ IntKind.i64.wrap (j + 2) ≤ n + 1 ∧ IntKind.i64.wrap (j + 2) % 2 = 0 ∧ Bf w z2 F a fa L made 16384 FL 16384 d ∧ SlAt z2 1 ip iN ic (I.map (.int .i64)) F) ∧ (n + 1 - IntKind.i64.wrap (j + 2)).toNat < (n + 1 - j).toNat := by
        intro z2 h1 h2
        rw [i64id (by omega) (by omega)]
        exact ⟨⟨by omega, by omega, by omega, h1, h2⟩, by omega⟩
      obtain ⟨x, hx, hcell⟩ := rdo hjo
      subst hx
      have cellI : ∀ {z2 : World} {k : Int}, I[j.toNat]? = some k → SlAt z2 1 ip iN ic (I.map (.int .i64)) F → ∃ bb oo, ip = some ⟨bb, oo, none⟩ ∧ z2.cell? ⟨bb, oo + j.toNat, none⟩ = some (.int .i64 k) := fun hk h => by
        obtain ⟨bb, oo, h1, h2⟩ := h.cell (i := j.toNat) (by omega)
        rw [List.getElem?_map, hk] at h2
        exact ⟨bb, oo, h1, h2⟩
      rcases hev j.toNat hjo (by omega) with hno | ⟨id, i', m, m', e1, e2, e3, _⟩
      · obtain ⟨bb, oo, hip, hci⟩ := cellI hno hIj
        have eip : ∀ Q, NN ip Q = NN (some ⟨bb, oo, none⟩) Q := fun Q => by rw [hip]
        simp only [eip, NN_some, addN, Nat.mul_one, hci, exI]
        exact ⟨hj0, by omega, ifT rfl (go bj hIj)⟩
      · have hat : At L FL id os[j.toNat].name os[j.toNat].id := ⟨i', m, m', e2, e3⟩
        obtain ⟨bb, oo, hip, hci⟩ := cellI e1 hIj
        have eip : ∀ Q, NN ip Q = NN (some ⟨bb, oo, none⟩) Q := fun Q => by rw [hip]
        simp only [eip, NN_some, addN, Nat.mul_one, hci, exI]
        refine ⟨hj0, by omega, ifF (by simp) ⟨hj0, by omega, bj.get fun z2 b2 f2 => ?_⟩⟩
        rw [hat.get]
        have hI2 := f2.sl hIj (fun _ h => h)
        have b2d := b2.keep (drw_upd z2)
        obtain ⟨c1, c2⟩ := hcell _ b2d.U
        simp only [NN_some, addA, c1, c2, exStr, exI]
        refine ⟨hj0, hc3, hj0, hc3, b2d.find fun z3 b3 f3 => ?_⟩
        rw [hat.find b3.tl.atm b3.atm]
        have hI3 := f3.sl hI2.drw (fun _ h => h)
        obtain ⟨c1, c2⟩ := hcell _ b3.U
        obtain ⟨bb3, oo3, hip3, hci3⟩ := cellI e1 hI3
        have hbb : bb3 = bb ∧ oo3 = oo := by rw [hip] at hip3; simp at hip3; exact ⟨hip3.1.symm, hip3.2.symm⟩
        obtain ⟨rfl, rfl⟩ := hbb
        refine ifF rfl ⟨hj0, hc3, ?_⟩
        simp only [c1, c2, exStr, exI, hci3, strEq]
        exact ifF (by simp) ⟨hj0, hc3, ifF (by simp) (ifF rfl ⟨hj0, by omega, ifF (by simp) (go b3 hI3)⟩)⟩
    unfold B_law05_FunctorKeeps_L2
    dsimp only
    refine ifC (fun hc => ifC (fun hc2 => ?_) (fun _ => last)) (fun _ => last)
    clear last
    simp at hc2
    unfold F_law05_FunctorKeeps_L3
    refine ⟨fun s z => 0 ≤ s.i_1 ∧ s.i_1 ≤ n + 1 ∧ s.i_1 % 2 = 0 ∧ ∃ FL d, Bf w z F a fa L made 16384 FL 16384 d ∧ SlAt z 1 ip iN ic (I.map (.int .i64)) F ∧ Ev os I L FL s.i_1.toNat, fun s _ => (n + 1 - s.i_1).toNat, ⟨by simp, by simp; omega, by simp, FL, d, b, hI, hev⟩, ?_⟩
    clear hev b hI
    clear d FL
    rintro ⟨j⟩ z1 ⟨hj0, hj1, hj2, FL, d, b, hI, hev⟩
    dsimp only at hj0 hj1 hj2 hev
    unfold B_law05_FunctorKeeps_L3
    dsimp only
    refine ifC (fun hc3 => ?_) (fun hc3 => ?_)
    · simp at hc3
      have hjI : j.toNat < I.length := by omega
      obtain ⟨bb, oo, hip, hci⟩ := hI.cell (i := j.toNat) (by omega)
      rw [List.getElem?_map, List.getElem?_eq_getElem hjI] at hci
      simp only [Option.map_some] at hci
      have eip : ∀ Q, NN ip Q = NN (some ⟨bb, oo, none⟩) Q := fun Q => by rw [hip]
      simp only [eip, NN_some, addN, Nat.mul_one, hci, exI]
      refine ⟨hj0, by omega, b.mark fun z2 d2 b2 f2 => ?_⟩
      rw [i64id (by omega) (by omega)]
      have := hev.mark (by omega) (List.getElem?_eq_getElem hjI)
      refine ⟨⟨by omega, by omega, by omega, _, d2, b2, f2.sl hI (fun _ h => h), ?_⟩, by omega⟩
      rw [show (j + 2).toNat = j.toNat + 2 by omega]
      exact this
    · simp at hc3
      have ev1 := hev.sweep (by omega)
      refine b.sweep fun z2 d2 b2 f2 => b2.atomsAll fun z3 b3 f3 => b3.tl.sweep fun z4 t4 g4 => ?_
      obtain ⟨b4, f4⟩ := b3.name t4 g4
      have ev2 := ev1.names
      refine b4.put (by omega) fun z5 d5 b5 f5 => ?_
      have hpm := put_made 16384 made (swL (mkA L (namesF (Fn.swL FL FL.length))) (mkA L (namesF (Fn.swL FL FL.length))).length) 16384 (Fn.swL FL FL.length) ⟨#[111, 116, 104, 101, 114]⟩ (IntKind.i64.wrap (1 + q))
      rw [i64id (x := q + 1) (by omega) (by omega)]
      have h5 := f5.sl (f4.sl (f3.sl (f2.sl hI (fun _ h => h)) (fun _ h => h)) (fun _ h => h)) (fun _ h => h)
      exact ⟨⟨by omega, by omega, _, _, _, d5, b5, h5, by omega, by omega, ev2.put⟩, by omega⟩

end Go.Proofs.Ytlngmelfjiemlaa
