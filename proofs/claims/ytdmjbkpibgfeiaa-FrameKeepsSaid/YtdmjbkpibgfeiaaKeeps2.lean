/- What a choice keeps is as it was behind Restore: the law. -/
import Derived.Test.YtdmjbkpibgfeiaaKeeps
namespace Go.Proofs.Ytdmjbkpibgfeiaa
open Go Go.D Go.Proofs
set_option linter.unusedSimpArgs false
set_option linter.unusedVariables false
set_option maxRecDepth 8000

theorem FrameKeeps_law {w : World} {p q : Option Addr} {n c m e : Nat} {ls ms : List Value} (hl : Rd w 14 p n ls) (ho : Ops ls n) (hm : Rd w 14 q m ms) (hmo : Ops ms m) :
    C_law22_FrameKeeps p n c q m e w fun r w' => r = true ∧ Upd [] w w' := by
  apply C_law22_FrameKeeps.of
  unfold F_law22_FrameKeeps F_law22_FrameKeeps_L1 F_law22_FrameKeeps_L2 F_law22_FrameKeeps_L3
  refine FNew_ok (by omega) (by omega) (by omega) (by omega) fun d w1 f1 ok1 hl1 he1 hW1 hwl1 hlim1 htop1 u1 n1 => lives_ok fun w2 u2 => ifF rfl (ifF rfl (ifF rfl ?_))
  have U2 := u1.after u2
  -- the first calls
  refine ⟨fun s v => 0 ≤ s.i ∧ s.i ≤ 30 ∧ ∃ d' cur lev, d'.a = d.a ∧ d'.lim = 100 ∧ Fr v d' ∧ Ok d' cur lev ∧ (lev.length : Int) ≤ s.i ∧ Upd [] w v ∧ Since d'.F w, fun s _ => (30 - s.i).toNat, ⟨by simp, by simp, d, [], [], rfl, hlim1, f1.keep u2, ok1, by simp, U2, n1⟩, ?_⟩
  rintro ⟨i⟩ v ⟨hi0, hi1, d', cur, lev, ha, hlim, f, ok, hlv, U, N⟩
  dsimp only at hi0 hi1 hlv
  unfold B_law22_FrameKeeps_L1
  dsimp only
  rw [← ha]
  have next : (F_law22_FrameKeeps_k1 (fun r w' => r = true ∧ Upd [] w w') v → False) := fun h => by cases h.1
  clear next
  have tail : BSl Try.prog 32 2 [(0, .int .u64 1), (1, .int .u64 2)] v fun t44P t44N t44C w1_5 =>
      C_frame_Stack_Push d'.a (2 : Int) t44P t44N t44C (0 : Int) (0 : Int) (0 : Int) (7 : Int) (0 : Int) (0 : Int) (0 : Int) w1_5 fun t46 w1_6 =>
      If (t46 != (0 : Int))
      ((fun r w' => r = true ∧ Upd [] w w') false w1_6)
      (C_frame_Stack_Env d'.a w1_6 fun t50 w1_7 =>
      C_frame_Stack_Chain d'.a t50 w1_7 fun t51P t51N t51C w1_8 =>
      C_frame_Stack_Env d'.a w1_8 fun t53 w1_9 =>
      C_frame_Stack_Depth d'.a w1_9 fun t55 w1_10 =>
      LoopS (fun s wz Kn => B_law22_FrameKeeps_L2 q m e d'.a t51P t51N t51C t53 t55 s wz Kn (fun w1_15 =>
      LoopS (fun s wz Kn => B_law22_FrameKeeps_L3 d'.a t51P t51N t51C t53 t55 s wz Kn (fun w1_18 =>
      C_frame_Stack_Restore d'.a w1_18 fun t105 w1_19 =>
      If (t105 == (0 : Int))
      (C_frame_Stack_Env d'.a w1_19 fun t109 w1_20 =>
      If (t109 == t53)
      (C_frame_Stack_Chain d'.a t53 w1_20 fun t116P t116N t116C w1_21 =>
      C_ref22_SameFrames t116P t116N t116C t51P t51N t51C w1_21 fun t118 w1_22 =>
      (fun r w' => r = true ∧ Upd [] w w') t118 w1_22)
      (F_law22_FrameKeeps_k4 (fun r w' => r = true ∧ Upd [] w w') w1_20))
      (F_law22_FrameKeeps_k4 (fun r w' => r = true ∧ Upd [] w w') w1_19))) ⟨(0 : Int)⟩ w1_15)) ⟨(0 : Int)⟩ w1_10) := by
    have hll := lev_len ok.tops
    refine BSlL_rule eS_32 [.int .u64 1, .int .u64 2] (by rfl) (by simp [Value.cells]) (by rfl) (by omega) fun w3 hs3 u3 => ?_
    have f3 := f.keep u3
    have hs3' : SlAt w3 1 (some ⟨v.heap.size, 0, none⟩) 2 2 (([1, 2] : List Int).map (.int .u64)) [v.heap.size] := hs3
    refine Push_ok' (ch := { kind := 2, c2 := 0, c3 := 0, c4 := 0, c5 := 7, c6 := 0, env := 0, top := 0, args := [1, 2] }) f3 ok (by omega) (Cloned.own hs3' (by simp)) fun w4 x pp pc G H hx f4 u4 s4 => ifF rfl ?_
    obtain ⟨ok4, htop4, hk4⟩ := ok.push (x := x) (p := pp) (c := pc) (G := G) (H := H) hx (by omega)
    have U4 := (U.after u3).fresh u4 N
    have N4 := N.step s4 (Nat.le_trans U.size u3.size)
    obtain ⟨d4, e4⟩ : ∃ d4, d4 = d'.push x pp pc G H := ⟨_, rfl⟩
    have ha4 : d'.a = d4.a := by rw [e4]; rfl
    have he4 : d4.env = d'.env := by rw [e4]; rfl
    have hW4 : d4.W = d'.W := by rw [e4]; rfl
    have hlim4 : d4.lim = 100 := by rw [e4]; exact hlim
    have hdl4 : d4.l.length = d'.l.length + 1 := by rw [e4]; show (d'.l ++ [x]).length = _; simp
    rw [← e4] at f4 ok4 htop4 hk4 N4
    clear e4
    rw [ha4]
    have hcur : ChainL d4.W cur d'.env d'.top := by rw [hW4]; exact ok.lv.1
    refine Env_ok f4 ?_
    rw [he4]
    -- its chain
    have told : ∀ {w' : World} {dd : FrD} {lv : List Level} {K : Option Addr → Nat → Nat → World → Prop}, Fr w' dd → Ok dd cur lv → dd.env = d'.env → (∀ p n c F w'', FrsAt w'' p n c (cur.map (frameOf dd.W)) F → Fr w'' dd → Upd dd.F w' w'' → Since F w' → K p n c w'') → C_frame_Stack_Chain dd.a d'.env w' K := by
      intro w' dd lv K ff oo ee hK
      by_cases hne : cur = []
      · have hc := oo.lv.1
        rw [hne, ee] at hc
        have he : d'.env = -1 := hc
        refine Chain_no ff oo ?_ fun w'' f'' u'' => ?_
        · rintro ⟨z, hz, hx⟩
          have := (oo.node _ ⟨z, hz, hx⟩)
          have h1 := oo.lv.le (t := dd.top) (by intro q hq; simp at hq; subst hq; exact Int.le_refl _) z hz _ hx
          omega
        · refine hK none 0 0 [] w'' ?_ f'' u'' (by intro k hk; cases hk)
          rw [hne]; exact FrsAt.nil _
      · have hc := oo.lv.1
        rw [ee] at hc
        have hmem : d'.env ∈ cur := by
          rcases cur with _ | ⟨z, zs⟩
          · exact absurd rfl hne
          · rw [hc.1]; simp
        exact Chain_at ff oo hc ⟨_, List.mem_cons_self, hmem⟩ (fun z hz => ⟨_, List.mem_cons_self, hz⟩) oo.topl hK
    refine told f4 ok4 he4 fun p5 n5 c5 F5 w5 h5 f5 u5 nF5 => ?_
    have U5 := U4.fresh u5 N4
    refine Env_ok f5 (Depth_ok f5 ?_)
    rw [he4]
    have NF5 : Since F5 w := fun k hk => by have := nF5 k hk; have := U4.size; omega
    have D5 : Dis F5 d4.F := fun k hk hx => by have := nF5 k hk; have := f4.inn k hx; omega
    -- the other calls
    have hT : ((cur, d'.env, d'.top) :: lev = [] ∧ d'.top ≤ 0) ∨ ∃ c e r, (cur, d'.env, d'.top) :: lev = (c, e, d'.top) :: r := .inr ⟨_, _, _, rfl⟩
    refine ⟨fun s v => 0 ≤ s.i_1 ∧ s.i_1 ≤ 30 ∧ ∃ dd cc ll, dd.a = d4.a ∧ dd.lim = 100 ∧ Fr v dd ∧ Ok dd cc ll ∧ (∃ pre, ll = pre ++ (cur, d'.env, d'.top) :: lev) ∧ (∀ j : Nat, (j : Int) < d'.top → dd.W[j]? = d4.W[j]?) ∧ (ll.length : Int) ≤ lev.length + 1 + s.i_1 ∧ Upd [] w v ∧ Since dd.F w ∧ FrsAt v p5 n5 c5 (cur.map (frameOf d4.W)) F5 ∧ Dis F5 dd.F, fun s _ => (30 - s.i_1).toNat, ⟨by simp, by simp, d4, cur, _, rfl, hlim4, f5, ok4, ⟨[], rfl⟩, fun _ _ => rfl, by simp, U5, N4, h5, D5⟩, ?_⟩
    rintro ⟨i2⟩ v2 ⟨hi0', hi1', dd, cc, ll, hda, hdlim, fd, okd, hpre, hWd, hlld, Ud, Nd, hfd, Dd⟩
    dsimp only at hi0' hi1' hlld
    unfold B_law22_FrameKeeps_L2
    dsimp only
    rw [← hda]
    have hlld2 := lev_len okd.tops
    have hlld4 := lev_len ok4.tops
    simp at hlld4
    have leave : LoopS (fun s w' Kn => B_law22_FrameKeeps_L3 dd.a p5 n5 c5 d'.env (d4.l.length : Int) s w' Kn (fun w1_18 =>
        C_frame_Stack_Restore dd.a w1_18 fun t105 w1_19 =>
        If (t105 == (0 : Int))
        (C_frame_Stack_Env dd.a w1_19 fun t109 w1_20 =>
        If (t109 == d'.env)
        (C_frame_Stack_Chain dd.a d'.env w1_20 fun t116P t116N t116C w1_21 =>
        C_ref22_SameFrames t116P t116N t116C p5 n5 c5 w1_21 fun t118 w1_22 =>
        (fun r w' => r = true ∧ Upd [] w w') t118 w1_22)
        (F_law22_FrameKeeps_k4 (fun r w' => r = true ∧ Upd [] w w') w1_20))
        (F_law22_FrameKeeps_k4 (fun r w' => r = true ∧ Upd [] w w') w1_19))) ⟨(0 : Int)⟩ v2 := by
      refine ⟨fun s v => 0 ≤ s.i_2 ∧ s.i_2 ≤ 100 ∧ ∃ dd' cc' pre, dd'.a = dd.a ∧ dd'.W = dd.W ∧ Fr v dd' ∧ Ok dd' cc' (pre ++ (cur, d'.env, d'.top) :: lev) ∧ (pre.length : Int) + s.i_2 ≤ 100 ∧ Upd [] w v ∧ Since dd'.F w ∧ FrsAt v p5 n5 c5 (cur.map (frameOf d4.W)) F5 ∧ Dis F5 dd'.F, fun s _ => (100 - s.i_2).toNat, ?_, ?_⟩
      · obtain ⟨pre, rfl⟩ := hpre
        simp at hlld
        exact ⟨by simp, by simp, dd, cc, pre, rfl, rfl, fd, okd, by simp; omega, Ud, Nd, hfd, Dd⟩
      rintro ⟨i3⟩ v3 ⟨hj0, hj1, d3, c3, pre, ha3, hW3, f3, ok3, hp3, U3, N3, hf3, D3⟩
      dsimp only at hj0 hj1 hp3
      unfold B_law22_FrameKeeps_L3
      dsimp only
      rw [← ha3]
      have hl3 := lev_len ok3.tops
      simp at hl3
      -- all are dropped
      have fin : pre = [] → C_frame_Stack_Restore d3.a v3 fun t105 w1_19 =>
          If (t105 == (0 : Int))
          (C_frame_Stack_Env d3.a w1_19 fun t109 w1_20 =>
          If (t109 == d'.env)
          (C_frame_Stack_Chain d3.a d'.env w1_20 fun t116P t116N t116C w1_21 =>
          C_ref22_SameFrames t116P t116N t116C p5 n5 c5 w1_21 fun t118 w1_22 =>
          (fun r w' => r = true ∧ Upd [] w w') t118 w1_22)
          (F_law22_FrameKeeps_k4 (fun r w' => r = true ∧ Upd [] w w') w1_20))
          (F_law22_FrameKeeps_k4 (fun r w' => r = true ∧ Upd [] w w') w1_19) := by
        rintro rfl
        refine Restore_ok f3 ok3.len40 (by omega) fun w6 f6 u6 => ifT rfl ?_
        obtain ⟨y, rr, hyr, ok6, _⟩ := ok3.restored (by omega)
        simp at hyr
        obtain ⟨rfl, rfl⟩ := hyr
        have ha6 : d3.a = d3.restored.a := rfl
        have he6 : d3.restored.env = d'.env := by
          show (d3.tops.head?.getD (0, 0)).1 = _
          rw [← ok3.tops]; rfl
        have hF6 : d3.restored.F = d3.F := rfl
        rw [ha6]
        refine Env_ok f6 (ifT (by simp [he6]) (told f6 ok6 he6 fun p7 n7 c7 F7 w7 h7 f7 u7 nF7 => ?_))
        have hf6 := hf3.upd u6 D3
        have hf7 := hf6.upd u7 D3
        have U7 := (U3.fresh u6 N3).fresh u7 N3
        have eW : ∀ b ∈ cur, frameOf d3.W b = frameOf d4.W b := fun b hb => by
          obtain ⟨a1, a2, a3⟩ := hcur.mem b hb
          rw [hW3]
          exact frameOf_eq (T := d'.top) a1 a2 a3 hWd
        have e7 : cur.map (frameOf d3.restored.W) = cur.map (frameOf d4.W) := List.map_congr_left eW
        rw [e7] at h7
        have hsm : ∀ x ∈ cur.map (frameOf d4.W), x.args.length < 2 ^ 40 := by
          intro x hx
          obtain ⟨b, hb, rfl⟩ := List.mem_map.1 hx
          obtain ⟨a1, a2, a3⟩ := hcur.mem b hb
          show (rowOf d4.W b).length < 2 ^ 40
          have ht := ok4.topl
          have := ok4.Wl
          have := ok4.wl
          rw [htop4] at ht
          rw [rowOf_len a1 a2 (by omega)]; omega
        have hcl : (cur.map (frameOf d4.W)).length < 2 ^ 40 := by
          rw [List.length_map]
          have ht := ok4.topl
          have := ok4.Wl
          have := ok4.wl
          rw [htop4] at ht
          rcases hcur.len with h1 | h1
          · rw [h1]; simp
          · omega
        exact SameFrames_ok (h7.rd hsm) (hf7.rd hsm) hcl fun w8 u8 => ⟨rfl, U7.after u8⟩
      refine ifC (fun hc => Depth_ok f3 (ifC (fun hc2 => ?_) (fun hc2 => fin ?_))) (fun hc => fin ?_)
      · simp at hc hc2
        have hpre0 : pre ≠ [] := by
          rintro rfl
          simp at hl3; omega
        refine Drop_ok f3 ok3.len40 (by omega) fun w6 H6 f6 hH6 u6 => ?_
        obtain ⟨y, rr, hyr, ok6, _⟩ := ok3.dropped (by omega) H6
        rcases pre with _ | ⟨z, pre⟩
        · exact absurd rfl hpre0
        simp at hyr
        obtain ⟨rfl, rfl⟩ := hyr
        have hFs : ∀ k ∈ (d3.dropped H6).F, k ∈ d3.F := by
          intro k hk
          simp only [FrD.F, FrD.dropped, List.mem_cons, List.mem_append] at hk ⊢
          rcases hk with h1 | h1 | h1 | h1
          · simp [h1]
          · simp [h1]
          · simp [h1]
          · simp [hH6 k h1]
        rw [i64id (by omega) (by omega)]
        simp at hp3
        exact ⟨⟨by omega, by omega, d3.dropped H6, c3, pre, rfl, hW3, f6, ok6, by omega, U3.fresh u6 N3, fun k hk => N3 k (hFs k hk), hf3.upd u6 D3, fun k hk hx => D3 k hk (hFs k hx)⟩, by simp; omega⟩
      · simp at hc2
        exact List.eq_nil_of_length_eq_zero (by omega)
      · simp at hc
        exact List.eq_nil_of_length_eq_zero (by omega)
    refine ifC (fun hc => ifC (fun hc2 => ?_) (fun _ => leave)) (fun _ => leave)
    simp at hc hc2
    obtain ⟨x, o, hx, _, hcell⟩ := Ops.get (hm.keep Ud) hmo (i := i2.toNat) (by omega)
    subst hx
    have g : ∀ j, j < 14 → (x.add (i2.toNat * 14)).add j = x.add (i2.toNat * 14 + j) := fun j _ => addA x _ j
    have skip : F_law22_FrameKeeps_k3 ⟨i2⟩ (fun s' w' => (fun s v => 0 ≤ s.i_1 ∧ s.i_1 ≤ 30 ∧ ∃ dz cc ll, dz.a = dd.a ∧ dz.lim = 100 ∧ Fr v dz ∧ Ok dz cc ll ∧ (∃ pre, ll = pre ++ (cur, d'.env, d'.top) :: lev) ∧ (∀ j : Nat, (j : Int) < d'.top → dz.W[j]? = d4.W[j]?) ∧ (ll.length : Int) ≤ lev.length + 1 + s.i_1 ∧ Upd [] w v ∧ Since dz.F w ∧ FrsAt v p5 n5 c5 (cur.map (frameOf d4.W)) F5 ∧ Dis F5 dz.F : S_law22_FrameKeeps_L2 → World → Prop) s' w' ∧ (30 - s'.i_1).toNat < (30 - i2).toNat) v2 := by
      unfold F_law22_FrameKeeps_k3
      dsimp only
      rw [i64id (by omega) (by omega)]
      exact ⟨⟨by omega, by omega, dd, cc, ll, rfl, hdlim, fd, okd, hpre, hWd, by omega, Ud, Nd, hfd, Dd⟩, by omega⟩
    have go : (o.kind = 4 → d'.top ≤ 0) → (o.kind = 8 → ((cur, d'.env, d'.top) :: lev).length < ll.length ∨ ll.length = 0) → F_law22_FrameKeeps_k2 ⟨i2⟩ (fun s' w' => (fun s v => 0 ≤ s.i_1 ∧ s.i_1 ≤ 30 ∧ ∃ dz cc ll, dz.a = dd.a ∧ dz.lim = 100 ∧ Fr v dz ∧ Ok dz cc ll ∧ (∃ pre, ll = pre ++ (cur, d'.env, d'.top) :: lev) ∧ (∀ j : Nat, (j : Int) < d'.top → dz.W[j]? = d4.W[j]?) ∧ (ll.length : Int) ≤ lev.length + 1 + s.i_1 ∧ Upd [] w v ∧ Since dz.F w ∧ FrsAt v p5 n5 c5 (cur.map (frameOf d4.W)) F5 ∧ Dis F5 dz.F : S_law22_FrameKeeps_L2 → World → Prop) s' w' ∧ (30 - s'.i_1).toNat < (30 - i2).toNat) (some x) m dd.a v2 := by
      intro hk4 hk8
      unfold F_law22_FrameKeeps_k2 F_law22_FrameKeeps_k3
      dsimp only
      simp only [NN_some, addA, hcell 0 (by omega), hcell 1 (by omega), hcell 2 (by omega), hcell 3 (by omega), hcell 4 (by omega), hcell 5 (by omega), hcell 6 (by omega), hcell 7 (by omega), hcell 8 (by omega), hcell 9 (by omega), hcell 10 (by omega), hcell 11 (by omega), hcell 12 (by omega), hcell 13 (by omega), OpV.cells, List.getElem?_cons_zero, List.getElem?_cons_succ, exI, exS]
      refine ⟨hi0', hc, step_ok hT fd okd hpre hWd hk4 hk8 fun w6 d6 c6 l6 f6 ok6 ha6 hlim6 hpre6 hW6 hl6 u6 s6 => ?_⟩
      rw [i64id (by omega) (by omega)]
      exact ⟨⟨by omega, by omega, d6, c6, l6, ha6, hlim6.trans hdlim, f6, ok6, hpre6, hW6, by omega, Ud.fresh u6 Nd, Nd.step s6 Ud.size, hfd.upd u6 Dd, (Dd.symm.step s6 hfd.inn).symm⟩, by omega⟩
    have hc0 := hcell 0 (by omega)
    simp only [OpV.cells, List.getElem?_cons_zero] at hc0
    simp only [NN_some, addA, hc0, exI]
    refine ⟨hi0', hc, ifC (fun _ => skip) (fun hk4 => ⟨hi0', hc, ifC (fun hk8 => Depth_ok fd (ifC (fun _ => skip) (fun hd => go ?_ ?_))) (fun hk8 => go ?_ ?_)⟩)⟩
    · simp at hk4; intro h; exact absurd h hk4
    · simp at hd
      intro _
      left
      rw [hlld2]; simp; omega
    · simp at hk4; intro h; exact absurd h hk4
    · simp at hk8; intro h; exact absurd h hk8
  refine ifC (fun hc => ifC (fun hc2 => ?_) (fun _ => tail)) (fun _ => tail)
  simp at hc hc2
  obtain ⟨x, o, hx, _, hcell⟩ := Ops.get (hl.keep U) ho (i := i.toNat) (by omega)
  subst hx
  simp only [NN_some, addA, hcell 0 (by omega), hcell 1 (by omega), hcell 2 (by omega), hcell 3 (by omega), hcell 4 (by omega), hcell 5 (by omega), hcell 6 (by omega), hcell 7 (by omega), hcell 8 (by omega), hcell 9 (by omega), hcell 10 (by omega), hcell 11 (by omega), hcell 12 (by omega), hcell 13 (by omega), OpV.cells, List.getElem?_cons_zero, List.getElem?_cons_succ, exI, exS]
  refine ⟨hi0, hc, step_ok (lev0 := []) (T := 0) (W0 := []) (.inl ⟨rfl, by omega⟩) f ok ⟨lev, by simp⟩ (fun j hj => by omega) (fun _ => by omega) (fun _ => by rcases lev with _ | ⟨_, _⟩ <;> simp) fun w6 d6 c6 l6 f6 ok6 ha6 hlim6 hpre6 hW6 hl6 u6 s6 => ?_⟩
  rw [i64id (by omega) (by omega)]
  exact ⟨⟨by omega, by omega, d6, c6, l6, ha6, hlim6.trans hlim, f6, ok6, by omega, U.fresh u6 N, N.step s6 U.size⟩, by omega⟩

end Go.Proofs.Ytdmjbkpibgfeiaa
