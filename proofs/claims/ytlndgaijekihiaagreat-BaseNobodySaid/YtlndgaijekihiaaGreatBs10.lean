/- A base is turned: each part by itself. -/
import Derived.Test.YtlndgaijekihiaaGreatBs5
namespace Go.Proofs.YtlndgaijekihiaaGreat
open Go Go.D Go.Proofs
set_option linter.unusedSimpArgs false
set_option linter.unusedVariables false
set_option maxRecDepth 8000

section
variable {w w' : World} {d : BsD} {k : PKey} {t t' : Ix.TbD}

theorem Bs.once (h : Bs w d) : (d.PT.map (·.1)).Nodup := by
  unfold List.Nodup
  rw [List.pairwise_map]
  exact h.TT.imp fun g => g.1

theorem Bs.isT (h : Bs w d) (ht : findP d.PT k = some t) : ∀ x ∈ d.PT, x.1 = k → x.2 = t := fun x hx e => by
  have := findP_of h.once (k := x.1) (t := x.2) hx
  rw [e, ht] at this
  cases this; rfl

/-- What is kept grows. -/
theorem Bs.more (h : Bs w d) (u : Upd [] w w') {Y : List Nat} (hY : Since Y w) (hin : In Y w') : Bs w' { d with Z := Y ++ d.Z } := by
  have h' := h.keep u
  have sub : ∀ k ∈ d.Z, k ∈ Y ++ d.Z := fun k hk => by simp [hk]
  refine ⟨h'.blk, h'.row, fun s hs => ?_, h'.map, h'.tb, h'.bG, h'.rG, h'.bT, h'.TT, fun k hk hx => ?_, fun k hk => ?_⟩
  · obtain ⟨a, b, c, e⟩ := h'.hd s hs
    exact ⟨a, RdA.sub sub _ b, c.sub sub, e.sub sub⟩
  · rcases List.mem_append.1 hk with g | g
    · have := hY k g; have := h.lowG k hx; omega
    · exact h.Zd k g hx
  · rcases List.mem_append.1 hk with g | g
    · exact hin k g
    · exact h'.Zi k g

/-- The generation. -/
theorem Bs.setGen (h : Bs w d) {g : Int} (u : Upd [d.b] w w') (b : Blk w' d.b #[.int .i64 d.limit, .int .i64 g, .slice d.p d.S.length d.c, .slice none 0 0, .map (some d.r)]) : Bs w' { d with gen := g } := by
  have hb := h.bG
  simp only [List.mem_cons, not_or] at hb
  have nZ : Dis d.Z [d.b] := fun k hk hx => by simp at hx; subst hx; exact h.Zd _ hk (by simp [BsD.F])
  refine ⟨b, h.row.upd u (fun k hk hx => by simp at hx; subst hx; exact hb.2 hk), fun s hs => ?_, h.map.upd u (by simpa using Ne.symm hb.1), fun x hx => (h.tb x hx).upd u fun k hk hx' => ?_, h.bG, h.rG, h.bT, h.TT, h.Zd, h.Zi.upd u⟩
  · obtain ⟨a, b, c, e⟩ := h.hd s hs
    exact ⟨a, RdA.upd' u nZ b, c.upd u nZ, e.upd u nZ⟩
  · simp at hx'; subst hx'
    exact h.bT x hx _ (by simp) hk

/-- A table was turned. -/
theorem Bs.setTab (h : Bs w d) (ht : findP d.PT k = some t) (u : Upd t.FT w w') (tb : Ix.Tb w' t') (ea : t'.a = t.a) (sub : Sub t'.FT t.FT w) : Bs w' { d with PT := setP d.PT k t' } ∧ Upd d.F w w' ∧ Sub (BsD.F { d with PT := setP d.PT k t' }) d.F w := by
  have hm := findP_mem ht
  have his := h.isT ht
  have hP : setP d.PT k t' = d.PT.map fun x => if x.1 = k then (x.1, t') else x := by unfold setP; rw [if_pos (by rw [ht]; rfl)]
  have low := h.lowG
  have inT : ∀ x ∈ d.PT, ∀ j ∈ x.2.FT, j ∈ d.F := fun x hx j hj => by
    simp only [BsD.F, List.mem_cons, List.mem_append, List.mem_flatMap]
    exact .inr (.inr (.inr ⟨x, hx, hj⟩))
  have nT : Dis (d.b :: d.r :: d.G) t.FT := h.bT _ hm
  have nZ : Dis d.Z t.FT := fun j hj hx => h.Zd j hj (inT _ hm j hx)
  have other : ∀ x ∈ d.PT, x.1 ≠ k → Dis x.2.FT t.FT := fun x hx hne => by
    obtain ⟨i, hi, rfl⟩ := List.getElem_of_mem hx
    obtain ⟨j, hj, ej⟩ := List.getElem_of_mem hm
    have hp := List.pairwise_iff_getElem.1 h.TT
    rcases Nat.lt_trichotomy i j with g | g | g
    · have := (hp i j hi hj g).2
      rw [ej] at this; exact this
    · subst g; rw [ej] at hne; exact absurd rfl hne
    · have := (hp j i hj hi g).2
      rw [ej] at this; exact this.symm
  have memF : ∀ j ∈ BsD.F { d with PT := setP d.PT k t' }, j ∈ d.F ∨ w.heap.size ≤ j := fun j hj => by
    simp only [BsD.F, List.mem_cons, List.mem_append, List.mem_flatMap] at hj
    rcases hj with g | g | g | ⟨x, hx, g⟩
    · exact .inl (by simp [BsD.F, g])
    · exact .inl (by simp [BsD.F, g])
    · exact .inl (by simp [BsD.F, g])
    · rw [hP] at hx
      obtain ⟨y, hy, rfl⟩ := List.mem_map.1 hx
      by_cases e : y.1 = k
      · rw [if_pos e] at g
        rcases sub j g with a | a
        · exact .inl (inT _ hm j a)
        · exact .inr a
      · rw [if_neg e] at g
        exact .inl (inT _ hy j g)
  refine ⟨⟨h.blk.upd u (nT _ (by simp)), h.row.upd u (fun j hj => nT j (by simp [hj])), fun s hs => ?_, ?_, fun x hx => ?_, h.bG, h.rG, fun x hx => ?_, ?_, fun j hj hx => ?_, h.Zi.upd u⟩, u.mono fun j hj => .inl (inT _ hm j hj), memF⟩
  · obtain ⟨a, b, c, e⟩ := h.hd s hs
    exact ⟨a, RdA.upd' u nZ b, c.upd u nZ, e.upd u nZ⟩
  · have e : (setP d.PT k t').map (fun x => (x.1, Value.pointer x.2.a)) = d.PT.map fun x => (x.1, Value.pointer x.2.a) := by
      rw [hP, List.map_map]
      refine List.map_congr_left fun x hx => ?_
      by_cases ex : x.1 = k
      · simp only [Function.comp, if_pos ex, ea, his x hx ex]
      · simp only [Function.comp, if_neg ex]
    show MapAt w' d.r pkV ((setP d.PT k t').map fun x => (x.1, Value.pointer x.2.a))
    rw [e]
    exact h.map.upd u (nT _ (by simp))
  · rw [hP] at hx
    obtain ⟨y, hy, rfl⟩ := List.mem_map.1 hx
    by_cases e : y.1 = k
    · rw [if_pos e]; exact tb
    · rw [if_neg e]
      exact (h.tb y hy).upd u (other y hy e)
  · rw [hP] at hx
    obtain ⟨y, hy, rfl⟩ := List.mem_map.1 hx
    by_cases e : y.1 = k
    · rw [if_pos e]
      exact (nT.symm.step sub (fun j hj => low j (by simp only [BsD.F, List.mem_cons, List.mem_append] at hj ⊢; rcases hj with g | g | g <;> simp [g]))).symm
    · rw [if_neg e]; exact h.bT y hy
  · show (setP d.PT k t').Pairwise _
    rw [hP, List.pairwise_map]
    refine h.TT.imp_of_mem fun {x y} hx hy ⟨g1, g2⟩ => ?_
    have lowT : ∀ z ∈ d.PT, In z.2.FT w := fun z hz j hj => low j (inT z hz j hj)
    by_cases ex : x.1 = k
    · have ey : y.1 ≠ k := fun e => g1 (by rw [ex, e])
      rw [if_pos ex, if_neg ey]
      exact ⟨g1, (other y hy ey).symm.step sub (lowT y hy)⟩
    · by_cases ey : y.1 = k
      · rw [if_neg ex, if_pos ey]
        exact ⟨g1, ((other x hx ex).symm.step sub (lowT x hx)).symm⟩
      · rw [if_neg ex, if_neg ey]; exact ⟨g1, g2⟩
  · rcases memF j hx with g | g
    · exact h.Zd j hj g
    · have := h.Zi j hj; omega

/-- A new table. -/
theorem Bs.addTab {w1 : World} (h : Bs w d) (hn : findP d.PT k = none) (tb : Ix.Tb w t) (st : ∀ j ∈ t.FT, j ∉ d.F) (sz : ∀ j ∈ t.FT, j ∉ d.Z) (u : Upd [d.r] w w1) (hm : MapAt w1 d.r pkV (d.PT.map (fun x => (x.1, Value.pointer x.2.a)) ++ [(k, .pointer t.a)])) : Bs w1 { d with PT := d.PT ++ [(k, t)] } := by
  have hb := h.bG
  simp only [List.mem_cons, not_or] at hb
  have inT : ∀ x ∈ d.PT, ∀ j ∈ x.2.FT, j ∈ d.F := fun x hx j hj => by
    simp only [BsD.F, List.mem_cons, List.mem_append, List.mem_flatMap]
    exact .inr (.inr (.inr ⟨x, hx, hj⟩))
  have rF : d.r ∈ d.F := by simp [BsD.F]
  have nZ : Dis d.Z [d.r] := fun j hj hx => by simp at hx; subst hx; exact h.Zd _ hj rF
  have ntk : ∀ x ∈ d.PT, x.1 ≠ k := fun x hx e => by
    have := findP_in.2 (List.mem_map.2 ⟨x, hx, e⟩)
    rw [hn] at this; cases this
  refine ⟨h.blk.upd u (by simpa using hb.1), h.row.upd u (fun j hj hx => by simp at hx; subst hx; exact h.rG hj), fun s hs => ?_, ?_, fun x hx => ?_, h.bG, h.rG, fun x hx => ?_, ?_, fun j hj hx => ?_, h.Zi.upd u⟩
  · obtain ⟨a, b, c, e⟩ := h.hd s hs
    exact ⟨a, RdA.upd' u nZ b, c.upd u nZ, e.upd u nZ⟩
  · show MapAt w1 d.r pkV ((d.PT ++ [(k, t)]).map _)
    rw [List.map_append]
    exact hm
  · rcases List.mem_append.1 hx with g | g
    · exact (h.tb x g).upd u fun j hj hx' => by simp at hx'; subst hx'; exact h.bT x g _ (by simp) hj
    · simp at g; subst g
      exact tb.upd u fun j hj hx' => by simp at hx'; subst hx'; exact st _ hj rF
  · rcases List.mem_append.1 hx with g | g
    · exact h.bT x g
    · simp at g; subst g
      exact fun j hj hx' => st j hx' (by simp only [BsD.F, List.mem_cons, List.mem_append] at hj ⊢; rcases hj with g | g | g <;> simp [g])
  · refine List.pairwise_append.2 ⟨h.TT, by simp, fun x hx y hy => ?_⟩
    simp at hy; subst hy
    exact ⟨ntk x hx, fun j hj hx' => st j hx' (inT x hx j hj)⟩
  · have hx : j ∈ BsD.F { d with PT := d.PT ++ [(k, t)] } := hx
    simp only [BsD.F, List.mem_cons, List.mem_append, List.mem_flatMap, List.not_mem_nil, or_false] at hx
    rcases hx with g | g | g | ⟨x, g | g, e⟩
    · exact h.Zd j hj (by simp [BsD.F, g])
    · exact h.Zd j hj (by simp [BsD.F, g])
    · exact h.Zd j hj (by simp [BsD.F, g])
    · exact h.Zd j hj (inT x g j e)
    · subst g; exact sz j e hj

/-- A slot is put behind the others. -/
theorem take_ok {s : Slt} {K : World → Prop} (h : Bs w d) (hl : d.S.length < 2 ^ 30) (hs : s.h.s.size < 2 ^ 63 ∧ RdA w d.Z s.h.l s.q 0 ∧ GoalsA w d.Z s.gs s.g ∧ CodeA w d.Z s.code s.cp)
    (hK : ∀ w' p c G, Bs w' { d with S := d.S ++ [s], p := p, c := c, G := G } → Upd d.F w w' → Sub G d.G w → K w') :
    C_base_Base_take d.a d.S.length s.h.kind s.h.n s.h.s s.q s.h.l.length s.qc s.g s.gs.length s.gc s.vars s.cp s.code.length s.cc s.born s.dead true w K := by
  apply C_base_Base_take.of
  unfold F_base_Base_take
  refine New_rule fun r w1 hr u1 b1 => ?_
  have h1 := h.keep u1
  simp only [BsD.a, NN_some, addN, drw_cell, drw_heap, exS, exI, exB, exP, exM, exStr, exV, a0, a1, a2, a3, a4, a5, a6, a7, a8, a9, a10, a11, a12, a13, maxI_eq, Nat.zero_add, Nat.add_zero, Nat.mul_one, Option.isNone_some, Option.isNone_none, h1.blk.cell, b1.cell]
  refine ifT (by simp) ?_
  have ud := drw_upd w1
  have hd := h1.keep ud
  refine BSlL_rule eS_64 [.agg (slC s).toArray] (by rfl) (by simp [Value.cells, slC]) (by rfl) (by omega) fun w2 hs2 u2 => ?_
  have hs2' : SlAt w2 10 (some ⟨(drw w1).heap.size, 0, none⟩) 1 1 (slC s) [(drw w1).heap.size] := by simpa [Value.cells] using hs2
  have h2 := hd.keep u2
  refine ⟨by simp only [NN_some, addN, drw_cell, drw_heap, exS, exI, exB, exP, exM, exStr, exV, a0, a1, a2, a3, a4, a5, a6, a7, a8, a9, a10, a11, a12, a13, maxI_eq, Nat.zero_add, Nat.add_zero, Nat.mul_one, Option.isNone_some, Option.isNone_none, h2.blk.cell], ?_⟩
  refine App_rule (hE := eS_64) h2.row hs2' (fun v hv => slC_one (S := [s]) v (by simpa using hv)) (by omega) fun p3 c3 G3 w3 hs3 u3 g3 => ?_
  have hb := h.bG
  simp only [List.mem_cons, not_or] at hb
  refine St_rule (h2.blk.upd u3 hb.2) (by simp) rfl fun w4 u4 b4 => ?_
  simp at b4
  have U2 := (u1.after ud).after u2
  have low := h.lowG
  have s2 := U2.size
  have bG3 : d.b ∉ G3 := fun hx => by
    rcases g3 _ hx with g | g
    · exact hb.2 g
    · have := low d.b (by simp [BsD.F]); omega
  have rG3 : d.r ∉ G3 := fun hx => by
    rcases g3 _ hx with g | g
    · exact h.rG g
    · have := low d.r (by simp [BsD.F]); omega
  have V : Upd (d.b :: d.G) w2 w4 := u3.trans u4 (fun j hj => .inl (by simp [hj])) (fun j hj => .inl (by simp at hj; simp [hj]))
  have all : Upd (d.b :: d.G) w w4 := U2.trans V (by simp) (fun j hj => .inl hj)
  have nZ : Dis d.Z (d.b :: d.G) := fun j hj hx => h.Zd j hj (by simp only [BsD.F, List.mem_cons, List.mem_append] at hx ⊢; rcases hx with g | g <;> simp [g])
  have nT : ∀ x ∈ d.PT, Dis x.2.FT (d.b :: d.G) := fun x hx j hj hx' => h.bT x hx j (by simp only [List.mem_cons] at hx' ⊢; rcases hx' with g | g <;> simp [g]) hj
  have g3' : Sub G3 d.G w := g3.old (by omega)
  have inT : ∀ x ∈ d.PT, ∀ j ∈ x.2.FT, j ∈ d.F := fun x hx j hj => by
    simp only [BsD.F, List.mem_cons, List.mem_append, List.mem_flatMap]
    exact .inr (.inr (.inr ⟨x, hx, hj⟩))
  refine hK w4 p3 c3 G3 ⟨?_, ?_, fun x hx => ?_, h.map.upd all (by simp only [List.mem_cons, not_or]; exact ⟨Ne.symm hb.1, h.rG⟩), fun x hx => (h.tb x hx).upd all (nT x hx), ?_, rG3, fun x hx j hj hx' => ?_, h.TT, fun j hj hx => ?_, h.Zi.upd all⟩ (all.mono fun j hj => .inl (by simp only [BsD.F, List.mem_cons, List.mem_append] at hj ⊢; rcases hj with g | g <;> simp [g])) g3'
  · show Blk w4 d.b #[.int .i64 d.limit, .int .i64 d.gen, .slice p3 (d.S ++ [s]).length c3, .slice none 0 0, .map (some d.r)]
    rw [List.length_append, List.length_singleton]; exact b4
  · show SlAt w4 10 p3 (d.S ++ [s]).length c3 ((d.S ++ [s]).flatMap slC) G3
    rw [List.length_append, List.length_singleton, List.flatMap_append]
    have := hs3.upd u4 (fun j hj hx => by simp at hx; subst hx; exact bG3 hj)
    simpa using this
  · rcases List.mem_append.1 hx with g | g
    · obtain ⟨a, b, c, e⟩ := h.hd x g
      exact ⟨a, RdA.upd' all nZ b, c.upd all nZ, e.upd all nZ⟩
    · simp at g; subst g
      obtain ⟨a, b, c, e⟩ := hs
      exact ⟨a, RdA.upd' all nZ b, c.upd all nZ, e.upd all nZ⟩
  · show d.b ∉ d.r :: G3
    simp only [List.mem_cons, not_or]; exact ⟨hb.1, bG3⟩
  · have hj : j ∈ d.b :: d.r :: G3 := hj
    simp only [List.mem_cons] at hj
    rcases hj with g | g | g
    · exact h.bT x hx j (by simp [g]) hx'
    · exact h.bT x hx j (by simp [g]) hx'
    · rcases g3' j g with e | e
      · exact h.bT x hx j (by simp [e]) hx'
      · have := low j (inT x hx j hx'); omega
  · have hx : j ∈ d.b :: d.r :: (G3 ++ d.PT.flatMap fun x => x.2.FT) := hx
    simp only [List.mem_cons, List.mem_append, List.mem_flatMap] at hx
    rcases hx with g | g | g | ⟨x, g, e⟩
    · exact h.Zd j hj (by simp [BsD.F, g])
    · exact h.Zd j hj (by simp [BsD.F, g])
    · rcases g3' j g with e | e
      · exact h.Zd j hj (by simp [BsD.F, e])
      · have := h.Zi j hj; omega
    · exact h.Zd j hj (inT x g j e)

end

end Go.Proofs.YtlndgaijekihiaaGreat

/- A clause is killed; a clause is added. -/
namespace Go.Proofs.YtlndgaijekihiaaGreat
open Go Go.D Go.Proofs
set_option linter.unusedSimpArgs false
set_option linter.unusedVariables false
set_option maxRecDepth 8000

section
variable {w w' : World} {d : BsD} {k : PKey} {t t' : Ix.TbD}

theorem setSlt {L : List Slt} {p : Option Addr} {n c i j b off : Nat} {y : Slt} {v : Value} {F : List Nat} {K : World → Prop} (h : SlAt w 10 p n c (L.flatMap slC) F) (hi : i < L.length) (hp : p = some ⟨b, off, none⟩) (hj : j < 10) (hv : v.oneCell' = true) (hy : slC y = (slC L[i]).set j v)
    (hK : ∀ w', SlAt w' 10 p n c ((L.set i y).flatMap slC) F → Upd F w w' → K w') : St w ⟨b, off + (i * 10 + j), none⟩ v K := by
  have hn := h.1
  rw [flat_len slC_len] at hn
  rcases h.2.2 with ⟨hp', _⟩ | ⟨b', off', arr, hp', hF, hb, hs, hc⟩
  · rw [hp'] at hp; cases hp
  · rw [hp'] at hp
    cases hp
    have hc2 := h.2.1
    refine St_rule hb (by omega) hv fun w' u hb' => ?_
    subst hF
    refine hK w' ⟨by rw [flat_len slC_len, List.length_set]; omega, hc2, .inr ⟨b, off, _, hp', rfl, hb', by simpa using hs, fun q hq => ?_⟩⟩ u
    rw [← flat_set slC_len hi hj hy, List.getElem?_set, Array.getElem?_setIfInBounds]
    by_cases e : i * 10 + j = q
    · subst e
      rw [if_pos rfl, if_pos (by omega), if_pos rfl, if_pos (by rw [flat_len slC_len]; omega)]
    · rw [if_neg (by omega), if_neg e]
      exact hc q hq

theorem Kill_ok {id : Int} {K : Int → World → Prop} (h : Bs w d) (hg : d.gen < 2 ^ 40)
    (hno : ∀ w', Bs w' d → Upd [] w w' → ¬ (∃ i : Nat, id = i ∧ ∃ hi : i < d.S.length, d.S[i].dead = 0) → (∀ s ∈ d.S, 0 ≤ s.dead) → K 4 w')
    (hS : ∀ s ∈ d.S, 0 ≤ s.dead)
    (hyes : ∀ (i : Nat) (hi : i < d.S.length), id = i → d.S[i].dead = 0 → ∀ w', Bs w' { d with gen := d.gen + 1, S := d.S.set i { d.S[i] with dead := d.gen + 1 } } → Upd d.F w w' → K 0 w') (hg0 : 0 ≤ d.gen) : C_base_Base_Kill d.a id w K := by
  apply C_base_Base_Kill.of
  unfold F_base_Base_Kill
  refine may_ok h ?_
  by_cases g : 0 ≤ id ∧ id < d.S.length
  · rw [if_pos g]
    refine ifF rfl ?_
    obtain ⟨i, rfl⟩ : ∃ i : Nat, id = i := ⟨id.toNat, by omega⟩
    have hi : i < d.S.length := by omega
    obtain ⟨bb, off, hp, hbG, hc⟩ := h.at hi
    have c8 := hc 8 (by omega)
    simp only [slC, List.getElem?_cons_succ, List.getElem?_cons_zero] at c8
    have hd0 := hS _ (List.getElem_mem hi)
    simp only [BsD.a, NN_some, addN, drw_cell, drw_heap, exS, exI, exB, exP, exM, exStr, exV, a0, a1, a2, a3, a4, a5, a6, a7, a8, a9, a10, a11, a12, a13, maxI_eq, Nat.zero_add, Nat.add_zero, Nat.mul_one, Option.isNone_some, Option.isNone_none, h.blk.cell]
    rw [hp]
    refine ⟨by omega, by omega, ?_⟩
    simp only [NN_some, addN, drw_cell, drw_heap, exS, exI, exB, exP, exM, exStr, exV, a0, a1, a2, a3, a4, a5, a6, a7, a8, a9, a10, a11, a12, a13, maxI_eq, Nat.zero_add, Nat.add_zero, Nat.mul_one, Option.isNone_some, Option.isNone_none, Int.toNat_natCast, Nat.add_assoc, c8]
    refine ifC (fun g2 => ?_) (fun g2 => ?_)
    · have g2 := of_decide_eq_true g2
      exact hno w h (Upd.refl _ _) (fun ⟨j, e, hj, hd⟩ => by
        have : i = j := by omega
        subst this; omega) hS
    · have g2 := of_decide_eq_false g2
      have hdead : d.S[i].dead = 0 := by omega
      rw [i64id (by omega) (by omega)]
      have hb := h.bG
      simp only [List.mem_cons, not_or] at hb
      refine St_rule h.blk (by simp) rfl fun w1 u1 b1 => ?_
      simp at b1
      have h1 := h.setGen u1 b1
      have ud := drw_upd w1
      have h1d := h1.keep ud
      simp only [NN_some, addN, drw_cell, drw_heap, exS, exI, exB, exP, exM, exStr, exV, a0, a1, a2, a3, a4, a5, a6, a7, a8, a9, a10, a11, a12, a13, maxI_eq, Nat.zero_add, Nat.add_zero, Nat.mul_one, Option.isNone_some, Option.isNone_none, h1.blk.cell]
      have ep : (BsD.p { d with gen := d.gen + 1 }) = some ⟨bb, off, none⟩ := hp
      rw [show ({ d with gen := d.gen + 1 } : BsD).p = some ⟨bb, off, none⟩ from hp]
      refine ⟨by omega, by omega, ?_⟩
      simp only [NN_some, addN, drw_cell, drw_heap, exS, exI, exB, exP, exM, exStr, exV, a0, a1, a2, a3, a4, a5, a6, a7, a8, a9, a10, a11, a12, a13, maxI_eq, Nat.zero_add, Nat.add_zero, Nat.mul_one, Option.isNone_some, Option.isNone_none, Nat.add_assoc]
      refine setSlt (y := { d.S[i] with dead := d.gen + 1 }) h1d.row hi hp (by omega) rfl rfl fun w2 hr2 u2 => ?_
      have nZ : Dis d.Z d.G := fun j hj hx => h.Zd j hj (by simp [BsD.F, hx])
      have all : Upd (d.b :: d.G) w w2 := (u1.before ud).trans u2 (H := d.b :: d.G) (fun j hj => .inl (by simp at hj; simp [hj])) (fun j hj => .inl (by simp [hj]))
      have nT : ∀ x ∈ d.PT, Dis x.2.FT d.G := fun x hx j hj hx' => h.bT x hx j (by simp [hx']) hj
      refine hyes i hi rfl hdead w2 ⟨?_, ?_, fun s hs => ?_, h1d.map.upd u2 h.rG, fun x hx => (h1d.tb x hx).upd u2 (nT x hx), h.bG, h.rG, h.bT, h.TT, h.Zd, h1d.Zi.upd u2⟩ (all.mono fun j hj => .inl (by simp only [BsD.F, List.mem_cons, List.mem_append] at hj ⊢; rcases hj with g | g <;> simp [g]))
      · show Blk w2 d.b #[.int .i64 d.limit, .int .i64 (d.gen + 1), .slice d.p (d.S.set i _).length d.c, .slice none 0 0, .map (some d.r)]
        rw [List.length_set]
        exact h1d.blk.upd u2 hb.2
      · show SlAt w2 10 d.p (d.S.set i _).length d.c _ d.G
        rw [List.length_set]; exact hr2
      · obtain ⟨j, hj, rfl⟩ := List.getElem_of_mem hs
        rw [List.length_set] at hj
        have := h1d.hd _ (List.getElem_mem hj)
        obtain ⟨a, b, c, e⟩ := this
        have r := (⟨a, RdA.upd' u2 nZ b, c.upd u2 nZ, e.upd u2 nZ⟩ : (d.S[j]).h.s.size < 2 ^ 63 ∧ RdA w2 d.Z (d.S[j]).h.l (d.S[j]).q 0 ∧ GoalsA w2 d.Z (d.S[j]).gs (d.S[j]).g ∧ CodeA w2 d.Z (d.S[j]).code (d.S[j]).cp)
        rw [List.getElem_set]
        by_cases e : i = j
        · subst e; rw [if_pos rfl]; exact r
        · rw [if_neg e]; exact r
  · rw [if_neg g]
    exact ifT rfl (hno w h (Upd.refl _ _) (fun ⟨j, e, hj, _⟩ => g (by omega)) hS)

end

end Go.Proofs.YtlndgaijekihiaaGreat

/- A clause is added. -/
namespace Go.Proofs.YtlndgaijekihiaaGreat
open Go Go.D Go.Proofs
set_option linter.unusedSimpArgs false
set_option linter.unusedVariables false
set_option maxRecDepth 8000

theorem Ix.TbOk.more {d : Ix.TbD} {B : Int} (ok : Ix.TbOk d B) : Ix.TbOk d (B + 1) := ⟨ok.rising, ok.ids, ok.norm, ok.lo, ok.hi, by have := ok.b0; omega, ok.b1, by have := ok.b2; omega, ok.len⟩

/-- One more clause. -/
structure Added (d d' : BsD) (h : Tm) (gs : List GoalT) (vars : Int) (code : List InsT) (front : Bool) : Prop where
  a : d'.a = d.a
  limit : d'.limit = d.limit
  gen : d'.gen = d.gen + 1
  S : ∃ s : Slt, d'.S = d.S ++ [s] ∧ s.h = h ∧ s.gs = gs ∧ s.vars = vars ∧ s.code = code ∧ s.born = d.gen + 1 ∧ s.dead = 0
  ids : ∀ k', idsP d'.PT k' = if k' = (h.s, (h.l.length : Int)) then insI front (idsP d.PT (h.s, (h.l.length : Int))) d.S.length else idsP d.PT k'
  known : ∀ k', (findP d'.PT k').isSome = true ↔ k' = (h.s, (h.l.length : Int)) ∨ (findP d.PT k').isSome = true
  keys : d'.PT.map (·.1) = if (findP d.PT (h.s, (h.l.length : Int))).isSome = true then d.PT.map (·.1) else d.PT.map (·.1) ++ [(h.s, (h.l.length : Int))]

section
variable {w w' : World} {d : BsD} {k : PKey} {t t' : Ix.TbD} {F : List Nat}

theorem room_ok {K : Int → Bool → World → Prop} (h : Bs w d) (hK : ∀ w', Upd [] w w' → K d.S.length (decide ((d.S.length : Int) < d.limit)) w') : C_base_Base_room d.a w K := by
  apply C_base_Base_room.of
  unfold F_base_Base_room
  simp only [BsD.a, NN_some, addN, drw_cell, drw_heap, exS, exI, exB, exP, exM, exStr, exV, a0, a1, a2, a3, a4, a5, a6, a7, a8, a9, a10, a11, a12, a13, maxI_eq, Nat.zero_add, Nat.add_zero, Nat.mul_one, Option.isNone_some, Option.isNone_none, h.blk.cell]
  refine ifF (by simp) ?_
  exact ⟨trivial, trivial, hK _ (drw_upd w)⟩

theorem headT {h : Tm} {q : Option Addr} (hp : RdA w F h.l q 0) : ∃ key, Ix.HeadT w q h.l.length key := by
  by_cases hn : 0 < h.l.length
  · obtain ⟨x, q2, c2, f1, f2, f3, f4, f5, f6, f7, f8⟩ := hp.at 0 hn
    exact ⟨_, fun _ => ⟨x, _, _, _, _, _, _, f1, f3, f4, f5, f6, rfl⟩⟩
  · exact ⟨Ix.zk, fun h0 => absurd h0 (by omega)⟩

theorem Add_k1_ok {r : Nat} {h : Tm} {gs : List GoalT} {vars : Int} {code : List InsT} {hq gp cp : Option Addr} {hc gc cc : Nat} {front : Bool} {K : Int → Int → World → Prop}
    (hb : Bs w d) (tok : Ix.TbOk t d.gen) (ht : findP d.PT k = some t) (hlen : t.E.length < 4096) (hid : (d.S.length : Int) ∉ idsT t) (hg0 : 0 ≤ d.gen) (hg : d.gen < 2 ^ 40) (hSl : d.S.length < 2 ^ 30) (hF : In F w) (hFd : Dis F d.F)
    (hs : h.s.size < 2 ^ 63) (hp : RdA w F h.l hq 0) (hz : h.size < 2 ^ 29) (hgs : GoalsA w F gs gp) (hgz : ∀ g ∈ gs, g.2.size < 2 ^ 29) (hgl : gs.length < 2 ^ 20) (hcd : CodeA w F code cp) (hcl : code.length ≤ 2 ^ 20)
    (br : Blk w r #[.int .i64 h.kind, .int .i64 h.n, .string h.s, .slice hq h.l.length hc, .slice gp gs.length gc, .int .i64 vars]) (rF : r ∉ d.F)
    (hK : ∀ w' t' s p c G Y, idsT t' = insI front (idsT t) d.S.length → Ix.TbOk t' (d.gen + 1) → s.h = h → s.gs = gs → s.vars = vars → s.code = code → s.born = d.gen + 1 → s.dead = 0 → Bs w' { d with PT := setP d.PT k t', gen := d.gen + 1, Z := Y ++ d.Z, S := d.S ++ [s], p := p, c := c, G := G } → Upd d.F w w' → Since Y w → Sub (BsD.F { d with PT := setP d.PT k t', gen := d.gen + 1, Z := Y ++ d.Z, S := d.S ++ [s], p := p, c := c, G := G }) d.F w → K d.S.length 0 w') :
    F_base_Base_Add_k1 d.a cp code.length cc front K r d.S.length t.a w := by
  unfold F_base_Base_Add_k1
  have hm := findP_mem ht
  simp only [NN_some, addN, drw_cell, drw_heap, exS, exI, exB, exP, exM, exStr, exV, a0, a1, a2, a3, a4, a5, a6, a7, a8, a9, a10, a11, a12, a13, maxI_eq, Nat.zero_add, Nat.add_zero, Nat.mul_one, Option.isNone_some, Option.isNone_none, br.cell]
  obtain ⟨key, hh⟩ := headT hp
  refine Ix.First_ok hh fun w1 u1 => ?_
  have hb1 := hb.keep u1
  refine Ix.Add_ask (hb1.tb _ hm) tok (by omega) (fun hin => absurd hin hid) (fun _ hle => by omega) fun _ _ w2 t' tb' tok' ea eE u2 s2 => ?_
  obtain ⟨hb2, U2, S2⟩ := hb1.setTab ht u2 tb' ea s2
  obtain ⟨d2, hd2⟩ : ∃ d2, d2 = ({ d with PT := setP d.PT k t' } : BsD) := ⟨_, rfl⟩
  rw [← hd2] at hb2 S2
  have ea2 : d.a = d2.a := by rw [hd2]; rfl
  have eg : d2.gen = d.gen := by rw [hd2]
  have eS : d2.S = d.S := by rw [hd2]
  have V2 : Upd d.F w w2 := u1.after U2
  rw [ea2]
  simp only [BsD.a, NN_some, addN, drw_cell, drw_heap, exS, exI, exB, exP, exM, exStr, exV, a0, a1, a2, a3, a4, a5, a6, a7, a8, a9, a10, a11, a12, a13, maxI_eq, Nat.zero_add, Nat.add_zero, Nat.mul_one, Option.isNone_some, Option.isNone_none, hb2.blk.cell]
  rw [eg, i64id (by omega) (by omega)]
  refine St_rule hb2.blk (by simp) rfl fun w3 u3 b3 => ?_
  simp at b3
  have hb3 := hb2.setGen u3 b3
  have bF : d2.b ∈ d.F := by rw [hd2]; simp [BsD.F]
  have V3 : Upd d.F w w3 := V2.both (u3.mono fun j hj => .inl (by simp at hj; subst hj; exact bF))
  have ud := drw_upd w3
  have hb3d := hb3.keep ud
  have V3d := V3.before ud
  have nFF : Dis F d.F := hFd
  have br3 := br.upd V3d rF
  have bc : ∀ j, w3.cell? ⟨r, j, none⟩ = (#[Value.int .i64 h.kind, .int .i64 h.n, .string h.s, .slice hq h.l.length hc, .slice gp gs.length gc, .int .i64 vars] : Array Value)[j]? := fun j => by
    have := br3.cell j
    simpa using this
  simp only [NN_some, addN, drw_cell, drw_heap, exS, exI, exB, exP, exM, exStr, exV, a0, a1, a2, a3, a4, a5, a6, a7, a8, a9, a10, a11, a12, a13, maxI_eq, Nat.zero_add, Nat.add_zero, Nat.mul_one, Option.isNone_some, Option.isNone_none, bc, hb3.blk.cell]
  refine copyOf_ok (hF.upd V3d) hs (RdA.upd' V3d nFF hp) hz (hgs.upd V3d nFF) hgz hgl fun w4 q4 c4 p4 pc4 Y4 ra4 ga4 in4 sn4 u4 => ?_
  have hb4 := hb3d.keep u4
  refine ⟨by simp only [NN_some, addN, drw_cell, drw_heap, exS, exI, exB, exP, exM, exStr, exV, a0, a1, a2, a3, a4, a5, a6, a7, a8, a9, a10, a11, a12, a13, maxI_eq, Nat.zero_add, Nat.add_zero, Nat.mul_one, Option.isNone_some, Option.isNone_none, hb4.blk.cell], ?_⟩
  have V4 := V3d.before u4
  refine code_ok (hcd.upd V4 nFF) hcl (fun e => hcd.none e) fun w5 p5 c5 Y5 cd5 in5 sn5 u5 => ?_
  have hb5 := hb4.keep u5
  refine ⟨by simp only [NN_some, addN, drw_cell, drw_heap, exS, exI, exB, exP, exM, exStr, exV, a0, a1, a2, a3, a4, a5, a6, a7, a8, a9, a10, a11, a12, a13, maxI_eq, Nat.zero_add, Nat.add_zero, Nat.mul_one, Option.isNone_some, Option.isNone_none, hb5.blk.cell], ?_⟩
  have sY4 : Since Y4 (drw w3) := sn4
  have hb6 := hb3d.more (u4.after u5) (Y := Y4 ++ Y5) (fun j hj => by
    rcases List.mem_append.1 hj with g | g
    · exact sn4 j g
    · have := sn5 j g; have := u4.size; omega) (fun j hj => by
    rcases List.mem_append.1 hj with g | g
    · have := in4 j g; have := u5.size; omega
    · exact in5 j g)
  obtain ⟨d6, hd6⟩ : ∃ d6, d6 = ({ d2 with gen := d.gen + 1, Z := (Y4 ++ Y5) ++ d2.Z } : BsD) := ⟨_, rfl⟩
  have hb6 : Bs w5 d6 := by rw [hd6]; exact hb6
  have e6a : (some ⟨d2.b, 0, none⟩ : Option Addr) = d6.a := by rw [hd6]; rfl
  have e6S : d6.S = d.S := by rw [hd6]; exact eS
  have e6F : d6.F = d2.F := by rw [hd6]; rfl
  rw [e6a, ← e6S]
  have sub : ∀ j ∈ Y4, j ∈ d6.Z := fun j hj => by rw [hd6]; simp [hj]
  have sub5 : ∀ j ∈ Y5, j ∈ d6.Z := fun j hj => by rw [hd6]; simp [hj]
  refine take_ok (s := ⟨h, q4, c4, gs, p4, pc4, vars, code, p5, c5, d.gen + 1, 0⟩) hb6 (by rw [e6S]; exact hSl) ⟨hs, RdA.sub sub _ (RdA.keep u5 ra4), (ga4.keep u5).sub sub, cd5.sub sub5⟩ fun w7 p7 c7 G7 hb7 u7 s7 => ?_
  have eids : idsT t' = insI front (idsT t) d.S.length := by
    unfold idsT insI
    rw [eE]
    unfold Ix.insE
    split <;> simp
  have V5 := V4.before u5
  have sz5 := V5.size
  have sF : ∀ j ∈ d6.F, j ∈ d.F ∨ w.heap.size ≤ j := fun j hj => by
    rw [e6F] at hj
    rcases S2 j hj with g | g
    · exact .inl g
    · exact .inr (by have := u1.size; omega)
  have V7 : Upd d.F w w7 := V5.trans u7 (fun j hj => .inl hj) sF
  have := hK w7 t' ⟨h, q4, c4, gs, p4, pc4, vars, code, p5, c5, d.gen + 1, 0⟩ p7 c7 G7 (Y4 ++ Y5) eids tok' rfl rfl rfl rfl rfl rfl (by subst hd6; subst hd2; exact hb7) V7 (fun j hj => by
      have z3 := V3d.size
      rcases List.mem_append.1 hj with g | g
      · have := sn4 j g; omega
      · have := sn5 j g; have := u4.size; omega) (fun j hj => ?_)
  · rw [e6S]; exact this
  · have hj : j ∈ d.b :: d.r :: (G7 ++ (setP d.PT k t').flatMap fun x => x.2.FT) := hj
    simp only [List.mem_cons, List.mem_append] at hj
    have hdG : d6.G = d.G := by rw [hd6, hd2]
    have hf2 : d2.F = d.b :: d.r :: (d.G ++ (setP d.PT k t').flatMap fun x => x.2.FT) := by rw [hd2]; rfl
    rcases hj with g | g | g | g
    · exact .inl (by simp [BsD.F, g])
    · exact .inl (by simp [BsD.F, g])
    · rcases s7 j g with e | e
      · rw [hdG] at e
        exact .inl (by simp [BsD.F, e])
      · exact .inr (by omega)
    · exact sF j (by rw [e6F, hf2]; simp only [List.mem_cons, List.mem_append]; exact .inr (.inr (.inr g)))

end

end Go.Proofs.YtlndgaijekihiaaGreat

/- Add. -/
namespace Go.Proofs.YtlndgaijekihiaaGreat
open Go Go.D Go.Proofs
set_option linter.unusedSimpArgs false
set_option linter.unusedVariables false
set_option maxRecDepth 8000

section
variable {w w' : World} {d : BsD} {F : List Nat}

theorem St2q {w1 : World} {r : Nat} {c0 c1 v0 v1 : Value} {K : World → Prop} (hb : Blk w1 r #[c0, c1]) (h0 : v0.oneCell' = true) (h1 : v1.oneCell' = true) (hK : ∀ w', Upd [r] w1 w' → Blk w' r #[v0, v1] → K w') :
    St w1 ((⟨r, 0, none⟩ : Addr).add 0) v0 fun z0 => St z0 ((⟨r, 0, none⟩ : Addr).add 1) v1 K := by
  simp only [addN, Nat.zero_add]
  refine St_acc (Upd.refl _ _) hb (by simp) h0 fun z0 y0 b0 => St_acc y0 b0 (by simp) h1 fun z1 y1 b1 => ?_
  simp at b1
  exact hK z1 y1 b1

/-- What is added is as it should be. -/
theorem added_ok {k : PKey} {h : Tm} {gs : List GoalT} {vars : Int} {code : List InsT} {front : Bool} {t t' : Ix.TbD} {s : Slt} {p : Option Addr} {c : Nat} {G Y : List Nat} {d1 : BsD} (hk : (h.s, (h.l.length : Int)) = k) (ok : BsOk d) (hl : (d.S.length : Int) < d.limit)
    (h1 : d1 = d ∧ findP d.PT k = some t ∨ findP d.PT k = none ∧ t.E = [] ∧ d1 = { d with PT := d.PT ++ [(k, t)] })
    (ei : idsT t' = insI front (idsT t) d1.S.length) (tok : Ix.TbOk t' (d1.gen + 1)) (e1 : s.h = h) (e2 : s.gs = gs) (e3 : s.vars = vars) (e4 : s.code = code) (e5 : s.born = d1.gen + 1) (e6 : s.dead = 0) :
    let d' : BsD := { d1 with PT := setP d1.PT k t', gen := d1.gen + 1, Z := Y ++ d1.Z, S := d1.S ++ [s], p := p, c := c, G := G }
    Added d d' h gs vars code front ∧ BsOk d' := by
  have eS : d1.S = d.S := by rcases h1 with ⟨rfl, _⟩ | ⟨_, _, rfl⟩ <;> rfl
  have eg : d1.gen = d.gen := by rcases h1 with ⟨rfl, _⟩ | ⟨_, _, rfl⟩ <;> rfl
  have elim : d1.limit = d.limit := by rcases h1 with ⟨rfl, _⟩ | ⟨_, _, rfl⟩ <;> rfl
  have ea : d1.a = d.a := by rcases h1 with ⟨rfl, _⟩ | ⟨_, _, rfl⟩ <;> rfl
  have hf1 : findP d1.PT k = some t := by
    rcases h1 with ⟨rfl, e⟩ | ⟨e, _, rfl⟩
    · exact e
    · show findP (d.PT ++ [(k, t)]) k = some t
      rw [findP_app, e]; simp
  have hids : ∀ k', idsP d1.PT k' = idsP d.PT k' := fun k' => by
    rcases h1 with ⟨rfl, e⟩ | ⟨e, e', rfl⟩
    · rfl
    · show idsP (d.PT ++ [(k, t)]) k' = _
      unfold idsP
      rw [findP_app]
      by_cases ek : k = k'
      · subst ek
        rw [e]
        simp [idsT, e']
      · simp [ek]
  have hkn : ∀ k', (findP d1.PT k').isSome = true ↔ k' = k ∨ (findP d.PT k').isSome = true := fun k' => by
    rcases h1 with ⟨rfl, e⟩ | ⟨e, e', rfl⟩
    · constructor
      · exact fun h => .inr h
      · rintro (rfl | h)
        · rw [e]; rfl
        · exact h
    · show (findP (d.PT ++ [(k, t)]) k').isSome = true ↔ _
      rw [findP_app]
      by_cases ek : k = k'
      · subst ek; simp
      · simp only [if_neg ek, Option.or_none]
        constructor
        · exact fun h => .inr h
        · rintro (h | h)
          · exact absurd h.symm ek
          · exact h
  have hP : setP d1.PT k t' = d1.PT.map fun x => if x.1 = k then (x.1, t') else x := by unfold setP; rw [if_pos (by rw [hf1]; rfl)]
  have htk : ∀ i ∈ idsT t, 0 ≤ i ∧ i < d.S.length ∧ ∀ s, d.S[i.toNat]? = some s → s.key = k := fun i hi => by
    rcases h1 with ⟨rfl, e⟩ | ⟨e, e', rfl⟩
    · exact ok.ids _ (findP_mem e) i hi
    · unfold idsT at hi; rw [e'] at hi; cases hi
  have hold : ∀ x ∈ d1.PT, x.1 ≠ k → x ∈ d.PT := fun x hx hne => by
    rcases h1 with ⟨rfl, e⟩ | ⟨e, e', rfl⟩
    · exact hx
    · rcases List.mem_append.1 hx with g | g
      · exact g
      · simp at g; subst g; exact absurd rfl hne
  have hgrow : ∀ {k' : PKey} {i : Int}, 0 ≤ i ∧ i < d.S.length ∧ (∀ s, d.S[i.toNat]? = some s → s.key = k') → 0 ≤ i ∧ i < (d.S ++ [s]).length ∧ ∀ s', (d.S ++ [s])[i.toNat]? = some s' → s'.key = k' := fun ⟨a, b, e⟩ => ⟨a, by rw [List.length_append, List.length_singleton]; omega, fun s' hs' => e s' (by rwa [List.getElem?_append_left (by omega)] at hs')⟩
  intro d'
  refine ⟨⟨ea, elim, by show d1.gen + 1 = _; rw [eg], ⟨s, by show d1.S ++ [s] = _; rw [eS], e1, e2, e3, e4, by rw [e5, eg], e6⟩, fun k' => ?_, fun k' => ?_, ?_⟩, ⟨fun x hx => ?_, fun x hx i hi => ?_, ?_, fun s' hs' => ?_, ?_, ?_⟩⟩
  · rw [hk]
    show idsP (setP d1.PT k t') k' = _
    rw [idsP_set (front := front) (i := (d1.S.length : Int)) (by rw [ei, idsP_some hf1]), hids, hids, eS]
  · rw [hk]
    show (findP (setP d1.PT k t') k').isSome = true ↔ _
    rw [findP_set]
    by_cases ek : k' = k
    · simp [ek]
    · rw [if_neg ek]; exact hkn k'
  · rw [hk]
    show (setP d1.PT k t').map (·.1) = _
    rw [keys_set, if_pos (by rw [hf1]; rfl)]
    rcases h1 with ⟨rfl, e⟩ | ⟨e, e', rfl⟩
    · rw [if_pos (by rw [e]; rfl)]
    · rw [if_neg (by rw [e]; simp)]
      show (d.PT ++ [(k, t)]).map (·.1) = _
      rw [List.map_append]; rfl
  · have hx : x ∈ setP d1.PT k t' := hx
    rw [hP] at hx
    obtain ⟨y, hy, rfl⟩ := List.mem_map.1 hx
    by_cases ey : y.1 = k
    · rw [if_pos ey]; exact tok
    · rw [if_neg ey]
      have := (ok.tb y (hold y hy ey)).more
      show Ix.TbOk y.2 (d1.gen + 1)
      rw [eg]; exact this
  · have hx : x ∈ setP d1.PT k t' := hx
    show 0 ≤ i ∧ i < (d1.S ++ [s]).length ∧ ∀ s', (d1.S ++ [s])[i.toNat]? = some s' → s'.key = x.1
    rw [eS]
    rw [hP] at hx
    obtain ⟨y, hy, rfl⟩ := List.mem_map.1 hx
    by_cases ey : y.1 = k
    · rw [if_pos ey] at hi ⊢
      have hi : i ∈ idsT t' := hi
      show 0 ≤ i ∧ i < (d.S ++ [s]).length ∧ ∀ s' : Slt, (d.S ++ [s])[i.toNat]? = some s' → s'.key = y.1
      rw [ey]
      have hm : i = d.S.length ∨ i ∈ idsT t := by
        rw [ei, eS] at hi
        unfold insI at hi
        split at hi
        · exact (List.mem_cons.1 hi)
        · rcases List.mem_append.1 hi with g | g
          · exact .inr g
          · exact .inl (by simpa using g)
      rcases hm with g | g
      · subst g
        refine ⟨by omega, by rw [List.length_append, List.length_singleton]; omega, fun s' hs' => ?_⟩
        rw [Int.toNat_natCast, List.getElem?_append_right (Nat.le_refl _)] at hs'
        simp at hs'
        subst hs'
        unfold Slt.key
        rw [e1]; exact hk
      · exact hgrow (htk i g)
    · rw [if_neg ey] at hi ⊢
      exact hgrow (ok.ids y (hold y hy ey) i hi)
  · show 0 ≤ d1.gen + 1
    have := ok.gen; omega
  · have hs' : s' ∈ d1.S ++ [s] := hs'
    rw [eS] at hs'
    show 1 ≤ s'.born ∧ s'.born ≤ d1.gen + 1 ∧ 0 ≤ s'.dead ∧ s'.dead ≤ d1.gen + 1
    have g0 := ok.gen
    rcases List.mem_append.1 hs' with g | g
    · have := ok.born s' g; omega
    · simp at g; subst g; omega
  · show 0 < d1.limit ∧ _; rw [elim]; exact ok.lim
  · show ((d1.S ++ [s]).length : Int) ≤ d1.limit
    rw [eS, elim, List.length_append, List.length_singleton]; omega

theorem Add_ok {h : Tm} {gs : List GoalT} {vars : Int} {code : List InsT} {hq gp cp : Option Addr} {hc gc cc : Nat} {front : Bool} {K : Int → Int → World → Prop} (hb : Bs w d) (ok : BsOk d) (hg : d.gen < 2 ^ 40) (hF : In F w) (hFd : Dis F d.F)
    (hs : h.s.size < 2 ^ 63) (hp : RdA w F h.l hq 0) (hz : h.size < 2 ^ 29) (hgs : GoalsA w F gs gp) (hgz : ∀ g ∈ gs, g.2.size < 2 ^ 29) (hgl : gs.length < 2 ^ 20) (hcd : CodeA w F code cp) (hcl : code.length ≤ 2 ^ 20)
    (hno : ∀ e w', (h.kind ≠ 3 ∧ h.kind ≠ 4) ∨ ¬ (d.S.length : Int) < d.limit ∨ 4096 ≤ (idsP d.PT (h.s, (h.l.length : Int))).length → Bs w' d → Upd [] w w' → K 0 e w')
    (hyes : ∀ w' d', Added d d' h gs vars code front → Bs w' d' → BsOk d' → Upd d.F w w' → Sub d'.F d.F w → Sub d'.Z d.Z w → K d.S.length 0 w') :
    C_base_Base_Add d.a h.kind h.n h.s hq h.l.length hc gp gs.length gc vars cp code.length cc front w K := by
  apply C_base_Base_Add.of
  unfold F_base_Base_Add
  refine New_rule fun r w1 hr u1 b1 => bmade_ok (hb.keep u1) (ifF rfl ?_)
  have hb1 := hb.keep u1
  have c0 : w1.cell? ((⟨r, 0, none⟩ : Addr).add 0) = some (.int .i64 h.kind) := b1.cell 0
  have low := hb.lowG
  have rF : r ∉ d.F := fun hx => by have := low r hx; omega
  -- an atom, or a compound
  have k2 : F_base_Base_Add_k2 d.a cp code.length cc front K r w1 := by
    unfold F_base_Base_Add_k2
    refine room_ok hb1 fun w2 u2 => ?_
    have b2 := b1.upd u2 (by simp)
    simp only [NN_some, addN, drw_cell, drw_heap, exS, exI, exB, exP, exM, exStr, exV, a0, a1, a2, a3, a4, a5, a6, a7, a8, a9, a10, a11, a12, a13, maxI_eq, Nat.zero_add, Nat.add_zero, Nat.mul_one, Option.isNone_some, Option.isNone_none, b2.cell]
    refine of_ok fun w3 u3 => New_rule fun r1 w4 hr1 u4 b4 => ?_
    have st := @St2q w4 r1
    simp only [addN, Nat.zero_add] at st
    refine st b4 rfl rfl fun w5 u5 b5 => ?_
    have U3 := (u1.after u2).after u3
    have s3 := U3.size
    have U5 : Upd [] w w5 := (U3.after u4).fresh u5 (by intro j hj; simp at hj; omega)
    have ud := drw_upd w5
    have Ud := U5.after ud
    have hb5 := hb.keep U5
    have hbd := hb.keep Ud
    have b15 : Upd [] w1 (drw w5) := (((u2.after u3).after u4).fresh u5 (by intro j hj; simp at hj; have := u2.size; have := u3.size; have := b1.lt; omega)).after ud
    have brd := b1.upd b15 (by simp)
    simp only [BsD.a, NN_some, addN, drw_cell, drw_heap, exS, exI, exB, exP, exM, exStr, exV, a0, a1, a2, a3, a4, a5, a6, a7, a8, a9, a10, a11, a12, a13, maxI_eq, Nat.zero_add, Nat.add_zero, Nat.mul_one, Option.isNone_some, Option.isNone_none, hb5.blk.cell, b5.cell]
    refine pred_ok (k := (h.s, (h.l.length : Int))) hbd (fun e => ⟨none, rfl, ?_⟩) (fun t e => ⟨_, rfl, ?_⟩)
    · refine ifC (fun g => hno 2 _ (.inr (.inl (by simpa using g))) hbd Ud) (fun g => ?_)
      have hl : (d.S.length : Int) < d.limit := by simpa using g
      refine Ix.Len_nil (ifF (by simp) (ifT rfl (Ix.New_ok fun w6 t tb tok tE u6 st6 => ?_)))
      have hb6 := hbd.keep u6
      have b56 := (b5.upd ud (by simp)).upd u6 (by simp)
      simp only [NN_some, addN, drw_cell, drw_heap, exS, exI, exB, exP, exM, exStr, exV, a0, a1, a2, a3, a4, a5, a6, a7, a8, a9, a10, a11, a12, a13, maxI_eq, Nat.zero_add, Nat.add_zero, Nat.mul_one, Option.isNone_some, Option.isNone_none, hb6.blk.cell, b56.cell]
      have ud6 := drw_upd w6
      refine MUp_rule (κ := PKey) (kt := 61) (et := 63) (inj := pkV) (k := (h.s, (h.l.length : Int))) pkKey (by rfl) ((hb6.keep ud6).map) fun w7 hm7 u7 => ?_
      have hnone : Go.D.look (h.s, (h.l.length : Int)) (d.PT.map fun x => (x.1, Value.pointer x.2.a)) = none := by rw [look_prd, e]; rfl
      have hput : Go.D.put (h.s, (h.l.length : Int)) (.pointer t.a) (d.PT.map fun x => (x.1, Value.pointer x.2.a)) = (d.PT.map fun x => (x.1, Value.pointer x.2.a)) ++ [((h.s, (h.l.length : Int)), .pointer t.a)] := by
        have hs : Go.D.spot (h.s, (h.l.length : Int)) (d.PT.map fun x => (x.1, Value.pointer x.2.a)) 0 = none := by
          unfold Go.D.look at hnone
          simpa using hnone
        exact put_none _ _ _ 0 hs
      rw [hput] at hm7
      have sz5 := Ud.size
      have stF : ∀ j ∈ t.FT, j ∉ d.F := fun j hj hx => by have := st6 j hj; have := low j hx; omega
      have stZ : ∀ j ∈ t.FT, j ∉ d.Z := fun j hj hx => by have := st6 j hj; have := hb.Zi j hx; omega
      have hb7 := (hb6.keep ud6).addTab e (tb.keep ud6) stF stZ u7 hm7
      have U6 := (Ud.after u6).after ud6
      have V7 : Upd d.F w w7 := U6.trans u7 (by simp) (fun j hj => .inl (by simp at hj; subst hj; simp [BsD.F]))
      have rd : r ≠ d.r := fun e => rF (by rw [e]; simp [BsD.F])
      have br7 : Blk w7 r _ := ((brd.upd u6 (by simp)).upd ud6 (by simp)).upd u7 (by simpa using rd)
      obtain ⟨d1, hd1⟩ : ∃ d1, d1 = ({ d with PT := d.PT ++ [((h.s, (h.l.length : Int)), t)] } : BsD) := ⟨_, rfl⟩
      rw [← hd1] at hb7
      have hf1 : findP d1.PT (h.s, (h.l.length : Int)) = some t := by
        rw [hd1]
        show findP (d.PT ++ [((h.s, (h.l.length : Int)), t)]) (h.s, (h.l.length : Int)) = some t
        rw [findP_app, e]; simp
      have memF : ∀ j ∈ d1.F, j ∈ d.F ∨ w.heap.size ≤ j := fun j hj => by
        rw [hd1] at hj
        have hj : j ∈ d.b :: d.r :: (d.G ++ (d.PT ++ [((h.s, (h.l.length : Int)), t)]).flatMap fun x => x.2.FT) := hj
        rw [List.flatMap_append] at hj
        simp only [List.mem_cons, List.mem_append] at hj
        rcases hj with g | g | g | g | g
        · exact .inl (by simp [BsD.F, g])
        · exact .inl (by simp [BsD.F, g])
        · exact .inl (by simp [BsD.F, g])
        · exact .inl (by simp only [BsD.F, List.mem_cons, List.mem_append]; exact .inr (.inr (.inr g)))
        · exact .inr (by have := st6 j (by simpa using g); omega)
      have rF1 : r ∉ d1.F := fun hx => by
        rw [hd1] at hx
        have hx : r ∈ d.b :: d.r :: (d.G ++ (d.PT ++ [((h.s, (h.l.length : Int)), t)]).flatMap fun x => x.2.FT) := hx
        rw [List.flatMap_append] at hx
        simp only [List.mem_cons, List.mem_append] at hx
        rcases hx with g | g | g | g | g
        · exact rF (by simp [BsD.F, g])
        · exact rF (by simp [BsD.F, g])
        · exact rF (by simp [BsD.F, g])
        · exact rF (by simp only [BsD.F, List.mem_cons, List.mem_append]; exact .inr (.inr (.inr g)))
        · have := st6 r (by simpa using g); have := b1.lt; have := b15.size; omega
      have FD1 : Dis F d1.F := fun j hj hx => by
        rcases memF j hx with g | g
        · exact hFd j hj g
        · have := hF j hj; omega
      have ea : d.a = d1.a := by rw [hd1]; rfl
      have eS : d1.S = d.S := by rw [hd1]
      have eg : d1.gen = d.gen := by rw [hd1]
      rw [show (some ⟨d.b, 0, none⟩ : Option Addr) = d1.a from ea, ← eS]
      refine Add_k1_ok hb7 (by rw [eg]; exact ⟨tok.rising, tok.ids, tok.norm, tok.lo, tok.hi, by have := tok.b0; have := ok.gen; omega, tok.b1, by have := tok.b2; have := ok.gen; omega, tok.len⟩) hf1 (by rw [tE]; simp) (by unfold idsT; rw [tE]; simp) (by rw [eg]; exact ok.gen) (by rw [eg]; exact hg) (by rw [eS]; have := ok.len; have := ok.lim; omega) (hF.upd V7) FD1 hs (RdA.upd' V7 hFd hp) hz (hgs.upd V7 hFd) hgz hgl (hcd.upd V7 hFd) hcl br7 rF1 fun w8 t' s p c G Y ei tok' e1 e2 e3 e4 e5 e6 hb8 u8 sY s8 => ?_
      have := added_ok (k := (h.s, (h.l.length : Int))) (p := p) (c := c) (G := G) (Y := Y) rfl ok hl (.inr ⟨e, tE, hd1⟩) ei tok' e1 e2 e3 e4 e5 e6
      rw [eS]
      exact hyes w8 _ this.1 hb8 this.2 (V7.trans u8 (fun j hj => .inl hj) memF) (fun j hj => by
        rcases s8 j hj with g | g
        · exact memF j g
        · exact .inr (by have := V7.size; omega)) fun j hj => by
        have z1 : d1.Z = d.Z := by rw [hd1]
        have hj : j ∈ Y ++ d1.Z := hj
        rw [z1] at hj
        rcases List.mem_append.1 hj with g | g
        · exact .inr (by have := sY j g; have := V7.size; omega)
        · exact .inl g
    · have eids := idsP_some e
      refine ifC (fun g => hno 2 _ (.inr (.inl (by simpa using g))) hbd Ud) (fun g => ?_)
      have hl : (d.S.length : Int) < d.limit := by simpa using g
      have hm := findP_mem e
      refine Ix.Len_ok (hbd.tb _ hm) (ifC (fun g2 => hno 2 _ (.inr (.inr ?_)) hbd Ud) (fun g2 => ?_))
      · have g2 := of_decide_eq_true g2
        rw [eids]
        unfold idsT
        rw [List.length_map]
        omega
      have g2 := of_decide_eq_false g2
      refine ifF rfl ?_
      have hids := ok.ids _ hm
      refine Add_k1_ok hbd (ok.tb _ hm) e (by omega) (fun hx => by have := hids _ hx; omega) ok.gen hg (by have := ok.len; have := ok.lim; omega) (hF.upd Ud) hFd hs (RdA.keep Ud hp) hz (hgs.keep Ud) hgz hgl (hcd.keep Ud) hcl brd rF fun w8 t' s p c G Y ei tok' e1 e2 e3 e4 e5 e6 hb8 u8 sY s8 => ?_
      have := added_ok (k := (h.s, (h.l.length : Int))) (p := p) (c := c) (G := G) (Y := Y) rfl ok hl (.inl ⟨rfl, e⟩) ei tok' e1 e2 e3 e4 e5 e6
      exact hyes w8 _ this.1 hb8 this.2 (Ud.after u8) (fun j hj => by
        rcases s8 j hj with g | g
        · exact .inl g
        · exact .inr (by have := Ud.size; omega)) fun j hj => by
        have hj : j ∈ Y ++ d.Z := hj
        rcases List.mem_append.1 hj with g | g
        · exact .inr (by have := sY j g; have := Ud.size; omega)
        · exact .inl g
  refine ⟨h.kind, c0, ifC (fun g => ⟨h.kind, c0, ifC (fun g2 => ?_) (fun _ => k2)⟩) (fun _ => k2)⟩
  exact hno 1 w1 (.inl ⟨by simpa using g, by simpa using g2⟩) hb1 u1

end

end Go.Proofs.YtlndgaijekihiaaGreat

/- A clause is told; an instruction is told. -/
namespace Go.Proofs.YtlndgaijekihiaaGreat
open Go Go.D Go.Proofs
set_option linter.unusedSimpArgs false
set_option linter.unusedVariables false
set_option maxRecDepth 8000

section
variable {w : World} {d : BsD}

theorem Clause_ok {i : Nat} {id : Int} (hid : id = i) (hi : i < d.S.length) {K : Int → Int → ByteArray → Option Addr → Nat → Nat → Option Addr → Nat → Nat → Int → Int → World → Prop} (h : Bs w d) (hz : (d.S[i]).h.size < 2 ^ 29) (hgz : ∀ g ∈ (d.S[i]).gs, g.2.size < 2 ^ 29) (hgl : (d.S[i]).gs.length < 2 ^ 20)
    (hK : ∀ w' q c p2 c2 Y, RdA w' Y (d.S[i]).h.l q 0 → In Y w' → Since Y w → Upd [] w w' → K (d.S[i]).h.kind (d.S[i]).h.n (d.S[i]).h.s q (d.S[i]).h.l.length c p2 (d.S[i]).gs.length c2 (d.S[i]).vars 0 w') : C_base_Base_Clause d.a id w K := by
  subst hid
  apply C_base_Base_Clause.of
  unfold F_base_Base_Clause
  refine New_rule fun r w1 hr u1 b1 => may_ok (h.keep u1) ?_
  rw [if_pos (by omega)]
  refine ifF rfl ?_
  have h1 := h.keep u1
  obtain ⟨bb, off, hp, _, hc⟩ := h1.at hi
  have c0 := hc 0 (by omega); have c1 := hc 1 (by omega); have c2 := hc 2 (by omega); have c3 := hc 3 (by omega); have c4 := hc 4 (by omega); have c5 := hc 5 (by omega)
  simp only [slC, List.getElem?_cons_succ, List.getElem?_cons_zero, Nat.add_zero] at c0 c1 c2 c3 c4 c5
  simp only [BsD.a, NN_some, addN, drw_cell, drw_heap, exS, exI, exB, exP, exM, exStr, exV, a0, a1, a2, a3, a4, a5, a6, a7, a8, a9, a10, a11, a12, a13, maxI_eq, Nat.zero_add, Nat.add_zero, Nat.mul_one, Option.isNone_some, Option.isNone_none, h1.blk.cell]
  rw [hp]
  refine ⟨by omega, by omega, ?_⟩
  simp only [NN_some, addN, drw_cell, drw_heap, exS, exI, exB, exP, exM, exStr, exV, a0, a1, a2, a3, a4, a5, a6, a7, a8, a9, a10, a11, a12, a13, maxI_eq, Nat.zero_add, Nat.add_zero, Nat.mul_one, Option.isNone_some, Option.isNone_none, Int.toNat_natCast, Nat.add_assoc, c0, c1, c2, c3, c4, c5]
  obtain ⟨e1, e2, e3, _⟩ := h1.hd _ (List.getElem_mem hi)
  refine copyOf_ok h1.Zi e1 e2 hz e3 hgz hgl fun w2 q c' p2 c2' Y ra ga inY sY u2 => ?_
  have st := @St6q w2 r
  simp only [addN, Nat.zero_add] at st
  refine st (b1.upd u2 (by simp)) rfl (by simp [Value.oneCell']) fun w3 u3 b3 => ?_
  simp only [NN_some, addN, drw_cell, drw_heap, exS, exI, exB, exP, exM, exStr, exV, a0, a1, a2, a3, a4, a5, a6, a7, a8, a9, a10, a11, a12, a13, maxI_eq, Nat.zero_add, Nat.add_zero, Nat.mul_one, Option.isNone_some, Option.isNone_none, b3.cell]
  have l1 := b1.lt
  have s1 := u1.size
  have nY : Dis Y [r] := fun k hk hx => by simp at hx; have := sY k hk; omega
  exact hK w3 q c' p2 c2' Y (RdA.upd' u3 nY ra) (inY.upd u3) (fun k hk => by have := sY k hk; omega) ((u1.after u2).fresh u3 (by intro k hk; simp at hk; omega))

theorem At_ok {i : Nat} {id : Int} (hid : id = i) (hi : i < d.S.length) (hc : 0 < (d.S[i]).code.length) {K : Int → ByteArray → Int → Int → Int → Bool → World → Prop} (h : Bs w d)
    (hK : ∀ w', Upd [] w w' → K (d.S[i]).code[0].1 (d.S[i]).code[0].2.1 (d.S[i]).code[0].2.2.1 (d.S[i]).code[0].2.2.2.1 (d.S[i]).code[0].2.2.2.2 true w') : C_base_Base_At d.a id 0 w K := by
  subst hid
  apply C_base_Base_At.of
  unfold F_base_Base_At
  refine New_rule fun r w1 hr u1 b1 => has_ok (h.keep u1) (ifF (by simp; omega) (ifF rfl ?_))
  have h1 := h.keep u1
  obtain ⟨bb, off, hp, _, hcc⟩ := h1.at hi
  have c6 := hcc 6 (by omega)
  simp only [slC, List.getElem?_cons_succ, List.getElem?_cons_zero] at c6
  simp only [BsD.a, NN_some, addN, drw_cell, drw_heap, exS, exI, exB, exP, exM, exStr, exV, a0, a1, a2, a3, a4, a5, a6, a7, a8, a9, a10, a11, a12, a13, maxI_eq, Nat.zero_add, Nat.add_zero, Nat.mul_one, Option.isNone_some, Option.isNone_none, h1.blk.cell]
  rw [hp]
  refine ⟨by omega, by omega, ?_⟩
  simp only [NN_some, addN, drw_cell, drw_heap, exS, exI, exB, exP, exM, exStr, exV, a0, a1, a2, a3, a4, a5, a6, a7, a8, a9, a10, a11, a12, a13, maxI_eq, Nat.zero_add, Nat.add_zero, Nat.mul_one, Option.isNone_some, Option.isNone_none, Int.toNat_natCast, Nat.add_assoc, c6]
  have hcl : ((0 : Int) < ((d.S[i]).code.length : Int)) := by omega
  refine ifF (decide_eq_false (show ¬ ((0 : Int) ≥ ((d.S[i]).code.length : Int)) by omega)) ⟨by omega, by omega, by omega, by omega, ?_⟩
  obtain ⟨e1, e2, e3, e4⟩ := h1.hd _ (List.getElem_mem hi)
  obtain ⟨x, hx, hcx⟩ := e4.1.elem (i := 0) hc
  have f : ∀ j, j < 5 → w1.cell? (x.add (0 * 5 + j)) = (insC (d.S[i]).code[0])[j]? := fun j hj => by rw [hcx j hj, flat_at insC_len hc hj]
  have f0 := f 0 (by omega); have f1 := f 1 (by omega); have f2 := f 2 (by omega); have f3 := f 3 (by omega); have f4 := f 4 (by omega)
  simp only [insC, List.getElem?_cons_succ, List.getElem?_cons_zero, Nat.zero_mul, Nat.zero_add] at f0 f1 f2 f3 f4
  rw [hx]
  simp only [NN_some, addN, drw_cell, drw_heap, exS, exI, exB, exP, exM, exStr, exV, a0, a1, a2, a3, a4, a5, a6, a7, a8, a9, a10, a11, a12, a13, maxI_eq, Nat.zero_add, Nat.add_zero, Nat.mul_one, Option.isNone_some, Option.isNone_none, addA, show Int.toNat 0 = 0 from rfl, Nat.zero_mul, f0, f1, f2, f3, f4]
  refine St5n b1 rfl (by simp [Value.oneCell']) fun w2 u2 b2 => ?_
  simp only [NN_some, addN, drw_cell, drw_heap, exS, exI, exB, exP, exM, exStr, exV, a0, a1, a2, a3, a4, a5, a6, a7, a8, a9, a10, a11, a12, a13, maxI_eq, Nat.zero_add, Nat.add_zero, Nat.mul_one, Option.isNone_some, Option.isNone_none, b2.cell]
  exact hK w2 (u1.fresh u2 (by intro k hk; simp at hk; omega))

end

/-- A compound of one argument that is a number or a variable: the row is made. -/
theorem comp1_row {t : Tm} {s : ByteArray} {w : World} {b : Nat} {K : Int → Int → ByteArray → Option Addr → Nat → Nat → World → Prop} (hl : t.l = []) (hs : t.s.size < 2 ^ 63) (hr : SlAt w 4 (some ⟨b, 0, none⟩) 1 1 [.int .i64 t.kind, .int .i64 t.n, .string t.s, .slice none 0 0] [b])
    (hK : ∀ w' q c G, RdA w' (G ++ [b]) [t] q 0 → In (G ++ [b]) w' → Since G w → Upd [] w w' → K 4 0 s q 1 c w') : C_ref06_Comp s (some ⟨b, 0, none⟩) 1 1 w K := by
  have e : tmC (t, none, 0) = [.int .i64 t.kind, .int .i64 t.n, .string t.s, .slice none 0 0] := by unfold tmC; rw [hl]; rfl
  have hs1' : SlAt w 4 (some ⟨b, 0, none⟩) 1 1 (([(t, (none : Option Addr), 0)] : List TmP).flatMap tmC) [b] := by
    rw [List.flatMap_cons, e]
    simpa using hr
  have tz : TmsAt w (some ⟨b, 0, none⟩) 1 1 [t] [b] [] := ⟨[(t, none, 0)], rfl, hs1', fun x hx => by
    simp at hx; subst hx
    exact ⟨hs, by rw [hl]; exact RdA.of fun i hi => absurd hi (by simp)⟩, (by intro k hk; cases hk)⟩
  refine rComp_ok (l := [t]) tz.rd (fun k hk => by have := hs1'.inn k (by simpa using hk); exact this) (by simp) (by simp) fun w2 p2 c2 G2 ra2 in2 s2 u2 => ?_
  exact hK w2 p2 c2 G2 (by simpa using ra2) (by simpa using in2) s2 u2

/-- A compound of one argument that is a number or a variable. -/
theorem comp1_ok {t : Tm} {s : ByteArray} {w : World} {K : Int → Int → ByteArray → Option Addr → Nat → Nat → World → Prop} (hl : t.l = []) (hs : t.s.size < 2 ^ 63)
    (hK : ∀ w' q c G, RdA w' G [t] q 0 → In G w' → Since G w → Upd [] w w' → K 4 0 s q 1 c w') :
    BSl Tryz.prog 22 1 [(0, .agg #[.int .i64 t.kind, .int .i64 t.n, .string t.s, .slice none 0 0])] w fun p n c w1 => C_ref06_Comp s p n c w1 K := by
  refine BSlL_rule eS_22 [.agg #[.int .i64 t.kind, .int .i64 t.n, .string t.s, .slice none 0 0]] (by rfl) (by simp [Value.cells]) (by rfl) (by omega) fun w1 hs1 u1 => ?_
  refine comp1_row hl hs (by simpa [Value.cells] using hs1) fun w2 q c G ra inn sG u2 => ?_
  exact hK w2 q c _ ra inn (fun k hk => by
    rcases List.mem_append.1 hk with g | g
    · have := sG k g; have := u1.size; omega
    · simp at g; omega) (u1.after u2)

theorem fact_ok {n : Int} {w : World} {K : Int → Int → ByteArray → Option Addr → Nat → Nat → Option Addr → Nat → Nat → Int → World → Prop}
    (hK : ∀ w' q c G, RdA w' G [Tm.mk 2 n ⟨#[]⟩ []] q 0 → In G w' → Since G w → Upd [] w w' → K 4 0 ⟨#[112]⟩ q 1 c none 0 0 0 w') : C_law19_fact n w K := by
  apply C_law19_fact.of
  unfold F_law19_fact
  refine New_rule fun r w1 hr u1 b1 => rInt_ok fun w2 u2 => comp1_ok (t := .mk 2 n ⟨#[]⟩ []) rfl (show (⟨#[]⟩ : ByteArray).size < 2 ^ 63 by decide) fun w3 q c G ra inG sG u3 => ?_
  have U := u2.after u3
  refine St6q (b1.upd U (by simp)) rfl (by simp [Value.oneCell']) fun w4 u4 b4 => ⟨_, b4.cell 0, _, b4.cell 1, _, b4.cell 2, _, _, _, b4.cell 3, _, _, _, b4.cell 4, _, b4.cell 5, ?_⟩
  have l1 := b1.lt
  have s1 := u1.size
  have s2 := u2.size
  have nG : Dis G [r] := fun k hk hx => by simp at hx; have := sG k hk; omega
  exact hK w4 q c G (RdA.upd' u4 nG ra) (inG.upd u4) (fun k hk => by have := sG k hk; omega) ((u1.after U).fresh u4 (by intro k hk; simp at hk; omega))

section
variable {w : World} {d : BsD}

/-- What is killed is as it should be. -/
theorem killed_ok (ok : BsOk d) {i : Nat} (hi : i < d.S.length) : BsOk { d with gen := d.gen + 1, S := d.S.set i { d.S[i] with dead := d.gen + 1 } } := by
  have g0 := ok.gen
  refine ⟨fun x hx => (ok.tb x hx).more, fun x hx j hj => ?_, by show 0 ≤ d.gen + 1; omega, fun s hs => ?_, ok.lim, by show ((d.S.set i _).length : Int) ≤ _; rw [List.length_set]; exact ok.len⟩
  · obtain ⟨a, b, c⟩ := ok.ids x hx j hj
    refine ⟨a, by show j < ((d.S.set i _).length : Int); rw [List.length_set]; exact b, fun s hs => ?_⟩
    have hs : (d.S.set i { d.S[i] with dead := d.gen + 1 })[j.toNat]? = some s := hs
    rw [List.getElem?_set] at hs
    by_cases e : i = j.toNat
    · rw [if_pos e, if_pos hi] at hs
      cases hs
      exact c d.S[i] (by rw [← e]; exact List.getElem?_eq_getElem hi)
    · rw [if_neg e] at hs
      exact c s hs
  · show 1 ≤ s.born ∧ s.born ≤ d.gen + 1 ∧ 0 ≤ s.dead ∧ s.dead ≤ d.gen + 1
    obtain ⟨j, hj, rfl⟩ := List.getElem_of_mem hs
    have hj : j < (d.S.set i { d.S[i] with dead := d.gen + 1 }).length := hj
    rw [List.length_set] at hj
    have e : (d.S.set i { d.S[i] with dead := d.gen + 1 })[j]'(by rw [List.length_set]; exact hj) = if i = j then { d.S[i] with dead := d.gen + 1 } else d.S[j] := List.getElem_set ..
    have o1 := ok.born _ (List.getElem_mem hi)
    have o2 := ok.born _ (List.getElem_mem hj)
    show 1 ≤ ((d.S.set i { d.S[i] with dead := d.gen + 1 })[j]'(by rw [List.length_set]; exact hj)).born ∧ ((d.S.set i { d.S[i] with dead := d.gen + 1 })[j]'(by rw [List.length_set]; exact hj)).born ≤ d.gen + 1 ∧ 0 ≤ ((d.S.set i { d.S[i] with dead := d.gen + 1 })[j]'(by rw [List.length_set]; exact hj)).dead ∧ ((d.S.set i { d.S[i] with dead := d.gen + 1 })[j]'(by rw [List.length_set]; exact hj)).dead ≤ d.gen + 1
    rw [e]
    split
    · show 1 ≤ d.S[i].born ∧ d.S[i].born ≤ d.gen + 1 ∧ 0 ≤ d.gen + 1 ∧ d.gen + 1 ≤ d.gen + 1
      omega
    · omega

theorem Clause_s {i : Nat} {s : Slt} {id : Int} (hid : id = i) (hs : d.S[i]? = some s) {K : Int → Int → ByteArray → Option Addr → Nat → Nat → Option Addr → Nat → Nat → Int → Int → World → Prop} (h : Bs w d) (hz : s.h.size < 2 ^ 29) (hgz : ∀ g ∈ s.gs, g.2.size < 2 ^ 29) (hgl : s.gs.length < 2 ^ 20)
    (hK : ∀ w' q c p2 c2 Y, RdA w' Y s.h.l q 0 → In Y w' → Since Y w → Upd [] w w' → K s.h.kind s.h.n s.h.s q s.h.l.length c p2 s.gs.length c2 s.vars 0 w') : C_base_Base_Clause d.a id w K := by
  obtain ⟨hi, e⟩ := List.getElem?_eq_some_iff.1 hs
  subst e
  exact Clause_ok hid hi h hz hgz hgl hK

theorem At_s {i : Nat} {s : Slt} {id : Int} (hid : id = i) (hs : d.S[i]? = some s) {x : InsT} {l : List InsT} (hc : s.code = x :: l) {K : Int → ByteArray → Int → Int → Int → Bool → World → Prop} (h : Bs w d)
    (hK : ∀ w', Upd [] w w' → K x.1 x.2.1 x.2.2.1 x.2.2.2.1 x.2.2.2.2 true w') : C_base_Base_At d.a id 0 w K := by
  obtain ⟨hi, e⟩ := List.getElem?_eq_some_iff.1 hs
  subst e
  refine At_ok hid hi (by rw [hc]; simp) h fun w' u => ?_
  have e0 : (d.S[i]).code[0]'(by rw [hc]; simp) = x := by simp [hc]
  rw [e0]
  exact hK w' u

theorem Size_s {i : Nat} {s : Slt} {id : Int} (hid : id = i) (hs : d.S[i]? = some s) {K : Int → World → Prop} (h : Bs w d) (hK : K s.code.length w) : C_base_Base_Size d.a id w K := by
  obtain ⟨hi, e⟩ := List.getElem?_eq_some_iff.1 hs
  subst e
  exact Size_ok h hi hid hK

end

end Go.Proofs.YtlndgaijekihiaaGreat
