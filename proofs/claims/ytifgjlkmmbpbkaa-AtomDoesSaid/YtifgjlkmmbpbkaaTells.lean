/- A nil table; the reserved names; numbers tell names: the laws. -/
import Derived.Test.YtifgjlkmmbpbkaaLives
import Derived.Test.YtifgjlkmmbpbkaaRefA
namespace Go.Proofs.Ytifgjlkmmbpbkaa
open Go Go.D Go.Proofs
set_option linter.unusedSimpArgs false
set_option linter.unusedVariables false
set_option maxRecDepth 8000

section
variable {w v : World} {X : List Nat} {a : Option Addr} {L : List Slot} {made lim : Int}

theorem Intern_nil {n : ByteArray} {K : Int → Int → World → Prop} (hK : K 0 6 w) : C_atom_Table_Intern none n w K := by
  apply C_atom_Table_Intern.of
  unfold F_atom_Table_Intern
  exact ready_no (ifT rfl hK)

theorem Find_nil {n : ByteArray} {K : Int → Bool → World → Prop} (hK : K 0 false w) : C_atom_Table_Find none n w K := by
  apply C_atom_Table_Find.of
  unfold F_atom_Table_Find
  exact ready_no (ifT rfl hK)

theorem may_nil {id : Int} {K : Int → World → Prop} (hK : K 6 w) : C_atom_Table_may none id w K := by
  apply C_atom_Table_may.of
  unfold F_atom_Table_may
  exact ready_no (ifT rfl hK)

theorem Name_nil {id : Int} {K : ByteArray → Int → World → Prop} (hK : K ⟨#[]⟩ 6 w) : C_atom_Table_Name none id w K := by
  apply C_atom_Table_Name.of
  unfold F_atom_Table_Name
  exact may_nil (ifT rfl hK)

theorem AtomNobody_law {w : World} {o0 o2 : Int} {o1 : ByteArray} : C_law04_AtomNobody o0 o1 o2 w fun r w' => r = true ∧ Upd [] w w' := by
  apply C_law04_AtomNobody.of
  unfold F_law04_AtomNobody F_law04_AtomNobody_k1
  refine New_rule fun r w1 hr u1 hb1 => ?_
  have c1 : ∀ {w'}, Blk w' r #[.int .i64 o0, .string o1, .int .i64 o2] → w'.cell? ⟨r, 1, none⟩ = some (.string o1) := fun h => by rw [h.cell]; rfl
  have c2 : ∀ {w'}, Blk w' r #[.int .i64 o0, .string o1, .int .i64 o2] → w'.cell? ⟨r, 2, none⟩ = some (.int .i64 o2) := fun h => by rw [h.cell]; rfl
  simp only [addN, Nat.zero_add, c1 hb1, exStr]
  refine Intern_nil ?_
  simp only [c1 hb1, exStr]
  refine Find_nil ?_
  simp only [c2 hb1, exI]
  refine Name_nil (lives_ok fun w2 u2 => ?_)
  have hb2 := hb1.upd u2 (by simp)
  refine ifT rfl (ifT rfl (ifT rfl (ifT rfl (ifT rfl (ifT (by simp) (ifT rfl ?_))))))
  apply C_atom_Table_Len.of
  unfold F_atom_Table_Len
  refine ready_no (ifT rfl (ifT rfl ?_))
  apply C_atom_Table_Slots.of
  unfold F_atom_Table_Slots
  refine ready_no (ifT rfl (ifT rfl ?_))
  apply C_atom_Table_Made.of
  unfold F_atom_Table_Made
  refine ready_no (ifT rfl (ifT rfl ?_))
  simp only [c2 hb2, exI]
  apply C_atom_Table_Mark.of
  unfold F_atom_Table_Mark
  refine may_nil (ifT rfl (ifT rfl ?_))
  simp only [c2 hb2, exI]
  apply C_atom_Table_Marked.of
  unfold F_atom_Table_Marked
  apply C_atom_Table_has.of
  unfold F_atom_Table_has F_atom_Table_has_k1
  refine ready_no (ifF rfl (ifF rfl (ifT rfl ?_)))
  apply C_atom_Table_Sweep.of
  unfold F_atom_Table_Sweep
  exact ready_no (ifT rfl ⟨rfl, u1.after u2⟩)

/-- A call. -/
structure OpV where
  kind : Int
  name : ByteArray
  id : Int

def OpV.cells (o : OpV) : List Value := [.int .i64 o.kind, .string o.name, .int .i64 o.id]

/-- The calls of a row. -/
def Ops (cs : List Value) (n : Nat) : Prop := ∀ i, i < n → ∃ o : OpV, (cs.drop (i * 3)).take 3 = o.cells

theorem Ops.get {w : World} {p : Option Addr} {n : Nat} {cs : List Value} (hr : Rd w 3 p n cs) (ho : Ops cs n) {i : Nat} (hi : i < n) : ∃ (x : Addr) (o : OpV), p = some x ∧ ∀ w', Rd w' 3 p n cs → w'.cell? (x.add (i * 3)) = some (.int .i64 o.kind) ∧ w'.cell? (x.add (i * 3 + 1)) = some (.string o.name) ∧ w'.cell? (x.add (i * 3 + 2)) = some (.int .i64 o.id) := by
  obtain ⟨x, hx, hc⟩ := hr.elem hi
  obtain ⟨o, h⟩ := ho i hi
  refine ⟨x, o, hx, fun w' hr' => ?_⟩
  obtain ⟨y, hy, hc⟩ := hr'.elem hi
  obtain rfl := Option.some.inj (hx.symm.trans hy)
  have key : ∀ j, j < 3 → w'.cell? (x.add (i * 3 + j)) = o.cells[j]? := fun j hj => by
    rw [hc j hj, ← h, List.getElem?_take, if_pos hj, List.getElem?_drop]
  exact ⟨key 0 (by omega), key 1 (by omega), key 2 (by omega)⟩

/-- What holds of every table. -/
theorem Tl.atm (t : Tl w v X a L made lim) : ∃ M E, AtM L M E := by
  obtain ⟨FT, h | ⟨b, _, _, _, hL, _⟩, _, _⟩ := t
  · obtain ⟨d, _, ok, _, _, hL, _, _⟩ := h
    rw [← hL]; exact ⟨_, _, ok.at'⟩
  · rw [hL]; exact ⟨_, _, init_ok⟩

theorem findN_get {n : ByteArray} {i : Nat} (h : findN L n = some i) : ∃ hi : i < L.length, L[i].is = true ∧ L[i].name = n := by
  unfold findN at h
  rw [List.findIdx?_eq_some_iff_getElem] at h
  obtain ⟨hi, hp, _⟩ := h
  simp at hp
  exact ⟨hi, hp.1, hp.2⟩

theorem find_of (t : ∃ M E, AtM L M E) {i : Nat} {s : Slot} (hi : L[i]? = some s) (his : s.is = true) : findN L s.name = some i := by
  obtain ⟨M, E, h⟩ := t
  have h1 := h.look1 i s hi his
  rw [h.find] at h1
  rcases hf : findN L s.name with _ | j
  · rw [hf] at h1; cases h1
  · rw [hf] at h1
    simp at h1
    congr 1; omega

theorem isN_of {i : Nat} {s : Slot} (hi : L[i]? = some s) (his : s.is = true) : isN L i = true := by
  unfold isN
  simp [hi, his]

theorem AtomReserved_law {w : World} {p : Option Addr} {n c : Nat} {ls : List Value} (hl : Rd w 3 p n ls) (ho : Ops ls n) : C_law04_AtomReserved p n c w fun r w' => r = true ∧ Upd [] w w' := by
  apply C_law04_AtomReserved.of
  unfold F_law04_AtomReserved F_law04_AtomReserved_k1 F_law04_AtomReserved_L1
  refine Tl.new (w := w) (Upd.refl _ _) (by omega) (by omega) fun w1 b t1 => lives_ok fun w2 u2 => ifF rfl (ifF rfl (ifF rfl ?_))
  obtain ⟨a, hab⟩ : ∃ a, a = (some ⟨b, 0, none⟩ : Option Addr) := ⟨_, rfl⟩
  have t2 := t1.keep u2
  rw [← hab] at t2 ⊢
  refine ⟨fun s v => 0 ≤ s.i ∧ s.i ≤ 60 ∧ ∃ L made, Tl w v [] a L made 30 ∧ made ≤ s.i, fun s _ => (60 - s.i).toNat, ⟨by simp, by simp, _, _, t2, by simp⟩, ?_⟩
  rintro ⟨i⟩ v ⟨hi0, hi1, L, made, t, hmade⟩
  dsimp only at hi0 hi1 hmade
  unfold B_law04_AtomReserved_L1 F_law04_AtomReserved_k2
  dsimp only
  -- the end
  have last : C_atom_Reserved v fun t62P t62N t62C w1_8 =>
      C_ref04_Reserved w1_8 fun t63P t63N t63C w1_9 =>
      If ((t62N : Int) != (t63N : Int)) (false = true ∧ Upd [] w w1_9)
      (F_law04_AtomReserved_L2 a t62P t62N t62C t63P t63N t63C ⟨(0 : Int)⟩ w1_9 (fun w1_12 => true = true ∧ Upd [] w w1_12) (fun t2_1 w1_13 => t2_1 = true ∧ Upd [] w w1_13)) := by
    refine Reserved_ok fun v1 hs1 u1 => RefRes_ok fun v2 hs2 u2 => ifF rfl ?_
    have hs1' := hs1.upd u2 (by intro k _ h; cases h)
    have ta := (t.watch u1 (Y := [v.heap.size]) (fun x hx => by simp at hx; omega) (hs1.inn)).watch u2 (Y := [v1.heap.size]) (fun x hx => by simp at hx; omega) (hs2.inn)
    unfold F_law04_AtomReserved_L2
    refine ⟨fun s v' => 0 ≤ s.i_1 ∧ s.i_1 ≤ 15 ∧ Tl w v' ([v1.heap.size] ++ ([v.heap.size] ++ [])) a L made 30 ∧ SlAt v' 1 (some ⟨v.heap.size, 0, none⟩) 15 15 (resL.map .string) [v.heap.size] ∧ SlAt v' 1 (some ⟨v1.heap.size, 0, none⟩) 15 15 (resL.map .string) [v1.heap.size], fun s _ => (15 - s.i_1).toNat, ⟨by simp, by simp, ta, hs1', hs2⟩, ?_⟩
    rintro ⟨k⟩ v' ⟨hk0, hk1, tk, ha1, ha2⟩
    dsimp only at hk0 hk1
    unfold B_law04_AtomReserved_L2 F_law04_AtomReserved_k3
    dsimp only
    refine ifC (fun hc => ?_) (fun _ => ⟨rfl, tk.U⟩)
    simp at hc
    have hkl : k.toNat < resL.length := by have : resL.length = 15 := rfl; omega
    have cell : ∀ {z : World} {q : Nat}, SlAt z 1 (some ⟨q, 0, none⟩) 15 15 (resL.map .string) [q] → z.cell? ⟨q, 0 + k.toNat, none⟩ = some (.string resL[k.toNat]) := fun {z q} hs => by
      obtain ⟨bb, oo, hpp, hcc⟩ := hs.cell (i := k.toNat) (by omega)
      simp at hpp
      obtain ⟨rfl, rfl⟩ := hpp
      rw [hcc, List.getElem?_map, List.getElem?_eq_getElem hkl]; rfl
    simp only [NN_some, addN, Nat.mul_one, cell ha2, exStr]
    refine ⟨hk0, hc, ?_⟩
    -- found
    have hf : findN L resL[k.toNat] = some k.toNat := by
      obtain ⟨M, E, hat⟩ := tk.atm
      obtain ⟨m, hm⟩ := hat.res k.toNat (by omega)
      rw [List.getElem?_eq_getElem hkl] at hm
      exact find_of ⟨M, E, hat⟩ hm rfl
    refine tk.find fun v3 t3 f3 => ?_
    have hb1 := f3.sl ha1 (by simp)
    have hb2 := f3.sl ha2 (by simp)
    rw [hf]
    simp only [NN_some, addN, Nat.mul_one, cell hb1.drw, cell hb2.drw, exStr]
    refine ⟨hk0, hc, hk0, hc, ifF (by simp) (ifF rfl (ifF (by simp; omega) ?_))⟩
    rw [i64id (by omega) (by omega)]
    exact ⟨⟨by omega, by omega, t3.keep (drw_upd v3), hb1.drw, hb2.drw⟩, by omega⟩
  refine ifC (fun hc => ifC (fun hc2 => ?_) (fun _ => last)) (fun _ => last)
  clear last
  simp at hc hc2
  obtain ⟨x, o, hx, hcell⟩ := Ops.get hl ho (i := i.toNat) (by omega)
  subst hx
  obtain ⟨c0, c1, c2⟩ := hcell v (hl.keep t.U)
  simp only [NN_some, addA, Nat.add_zero, c0, c1, c2, exI, exStr]
  have fin : ∀ {v' : World} {L' : List Slot} {m' : Int}, Tl w v' [] a L' m' 30 → m' ≤ i + 1 → (0 ≤ IntKind.i64.wrap (i + 1) ∧ IntKind.i64.wrap (i + 1) ≤ 60 ∧ ∃ L made, Tl w v' [] a L made 30 ∧ made ≤ IntKind.i64.wrap (i + 1)) ∧ (60 - IntKind.i64.wrap (i + 1)).toNat < (60 - i).toNat := by
    intro v' L' m' t' hm'
    rw [i64id (by omega) (by omega)]
    exact ⟨⟨by omega, by omega, L', m', t', hm'⟩, by omega⟩
  refine ⟨hi0, hc, ifC (fun _ => ?_) (fun _ => ifC (fun _ => ?_) (fun _ => ifC (fun _ => ?_) (fun _ => fin t (by omega))))⟩
  · exact ⟨hi0, hc, t.intern (by omega) (fun _ v' t' _ => fin t' (by omega)) (fun _ j _ v' t' _ => fin t' (by omega)) (fun _ _ j _ v' t' _ => fin t' (by omega)) (fun _ _ _ _ v' t' _ => fin t' (by omega)) (fun _ _ _ _ v' t' _ => fin t' (by omega))⟩
  · exact ⟨hi0, hc, t.mark (fun _ v' t' _ => fin t' (by omega)) (fun _ _ v' t' _ => fin t' (by omega))⟩
  · exact t.sweep fun v' t' _ => fin t' (by omega)

/-- All slots have names. -/
def Full (L : List Slot) : Prop := ∀ s ∈ L, s.is = true

theorem Full.free {L : List Slot} (h : Full L) : freeN L = none := by
  unfold freeN
  rw [List.findIdx?_eq_none_iff]
  intro s hs
  simp [h s hs]

theorem Full.cnt : ∀ {L : List Slot}, Full L → cntIs L = L.length
  | [], _ => rfl
  | s :: L, h => by
    have ih := Full.cnt (L := L) fun x hx => h x (by simp [hx])
    have h1 := h s (by simp)
    unfold cntIs at *
    simp only [List.map_cons, List.sum_cons, List.length_cons, h1]
    simp; omega

theorem Full.grow {L : List Slot} {n : ByteArray} (h : Full L) : Full (L ++ [⟨n, true, false⟩]) := fun s hs => by
  rcases List.mem_append.1 hs with hs | hs
  · exact h s hs
  · simp at hs; subst hs; rfl

theorem init_full : Full initL := fun s hs => by
  unfold initL at hs
  obtain ⟨n, _, rfl⟩ := List.mem_map.1 hs
  rfl

theorem findN_grow {L : List Slot} {n : ByteArray} (h : findN L n = none) : findN (L ++ [⟨n, true, false⟩]) n = some L.length := by
  unfold findN at *
  rw [List.findIdx?_append, h]
  simp

theorem AtomTells_law {w : World} {p : Option Addr} {n c : Nat} {ls : List ByteArray} (hl : Rd w 1 p n (ls.map .string)) : C_law04_AtomTells p n c w fun r w' => r = true ∧ Upd [] w w' := by
  apply C_law04_AtomTells.of
  unfold F_law04_AtomTells F_law04_AtomTells_L1
  have hn : n = ls.length := by have := hl.1; simp at this; exact this.symm
  refine Tl.new (w := w) (Upd.refl _ _) (by omega) (by omega) fun w1 b t1 => lives_ok fun w2 u2 => ifF rfl (ifF rfl (ifF rfl (ifC (fun _ => lives_ok fun w3 u3 => ⟨rfl, ((t1.keep u2).keep u3).U⟩) (fun hn100 => ?_))))
  simp at hn100
  obtain ⟨a, hab⟩ : ∃ a, a = (some ⟨b, 0, none⟩ : Option Addr) := ⟨_, rfl⟩
  have t2 := t1.keep u2
  rw [← hab] at t2 ⊢
  refine ⟨fun s v => 0 ≤ s.i ∧ s.i ≤ n ∧ ∃ L made, Tl w v [] a L made 16384 ∧ Full L ∧ (L.length : Int) = 15 + made ∧ 0 ≤ made ∧ made ≤ s.i, fun s _ => (n - s.i).toNat, ⟨by simp, by simp, _, _, t2, init_full, rfl, by omega, by simp⟩, ?_⟩
  rintro ⟨i⟩ v ⟨hi0, hi1, L, made, t, hfull, hlen, hm0, hm1⟩
  dsimp only at hi0 hi1 hm1
  unfold B_law04_AtomTells_L1 F_law04_AtomTells_k2 F_law04_AtomTells_k3
  dsimp only
  refine ifC (fun hc => ?_) (fun hc => ?_)
  · simp at hc
    have hil : i.toNat < ls.length := by omega
    have hcell : ∀ v', Upd [] w v' → ∃ x, p = some x ∧ v'.cell? (x.add i.toNat) = some (.string ls[i.toNat]) := fun v' u => by
      obtain ⟨x, hx, hcx⟩ := (hl.keep u).at (i := i.toNat) (by omega)
      rw [List.getElem?_map, List.getElem?_eq_getElem hil] at hcx
      exact ⟨x, hx, hcx⟩
    obtain ⟨x, hx, hcx⟩ := hcell v t.U
    subst hx
    have cell : ∀ v', Upd [] w v' → v'.cell? (x.add i.toNat) = some (.string ls[i.toNat]) := fun v' u => by
      obtain ⟨y, hy, hcy⟩ := hcell v' u
      obtain rfl := Option.some.inj hy
      exact hcy
    simp only [NN_some, Nat.mul_one, hcx, exStr]
    have fin : ∀ {v' : World} {L' : List Slot} {m' : Int}, Tl w v' [] a L' m' 16384 → Full L' → (L'.length : Int) = 15 + m' → 0 ≤ m' → m' ≤ i + 1 → (0 ≤ IntKind.i64.wrap (i + 1) ∧ IntKind.i64.wrap (i + 1) ≤ n ∧ ∃ L made, Tl w v' [] a L made 16384 ∧ Full L ∧ (L.length : Int) = 15 + made ∧ 0 ≤ made ∧ made ≤ IntKind.i64.wrap (i + 1)) ∧ (n - IntKind.i64.wrap (i + 1)).toNat < (n - i).toNat := by
      intro v' L' m' t' h1 h2 h3 h4
      rw [i64id (by omega) (by omega)]
      exact ⟨⟨by omega, by omega, L', m', t', h1, h2, h3, h4⟩, by omega⟩
    -- it is there
    have there : ∀ {v1 : World} {L1 : List Slot} {m1 : Int} {k : Nat}, Tl w v1 [] a L1 m1 16384 → ls[i.toNat].size ≤ 64 → findN L1 ls[i.toNat] = some k → Full L1 → (L1.length : Int) = 15 + m1 → 0 ≤ m1 → m1 ≤ i + 1 → ∀ (Kr : Bool → World → Prop),
        C_atom_Table_Made a v1 fun t63 w1_6 => C_atom_Table_Name a (k : Int) w1_6 fun t670 t671 w1_7 => 0 ≤ i ∧ i < (n : Int) ∧ ∃ t75 : ByteArray, w1_7.cell? (x.add i.toNat) = some (.string t75) ∧
          C_atom_Table_Find a t75 w1_7 fun t760 t761 w1_8 => 0 ≤ i ∧ i < (n : Int) ∧ ∃ t84 : ByteArray, w1_8.cell? (x.add i.toNat) = some (.string t84) ∧
          C_atom_Table_Intern a t84 w1_8 fun t850 t851 w1_9 => If ((0 : Int) != (0 : Int)) (Kr false w1_9) (If (t671 != (0 : Int)) (Kr false w1_9) (0 ≤ i ∧ i < (n : Int) ∧ ∃ t99 : ByteArray, w1_9.cell? (x.add i.toNat) = some (.string t99) ∧
            If (!(t670.toList == t99.toList)) (Kr false w1_9) (If (!t761) (Kr false w1_9) (If (t760 != (k : Int)) (Kr false w1_9) (If (t851 != (0 : Int)) (Kr false w1_9) (If (t850 != (k : Int)) (Kr false w1_9)
              (C_atom_Table_Made a w1_9 fun t122 w1_10 => If (t122 != t63) (Kr false w1_10) ((0 ≤ IntKind.i64.wrap (i + 1) ∧ IntKind.i64.wrap (i + 1) ≤ n ∧ ∃ L made, Tl w w1_10 [] a L made 16384 ∧ Full L ∧ (L.length : Int) = 15 + made ∧ 0 ≤ made ∧ made ≤ IntKind.i64.wrap (i + 1)) ∧ (n - IntKind.i64.wrap (i + 1)).toNat < (n - i).toNat)))))))) := by
      intro v1 L1 m1 k tl hsz hf h1 h2 h3 h4 Kr
      obtain ⟨hkl, hkis, hkn⟩ := findN_get hf
      refine tl.count fun v2 t2 _ => t2.name (fun hno => ?_) (fun _ hki v3 t3 _ => ?_)
      · rw [isN_of (List.getElem?_eq_getElem hkl) hkis] at hno; cases hno
      · have hki' : k < L1.length := by simpa using hki
        refine ⟨hi0, hc, _, cell v3 t3.U, t3.find fun v4 t4 _ => ⟨hi0, hc, _, cell v4 t4.U, t4.intern (by omega) (fun h => by omega) (fun _ j hj v5 t5 _ => ?_) (fun _ h => by rw [hf] at h; cases h) (fun _ h => by rw [hf] at h; cases h) (fun _ h => by rw [hf] at h; cases h)⟩⟩
        rw [hf] at hj
        obtain rfl := Option.some.inj hj
        rw [hf]
        refine ifF rfl (ifF rfl ⟨hi0, hc, _, cell v5 t5.U, ifF ?_ (ifF rfl (ifF (by simp) (ifF rfl (ifF (by simp) (t5.count fun v6 t6 _ => ifF (by simp) (fin t6 h1 h2 h3 h4))))))⟩)
        simp only [Int.toNat_natCast]
        rw [hkn]; simp
    refine ⟨hi0, hc, t.intern (by omega) (fun hlong v1 t1' _ => ?_) (fun hsz j hj v1 t1' _ => ?_) (fun _ _ j hj => by rw [hfull.free] at hj; cases hj) (fun _ _ _ h => by omega) (fun hsz hnf _ hlt v1 t1' _ => ?_)⟩
    · simp only [cell v1 t1'.U, exStr]
      refine ⟨hi0, hc, ifT (by simp; omega) (ifF rfl (ifF rfl (fin t1' hfull hlen hm0 (by omega))))⟩
    · simp only [cell v1 t1'.U, exStr]
      refine ⟨hi0, hc, ifF (by simp; omega) ?_⟩
      exact there t1' hsz hj hfull hlen hm0 (by omega) (fun r w' => r = true ∧ Upd [] w w')
    · simp only [cell v1 t1'.U, exStr]
      refine ⟨hi0, hc, ifF (by simp; omega) ?_⟩
      exact there t1' hsz (findN_grow hnf) hfull.grow (by simp; omega) (by omega) (by omega) (fun r w' => r = true ∧ Upd [] w w')
  · refine t.len fun v1 t1' _ => t1'.count fun v2 t2' _ => ?_
    have hcn := hfull.cnt
    rw [i64id (by omega) (by omega)]
    refine ifT (by simp; omega) (t2'.slots fun v3 t3' _ => t3'.len fun v4 t4' _ => ⟨by simp; omega, t4'.U⟩)

end

end Go.Proofs.Ytifgjlkmmbpbkaa
