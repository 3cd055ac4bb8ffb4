import Derived.Test.YtdaenijbokialaaGreatKeyT
import Derived.Test.YtdaenijbokialaaGreatDec4
import Derived.Test.YtdaenijbokialaaGreatSeg2
namespace Go.Proofs.YtdaenijbokialaaGreat
open Go Go.D Go.Proofs
set_option linter.unusedSimpArgs false
set_option linter.unusedVariables false
set_option maxRecDepth 8000
def fS : ByteArray := ⟨#[102]⟩
def tmF (a b c : Tm) : Tm := .mk 4 0 fS [a, b, c]
def tI (n : Int) : Tm := .mk 2 n ⟨#[]⟩ []
section
variable {w : World}
theorem getters {d : HpD} {E : List Nat} {v : World} (h : Hp w v d E) {K : Option Addr → World → Prop} : (K d.pd.a v → C_heap_Heap_Pool d.a v K) ∧ (K d.tm v → C_heap_Heap_Trail d.a v K) ∧ (K d.at_ v → C_heap_Heap_Atoms d.a v K) ∧ (K d.ft v → C_heap_Heap_Functors d.a v K) := by
 refine ⟨fun hK => ?_, fun hK => ?_, fun hK => ?_, fun hK => ?_⟩
 ·apply C_heap_Heap_Pool.of
  unfold F_heap_Heap_Pool
  refine hmade_ok h (ifF rfl ?_)
  simp only [HpD.a, NN_some, addN, drw_cell, drw_heap, exS, exI, exB, exP, exM, exStr, exV, a0, a1, a2, a3, a4, a5, a6, a7, a8, a9, a10, a11, a12, a13, maxI_eq, Nat.zero_add, Nat.add_zero, Nat.mul_one, Option.isNone_some, Option.isNone_none, h.blk.cell]
  exact hK
 ·apply C_heap_Heap_Trail.of
  unfold F_heap_Heap_Trail
  refine hmade_ok h (ifF rfl ?_)
  simp only [HpD.a, NN_some, addN, drw_cell, drw_heap, exS, exI, exB, exP, exM, exStr, exV, a0, a1, a2, a3, a4, a5, a6, a7, a8, a9, a10, a11, a12, a13, maxI_eq, Nat.zero_add, Nat.add_zero, Nat.mul_one, Option.isNone_some, Option.isNone_none, h.blk.cell]
  exact hK
 ·apply C_heap_Heap_Atoms.of
  unfold F_heap_Heap_Atoms
  refine hmade_ok h (ifF rfl ?_)
  simp only [HpD.a, NN_some, addN, drw_cell, drw_heap, exS, exI, exB, exP, exM, exStr, exV, a0, a1, a2, a3, a4, a5, a6, a7, a8, a9, a10, a11, a12, a13, maxI_eq, Nat.zero_add, Nat.add_zero, Nat.mul_one, Option.isNone_some, Option.isNone_none, h.blk.cell]
  exact hK
 ·apply C_heap_Heap_Functors.of
  unfold F_heap_Heap_Functors
  refine hmade_ok h (ifF rfl ?_)
  simp only [HpD.a, NN_some, addN, drw_cell, drw_heap, exS, exI, exB, exP, exM, exStr, exV, a0, a1, a2, a3, a4, a5, a6, a7, a8, a9, a10, a11, a12, a13, maxI_eq, Nat.zero_add, Nat.add_zero, Nat.mul_one, Option.isNone_some, Option.isNone_none, h.blk.cell]
  exact hK
theorem Hp.tabs {d : HpD} {E : List Nat} {v : World} (h : Hp w v d E) : d.tm.isNone = false ∧ d.at_.isNone = false ∧ d.ft.isNone = false := by
 refine ⟨?_, ?_, ?_⟩
 ·obtain ⟨b, _, _, _, _, e, _⟩ := h.tr
  rw [e]; rfl
 ·obtain ⟨FT, has, _⟩ := h.bf.tl
  rcases has with ⟨d', _, _, e, _⟩ | ⟨b, _, e, _⟩
  ·rw [← e]; rfl
  ·rw [e]; rfl
 ·rw [← h.bf.fa]; rfl
theorem mkRow {a b c : Tm} {v : World} {K : Option Addr → Nat → Nat → World → Prop} (ha : a.l = [] ∧ a.s.size < 2 ^ 63) (hb : b.l = [] ∧ b.s.size < 2 ^ 63) (hc : c.l = [] ∧ c.s.size < 2 ^ 63)
  (hK : ∀ v', RdA v' [v.heap.size] [a, b, c] (some ⟨v.heap.size, 0, none⟩) 0 → In [v.heap.size] v' → Upd [] v v' → K (some ⟨v.heap.size, 0, none⟩) 3 3 v') :
  BSl Tryz.prog 22 3 [(0, .agg #[.int .i64 a.kind, .int .i64 a.n, .string a.s, .slice none 0 0]), (1, .agg #[.int .i64 b.kind, .int .i64 b.n, .string b.s, .slice none 0 0]), (2, .agg #[.int .i64 c.kind, .int .i64 c.n, .string c.s, .slice none 0 0])] v K := by
 refine BSlL_rule eS_22 [.agg #[.int .i64 a.kind, .int .i64 a.n, .string a.s, .slice none 0 0], .agg #[.int .i64 b.kind, .int .i64 b.n, .string b.s, .slice none 0 0], .agg #[.int .i64 c.kind, .int .i64 c.n, .string c.s, .slice none 0 0]] (by rfl) (by simp [Value.cells]) (by rfl) (by omega) fun v1 hs1 u1 => ?_
 have t1 : TmsAt v1 (some ⟨v.heap.size, 0, none⟩) 3 3 [a, b, c] [v.heap.size] [] := by
  refine ⟨[(a, none, 0), (b, none, 0), (c, none, 0)], rfl, ?_, fun x hx => ?_, (by intro k hk; cases hk)⟩
  ·have : ([(a, none, 0), (b, none, 0), (c, none, 0)] : List TmP).flatMap tmC = ([.agg #[.int .i64 a.kind, .int .i64 a.n, .string a.s, .slice none 0 0], .agg #[.int .i64 b.kind, .int .i64 b.n, .string b.s, .slice none 0 0], .agg #[.int .i64 c.kind, .int .i64 c.n, .string c.s, .slice none 0 0]] : List Value).flatMap fun v => v.cells.toList := by
    simp [tmC, Value.cells, ha.1, hb.1, hc.1]
   rw [this]; exact hs1
  ·simp at hx
   rcases hx with rfl | rfl | rfl
   ·exact ⟨ha.2, by rw [ha.1]; exact RdA.of fun i hi => absurd hi (by simp)⟩
   ·exact ⟨hb.2, by rw [hb.1]; exact RdA.of fun i hi => absurd hi (by simp)⟩
   ·exact ⟨hc.2, by rw [hc.1]; exact RdA.of fun i hi => absurd hi (by simp)⟩
 exact hK v1 (by simpa using t1.rd) t1.inn.1 u1
theorem mkF {a b c : Tm} {v : World} {K : Int → Int → ByteArray → Option Addr → Nat → Nat → World → Prop} (ha : a.l = [] ∧ a.s.size < 2 ^ 63) (hb : b.l = [] ∧ b.s.size < 2 ^ 63) (hc : c.l = [] ∧ c.s.size < 2 ^ 63)
  (hK : ∀ v' p c' G, RdA v' G [a, b, c] p 0 → In G v' → Since G v → Upd [] v v' → K 4 0 fS p 3 c' v') :
  BSl Tryz.prog 22 3 [(0, .agg #[.int .i64 a.kind, .int .i64 a.n, .string a.s, .slice none 0 0]), (1, .agg #[.int .i64 b.kind, .int .i64 b.n, .string b.s, .slice none 0 0]), (2, .agg #[.int .i64 c.kind, .int .i64 c.n, .string c.s, .slice none 0 0])] v fun p n c w1 =>
   C_ref06_Comp ⟨#[102]⟩ p n c w1 K := by
 refine mkRow ha hb hc fun v1 t1 i1 u1 => ?_
 refine rComp_ok (F := [v.heap.size]) (l := [a, b, c]) t1 i1 (by show 3 < 2 ^ 29; omega) (by simp) fun v2 p2 c2 G ra in2 s2 u2 => ?_
 exact hK v2 p2 c2 _ ra in2 (fun k hk => by
  rcases List.mem_append.1 hk with g | g
  ·have := s2 k g; have := u1.size; omega
  ·simp at g; omega) (u1.after u2)
end
def tmT0 : Tm := tmF (tV 0) (tI (-7)) (tV 0)
theorem app_tI {f : Int → Tm} {n : Int} : (tI n).app f = tI n := by unfold tI; rw [app_mk (by decide)]; rfl
theorem app_tmF {f : Int → Tm} {a b c : Tm} : (tmF a b c).app f = tmF (a.app f) (b.app f) (c.app f) := by unfold tmF; rw [app_mk (by decide)]; rfl
theorem pv_tI (n : Int) : (tI n).pv := (Tm.pv_eq _).2 ⟨fun h => absurd h (by show ¬ (2 : Int) = 1; decide), by intro u hu; cases hu⟩
theorem pv_tmF {a b c : Tm} (ha : a.pv) (hb : b.pv) (hc : c.pv) : (tmF a b c).pv := (Tm.pv_eq _).2 ⟨fun h => absurd h (by show ¬ (4 : Int) = 1; decide), by
 intro u hu
 have hu : u ∈ [a, b, c] := hu
 simp at hu
 rcases hu with rfl | rfl | rfl <;> assumption⟩
theorem pv_T0 : tmT0.pv := pv_tmF (pv_tV 0) (pv_tI _) (pv_tV 0)
theorem num_tmT0 : numT (varsL [tmT0] []) tmT0 = tmT0 := by rfl
theorem vars_tmF (i : Int) : (tmF (tV i) (tI (-7)) (tV i)).vars [] = [i] := by
 unfold tmF tV tI
 simp [Tm.vars, varsL]
theorem num_one {i : Int} : numT (varsL [tmF (tV i) (tI (-7)) (tV i)] []) (tmF (tV i) (tI (-7)) (tV i)) = tmT0 := by
 have e : varsL [tmF (tV i) (tI (-7)) (tV i)] [] = [i] := by rw [varsL, varsL, vars_tmF]
 rw [e]
 unfold numT tmF tV tI tmT0 tmF tV tI
 simp [Tm.ren, renL]
section
variable {C C' : List Wd} {L : List Slot} {FL : List Fn.Slot}
theorem ev_new {n id : Nat} {s : ByteArray} (hc : C[n]? = some (.fn id)) (hat : At L FL id s (3 : Nat)) (hs : s.size ≤ 64) (h0 : C[n + 1]? = some (.ref (n + 1))) (h1 : C[n + 2]? = some (.ref (n + 2))) (h2 : C[n + 3]? = some (.ref (n + 3))) :
  Ev C L FL (.mk 4 0 s [tV ((n + 1 : Nat) : Int), tV ((n + 2 : Nat) : Int), tV ((n + 3 : Nat) : Int)]) (.str n) := by
 refine Ev.mk_iff.2 ⟨_, ⟨0, .stop (by simp [Wd.tag])⟩, hs, ?_⟩
 rw [if_neg (by decide), if_neg (by decide), if_neg (by decide)]
 refine ⟨rfl, rfl, n, id, rfl, hc, hat, ?_⟩
 rw [EvL, EvL, EvL, EvL]
 exact ⟨ev_ref h0, ev_ref h1, ev_ref h2, trivial⟩
theorem lives_plain {x : Wd} {i n : Nat} (wf : WF C L FL) (ac : Acy C L FL) (wf' : WF C' L FL) (ac' : Acy C' L FL) (hb : BExt C C') (hrw : ∀ x, rightW C' L x = rightW C L x) (hi : i ≤ n) (hx : rightW C L x = true) (hn : rightW C L (.str n) = true)
  (ex : Ev C L FL (tmF (tV i) (tI (-7)) (tV i)) x) (en : Ev C L FL (tmF (tV ((n + 1 : Nat) : Int)) (tV ((n + 2 : Nat) : Int)) (tV ((n + 3 : Nat) : Int))) (.str n)) (ok : Bool)
  (hok : ok = true → ∀ θ, Sol C' L FL θ ↔ Sol C L FL θ ∧ wval C L FL θ x = wval C L FL θ (.str n)) (hno : ok = false → ∀ θ, Sol C L FL θ → wval C L FL θ x ≠ wval C L FL θ (.str n)) :
  ok = true ∧ ∃ t, Ev C' L FL t (.str n) ∧ t.size = 4 ∧ t.depth = 2 ∧ numT (varsL [t] []) t = tmT0 ∧ (∀ y, Der C' (.ref (n + 2)) y → y ≠ .ref (n + 2)) := by
 have τs := ac.sol fun m => if m = ((n + 2 : Nat) : Int) then tI (-7) else tV 0
 have v1 : wval C L FL (sol0 C L FL fun m => if m = ((n + 2 : Nat) : Int) then tI (-7) else tV 0) x = tmT0 := by
  rw [sol0_val ex, app_tmF, app_tV, app_tI, if_neg (by omega)]; rfl
 have v2 : wval C L FL (sol0 C L FL fun m => if m = ((n + 2 : Nat) : Int) then tI (-7) else tV 0) (.str n) = tmT0 := by
  rw [sol0_val en, app_tmF, app_tV, app_tV, app_tV, if_neg (by omega), if_pos rfl, if_neg (by omega)]; rfl
 have hT : ok = true := by
  cases ok with
  | true => rfl
  | false => exact absurd (v1.trans v2.symm) (hno rfl _ τs)
 refine ⟨hT, ?_⟩
 have hsol := hok hT
 have s1 : Sol C' L FL _ := (hsol _).2 ⟨τs, v1.trans v2.symm⟩
 obtain ⟨t, ht⟩ := ac' (.str n) (by rw [hrw]; exact hn)
 have hpv := Ev.pv t ht
 have g1 := s1.ev t ht
 rw [wval_ext hb hn, v2] at g1
 have s2 := ac'.sol tV
 have g2 := (hsol _).1 s2
 have g3 := g2.1.ev _ ex
 have g4 := sol0_val (τ := tV) ht
 rw [wval_ext hb hn, ← g2.2, g3, app_tmF, app_tV, app_tI, app_self hpv fun _ _ => rfl] at g4
 obtain ⟨z, hz⟩ : ∃ z, z = sol0 C' L FL tV ((i : Int).toNat) := ⟨_, rfl⟩
 rw [← hz] at g4
 have hT1 : [t] = [tmT0].map (Tm.app fun _ => z) := by
  unfold tmT0
  rw [List.map_singleton, app_tmF, app_tV, app_tI, ← g4]
 obtain ⟨r, q1, q2⟩ := variants (T := [t]) (U := [tmT0]) (by simpa using hpv) (by simpa using pv_T0) hT1 (by rw [List.map_singleton, ← g1])
 have q3 := numL_ren q2
 rw [← q1] at q3
 have q3 : numT (varsL [t] []) t = numT (varsL [tmT0] []) tmT0 := by simpa using q3
 have q1 : t = tmT0.ren r := by simpa using q1
 refine ⟨t, ht, ?_, ?_, by rw [q3]; exact num_tmT0, fun y hd e => ?_⟩
 ·rw [q1, ren_size]; rfl
 ·rw [q1, ren_depth]; rfl
 ·subst e
  rw [← g4] at ht
  obtain ⟨y, hy, _, h⟩ := Ev.eq.1 ht
  have : y = .str n := hy.uniq ⟨0, .stop (by simp [Wd.tag])⟩
  subst this
  rw [if_neg (by show ¬ (4 : Int) = 1; decide), if_neg (by show ¬ (4 : Int) = 2; decide), if_neg (by show ¬ (4 : Int) = 3; decide)] at h
  obtain ⟨_, _, j, id, e, _, _, hl⟩ := h
  cases e
  have h2 := EvL.at.1 hl 1 (by show 1 < 3; omega)
  have h3 : Ev C' L FL (tI (-7)) (.ref (n + 2)) := h2
  have hroot : C'[n + 2]? = some (.ref (n + 2)) := by
   rcases hd.last with g | ⟨m, e, g⟩
   ·exact absurd rfl g
   ·cases e; exact g
  have := Ev.uniq _ h3 (ev_ref hroot)
  have := congrArg Tm.kind this
  exact absurd this (by show ¬ (2 : Int) = 1; decide)
end
theorem Upd.same {w w' : World} (u : Upd [] w w') {a : Addr} (h : a.block < w.heap.size) : w'.cell? a = w.cell? a := by
 unfold World.cell?
 rw [u.blk a.block h (by simp)]
theorem MapAt.far {κ : Type} {v z : World} {E : List Nat} {r : Nat} {inj : κ → Value} {M : List (κ × Value)} (h : MapAt v r inj M) (f : Far E v z) (hr : r ∈ E) : MapAt z r inj M := by
 obtain ⟨X, u, dd⟩ := f
 exact h.upd u (dd r hr)
theorem RdA.one {v : World} {F : List Nat} {l : List Tm} {p : Option Addr} (h : RdA v F l p 0) {i : Nat} (hi : i < l.length) (hF : In F v) : ∃ x q c, p = some x ∧ x.block < v.heap.size ∧ (∀ j, j < 4 → v.cell? (x.add (i * 4 + j)) = (tmC (l[i], q, c))[j]?) ∧ RdA v F l[i].l q 0 := by
 obtain ⟨x, q, c, e1, e2, e3, e4, e5, e6, e7, e8⟩ := h.at i hi
 simp only [Nat.zero_add] at e3 e4 e5 e6
 refine ⟨x, q, c, e1, hF _ e2, fun j hj => ?_, e8⟩
 match j, hj with
 | 0, _ => exact e3
 | 1, _ => exact e4
 | 2, _ => exact e5
 | 3, _ => exact e6
theorem enc_ne0 (x : Wd) : x.enc ≠ 0 := fun h => by
 have h1 := x.enc_tag
 have h2 := x.tag5
 rw [h] at h1
 omega
theorem one_word {w v : World} {d : HpD} {E : List Nat} {x : Int} {K : Option Addr → Nat → Nat → World → Prop} (h : Hp w v d E) (hK : ∀ v' p b, Hp w v' d (b :: E) → WRow v' (b :: E) p [x] → Upd [] v v' → K p 1 1 v') : BSl Tryz.prog 36 1 [(0, .int .u64 x)] v K := by
 refine BSlL_rule eS_36 [.int .u64 x] (by rfl) (by simp [Value.cells]) (by rfl) (by omega) fun v1 hs u => ?_
 have hlt := hs.inn v.heap.size (by simp)
 refine hK v1 _ v.heap.size (h.watch u (Y := [v.heap.size]) (by intro k hk; simp at hk; omega) (by intro k hk; simp at hk; omega)) ⟨?_, fun y hy _ => ?_⟩ u
 ·have := hs.rd
  simpa [Value.cells] using this
 ·cases hy; simp
section
variable {w : World}
theorem lives_ok {K : Bool → World → Prop} (hK : ∀ w', Upd [] w w' → K true w') : C_law20_lives w K := by
 apply C_law20_lives.of
 unfold F_law20_lives
 refine HNew_ok (Upd.refl [] w) (by omega) (by omega) (by omega) (by omega) fun v1 d1 h1 fr U1 _ => ifF rfl (ifF rfl ?_)
 refine New_map fun r v2 hr u2 hm2 => rVar_ok fun v3 u3 => rInt_ok fun v4 u4 => rVar_ok fun v5 u5 => ?_
 have hm2 : MapAt v2 r (fun a : Int => Value.int .i64 a) (vmM []) := MapAt.new _ hm2
 refine mkF (a := tV 3) (b := tI (-7)) (c := tV 3) ⟨rfl, by decide⟩ ⟨rfl, by decide⟩ ⟨rfl, by decide⟩ fun v6 p6 c6 G ra6 in6 s6 u6 => ?_
 refine New_rule fun q7 v7 hq7 u7 b7 => ?_
 refine St4q b7 rfl rfl rfl rfl fun v8 u8 b8 => ?_
 have hb8 := b8.cell
 have U78 : Upd [] v6 v8 := u7.fresh u8 (by intro k hk; simp at hk; omega)
 have U28 : Upd [] v2 v8 := ((((u3.after u4).after u5).after u6).after U78)
 have U18 : Upd [] v1 v8 := u2.after U28
 simp only [NN_some, addN, drw_cell, drw_heap, exS, exI, exB, exP, exM, exStr, exV, a0, a1, a2, a3, a4, a5, a6, a7, a8, a9, a10, a11, a12, a13, maxI_eq, Nat.zero_add, Nat.add_zero, Nat.mul_one, Option.isNone_some, Option.isNone_none, hb8]
 have hrl := hm2.lt
 have rG : r ∉ G := fun hx => by have := s6 r hx; have := u3.size; have := u4.size; have := u5.size; omega
 have h8 : Hp w v8 d1 (r :: G) := by
  have := h1.watch U18 (Y := r :: G) (fun k hk => by
   rcases List.mem_cons.1 hk with e | e
   ·omega
   ·have := s6 k e; have := u2.size; have := u3.size; have := u4.size; have := u5.size; omega) (fun k hk => by
   rcases List.mem_cons.1 hk with e | e
   ·have := U28.size; omega
   ·exact (in6.upd U78) k e)
  rw [List.append_nil] at this; exact this
 have rightF : (tmF (tV 3) (tI (-7)) (tV 3)).right = true := by
  unfold tmF tV tI
  simp [Tm.right, rightL, partT, noBytes, fS, ByteArray.size]
 have ck : checkT (tmF (tV 3) (tI (-7)) (tV 3)) = 0 := by
  unfold checkT
  rw [rightF]; rfl
 have nd : need (tmF (tV 3) (tI (-7)) (tV 3)) [] = 5 := by rfl
 refine Encode_ok (F := G) (E := G) (tmF (tV 3) (tI (-7)) (tV 3)) (V := []) (RdA.keep U78 ra6) (fun k hk => hk) ck h8 fr.hi (by show 0 + 4 < 16000; omega) (by have := U1.size; omega) rG (hm2.upd U28 (by simp)) ⟨by simp, by simp, by simp⟩ (fun hl => ?_) (fun hl v9 d9 C9 V9 x h9 hi9 hlen9 _ hkeys9 _ hv9 hm9 rep9 xf kin9 _ _ acy9 _ f9 => ?_)
 ·exfalso
  have : need (tmF (tV 3) (tI (-7)) (tV 3)) (([] : List (Int × Nat)).map (·.1)) = 5 := nd
  rw [fr.lim, this] at hl
  simp at hl
 have hlen9 : C9.length = 5 := hlen9
 have hkeys9 : V9.map (·.1) = [3] := hkeys9
 obtain ⟨i, rfl⟩ : ∃ i, V9 = [(3, i)] := by
  match V9, hkeys9 with
  | [(a, i)], h => simp at h; subst h; exact ⟨i, rfl⟩
 have ac9 : Acy C9 d9.L d9.FL := acy9 (Acy.nil d1.FL fr.hi.n64)
 have hil := (List.getElem?_eq_some_iff.1 (hv9.cell (3, i) (by simp)).2).1
 have ex9 : Ev C9 d9.L d9.FL (tmF (tV i) (tI (-7)) (tV i)) x := by
  have := Rep.ev hv9.once _ rep9 rightF
  have e : (tmF (tV 3) (tI (-7)) (tV 3)).ren (cellOf [(3, i)]) = tmF (tV i) (tI (-7)) (tV i) := by
   have ec : cellOf [(3, i)] 3 = i := cellOf_in (V := [(3, i)]) (by simp) (by simp)
   unfold tmF tV tI
   simp [Tm.ren, renL, ec]
  rw [e] at this; exact this
 have xr9 := (rep9.self rightF).2
 have xd9 := (rep9.self rightF).1
 rw [← kin9.a]
 refine one_word h9 fun v10 p10 b10 h10 wr10 u10 => ?_
 refine Decode_ok (xs := [x]) (ts := [tmF (tV i) (tI (-7)) (tV i)]) h10 hi9 wr10 (by show 1 < 2 ^ 16; omega) (by simpa using xf) (by simpa using xr9) rfl (fun k h1 h2 => by
  have : k = 0 := by have : k < 1 := h1; omega
  subst this; exact ex9) (fun hb => absurd rfl hb) fun _ v11 p11 c11 vp vc Y RL h11 ra11 wr11 hRL hroots sY inY f11 => ?_
 rw [List.map_singleton, num_one] at ra11
 have eRL : RL = [i] := by
  have e : varsL [tmF (tV (i : Int)) (tI (-7)) (tV (i : Int))] [] = [(i : Int)] := by rw [varsL, varsL, vars_tmF]
  rw [e] at hRL
  match RL, hRL with
  | [a], h =>
   simp at h
   have : a = i := by omega
   rw [this]
 subst eRL
 have lim9 : d9.pd.limit = 100 := by rw [kin9.limit, fr.lim]
 refine Struct_ok (m := 3) (n := ⟨#[102]⟩) h11 hi9 (by show 0 + 4 < 16000; omega) (by decide) (by omega) (by omega) (fun hl => by omega) fun hl v12 d12 id h12 hi12 hat12 kin12 hsL hsF f12 => ?_
 rw [← kin12.a]
 obtain ⟨C12, eC12⟩ : ∃ C12, C12 = C9 ++ .fn id :: refs (C9.length + 1) 3 := ⟨_, rfl⟩
 rw [← eC12] at hi12
 have cfn : C12[C9.length]? = some (.fn id) := by rw [eC12, List.getElem?_append_right (by omega), Nat.sub_self, List.getElem?_cons_zero]
 have cref : ∀ k, k < 3 → C12[C9.length + 1 + k]? = some (.ref (C9.length + 1 + k)) := fun k hk => by
  rw [eC12, List.getElem?_append_right (by omega), show C9.length + 1 + k - C9.length = k + 1 by omega, List.getElem?_cons_succ, refs_get _ _ _ hk]
 have en12 : Ev C12 d12.L d12.FL (tmF (tV ((C9.length + 1 : Nat) : Int)) (tV ((C9.length + 2 : Nat) : Int)) (tV ((C9.length + 3 : Nat) : Int))) (.str C9.length) :=
  ev_new cfn hat12 (by decide) (cref 0 (by omega)) (cref 1 (by omega)) (cref 2 (by omega))
 have ac12 : Acy C12 d12.L d12.FL := by rw [eC12]; exact (ac9.grow hsL hsF hi12.n64).comp hi12.n64 hat12
 have ex12 : Ev C12 d12.L d12.FL (tmF (tV i) (tI (-7)) (tV i)) x := by rw [eC12]; exact Ev.more hsL hsF _ ex9
 have xr12 : rightW C12 d12.L x = true := by rw [eC12]; exact rightW_more (rightW_stay xr9 hsL)
 have sf12 : (Wd.str C9.length).fits := ⟨by show -2 ^ 60 ≤ (C9.length : Int); omega, by show (C9.length : Int) < 2 ^ 60; omega⟩
 have sr12 : rightW C12 d12.L (.str C9.length) = true := rightW_str.2 ⟨id, cfn⟩
 have sd12 : ∀ {C : List Wd}, Der C (.str C9.length) (.str C9.length) := ⟨0, .stop (by simp [Wd.tag])⟩
 refine Arg_ok (x := .str C9.length) (q := 2) (m := 3) h12 hi12 sf12 sr12 sd12 cfn hat12 (by omega) (fun hn => absurd ⟨by omega, by omega⟩ hn) fun _ _ v13 h13 f13 => ?_
 have e2 : Wd.ref (C9.length + (2 : Int).toNat) = Wd.ref (C9.length + 2) := rfl
 rw [e2]
 have st12 : d12.starts = [0] := by rw [kin12.starts, kin9.starts, fr.starts]
 refine Unify_ok (s := 0) h13 hi12 xf sf12 xr12 sr12 (by rw [st12]; rfl) (.inl rfl) fun ok v14 d14 C14 h14 hi14 bd hsol hno f14 => ?_
 rw [← bd.a]
 have wf14 : WF C14 d12.L d12.FL := by have := hi14.wf; rw [bd.L, bd.FL] at this; exact this
 obtain ⟨rfl, t14, et14, esz, edp, enum, hder⟩ := lives_plain hi12.wf ac12 wf14 (bd.acy ac12) bd.ext bd.rw_ (n := C9.length) (i := i) (by omega) xr12 sr12 ex12 en12 ok hsol hno
 have sr14 : rightW C14 d14.L (.str C9.length) = true := by rw [bd.L, bd.rw_]; exact sr12
 refine one_word h14 fun v15 p15 b15 h15 wr15 u15 => ?_
 refine Decode_ok (xs := [.str C9.length]) (ts := [t14]) h15 hi14 wr15 (by show 1 < 2 ^ 16; omega) (by simpa using sf12) (by simpa using sr14) rfl (fun k h1 h2 => by
  have : k = 0 := by have : k < 1 := h1; omega
  subst this
  rw [bd.L, bd.FL]; exact et14) (fun hb => absurd (by unfold decE; rw [if_neg (by omega), if_neg (by omega)]; rfl) hb) fun _ v16 p16 c16 vp16 vc16 Y16 RL16 h16 ra16 _ _ _ sY16 inY16 f16 => ?_
 rw [List.map_singleton, enum] at ra16
 refine HNew_bad (.inl (by omega)) ?_
 have F1 : Far (Y ++ (b10 :: r :: G)) v11 v16 := ((((f12.then (f13.less fun k hk => by simp at hk ⊢; rcases hk with g | g | g <;> simp [g])).then f14).after u15).then (f16.less fun k hk => by simp at hk ⊢; rcases hk with g | g | g <;> simp [g]))
 have ra11' := RdA.far F1 (fun k hk => by simp [hk]) ra11
 have wr11' : WRow v16 (Y ++ (b10 :: r :: G)) vp [(Wd.ref i).enc] := by
  have : WRow v11 (Y ++ (b10 :: r :: G)) vp [(Wd.ref i).enc] := ⟨wr11.1, fun x hx hn => by have := wr11.2 x hx hn; simp [this]⟩
  exact this.far F1
 have m16 : MapAt v16 r (fun a : Int => Value.int .i64 a) (vmM [(3, i)]) := MapAt.far (MapAt.far (hm9.upd u10 (by simp)) f11 (by simp)) F1 (by simp)
 have ud := drw_upd v16
 refine ifT rfl (ifT rfl (ifT rfl (ifT rfl ?_)))
 obtain ⟨xv, rfl, hcv⟩ := wr11'.at (i := 0) (by show 0 < 1; omega)
 have hcv : v16.cell? (xv.add 0) = some (.int .u64 (Wd.ref i).enc) := hcv
 simp only [NN_some, addN, drw_cell, drw_heap, exS, exI, exB, exP, exM, exStr, exV, a0, a1, a2, a3, a4, a5, a6, a7, a8, a9, a10, a11, a12, a13, maxI_eq, Nat.zero_add, Nat.add_zero, Nat.mul_one, Option.isNone_some, Option.isNone_none, Int.toNat_zero, Nat.zero_mul, hcv]
 refine ⟨by omega, by show (0 : Int) < 1; omega, ?_⟩
 refine Lookup_rule (z := .int .u64 0) mapKey (by rfl) ⟨_, by rfl, by rfl⟩ (m16.upd ud (by simp)) ?_
 have elook : (Go.D.look (3 : Int) (vmM [(3, i)])).getD (.int .u64 0) = .int .u64 (Wd.ref i).enc := by rw [look_vm]; rfl
 rw [elook]
 refine ⟨_, rfl, by simp only [NN_some, addN, drw_cell, drw_heap, exS, exI, exB, exP, exM, exStr, exV, a0, a1, a2, a3, a4, a5, a6, a7, a8, a9, a10, a11, a12, a13, maxI_eq, Nat.zero_add, Nat.add_zero, Nat.mul_one, Option.isNone_some, Option.isNone_none, hcv], ifT (by simp) ?_⟩
 have in16 : In (Y ++ (b10 :: r :: G)) v16 := by
  obtain ⟨X, ux, dx⟩ := F1
  exact (show In (Y ++ (b10 :: r :: G)) v11 from fun k hk => h11.inn k (List.mem_append.2 (.inr hk))).upd ux
 obtain ⟨x1, q1, c1, rfl, hxb1, hc1, ra1⟩ := (RdA.keep ud (RdA.sub (G := Y ++ (b10 :: r :: G)) (fun k hk => by simp [hk]) (.mk 0 0 ⟨#[]⟩ _) ra11')).one (i := 0) (by show 0 < 1; omega) (in16.upd ud)
 obtain ⟨x2, q2, c2, rfl, hxb2, hc2, ra2⟩ := (RdA.keep ud ra16).one (i := 0) (by show 0 < 1; omega) ((show In Y16 v16 from inY16).upd ud)
 have a0' : (drw v16).cell? (x1.add 0) = some (.int .i64 4) := hc1 0 (by omega)
 have a1' : (drw v16).cell? (x1.add 1) = some (.int .i64 0) := hc1 1 (by omega)
 have a2' : (drw v16).cell? (x1.add 2) = some (.string fS) := hc1 2 (by omega)
 have a3' : (drw v16).cell? (x1.add 3) = some (.slice q1 3 c1) := hc1 3 (by omega)
 have b0' : (drw v16).cell? (x2.add 0) = some (.int .i64 4) := hc2 0 (by omega)
 have b1' : (drw v16).cell? (x2.add 1) = some (.int .i64 0) := hc2 1 (by omega)
 have b2' : (drw v16).cell? (x2.add 2) = some (.string fS) := hc2 2 (by omega)
 have b3' : (drw v16).cell? (x2.add 3) = some (.slice q2 3 c2) := hc2 3 (by omega)
 simp only [drw_cell] at a0' a1' a2' a3' b0' b1' b2' b3'
 refine ⟨by omega, by show (0 : Int) < 1; omega, ?_⟩
 simp only [NN_some, addN, drw_cell, drw_heap, exS, exI, exB, exP, exM, exStr, exV, a0, a1, a2, a3, a4, a5, a6, a7, a8, a9, a10, a11, a12, a13, maxI_eq, Nat.zero_add, Nat.add_zero, Nat.mul_one, Option.isNone_some, Option.isNone_none, addA, Int.toNat_zero, Nat.zero_mul, Nat.zero_add, a0', a1', a2', a3']
 have sm : ∀ {z z' : World} {x : Addr}, Upd [] z z' → x.block < z.heap.size → ∀ i_, i_ < 4 → z'.cell? (x.add i_) = z.cell? (x.add i_) := fun u hx i_ _ => Upd.same u (by rw [add_block]; exact hx)
 refine rVar_ok fun v17 u17 => ⟨sm (ud.after u17) hxb1, rInt_ok fun v18 u18 => ⟨sm (ud.after (u17.after u18)) hxb1, rVar_ok fun v19 u19 => ⟨sm (ud.after ((u17.after u18).after u19)) hxb1, ?_⟩⟩⟩
 have U19 := (u17.after u18).after u19
 refine mkRow (a := tV 0) (b := tI (-7)) (c := tV 0) ⟨rfl, by decide⟩ ⟨rfl, by decide⟩ ⟨rfl, by decide⟩ fun v20 t20 i20 u20 => ⟨sm (ud.after (U19.after u20)) hxb1, ?_⟩
 refine rComp_ok (F := [v19.heap.size]) (l := [tV 0, tI (-7), tV 0]) t20 i20 (by show 3 < 2 ^ 29; omega) (by simp) fun v21 p21 c21 G21 ra21 in21 s21 u21 => ⟨sm (ud.after ((U19.after u20).after u21)) hxb1, ?_⟩
 have U21 := (U19.after u20).after u21
 refine Exact_ok tmT0 (p := q1) (q := p21) (RdA.keep U21 ra1) ra21 (by decide) fun v22 u22 => ifT rfl (ifT rfl (ifT rfl (ifT rfl (ifT rfl (ifT rfl (ifT rfl ?_))))))
 have U22 := U21.after u22
 have e22 : ∀ {x : Addr} {i_ : Nat}, x.block < (drw v16).heap.size → v22.cell? (x.add i_) = v16.cell? (x.add i_) := fun hx => Upd.same (ud.after U22) (by rw [add_block]; exact hx)
 refine ⟨by omega, by show (0 : Int) < 1; omega, ?_⟩
 simp only [NN_some, addN, drw_cell, drw_heap, exS, exI, exB, exP, exM, exStr, exV, a0, a1, a2, a3, a4, a5, a6, a7, a8, a9, a10, a11, a12, a13, maxI_eq, Nat.zero_add, Nat.add_zero, Nat.mul_one, Option.isNone_some, Option.isNone_none, addA, Int.toNat_zero, Nat.zero_mul, Nat.zero_add, e22 hxb2, b0', b1', b2', b3']
 refine ⟨by omega, by show (0 : Int) < 1; omega, ?_⟩
 simp only [NN_some, addN, drw_cell, drw_heap, exS, exI, exB, exP, exM, exStr, exV, a0, a1, a2, a3, a4, a5, a6, a7, a8, a9, a10, a11, a12, a13, maxI_eq, Nat.zero_add, Nat.add_zero, Nat.mul_one, Option.isNone_some, Option.isNone_none, addA, Int.toNat_zero, Nat.zero_mul, Nat.zero_add, e22 hxb1, a0', a1', a2', a3']
 refine Exact_ok tmT0 (p := q2) (q := q1) (RdA.keep U22 ra2) (RdA.keep U22 ra1) (by decide) fun v23 u23 => ifT rfl ?_
 have U23 := (ud.after U22).after u23
 have h23 := h16.keep U23
 obtain ⟨ix, idx, rfl, _, hcx, hatx, _⟩ : ∃ i id, x = .str i ∧ True ∧ C9[i]? = some (.fn id) ∧ At d9.L d9.FL id fS ((3 : Nat) : Int) ∧ True := by
  have := rep9
  rw [Rep.eq, if_neg (by show ¬ (4 : Int) = 1; decide), if_neg (by show ¬ (4 : Int) = 2; decide), if_neg (by show ¬ (4 : Int) = 3; decide)] at this
  obtain ⟨i, id, a, _, b, c, _⟩ := this
  exact ⟨i, id, a, trivial, b, c, trivial⟩
 have hcx12 : C12[ix]? = some (.fn idx) := by rw [eC12]; exact get_more hcx
 have hcx14 := bd.ext.fn hcx12
 have xr14 : rightW C14 d14.L (.str ix) = true := rightW_str.2 ⟨idx, hcx14⟩
 have hat14 : At d14.L d14.FL idx fS ((3 : Nat) : Int) := by rw [bd.L, bd.FL]; exact hatx.stay hsL hsF
 refine hIs_str (s := fS) (m := 3) h23 hi14 xf xr14 ⟨0, .stop (by simp [Wd.tag])⟩ hcx14 hat14 fun v24 h24 f24 => ifT rfl ?_
 have hl14 : C14.length = C9.length + 4 := by rw [bd.ext.len, eC12]; simp [refs_len]
 have fa : (Wd.ref (C9.length + 2)).fits := ref_fits (by omega)
 have ra14 : rightW C14 d14.L (.ref (C9.length + 2)) = true := by
  rw [bd.L, bd.rw_]
  exact rightW_ref.2 ⟨_, cref 1 (by omega), by simp [Wd.tag]⟩
 obtain ⟨y, hy⟩ := hi14.wf.der _ ra14
 have hyne := hder y hy
 refine Deref_ok h24 hi14 fa ra14 hy fun v25 h25 f25 => ifT ?_ (ifT rfl ?_)
 ·have hyf : y.fits := hy.choose_spec.fits hi14.ok.fits fa
  simp only [bne_iff_ne, ne_eq]
  exact fun hh => hyne (Wd.enc_inj hyf fa hh)
 obtain ⟨g1, g2, g3⟩ := h25.tabs
 refine (getters h25).1 (ifT (by simp [Po.PlD.a]) ((getters h25).2.1 (ifT (by simp [g1]) ((getters h25).2.2.1 (ifT (by simp [g2]) ((getters h25).2.2.2 (ifT (by simp [g3]) ?_)))))))
 refine Cell_ok h25 hi14 (fun hn => absurd ⟨by omega, by omega⟩ hn) fun z hz v26 h26 u26 => ?_
 have : (z.enc != 0) = true := by simp only [bne_iff_ne, ne_eq]; exact enc_ne0 z
 rw [this]
 exact hK v26 h26.U
end
end Go.Proofs.YtdaenijbokialaaGreat
