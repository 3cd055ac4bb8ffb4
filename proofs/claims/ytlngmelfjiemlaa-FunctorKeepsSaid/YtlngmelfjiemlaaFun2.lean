/- A table of functors: memory, calls. -/
import Derived.Test.YtlngmelfjiemlaaFun
import Derived.Test.YtlngmelfjiemlaaAtom6
import Derived.Test.YtlngmelfjiemlaaOwn12
namespace Go.Proofs.Ytlngmelfjiemlaa.Fn
open Go Go.D Go.Proofs Go.Proofs.Ytlngmelfjiemlaa
set_option linter.unusedSimpArgs false
set_option linter.unusedVariables false
set_option maxRecDepth 8000

structure FtD where
  b : Nat
  atoms : Option Addr
  lim : Int
  lp : Option Addr
  ln : Nat
  lc : Nat
  r : Nat
  gp : Option Addr
  gn : Nat
  gc : Nat
  L : List Slot
  M : List (Key × Value)
  E : List Int
  GL : List Nat
  GE : List Nat

def FtD.a (d : FtD) : Option Addr := some ⟨d.b, 0, none⟩
def FtD.FT (d : FtD) : List Nat := d.b :: d.r :: (d.GL ++ d.GE)

def ftBlk (atoms : Option Addr) (lim : Int) (lp : Option Addr) (ln lc : Nat) (r : Option Nat) (gp : Option Addr) (gn gc : Nat) : Array Value :=
  #[.pointer atoms, .int .i64 lim, .slice lp ln lc, .map r, .slice gp gn gc]

/-- The parts of a table. -/
structure Ft (w : World) (d : FtD) : Prop where
  blk : Blk w d.b (ftBlk d.atoms d.lim d.lp d.ln d.lc (some d.r) d.gp d.gn d.gc)
  l : SlAt w 4 d.lp d.ln d.lc (d.L.flatMap slC) d.GL
  map : MapAt w d.r nV d.M
  e : SlAt w 1 d.gp d.gn d.gc (d.E.map (.int .i64)) d.GE
  br : d.b ≠ d.r
  bL : d.b ∉ d.GL
  bE : d.b ∉ d.GE
  rL : d.r ∉ d.GL
  rE : d.r ∉ d.GE
  LE : Dis d.GL d.GE

structure FtOk (d : FtD) : Prop where
  at' : AtM d.L d.M d.E
  asc : d.E.Pairwise (· < ·)
  ll : d.L.length ≤ d.lim
  lim : 1 ≤ d.lim ∧ d.lim ≤ 16384

theorem keyKey : KeyOf Try.prog 60 nV := by
  refine keyStruct kcs 2 (fun k => rfl) (fun k => rfl) ?_ (by kernel_rfl) (by kernel_rfl) (by kernel_rfl) ?_ ?_
  · rintro ⟨a, b⟩ ⟨a', b'⟩ h
    simp [kcs] at h
    simp [h]
  · rintro ⟨a, b⟩ ⟨a', b'⟩
    exact ⟨by decide, rfl, leaf_int (by rfl) _ _, by decide, rfl, leaf_int (by rfl) _ _, trivial⟩
  · intro k v hv n
    simp [kcs] at hv
    rcases hv with rfl | rfl <;> simp [Instr.sameBits]

/-- What a table has become. -/
structure Nx (w w' : World) (d d' : FtD) : Prop where
  ft : Ft w' d'
  ok : FtOk d'
  b : d'.b = d.b
  atoms : d'.atoms = d.atoms
  lim : d'.lim = d.lim
  U : Upd d.FT w w'
  S : Sub d'.FT d.FT w

/-- Is there a functor? -/
def isN (L : List Slot) (id : Int) : Bool := decide (0 ≤ id) && match L[id.toNat]? with | some s => s.is | none => false

/-- What comes of a call. -/
structure FR where
  i : Int
  e : Int
  L : List Slot

def addS (lim : Int) (L : List Slot) (k : Key) : FR := match freeN L with
  | some i => ⟨(i : Nat), 0, L.set i ⟨k, true, false⟩⟩
  | none => if lim ≤ (L.length : Nat) then ⟨0, 2, L⟩ else ⟨(L.length : Nat), 0, L ++ [⟨k, true, false⟩]⟩

def putS (lim : Int) (L : List Slot) (k : Key) : FR := match findN L k with
  | some i => ⟨(i : Nat), 0, L⟩
  | none => addS lim L k

section
variable {w : World} {d : FtD}

theorem Ft.upd {w' : World} {F : List Nat} (h : Ft w d) (u : Upd F w w') (hd : Dis d.FT F) : Ft w' d :=
  ⟨h.blk.upd u (hd _ (by simp [FtD.FT])), h.l.upd u (fun k hk => hd k (by simp [FtD.FT, hk])), h.map.upd u (hd _ (by simp [FtD.FT])), h.e.upd u (fun k hk => hd k (by simp [FtD.FT, hk])), h.br, h.bL, h.bE, h.rL, h.rE, h.LE⟩

theorem Ft.keep {w' : World} (h : Ft w d) (u : Upd [] w w') : Ft w' d := h.upd u (by intro k _ h; cases h)

theorem Ft.inn (h : Ft w d) : In d.FT w := fun k hk => by
  rcases List.mem_cons.1 hk with rfl | hk
  · exact h.blk.lt
  rcases List.mem_cons.1 hk with rfl | hk
  · exact h.map.lt
  rcases List.mem_append.1 hk with hk | hk
  · exact h.l.inn k hk
  · exact h.e.inn k hk

theorem Ft.len (h : Ft w d) : d.ln = d.L.length := by
  have := h.l.1
  rw [flat_len slC_len] at this; omega

theorem Ft.elen (h : Ft w d) : d.gn = d.E.length := by have := h.e.1; simp at this; exact this.symm

theorem Ft.c0 (h : Ft w d) : w.cell? ⟨d.b, 0, none⟩ = some (.pointer d.atoms) := by rw [h.blk.cell]; rfl
theorem Ft.c1 (h : Ft w d) : w.cell? ⟨d.b, 1, none⟩ = some (.int .i64 d.lim) := by rw [h.blk.cell]; rfl
theorem Ft.c2 (h : Ft w d) : w.cell? ⟨d.b, 2, none⟩ = some (.slice d.lp d.ln d.lc) := by rw [h.blk.cell]; rfl
theorem Ft.c3 (h : Ft w d) : w.cell? ⟨d.b, 3, none⟩ = some (.map (some d.r)) := by rw [h.blk.cell]; rfl
theorem Ft.c4 (h : Ft w d) : w.cell? ⟨d.b, 4, none⟩ = some (.slice d.gp d.gn d.gc) := by rw [h.blk.cell]; rfl

theorem slot_at {p : Option Addr} {n c : Nat} {L : List Slot} {F : List Nat} (h : SlAt w 4 p n c (L.flatMap slC) F) {i : Nat} (hi : i < L.length) : ∃ b off, p = some ⟨b, off, none⟩ ∧ w.cell? ⟨b, off + i * 4, none⟩ = some (.int .i64 L[i].key.1) ∧ w.cell? ⟨b, off + i * 4 + 1, none⟩ = some (.int .i64 L[i].key.2) ∧ w.cell? ⟨b, off + i * 4 + 2, none⟩ = some (.bool L[i].is) ∧ w.cell? ⟨b, off + i * 4 + 3, none⟩ = some (.bool L[i].mark) := by
  have hn : n = L.length := by have := h.1; rw [flat_len slC_len] at this; omega
  rcases h.2.2 with ⟨_, hc, _⟩ | ⟨b, off, arr, hp, hG, hb, hs, hc⟩
  · have := h.2.1; omega
  · refine ⟨b, off, hp, ?_, ?_, ?_, ?_⟩
    · rw [hb.cell, hc _ (by omega), ← Nat.add_zero (i * 4), flat_at slC_len hi (by omega)]; rfl
    · rw [hb.cell, Nat.add_assoc, hc _ (by omega), flat_at slC_len hi (by omega)]; rfl
    · rw [hb.cell, Nat.add_assoc, hc _ (by omega), flat_at slC_len hi (by omega)]; rfl
    · rw [hb.cell, Nat.add_assoc, hc _ (by omega), flat_at slC_len hi (by omega)]; rfl

theorem Ft.slot (h : Ft w d) {i : Nat} (hi : i < d.L.length) : ∃ b off, d.lp = some ⟨b, off, none⟩ ∧ w.cell? ⟨b, off + i * 4, none⟩ = some (.int .i64 d.L[i].key.1) ∧ w.cell? ⟨b, off + i * 4 + 1, none⟩ = some (.int .i64 d.L[i].key.2) ∧ w.cell? ⟨b, off + i * 4 + 2, none⟩ = some (.bool d.L[i].is) ∧ w.cell? ⟨b, off + i * 4 + 3, none⟩ = some (.bool d.L[i].mark) := slot_at h.l hi

theorem isN_get {L : List Slot} {id : Int} (h : isN L id = true) : 0 ≤ id ∧ ∃ hi : id.toNat < L.length, L[id.toNat].is = true := by
  unfold isN at h
  simp only [Bool.and_eq_true, decide_eq_true_eq] at h
  refine ⟨h.1, ?_⟩
  have h2 := h.2
  split at h2
  · rename_i s hs
    obtain ⟨hl, rfl⟩ := List.getElem?_eq_some_iff.1 hs
    exact ⟨hl, h2⟩
  · cases h2

theorem made_ok {K : Bool → World → Prop} (h : Ft w d) (hK : K true w) : C_functor_Table_made d.a w K := by
  apply C_functor_Table_made.of
  unfold F_functor_Table_made
  refine ifT rfl ?_
  simp only [FtD.a, NN_some, addN, Nat.zero_add, h.c3, exM]
  exact hK

theorem made_no {K : Bool → World → Prop} (hK : K false w) : C_functor_Table_made none w K := by
  apply C_functor_Table_made.of
  unfold F_functor_Table_made
  exact ifF rfl hK

theorem New_ok {lim : Int} {ab : Addr} {K : Option Addr → Int → World → Prop} (h0 : 1 ≤ lim) (h1 : lim ≤ 16384)
    (hK : ∀ w' d, Ft w' d → FtOk d → d.atoms = some ab → d.L = [] → d.lim = lim → Upd [] w w' → Since d.FT w → K d.a 0 w') : C_functor_New lim (some ab) w K := by
  apply C_functor_New.of
  unfold F_functor_New
  refine ifF (by simp; omega) (ifF (by simp; omega) (ifF rfl (New_map fun r w1 hr u1 hm0 => New_rule fun b w2 hb u2 hb2 => ?_)))
  have hm := (MapAt.new nV hm0).upd u2 (by simp)
  have := u1.size
  have hlt : r < w1.heap.size := (MapAt.new nV hm0).lt
  refine hK w2 ⟨b, some ab, lim, none, 0, 0, r, none, 0, 0, [], [], [], [], []⟩ ⟨hb2, SlAt.nil _ _, hm, SlAt.nil _ _, by show b ≠ r; omega, by simp, by simp, by simp, by simp, by intro k hk; cases hk⟩ ⟨nil_ok, List.Pairwise.nil, by show ((0 : Nat) : Int) ≤ lim; omega, h0, h1⟩ rfl rfl rfl (u1.after u2) fun k hk => ?_
  simp [FtD.FT] at hk
  rcases hk with rfl | rfl <;> omega

theorem New_bad {lim : Int} {a : Option Addr} {K : Option Addr → Int → World → Prop} (h : lim < 1 ∨ 16384 < lim ∨ a = none) (hK : K none 1 w) : C_functor_New lim a w K := by
  apply C_functor_New.of
  unfold F_functor_New F_functor_New_k1
  refine ifC (fun _ => hK) fun h1 => ifC (fun _ => hK) fun h2 => ?_
  simp at h1 h2
  rcases h with h | h | h
  · omega
  · omega
  · subst h; exact ifT rfl hK

theorem may_ok {id : Int} {K : Int → World → Prop} (h : Ft w d) (hK : K (if isN d.L id then 0 else 4) w) : C_functor_Table_may d.a id w K := by
  apply C_functor_Table_may.of
  unfold F_functor_Table_may F_functor_Table_may_k1
  have hln := h.len
  refine made_ok h (ifF rfl ?_)
  refine ifC (fun hc => ?_) (fun hc => ?_)
  · simp at hc
    have : isN d.L id = false := by unfold isN; rw [decide_eq_false (by omega)]; rfl
    rw [this] at hK; exact hK
  · simp at hc
    simp only [FtD.a, NN_some, addN, Nat.zero_add, h.c2, exS]
    refine ifC (fun hc2 => ?_) (fun hc2 => ?_)
    · simp at hc2
      have : isN d.L id = false := by unfold isN; rw [List.getElem?_eq_none (by omega)]; simp
      rw [this] at hK; exact hK
    · simp at hc2
      have hil : id.toNat < d.L.length := by omega
      obtain ⟨b, off, hp, q0, q1, q2, q3⟩ := h.slot hil
      have e : isN d.L id = d.L[id.toNat].is := by unfold isN; rw [List.getElem?_eq_getElem hil]; simp [hc]
      rw [e] at hK
      simp only [hp, NN_some, addN, q2, exB]
      refine ⟨hc, hc2, ifC (fun hb => ?_) (fun hb => ?_)⟩
      · simp at hb
        rw [hb] at hK; exact hK
      · simp at hb
        rw [hb] at hK; exact hK

theorem may_nil {id : Int} {K : Int → World → Prop} (hK : K 6 w) : C_functor_Table_may none id w K := by
  apply C_functor_Table_may.of
  unfold F_functor_Table_may
  exact made_no (ifT rfl hK)

theorem Len_ok {K : Int → World → Prop} (h : Ft w d) (ok : FtOk d) (hK : K (cntIs d.L) w) : C_functor_Table_Len d.a w K := by
  apply C_functor_Table_Len.of
  unfold F_functor_Table_Len
  refine made_ok h (ifF rfl ?_)
  simp only [FtD.a, NN_some, addN, Nat.zero_add, h.c3, exM]
  refine MLen_rule (inj := nV) (kt := 60) (et := 3) (by rfl) h.map ?_
  rw [ok.at'.ml]; exact hK

theorem Slots_ok {K : Int → World → Prop} (h : Ft w d) (hK : K d.L.length w) : C_functor_Table_Slots d.a w K := by
  apply C_functor_Table_Slots.of
  unfold F_functor_Table_Slots
  refine made_ok h (ifF rfl ?_)
  simp only [FtD.a, NN_some, addN, Nat.zero_add, h.c2, exS]
  rw [h.len]; exact hK

/-- A cell of a slot is set. -/
theorem setSlot {L : List Slot} {p : Option Addr} {n c i j b off : Nat} {y : Slot} {v : Value} {F : List Nat} {K : World → Prop} (h : SlAt w 4 p n c (L.flatMap slC) F) (hi : i < L.length) (hp : p = some ⟨b, off, none⟩) (hj : j < 4) (hv : v.oneCell' = true) (hy : slC y = (slC L[i]).set j v)
    (hK : ∀ w', SlAt w' 4 p n c ((L.set i y).flatMap slC) F → Upd F w w' → K w') : St w ⟨b, off + i * 4 + j, none⟩ v K := by
  have hn : n = L.length := by have := h.1; rw [flat_len slC_len] at this; omega
  rw [Nat.add_assoc]
  refine St_elem h hp (k := i * 4 + j) (by omega) hv fun w' hs u => hK w' ?_ u
  have h3 := flat_set slC_len (l := L) (i := i) (j := j) (v := v) (y := y) hi hj hy
  rw [h3] at hs
  exact hs

/-- All of a slot is set. -/
theorem setSlot4 {L : List Slot} {p : Option Addr} {n c i b off : Nat} {y : Slot} {F : List Nat} {K : World → Prop} (h : SlAt w 4 p n c (L.flatMap slC) F) (hi : i < L.length) (hp : p = some ⟨b, off, none⟩)
    (hK : ∀ w', SlAt w' 4 p n c ((L.set i y).flatMap slC) F → Upd F w w' → K w') : St w ⟨b, off + i * 4, none⟩ (.int .i64 y.key.1) fun w1 => St w1 ⟨b, off + i * 4 + 1, none⟩ (.int .i64 y.key.2) fun w2 => St w2 ⟨b, off + i * 4 + 2, none⟩ (.bool y.is) fun w3 => St w3 ⟨b, off + i * 4 + 3, none⟩ (.bool y.mark) K := by
  rw [← Nat.add_zero (off + i * 4)]
  refine setSlot (j := 0) (y := ⟨(y.key.1, L[i].key.2), L[i].is, L[i].mark⟩) h hi hp (by omega) rfl (by rfl) fun w1 h1 u1 => ?_
  rw [Nat.add_zero]
  refine setSlot (j := 1) (y := ⟨y.key, L[i].is, L[i].mark⟩) h1 (by simpa using hi) hp (by omega) rfl (by simp [slC]) fun w2 h2 u2 => ?_
  refine setSlot (j := 2) (y := ⟨y.key, y.is, L[i].mark⟩) h2 (by simpa using hi) hp (by omega) rfl (by simp [slC]) fun w3 h3 u3 => ?_
  refine setSlot (j := 3) (y := y) h3 (by simpa using hi) hp (by omega) rfl (by simp [slC]) fun w4 h4 u4 => ?_
  rw [List.set_set, List.set_set, List.set_set] at h4
  exact hK w4 h4 (((u1.both u2).both u3).both u4)

theorem Mark_ok {id : Int} {K : Int → World → Prop} (h : Ft w d) (ok : FtOk d) (hno : isN d.L id = false → K 4 w)
    (hK : isN d.L id = true → ∀ (hi : id.toNat < d.L.length) w' d', Nx w w' d d' → d'.L = d.L.set id.toNat ⟨d.L[id.toNat].key, d.L[id.toNat].is, true⟩ → K 0 w') : C_functor_Table_Mark d.a id w K := by
  apply C_functor_Table_Mark.of
  unfold F_functor_Table_Mark
  refine may_ok (id := id) h ?_
  cases hb : isN d.L id with
  | false => exact ifT rfl (hno hb)
  | true =>
    refine ifF rfl ?_
    obtain ⟨h0, hi, his⟩ := isN_get hb
    have hln := h.len
    obtain ⟨b, off, hp, _⟩ := h.slot hi
    have ep : ∀ Q, NN d.lp Q = NN (some ⟨b, off, none⟩) Q := fun Q => by rw [hp]
    simp only [FtD.a, NN_some, addN, Nat.zero_add, h.c2, exS, ep, Nat.add_zero]
    refine ⟨h0, by omega, setSlot (j := 3) (y := ⟨d.L[id.toNat].key, d.L[id.toNat].is, true⟩) h.l hi hp (by omega) rfl (by simp [slC]) fun w2 hl2 u2 => ?_⟩
    refine hK hb hi w2 { d with L := d.L.set id.toNat ⟨d.L[id.toNat].key, d.L[id.toNat].is, true⟩ } ⟨⟨h.blk.upd u2 h.bL, hl2, h.map.upd u2 h.rL, h.e.upd u2 h.LE.symm, h.br, h.bL, h.bE, h.rL, h.rE, h.LE⟩, ⟨ok.at'.mark (List.getElem?_eq_getElem hi), ok.asc, by simpa using ok.ll, ok.lim⟩, rfl, rfl, rfl, u2.mono fun x hx => .inl (by simp [FtD.FT, hx]), Sub.refl _ _⟩ rfl

theorem add_ok {f0 f1 : Int} {K : Int → Int → World → Prop} (h : Ft w d) (ok : FtOk d) (hlook : Go.D.look (f0, f1) d.M = none)
    (hK : ∀ w' d', Nx w w' d d' → d'.L = (addS d.lim d.L (f0, f1)).L → K (addS d.lim d.L (f0, f1)).i (addS d.lim d.L (f0, f1)).e w') : C_functor_Table_add d.a f0 f1 w K := by
  apply C_functor_Table_add.of
  unfold F_functor_Table_add F_functor_Table_add_k1
  refine New_rule fun q w1 hq u1 hb1 => ?_
  have tb := h.keep u1
  have hqF : q ∉ d.FT := fun hx => by have := h.inn q hx; omega
  have r0 : ∀ {z}, Blk z q #[.int .i64 f0, .int .i64 f1] → z.cell? ⟨q, 0, none⟩ = some (.int .i64 f0) := fun h => by rw [h.cell]; rfl
  have r1 : ∀ {z}, Blk z q #[.int .i64 f0, .int .i64 f1] → z.cell? ⟨q, 1, none⟩ = some (.int .i64 f1) := fun h => by rw [h.cell]; rfl
  simp only [FtD.a, NN_some, addN, Nat.zero_add, Nat.add_zero, tb.c2, tb.c4, exS]
  have hel := tb.elen
  have hln := tb.len
  have hll := ok.ll
  have hlim := ok.lim
  have nbd : ∀ F : List Nat, d.b ∉ F → Dis F [d.b] := fun F hF k hk hy => by simp at hy; subst hy; exact hF hk
  have nrd : ∀ F : List Nat, d.r ∉ F → Dis F [d.r] := fun F hF k hk hy => by simp at hy; subst hy; exact hF hk
  have hbr : d.b ∉ [d.r] := by simp; exact tb.br
  have hrb : d.r ∉ [d.b] := by simp; exact fun e => tb.br e.symm
  have ib : ∀ x ∈ [d.b], x ∈ d.FT := by intro x hx; simp at hx; subst hx; simp [FtD.FT]
  have ir : ∀ x ∈ [d.r], x ∈ d.FT := by intro x hx; simp at hx; subst hx; simp [FtD.FT]
  have iL : ∀ x ∈ d.GL, x ∈ d.FT := fun x hx => by simp [FtD.FT, hx]
  have iE : ∀ x ∈ d.GE, x ∈ d.FT := fun x hx => by simp [FtD.FT, hx]
  have nq : ∀ F : List Nat, (∀ x ∈ F, x ∈ d.FT) → q ∉ F := fun F hF hx => hqF (hF q hx)
  refine ifC (fun hc2 => ?_) (fun hc2 => ?_)
  · obtain ⟨k, E', hE⟩ : ∃ k E', d.E = k :: E' := by
      cases hE : d.E with
      | nil => rw [hE] at hel; simp at hel; simp [hel] at hc2
      | cons k E' => exact ⟨k, E', rfl⟩
    have hat := ok.at'
    have hasc := ok.asc
    rw [hE] at hat hasc
    obtain ⟨i, s, hk, hfr, hi, his⟩ := hat.free_some hasc
    have hil : i < d.L.length := (List.getElem?_eq_some_iff.1 hi).1
    have hpe := tb.e
    rw [hE] at hpe hel
    obtain ⟨bg, og, hpg, hcg⟩ := hpe.cell (i := 0) (by simp at hel; omega)
    simp only [List.map_cons, List.getElem?_cons_zero] at hcg
    have eg : ∀ (Q : Addr → Prop), NN d.gp Q = NN (some ⟨bg, og, none⟩) Q := fun Q => by rw [hpg]
    have hd := hpe.drop (k := 1) (by simp at hel; omega)
    simp only [eg, NN_some, addN, Int.toNat_zero, Nat.zero_mul, Nat.add_zero] at hcg ⊢
    simp only [hcg, exI]
    have t1 : (1 : Int).toNat = 1 := rfl
    rw [t1]
    refine ⟨by omega, by simp at hel; omega, by omega, by simp at hel; omega, St_rule tb.blk (by simp [ftBlk]) rfl fun w2 u2 hb2 => ?_⟩
    have hb2 : Blk w2 d.b (ftBlk d.atoms d.lim d.lp d.ln d.lc (some d.r) (adv d.gp d.gc 1 1) (d.gn - 1) (d.gc - 1)) := hb2
    have hl2 : w2.cell? ⟨d.b, 2, none⟩ = some (.slice d.lp d.ln d.lc) := by rw [hb2.cell]; rfl
    obtain ⟨bl, ol, hpl, _⟩ := tb.slot hil
    have el : ∀ (Q : Addr → Prop), NN d.lp Q = NN (some ⟨bl, ol, none⟩) Q := fun Q => by rw [hpl]
    have q2 := hb1.upd u2 (nq _ ib)
    rw [hk]
    simp only [drw_cell, hl2, exS, r0 q2, r1 q2, exI, el, NN_some, addN, Int.toNat_natCast, Nat.add_zero]
    refine ⟨by omega, by omega, ?_⟩
    have hls2 := (tb.l.upd u2 (nbd _ tb.bL)).upd (drw_upd w2) (by intro k _ h; cases h)
    refine setSlot4 (y := ⟨(f0, f1), true, false⟩) hls2 hil hpl fun w3 hls3 u3 => ?_
    have hb3 := hb2.drw.upd u3 tb.bL
    have hr3 : w3.cell? ⟨d.b, 3, none⟩ = some (.map (some d.r)) := by rw [hb3.cell]; rfl
    have q3 := q2.drw.upd u3 (nq _ iL)
    simp only [drw_cell, hr3, exM, r0 q3, r1 q3, exI]
    have hm3 := ((((tb.map.upd u2 hrb).upd (drw_upd w2) (by simp)).upd u3 tb.rL)).upd (drw_upd w3) (by simp)
    refine MUp_rule (κ := Key) (kt := 60) (et := 3) (inj := nV) (k := (f0, f1)) keyKey (by rfl) hm3 fun w4 hm4 u4 => ?_
    have hb4 := hb3.drw.upd u4 hbr
    have hd4 := (((hd.upd u2 (nbd _ tb.bE)).drw.upd u3 tb.LE.symm).drw).upd u4 (nrd _ tb.rE)
    have hl4 := (hls3.drw).upd u4 (nrd _ tb.rL)
    have e1 : ((k :: E').map (Value.int .i64)).drop (1 * 1) = E'.map (Value.int .i64) := by simp
    rw [e1] at hd4
    have U4 : Upd d.FT w w4 := u1.after ((((((u2.mono fun x hx => .inl (ib x hx)).before (drw_upd w2)).both (u3.mono fun x hx => .inl (iL x hx))).before (drw_upd w3))).both (u4.mono fun x hx => .inl (ir x hx)))
    have ea : addS d.lim d.L (f0, f1) = ⟨(i : Nat), 0, d.L.set i ⟨(f0, f1), true, false⟩⟩ := by unfold addS; rw [hfr]
    rw [ea] at hK
    refine hK w4 { d with L := d.L.set i ⟨(f0, f1), true, false⟩, M := put (f0, f1) (.int .i64 (i : Nat)) d.M, E := E', gp := adv d.gp d.gc 1 1, gn := d.gn - 1, gc := d.gc - 1 } ⟨⟨hb4, hl4, hm4, hd4, tb.br, tb.bL, tb.bE, tb.rL, tb.rE, tb.LE⟩, ⟨?_, (List.pairwise_cons.1 hasc).2, by simpa using hll, hlim⟩, rfl, rfl, rfl, U4, Sub.refl _ _⟩ rfl
    exact AtM.fill (by rw [← hk]; exact hat) hi his hlook
  · have hE : d.E = [] := by
      have : d.E.length = 0 := by simp at hc2; omega
      simpa using this
    have hat := ok.at'
    rw [hE] at hat
    have hfr : freeN d.L = none := hat.free_none
    simp only [tb.c1, exI]
    refine ifC (fun hc3 => ?_) (fun hc3 => ?_)
    · simp at hc3
      have ea : addS d.lim d.L (f0, f1) = ⟨0, 2, d.L⟩ := by unfold addS; rw [hfr]; simp; omega
      rw [ea] at hK
      exact hK w1 d ⟨tb, ok, rfl, rfl, rfl, u1.mono (by simp), Sub.refl _ _⟩ rfl
    · have hlt : (d.L.length : Int) < d.lim := by simp at hc3; omega
      have td := tb.keep (drw_upd w1)
      have qd := hb1.drw
      simp only [td.c2, r0 qd, r1 qd, exI, exS]
      refine BSlL_rule eS_54 [.agg #[.int .i64 f0, .int .i64 f1, .bool true, .bool false]] (by rfl) (by simp [Value.cells]) (by rfl) (by omega) fun w2 hs2 u2 => ?_
      have tb2 := td.keep u2
      simp only [tb2.c2, true_and]
      refine App_rule (hE := eS_54) tb2.l hs2 (by simp [Value.cells, Value.oneCell']) (by omega) fun p' c' G' w3 hs3 u3 s3 => ?_
      have V3 : Upd d.GL w1 w3 := ((drw_upd w1).after u2).after u3
      have hsz1 : w1.heap.size ≤ w2.heap.size := u2.size
      have hG' : ∀ y ∈ G', y ∈ d.GL ∨ w1.heap.size ≤ y := fun y hy => by
        rcases s3 y hy with e | e
        · exact .inl e
        · right; omega
      have nG : ∀ c, c < w1.heap.size → c ∉ d.GL → c ∉ G' := fun c hcl hcn hx => by
        rcases hG' c hx with e | e
        · exact hcn e
        · omega
      have hbG := nG d.b tb.blk.lt tb.bL
      have hrG := nG d.r tb.map.lt tb.rL
      have hGE : Dis G' d.GE := fun k hk hx => by
        rcases hG' k hk with e | e
        · exact tb.LE k e hx
        · have := tb.e.inn k hx; omega
      refine St_rule (tb.blk.upd V3 tb.bL) (by simp [ftBlk]) rfl fun w4 u4 hb4 => ?_
      have hb4 : Blk w4 d.b (ftBlk d.atoms d.lim p' (d.ln + 1) c' (some d.r) d.gp d.gn d.gc) := hb4
      have hr4 : w4.cell? ⟨d.b, 3, none⟩ = some (.map (some d.r)) := by rw [hb4.cell]; rfl
      have q4 := (hb1.upd V3 (nq _ iL)).upd u4 (nq _ ib)
      simp only [drw_cell, hr4, exM, r0 q4, r1 q4, exI]
      have hm4 := ((tb.map.upd V3 tb.rL).upd u4 hrb).upd (drw_upd w4) (by simp)
      refine MUp_rule (κ := Key) (kt := 60) (et := 3) (inj := nV) (k := (f0, f1)) keyKey (by rfl) hm4 fun w5 hm5 u5 => ?_
      have hb5 := hb4.drw.upd u5 hbr
      have hl5 := ((hs3.upd u4 (nbd _ hbG)).drw).upd u5 (nrd _ hrG)
      have he5 := (((tb.e.upd V3 tb.LE.symm).upd u4 (nbd _ tb.bE)).drw).upd u5 (nrd _ tb.rE)
      have hl5 : SlAt w5 4 p' (d.ln + 1) c' ((d.L ++ [(⟨(f0, f1), true, false⟩ : Slot)]).flatMap slC) G' := by
        rw [List.flatMap_append]
        simpa [Value.cells, slC] using hl5
      have U5 : Upd d.FT w w5 := u1.after ((((V3.mono fun x hx => .inl (iL x hx)).both (u4.mono fun x hx => .inl (ib x hx))).before (drw_upd w4)).both (u5.mono fun x hx => .inl (ir x hx)))
      have S5 : Sub (d.b :: d.r :: (G' ++ d.GE)) d.FT w := fun x hx => by
        rcases List.mem_cons.1 hx with rfl | hx
        · left; simp [FtD.FT]
        rcases List.mem_cons.1 hx with rfl | hx
        · left; simp [FtD.FT]
        rcases List.mem_append.1 hx with hx | hx
        · rcases hG' x hx with e | e
          · exact .inl (iL x e)
          · have := u1.size; right; omega
        · exact .inl (iE x hx)
      have ea : addS d.lim d.L (f0, f1) = ⟨(d.L.length : Nat), 0, d.L ++ [⟨(f0, f1), true, false⟩]⟩ := by
        unfold addS
        rw [hfr]
        simp only
        rw [if_neg (by omega)]
      rw [ea] at hK
      rw [hln]
      rw [hln] at hm5
      refine hK w5 { d with L := d.L ++ [⟨(f0, f1), true, false⟩], M := put (f0, f1) (.int .i64 (d.L.length : Nat)) d.M, lp := p', ln := d.ln + 1, lc := c', GL := G' } ⟨⟨hb5, hl5, hm5, he5, tb.br, hbG, tb.bE, hrG, tb.rE, hGE⟩, ⟨ok.at'.grow hlook, ok.asc, by simp; omega, hlim⟩, rfl, rfl, rfl, U5, S5⟩ rfl

end

end Go.Proofs.Ytlngmelfjiemlaa.Fn
