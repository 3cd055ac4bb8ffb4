/- A table of functors and its table of names, together. -/
import Derived.Test.YtlngmelfjiemlaaFun3
namespace Go.Proofs.Ytlngmelfjiemlaa
open Go Go.D Go.Proofs
set_option linter.unusedSimpArgs false
set_option linter.unusedVariables false
set_option maxRecDepth 8000

/-- What comes of a name that is put in. -/
structure IR where
  i : Int
  e : Int
  L : List Slot
  m : Int

def internS (lim made : Int) (L : List Slot) (n : ByteArray) : IR :=
  if 64 < n.size then ⟨0, 3, L, made⟩ else match findN L n with
    | some i => ⟨(i : Nat), 0, L, made⟩
    | none => match freeN L with
      | some i => ⟨(i : Nat), 0, L.set i ⟨n, true, false⟩, made + 1⟩
      | none => if lim ≤ (L.length : Nat) then ⟨0, 2, L, made⟩ else ⟨(L.length : Nat), 0, L ++ [⟨n, true, false⟩], made + 1⟩

/-- What comes of a functor that is put in. -/
structure PR where
  i : Int
  e : Int
  L : List Slot
  m : Int
  F : List Fn.Slot

def putA (alim made : Int) (L : List Slot) (flim : Int) (FL : List Fn.Slot) (n : ByteArray) (ar : Int) : PR :=
  if ar < 1 ∨ 16 < ar then ⟨0, 1, L, made, FL⟩
  else if (internS alim made L n).e ≠ 0 then ⟨0, (internS alim made L n).e, (internS alim made L n).L, (internS alim made L n).m, FL⟩
  else ⟨(Fn.putS flim FL ((internS alim made L n).i, ar)).i, (Fn.putS flim FL ((internS alim made L n).i, ar)).e, (internS alim made L n).L, (internS alim made L n).m, (Fn.putS flim FL ((internS alim made L n).i, ar)).L⟩

def findA (L : List Slot) (FL : List Fn.Slot) (n : ByteArray) (ar : Int) : Option Nat := (findN L n).bind fun i => Fn.findN FL ((i : Nat), ar)

def getA (L : List Slot) (FL : List Fn.Slot) (id : Int) : ByteArray × Int × Int := match Fn.isN FL id, FL[id.toNat]? with
  | true, some s => match isN L s.key.1, L[s.key.1.toNat]? with
    | true, some t => (t.name, s.key.2, 0)
    | _, _ => (⟨#[]⟩, 0, 4)
  | _, _ => (⟨#[]⟩, 0, 4)

def markF (FL : List Fn.Slot) (id : Int) : List Fn.Slot := match Fn.isN FL id, FL[id.toNat]? with
  | true, some s => FL.set id.toNat ⟨s.key, s.is, true⟩
  | _, _ => FL

/-- Some names are marked. -/
def mkA (L : List Slot) (D : List Int) : List Slot := L.mapIdx fun i s => if s.is && decide ((i : Int) ∈ D) then ⟨s.name, s.is, true⟩ else s

/-- Names of functors that are there. -/
def namesF (FL : List Fn.Slot) : List Int := (FL.filter (·.is)).map (·.key.1)

theorem mkA_len (L : List Slot) (D : List Int) : (mkA L D).length = L.length := by simp [mkA]

theorem mkA_nil (L : List Slot) : mkA L [] = L := by
  unfold mkA
  apply List.ext_getElem?
  intro i
  rw [List.getElem?_mapIdx]
  cases L[i]? <;> simp

theorem mkA_congr (L : List Slot) {D D' : List Int} (h : ∀ x, x ∈ D ↔ x ∈ D') : mkA L D = mkA L D' := by
  unfold mkA
  congr 1
  funext i s
  rw [decide_eq_decide.2 (h _)]

theorem mkA_get (L : List Slot) (D : List Int) (i : Nat) : (mkA L D)[i]? = (L[i]?).map fun s => if s.is && decide ((i : Int) ∈ D) then ⟨s.name, s.is, true⟩ else s := by
  unfold mkA
  rw [List.getElem?_mapIdx]

theorem isN_mkA (L : List Slot) (D : List Int) (id : Int) : isN (mkA L D) id = isN L id := by
  unfold isN
  rw [mkA_get]
  cases L[id.toNat]? with
  | none => rfl
  | some s => simp only [Option.map_some]; split <;> rfl

theorem mkA_no {L : List Slot} {D : List Int} {id : Int} (h : isN L id = false) : mkA L (D ++ [id]) = mkA L D := by
  apply List.ext_getElem?
  intro i
  rw [mkA_get, mkA_get]
  cases hs : L[i]? with
  | none => rfl
  | some s =>
    simp only [Option.map_some]
    by_cases hid : (i : Int) = id
    · subst hid
      unfold isN at h
      simp [hs] at h
      simp [h]
    · have : ((i : Int) ∈ D ++ [id]) ↔ (i : Int) ∈ D := by simp [hid]
      rw [decide_eq_decide.2 this]

theorem mkA_yes {L : List Slot} {D : List Int} {id : Int} (h : isN L id = true) (hi : id.toNat < (mkA L D).length) : mkA L (D ++ [id]) = (mkA L D).set id.toNat ⟨((mkA L D)[id.toNat]).name, ((mkA L D)[id.toNat]).is, true⟩ := by
  obtain ⟨h0, hl, his⟩ := isN_get h
  apply List.ext_getElem?
  intro i
  have hg := mkA_get L D id.toNat
  rw [List.getElem?_eq_getElem hi, List.getElem?_eq_getElem hl] at hg
  simp only [Option.map_some, Option.some.injEq] at hg
  by_cases hid : id.toNat = i
  · subst hid
    rw [List.getElem?_set_self hi, mkA_get, List.getElem?_eq_getElem hl, hg]
    simp only [Option.map_some]
    have hm : (id.toNat : Int) ∈ D ++ [id] := by simp; omega
    rw [decide_eq_true hm, his]
    simp
    split <;> simp [his]
  · rw [List.getElem?_set_ne hid, mkA_get, mkA_get]
    have : ((i : Int) ∈ D ++ [id]) ↔ (i : Int) ∈ D := by
      have : ¬ (i : Int) = id := by omega
      simp [this]
    rw [decide_eq_decide.2 this]

theorem mkA_mkA (L : List Slot) (D E : List Int) : mkA (mkA L D) E = mkA L (D ++ E) := by
  apply List.ext_getElem?
  intro i
  rw [mkA_get, mkA_get, mkA_get]
  cases L[i]? with
  | none => rfl
  | some s =>
    simp only [Option.map_some, List.mem_append]
    by_cases h1 : (i : Int) ∈ D <;> by_cases h2 : (i : Int) ∈ E <;> cases hs : s.is <;> simp [h1, h2, hs]

theorem Fn.AtM.keys {L : List Fn.Slot} {M : List (Fn.Key × Value)} {E : List Int} (h : Fn.AtM L M E) (x : Int) : x ∈ M.map (fun y => y.1.1) ↔ x ∈ namesF L := by
  unfold namesF
  simp only [List.mem_map, List.mem_filter]
  constructor
  · rintro ⟨⟨k, v⟩, hm, rfl⟩
    have hk : (Go.D.look k M).isSome = true := (look_isSome k M).2 (List.mem_map_of_mem (f := (·.1)) hm)
    obtain ⟨v', hv⟩ := Option.isSome_iff_exists.1 hk
    obtain ⟨i, s, hs, h1, h2, _⟩ := h.look2 k v' hv
    exact ⟨s, ⟨List.mem_of_getElem? hs, h1⟩, by rw [h2]⟩
  · rintro ⟨s, ⟨hs, his⟩, rfl⟩
    obtain ⟨i, hi⟩ := List.getElem?_of_mem hs
    have h1 := h.look1 i s hi his
    have h2 := (look_isSome s.key M).1 (by rw [h1]; rfl)
    obtain ⟨y, hy, he⟩ := List.mem_map.1 h2
    exact ⟨y, hy, by rw [he]⟩

section
variable {w v v' : World} {X Y : List Nat} {a fa : Option Addr} {L L' : List Slot} {made made' alim flim : Int} {FL FL' : List Fn.Slot} {d d' : Fn.FtD}

theorem Tl.own' {F : List Nat} (t : Tl w v X a L made alim) (u : Upd F v v') (hF : ∀ x ∈ F, x ∈ X) (hX : Since F w) (hY : Sub Y X v) (hin : In Y v') : Tl w v' Y a L made alim := by
  obtain ⟨FT, h, s, u0, d, i⟩ := t
  refine ⟨FT, h.upd u fun k hk hx => d k (hF k hx) hk, s, u0.fresh u fun k hk => hX k hk, fun k hk hx => ?_, hin⟩
  rcases hY k hk with e | e
  · exact d k e hx
  · have := h.inn k hx; omega

theorem Tl.in_ (t : Tl w v X a L made alim) : In X v := by
  obtain ⟨_, _, _, _, _, i⟩ := t
  exact i

theorem Far.less {X Y : List Nat} (f : Far X v v') (h : ∀ k ∈ Y, k ∈ X) : Far Y v v' := by
  obtain ⟨F, u, d⟩ := f
  exact ⟨F, u, fun k hk => d k (h k hk)⟩

theorem Far.blk {b : Nat} {arr : Array Value} (f : Far X v v') (h : Blk v b arr) (hX : b ∈ X) : Blk v' b arr := by
  obtain ⟨F, u, d⟩ := f
  exact h.upd u (d b hX)

theorem Far.refl (X : List Nat) (v : World) : Far X v v := Far.keep (Upd.refl _ _)

theorem Far.then {v'' : World} (f : Far X v v') (g : Far X v' v'') : Far X v v'' := by
  obtain ⟨F, u, d⟩ := f
  obtain ⟨G, u', d'⟩ := g
  refine ⟨F ++ G, u.trans u' (fun x hx => .inl (by simp [hx])) (fun x hx => .inl (by simp [hx])), fun k hk hx => ?_⟩
  rcases List.mem_append.1 hx with e | e
  · exact d k hk e
  · exact d' k hk e

/-- Both tables, and blocks that lie apart. -/
structure Bf (w v : World) (X : List Nat) (a fa : Option Addr) (L : List Slot) (made alim : Int) (FL : List Fn.Slot) (flim : Int) (d : Fn.FtD) : Prop where
  tl : Tl w v (d.FT ++ X) a L made alim
  ft : Fn.Ft v d
  ok : Fn.FtOk d
  atoms : d.atoms = a
  fa : d.a = fa
  eL : d.L = FL
  el : d.lim = flim
  sd : Since d.FT w
  dx : Dis d.FT X

theorem Bf.U (b : Bf w v X a fa L made alim FL flim d) : Upd [] w v := b.tl.U

theorem Bf.keep (b : Bf w v X a fa L made alim FL flim d) (u : Upd [] v v') : Bf w v' X a fa L made alim FL flim d := ⟨b.tl.keep u, b.ft.keep u, b.ok, b.atoms, b.fa, b.eL, b.el, b.sd, b.dx⟩

/-- A functor's call. -/
theorem Bf.turn (b : Bf w v X a fa L made alim FL flim d) (n : Fn.Nx v v' d d') (hL : d'.L = FL') : Bf w v' X a fa L made alim FL' flim d' ∧ Far X v v' := by
  have hiX : In X v := fun k hk => b.tl.in_ k (by simp [hk])
  have sub : Sub (d'.FT ++ X) (d.FT ++ X) v := fun k hk => by
    rcases List.mem_append.1 hk with e | e
    · rcases n.S k e with h | h
      · left; simp [h]
      · exact .inr h
    · left; simp [e]
  have inn : In (d'.FT ++ X) v' := fun k hk => by
    rcases List.mem_append.1 hk with e | e
    · exact n.ft.inn k e
    · exact hiX.upd n.U k e
  refine ⟨⟨b.tl.own' n.U (fun k hk => by simp [hk]) b.sd sub inn, n.ft, n.ok, n.atoms.trans b.atoms, ?_, hL, n.lim.trans b.el, b.sd.step n.S b.U.size, b.dx.step n.S hiX⟩, _, n.U, b.dx.symm⟩
  rw [← b.fa]; unfold Fn.FtD.a; rw [n.b]

/-- A name's call. -/
theorem Bf.name (b : Bf w v X a fa L made alim FL flim d) (t : Tl w v' (d.FT ++ X) a L' made' alim) (f : Far (d.FT ++ X) v v') : Bf w v' X a fa L' made' alim FL flim d ∧ Far X v v' := by
  refine ⟨⟨t, ?_, b.ok, b.atoms, b.fa, b.eL, b.el, b.sd, b.dx⟩, f.less fun k hk => by simp [hk]⟩
  obtain ⟨F, u, dd⟩ := f
  exact b.ft.upd u fun k hk => dd k (by simp [hk])

/-- Other blocks are turned. -/
theorem Bf.own {F : List Nat} (b : Bf w v X a fa L made alim FL flim d) (u : Upd F v v') (hF : ∀ x ∈ F, x ∈ X) (hS : Since F w) (hY : Sub Y X v) (hin : In Y v') : Bf w v' Y a fa L made alim FL flim d := by
  have hd : Dis d.FT F := fun k hk hx => b.dx k hk (hF k hx)
  refine ⟨b.tl.own' u (fun k hk => by simp [hF k hk]) hS ?_ ?_, b.ft.upd u hd, b.ok, b.atoms, b.fa, b.eL, b.el, b.sd, (b.dx.symm.step hY b.ft.inn).symm⟩
  · intro k hk
    rcases List.mem_append.1 hk with e | e
    · left; simp [e]
    · rcases hY k e with h | h
      · left; simp [h]
      · exact .inr h
  · intro k hk
    rcases List.mem_append.1 hk with e | e
    · exact b.ft.inn.upd u k e
    · exact hin k e

theorem Bf.watch (b : Bf w v X a fa L made alim FL flim d) (u : Upd [] v v') (hY : Since Y v) (hin : In Y v') : Bf w v' (Y ++ X) a fa L made alim FL flim d := by
  refine b.own (F := []) u (by simp) (by intro k hk; cases hk) (fun k hk => ?_) (fun k hk => ?_)
  · rcases List.mem_append.1 hk with e | e
    · exact .inr (hY k e)
    · exact .inl e
  · rcases List.mem_append.1 hk with e | e
    · exact hin k e
    · exact (show In X v from fun k hk => b.tl.in_ k (by simp [hk])).upd u k e

theorem Bf.less (b : Bf w v X a fa L made alim FL flim d) (h : ∀ k ∈ Y, k ∈ X) : Bf w v Y a fa L made alim FL flim d :=
  b.own (F := []) (Upd.refl _ _) (by simp) (by intro k hk; cases hk) (fun k hk => .inl (h k hk)) (fun k hk => b.tl.in_ k (by simp [h k hk]))

theorem Bf.new {ab : Addr} {K : Option Addr → Int → World → Prop} (t : Tl w v X (some ab) L made alim) (h0 : 1 ≤ flim) (h1 : flim ≤ 16384) (hK : ∀ v' d, Bf w v' X (some ab) d.a L made alim [] flim d → Upd [] v v' → K d.a 0 v') : C_functor_New flim (some ab) v K :=
  Fn.New_ok h0 h1 fun v' d ft ok e1 e2 e3 u s => hK v' d ⟨t.watch u s ft.inn, ft, ok, e1, rfl, e2, e3, (fun k hk => by have := s k hk; have := t.U.size; omega), fun k hk hx => by have := s k hk; have := t.in_ k hx; omega⟩ u

theorem Tl.intern' {name : ByteArray} {K : Int → Int → World → Prop} (t : Tl w v X a L made alim) (hmade : made < 2 ^ 40)
    (hK : ∀ v', Tl w v' X a (internS alim made L name).L (internS alim made L name).m alim → Far X v v' → K (internS alim made L name).i (internS alim made L name).e v') : C_atom_Table_Intern a name v K := by
  unfold internS at hK
  refine t.intern hmade (fun h1 v' t f => ?_) (fun h1 i h2 v' t f => ?_) (fun h1 h2 i h3 v' t f => ?_) (fun h1 h2 h3 h4 v' t f => ?_) (fun h1 h2 h3 h4 v' t f => ?_)
  · rw [if_pos h1] at hK; exact hK v' t f
  · rw [if_neg (by omega), h2] at hK; exact hK v' t f
  · rw [if_neg (by omega), h2, h3] at hK; exact hK v' t f
  · rw [if_neg (by omega), h2, h3] at hK
    simp only [if_pos h4] at hK; exact hK v' t f
  · rw [if_neg (by omega), h2, h3] at hK
    simp only [if_neg (show ¬ alim ≤ (L.length : Int) by omega)] at hK; exact hK v' t f

theorem Bf.len {K : Int → World → Prop} (b : Bf w v X a fa L made alim FL flim d) (hK : K (Fn.cntIs FL) v) : C_functor_Table_Len fa v K := by
  rw [← b.fa]
  exact Fn.Len_ok b.ft b.ok (by rw [b.eL]; exact hK)

theorem Bf.slots {K : Int → World → Prop} (b : Bf w v X a fa L made alim FL flim d) (hK : K FL.length v) : C_functor_Table_Slots fa v K := by
  rw [← b.fa]
  exact Fn.Slots_ok b.ft (by rw [b.eL]; exact hK)

theorem Bf.mark {id : Int} {K : Int → World → Prop} (b : Bf w v X a fa L made alim FL flim d) (hK : ∀ v' d', Bf w v' X a fa L made alim (markF FL id) flim d' → Far X v v' → K (if Fn.isN FL id then 0 else 4) v') : C_functor_Table_Mark fa id v K := by
  rw [← b.fa]
  have eL := b.eL
  subst eL
  unfold markF at hK
  refine Fn.Mark_ok b.ft b.ok (fun hno => ?_) (fun hyes hi v' d' n hL => ?_)
  · have := hK v d
    rw [hno] at this
    exact this b (Far.refl _ _)
  · have := hK v' d'
    rw [hyes, List.getElem?_eq_getElem hi] at this
    exact this (b.turn n hL).1 (b.turn n hL).2

theorem Bf.sweep {K : Int → World → Prop} (b : Bf w v X a fa L made alim FL flim d) (hK : ∀ v' d', Bf w v' X a fa L made alim (Fn.swL FL FL.length) flim d' → Far X v v' → K (Fn.swC FL FL.length) v') : C_functor_Table_Sweep fa v K := by
  rw [← b.fa]
  have eL := b.eL
  subst eL
  exact Fn.Sweep_ok b.ft b.ok fun v' d' n hL => hK v' d' (b.turn n hL).1 (b.turn n hL).2

theorem Bf.find {name : ByteArray} {ar : Int} {K : Int → Bool → World → Prop} (b : Bf w v X a fa L made alim FL flim d) (hK : ∀ v', Bf w v' X a fa L made alim FL flim d → Far X v v' → K (((findA L FL name ar).map fun i => ((i : Nat) : Int)).getD 0) (findA L FL name ar).isSome v') : C_functor_Table_Find fa name ar v K := by
  rw [← b.fa]
  apply C_functor_Table_Find.of
  unfold F_functor_Table_Find
  refine Fn.made_ok b.ft (ifF rfl ?_)
  simp only [Fn.FtD.a, NN_some, addN, Nat.zero_add, b.ft.c0, exP, b.atoms]
  unfold findA at hK
  refine b.tl.find fun v1 t1 f1 => ?_
  obtain ⟨b1, g1⟩ := b.name t1 f1
  have hk := hK v1 b1 g1
  rcases hf : findN L name with _ | i
  · rw [hf] at hk
    exact ifT rfl hk
  · rw [hf] at hk
    refine ifF rfl ?_
    simp only [b1.ft.c3, exM, Option.map_some, Option.getD_some]
    refine Lookup2_rule (κ := Fn.Key) (kt := 60) (et := 3) (inj := Fn.nV) (z := .int .i64 0) (k := ((i : Nat), ar)) Fn.keyKey (by rfl) ⟨_, rfl, rfl⟩ b1.ft.map ?_
    rw [b1.ok.at'.find, b1.eL]
    simp only [Option.bind_some] at hk
    rcases hg : Fn.findN FL ((i : Nat), ar) with _ | j
    · rw [hg] at hk; exact ⟨_, _, rfl, hk⟩
    · rw [hg] at hk; exact ⟨_, _, rfl, hk⟩

theorem Bf.get {id : Int} {K : ByteArray → Int → Int → World → Prop} (b : Bf w v X a fa L made alim FL flim d) (hK : ∀ v', Bf w v' X a fa L made alim FL flim d → Far X v v' → K (getA L FL id).1 (getA L FL id).2.1 (getA L FL id).2.2 v') : C_functor_Table_Get fa id v K := by
  rw [← b.fa]
  apply C_functor_Table_Get.of
  unfold F_functor_Table_Get
  have eL := b.eL
  subst eL
  unfold getA at hK
  refine Fn.may_ok b.ft ?_
  cases hb : Fn.isN d.L id with
  | false =>
    rw [hb] at hK
    exact ifT rfl (hK v b (Far.refl _ _))
  | true =>
    refine ifF rfl ?_
    obtain ⟨h0, hi, his⟩ := Fn.isN_get hb
    rw [hb, List.getElem?_eq_getElem hi] at hK
    simp only at hK
    have hln := b.ft.len
    obtain ⟨bb, off, hp, q0, q1, q2, q3⟩ := b.ft.slot hi
    have ep : ∀ Q, NN d.lp Q = NN (some ⟨bb, off, none⟩) Q := fun Q => by rw [hp]
    simp only [Fn.FtD.a, NN_some, addN, Nat.zero_add, b.ft.c2, exS, ep, Nat.add_zero, q0, q1, exI]
    refine ⟨h0, by omega, New_rule fun r v1 hr u1 hb1 => ?_⟩
    have rX : Since [r] v := fun k hk => by simp at hk; omega
    have b1 := b.watch u1 rX (fun k hk => by simp at hk; subst hk; exact hb1.lt)
    refine St_rule hb1 (by simp) rfl fun v2 u2 hb2 => St_rule hb2 (by simp) rfl fun v3 u3 hb3 => ?_
    simp at hb3
    have rw' : Since [r] w := fun k hk => by have := rX k hk; have := b.U.size; omega
    have b3 := (b1.own (F := [r]) (u2.both u3) (by simp) rw' (Sub.refl _ _) (fun k hk => (b1.tl.in_.upd (u2.both u3)) k (by simp at hk ⊢; rcases hk with h | h <;> simp [h]))).keep (drw_upd v3)
    have f3 : Far X v (drw v3) := (Far.keep u1).then (⟨[r], (u2.both u3).before (drw_upd v3), fun k hk hx => by
      simp at hx; subst hx
      have := b.tl.in_ k (by simp [hk]); omega⟩)
    have r0 : ∀ {z}, Blk z r #[.int .i64 d.L[id.toNat].key.1, .int .i64 d.L[id.toNat].key.2] → z.cell? ⟨r, 0, none⟩ = some (.int .i64 d.L[id.toNat].key.1) := fun h => by rw [h.cell]; rfl
    have r1 : ∀ {z}, Blk z r #[.int .i64 d.L[id.toNat].key.1, .int .i64 d.L[id.toNat].key.2] → z.cell? ⟨r, 1, none⟩ = some (.int .i64 d.L[id.toNat].key.2) := fun h => by rw [h.cell]; rfl
    simp only [b3.ft.c0, exP, b3.atoms, r0 hb3.drw, exI]
    refine b3.tl.name (fun hno v4 t4 g4 => ?_) (fun hyes hi2 v4 t4 g4 => ?_)
    · obtain ⟨b4, f4⟩ := b3.name t4 g4
      refine ifT rfl ?_
      rw [hno] at hK
      exact hK v4 (b4.less fun k hk => by simp [hk]) (f3.then (f4.less fun k hk => by simp [hk]))
    · obtain ⟨b4, f4⟩ := b3.name t4 g4
      refine ifF rfl ?_
      rw [hyes, List.getElem?_eq_getElem hi2] at hK
      simp only at hK
      have hb4 := f4.blk hb3.drw (by simp)
      simp only [drw_cell, r1 hb4, exI, true_and]
      exact hK _ ((b4.less fun k hk => by simp [hk]).keep (drw_upd v4)) ((f3.then (f4.less fun k hk => by simp [hk])).then (Far.keep (drw_upd v4)))

theorem Bf.put {name : ByteArray} {ar : Int} {K : Int → Int → World → Prop} (b : Bf w v X a fa L made alim FL flim d) (hmade : made < 2 ^ 40)
    (hK : ∀ v' d', Bf w v' X a fa (putA alim made L flim FL name ar).L (putA alim made L flim FL name ar).m alim (putA alim made L flim FL name ar).F flim d' → Far X v v' → K (putA alim made L flim FL name ar).i (putA alim made L flim FL name ar).e v') : C_functor_Table_Put fa name ar v K := by
  rw [← b.fa]
  apply C_functor_Table_Put.of
  unfold F_functor_Table_Put
  unfold putA at hK
  refine Fn.made_ok b.ft (ifF rfl ?_)
  refine ifC (fun hc => ?_) (fun hc => ifC (fun hc2 => ?_) (fun hc2 => ?_))
  · simp at hc
    rw [if_pos (by omega)] at hK
    exact hK v d b (Far.refl _ _)
  · simp at hc2
    rw [if_pos (by omega)] at hK
    exact hK v d b (Far.refl _ _)
  · simp at hc hc2
    rw [if_neg (by omega)] at hK
    have ea : ∀ Q, NN d.a Q = NN (some ⟨d.b, 0, none⟩) Q := fun Q => rfl
    simp only [ea, NN_some, addN, Nat.zero_add, b.ft.c0, exP, b.atoms]
    refine b.tl.intern' hmade fun v1 t1 f1 => ?_
    obtain ⟨b1, g1⟩ := b.name t1 f1
    refine ifC (fun he => ?_) (fun he => ?_)
    · simp at he
      rw [if_pos he] at hK
      exact hK v1 d b1 g1
    · simp at he
      rw [if_neg (by simp [he])] at hK
      refine New_rule fun r v2 hr u2 hb2 => ?_
      have rX : Since [r] v1 := fun k hk => by simp at hk; omega
      have b2 := b1.watch u2 rX (fun k hk => by simp at hk; subst hk; exact hb2.lt)
      refine St_rule hb2 (by simp) rfl fun v3 u3 hb3 => St_rule hb3 (by simp) rfl fun v4 u4 hb4 => ?_
      simp at hb4
      have rw' : Since [r] w := fun k hk => by have := rX k hk; have := b1.U.size; omega
      have b4 := (b2.own (F := [r]) (u3.both u4) (by simp) rw' (Sub.refl _ _) (fun k hk => (b2.tl.in_.upd (u3.both u4)) k (by simp at hk ⊢; rcases hk with h | h <;> simp [h]))).keep (drw_upd v4)
      have f4 : Far X v (drw v4) := g1.then ((Far.keep u2).then (⟨[r], (u3.both u4).before (drw_upd v4), fun k hk hx => by
        simp at hx; subst hx
        have := b1.tl.in_ k (by simp [hk]); omega⟩))
      have r0 : ∀ {z}, Blk z r #[.int .i64 (internS alim made L name).i, .int .i64 ar] → z.cell? ⟨r, 0, none⟩ = some (.int .i64 (internS alim made L name).i) := fun h => by rw [h.cell]; rfl
      have r1 : ∀ {z}, Blk z r #[.int .i64 (internS alim made L name).i, .int .i64 ar] → z.cell? ⟨r, 1, none⟩ = some (.int .i64 ar) := fun h => by rw [h.cell]; rfl
      have c3 : (drw v4).cell? ⟨d.b, 3, none⟩ = some (.map (some d.r)) := b4.ft.c3
      simp only [c3, exM, r0 hb4.drw, r1 hb4.drw, exI]
      refine Lookup2_rule (κ := Fn.Key) (kt := 60) (et := 3) (inj := Fn.nV) (z := .int .i64 0) (k := ((internS alim made L name).i, ar)) Fn.keyKey (by rfl) ⟨_, rfl, rfl⟩ b4.ft.map ?_
      have hfind := b4.ok.at'.find ((internS alim made L name).i, ar)
      rw [b4.eL] at hfind
      have b5 := b4.less (Y := X) fun k hk => by simp [hk]
      unfold Fn.putS at hK
      rcases hg : Fn.findN FL ((internS alim made L name).i, ar) with _ | j
      · rw [hg] at hfind hK
        have hlook : Go.D.look ((internS alim made L name).i, ar) d.M = none := hfind
        rw [hlook]
        refine ⟨_, _, rfl, ifF rfl ?_⟩
        simp only [r0 hb4.drw, r1 hb4.drw, exI]
        refine Fn.add_ok b4.ft b4.ok hlook fun v6 d6 n6 hL6 => ?_
        rw [b4.eL, b4.el] at hL6 ⊢
        obtain ⟨b6, f6⟩ := b5.turn n6 hL6
        exact hK v6 d6 b6 (f4.then f6)
      · rw [hg] at hfind hK
        rw [hfind]
        exact ⟨_, _, rfl, ifT rfl (hK _ d b5 f4)⟩

theorem Bf.atomsAll {K : Int → World → Prop} (b : Bf w v X a fa L made alim FL flim d)
    (hK : ∀ v' , Bf w v' X a fa (mkA L (namesF FL)) made alim FL flim d → Far X v v' → K (Fn.cntIs FL) v') : C_functor_Table_Atoms fa v K := by
  rw [← b.fa]
  apply C_functor_Table_Atoms.of
  unfold F_functor_Table_Atoms F_functor_Table_Atoms_L1
  refine Fn.made_ok b.ft (ifF rfl ?_)
  have ea : ∀ Q, NN d.a Q = NN (some ⟨d.b, 0, none⟩) Q := fun Q => rfl
  simp only [ea, NN_some, addN, Nat.zero_add, b.ft.c3, exM]
  refine Rng_rule (kt := 60) (et := 3) (inj := Fn.nV) (by rfl) b.ft.map fun v1 hr u1 => ?_
  obtain ⟨it, hit⟩ : ∃ it, it = v.heap.size := ⟨_, rfl⟩
  rw [← hit] at hr ⊢
  have iX : Since [it] v := fun k hk => by simp at hk; omega
  have b1 := b.watch u1 iX (fun k hk => by simp at hk; subst hk; exact hr.lt)
  have iw : Since [it] w := fun k hk => by have := iX k hk; have := b.U.size; omega
  have hXit : Dis X [it] := fun k hk hx => by
    simp at hx; subst hx
    have := b.tl.in_ k (by simp [hk]); omega
  refine ⟨fun s z => ∃ D todo, Bf w z ([it] ++ X) a d.a (mkA L D) made alim FL flim d ∧ Far X v z ∧ Ranging z d.r it Fn.nV d.M todo ∧ (∀ x, x ∈ d.M.map (fun y => y.1.1) ↔ x ∈ D ∨ x ∈ todo.map (fun y => y.1.1)),
    fun s z => leftN z d.r it, ⟨[], d.M, by rw [mkA_nil]; exact b.fa ▸ b1, Far.keep u1, hr, fun x => by simp⟩, ?_⟩
  rintro ⟨⟩ z ⟨D, todo, bz, fz, hz, hmem⟩
  unfold B_functor_Table_Atoms_L1 F_functor_Table_Atoms_k1
  refine Next_rule hz (fun h0 => .inl ⟨rfl, ifF rfl ?_⟩) (fun t1 x t2 z1 h1 hs uz => ?_)
  · subst h0
    have c3 : z.cell? ⟨d.b, 3, none⟩ = some (.map (some d.r)) := bz.ft.c3
    simp only [ea, NN_some, addN, Nat.zero_add, c3, exM]
    refine MLen_rule (inj := Fn.nV) (kt := 60) (et := 3) (by rfl) bz.ft.map ?_
    rw [bz.ok.at'.ml, bz.eL]
    have e : mkA L D = mkA L (namesF FL) := mkA_congr L fun x => by
      have h1 := hmem x
      have h2 := bz.ok.at'.keys x
      rw [bz.eL] at h2
      rw [← h2, h1]; simp
    rw [e] at bz
    exact hK z (b.fa ▸ bz.less fun k hk => by simp [hk]) fz
  · refine .inr ⟨_, _, rfl, ifT rfl (Entry_rule hs ⟨x.1.1, x.1.2, x.2, rfl, ?_⟩)⟩
    have b1 := bz.own (F := [it]) uz (by simp) iw (Sub.refl _ _) (fun k hk => (bz.tl.in_.upd uz) k (by simp at hk ⊢; rcases hk with h | h <;> simp [h]))
    have f1 : Far X v z1 := fz.then ⟨[it], uz, hXit⟩
    refine New_rule fun r z2 hr2 u2 hb2 => ?_
    have rX : Since [r] z1 := fun k hk => by simp at hk; omega
    have b2 := b1.watch u2 rX (fun k hk => by simp at hk; subst hk; exact hb2.lt)
    refine St_rule hb2 (by simp) rfl fun z3 u3 hb3 => St_rule hb3 (by simp) rfl fun z4 u4 hb4 => ?_
    simp at hb4
    have rw' : Since [r] w := fun k hk => by have := rX k hk; have := b1.U.size; omega
    have b4 := (b2.own (F := [r]) (u3.both u4) (by simp) rw' (Sub.refl _ _) (fun k hk => (b2.tl.in_.upd (u3.both u4)) k (by simp at hk ⊢; rcases hk with h | h | h <;> simp [h]))).keep (drw_upd z4)
    have hn4 : ∀ Y : List Nat, In Y z1 → Dis Y [r] := fun Y hY k hk hx => by
      simp at hx; subst hx
      have := hY k hk; omega
    have f4 : Far ([it] ++ X) z1 (drw z4) := (Far.keep u2).then ⟨[r], (u3.both u4).before (drw_upd z4), hn4 _ fun k hk => b1.tl.in_ k (by simp at hk ⊢; rcases hk with h | h <;> simp [h])⟩
    have r0 : ∀ {z}, Blk z r #[.int .i64 x.1.1, .int .i64 x.1.2] → z.cell? ⟨r, 0, none⟩ = some (.int .i64 x.1.1) := fun h => by rw [h.cell]; rfl
    have c0 : (drw z4).cell? ⟨d.b, 0, none⟩ = some (.pointer d.atoms) := b4.ft.c0
    simp only [ea, NN_some, addN, Nat.zero_add, c0, exP, b4.atoms, r0 hb4.drw, exI]
    have hg4 : Ranging (drw z4) d.r it Fn.nV d.M (t1 ++ t2) := by
      have q1 : d.r ∉ [r] := by
        have := b1.ft.map.lt
        simp; omega
      have q2 : it ∉ [r] := by
        have := hs.ranging.lt
        simp; omega
      exact (hs.ranging.keep u2).upd ((u3.both u4).before (drw_upd z4)) q1 q2
    have memNew : ∀ y, y ∈ d.M.map (fun y => y.1.1) ↔ y ∈ D ++ [x.1.1] ∨ y ∈ (t1 ++ t2).map (fun y => y.1.1) := fun y => by
      rw [hmem y, h1]
      simp only [List.map_append, List.map_cons, List.mem_append, List.mem_cons, List.not_mem_nil, or_false]
      constructor
      · rintro (h | h | h | h) <;> simp [h]
      · rintro ((h | h) | h | h) <;> simp [h]
    have hlen : (t1 ++ t2).length < leftN z d.r it := by
      rw [hz.left, h1]; simp
    refine b4.tl.mark (fun hno z5 t5 g5 => ?_) (fun hyes hi z5 t5 g5 => ?_)
    · obtain ⟨b5, f5⟩ := b4.name t5 g5
      obtain ⟨F5, u5, d5⟩ := g5
      have hg5 := hg4.upd u5 (d5 d.r (by simp [Fn.FtD.FT])) (d5 it (by simp))
      rw [isN_mkA] at hno
      refine ⟨⟨D ++ [x.1.1], t1 ++ t2, ?_, (f1.then ((f4.less fun k hk => by simp [hk]).then (f5.less fun k hk => by simp [hk]))), hg5, memNew⟩, by rw [hg5.left]; exact hlen⟩
      rw [mkA_no hno]
      exact b5.less fun k hk => by simp at hk ⊢; rcases hk with h | h <;> simp [h]
    · obtain ⟨b5, f5⟩ := b4.name t5 g5
      obtain ⟨F5, u5, d5⟩ := g5
      have hg5 := hg4.upd u5 (d5 d.r (by simp [Fn.FtD.FT])) (d5 it (by simp))
      rw [isN_mkA] at hyes
      refine ⟨⟨D ++ [x.1.1], t1 ++ t2, ?_, (f1.then ((f4.less fun k hk => by simp [hk]).then (f5.less fun k hk => by simp [hk]))), hg5, memNew⟩, by rw [hg5.left]; exact hlen⟩
      rw [mkA_yes hyes hi]
      exact b5.less fun k hk => by simp at hk ⊢; rcases hk with h | h <;> simp [h]

end

end Go.Proofs.Ytlngmelfjiemlaa
