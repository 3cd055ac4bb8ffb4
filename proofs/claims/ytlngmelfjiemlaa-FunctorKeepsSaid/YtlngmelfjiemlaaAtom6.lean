/- A table of names: its calls, one behind the other. -/
import Derived.Test.YtlngmelfjiemlaaAtom5
namespace Go.Proofs.Ytlngmelfjiemlaa
open Go Go.D Go.Proofs
set_option linter.unusedSimpArgs false
set_option linter.unusedVariables false
set_option maxRecDepth 8000

/-- What lies in some blocks is as it was. -/
def Far (X : List Nat) (v v' : World) : Prop := ∃ F, Upd F v v' ∧ Dis X F

theorem Far.keep {X : List Nat} {v v' : World} (u : Upd [] v v') : Far X v v' := ⟨[], u, by intro k _ h; cases h⟩

theorem Far.sl {X : List Nat} {v v' : World} (f : Far X v v') {sz : Nat} {p : Option Addr} {n c : Nat} {cs : List Value} {G : List Nat} (h : SlAt v sz p n c cs G) (hG : ∀ x ∈ G, x ∈ X) : SlAt v' sz p n c cs G := by
  obtain ⟨F, u, d⟩ := f
  exact h.upd u fun k hk => d k (hG k hk)

/-- A table that is new since w, and blocks that lie apart. -/
def Tl (w v : World) (X : List Nat) (a : Option Addr) (L : List Slot) (made lim : Int) : Prop := ∃ FT, Has v a FT L made lim ∧ Since FT w ∧ Upd [] w v ∧ Dis X FT ∧ In X v

section
variable {w v : World} {X : List Nat} {a : Option Addr} {L : List Slot} {made lim : Int}

theorem Tl.U (t : Tl w v X a L made lim) : Upd [] w v := by
  obtain ⟨_, _, _, u, _⟩ := t
  exact u

theorem Tl.keep {v' : World} (t : Tl w v X a L made lim) (u : Upd [] v v') : Tl w v' X a L made lim := by
  obtain ⟨FT, h, s, u0, d, i⟩ := t
  exact ⟨FT, h.keep u, s, u0.after u, d, i.upd u⟩

/-- Other blocks are looked at. -/
theorem Tl.own {v' : World} {F Y : List Nat} (t : Tl w v X a L made lim) (u : Upd F v v') (hF : ∀ x ∈ F, x ∈ X) (hX : Since X w) (hY : Sub Y X v) (hin : In Y v') : Tl w v' Y a L made lim := by
  obtain ⟨FT, h, s, u0, d, i⟩ := t
  refine ⟨FT, h.upd u fun k hk hx => d k (hF k hx) hk, s, u0.fresh u fun k hk => hX k (hF k hk), fun k hk hx => ?_, hin⟩
  rcases hY k hk with e | e
  · exact d k e hx
  · have := h.inn k hx; omega

theorem Tl.watch {v' : World} {Y : List Nat} (t : Tl w v X a L made lim) (u : Upd [] v v') (hY : Since Y v) (hin : In Y v') : Tl w v' (Y ++ X) a L made lim := by
  obtain ⟨FT, h, s, u0, d, i⟩ := t
  refine ⟨FT, h.keep u, s, u0.after u, fun k hk hx => ?_, fun k hk => ?_⟩
  · rcases List.mem_append.1 hk with e | e
    · have := hY k e; have := h.inn k hx; omega
    · exact d k e hx
  · rcases List.mem_append.1 hk with e | e
    · exact hin k e
    · exact i.upd u k e

theorem Tl.next {FT : List Nat} {v' : World} {d : AtD} (h : Has v a FT L made lim) (s : Since FT w) (u : Upd [] w v) (dx : Dis X FT) (ix : In X v) (n : Nx v v' a FT lim d) : Tl w v' X a d.L d.made lim ∧ Far X v v' := by
  refine ⟨⟨d.FT, n.has, s.step n.S u.size, u.fresh n.U s, fun k hk hx => ?_, ix.upd n.U⟩, FT, n.U, dx⟩
  rcases n.S k hx with e | e
  · exact dx k hk e
  · have := ix k hk; omega

theorem Tl.new {K : Option Addr → Int → World → Prop} (u : Upd [] w v) (h0 : 15 ≤ lim) (h1 : lim ≤ 16384) (hK : ∀ v' b, Tl w v' [] (some ⟨b, 0, none⟩) initL 0 lim → K (some ⟨b, 0, none⟩) 0 v') : C_atom_New lim v K :=
  New_ok h0 h1 fun v' b h u' hb => hK v' b ⟨[b], h, fun x hx => by simp at hx; subst hx; have := u.size; omega, u.after u', (by intro k hk; cases hk), (by intro k hk; cases hk)⟩

theorem Tl.len {K : Int → World → Prop} (t : Tl w v X a L made lim) (hK : ∀ v', Tl w v' X a L made lim → Far X v v' → K (cntIs L) v') : C_atom_Table_Len a v K := by
  obtain ⟨FT, h, s, u, dx, ix⟩ := t
  refine Len_ok h fun v' d n hL hm => ?_
  have := Tl.next h s u dx ix n
  rw [hL, hm] at this
  exact hK v' this.1 this.2

theorem Tl.find {name : ByteArray} {K : Int → Bool → World → Prop} (t : Tl w v X a L made lim) (hK : ∀ v', Tl w v' X a L made lim → Far X v v' → K (((findN L name).map fun i => ((i : Nat) : Int)).getD 0) (findN L name).isSome v') : C_atom_Table_Find a name v K := by
  obtain ⟨FT, h, s, u, dx, ix⟩ := t
  refine Find_ok h fun v' d n hL hm => ?_
  have := Tl.next h s u dx ix n
  rw [hL, hm] at this
  exact hK v' this.1 this.2

theorem Tl.name {id : Int} {K : ByteArray → Int → World → Prop} (t : Tl w v X a L made lim) (hno : isN L id = false → ∀ v', Tl w v' X a L made lim → Far X v v' → K ⟨#[]⟩ 4 v')
    (hK : isN L id = true → ∀ (hi : id.toNat < L.length) v', Tl w v' X a L made lim → Far X v v' → K L[id.toNat].name 0 v') : C_atom_Table_Name a id v K := by
  obtain ⟨FT, h, s, u, dx, ix⟩ := t
  refine Name_ok h (fun hb v' d n hL hm => ?_) (fun hb hi v' d n hL hm => ?_)
  · have := Tl.next h s u dx ix n
    rw [hL, hm] at this
    exact hno hb v' this.1 this.2
  · have := Tl.next h s u dx ix n
    rw [hL, hm] at this
    exact hK hb hi v' this.1 this.2

theorem Tl.mark {id : Int} {K : Int → World → Prop} (t : Tl w v X a L made lim) (hno : isN L id = false → ∀ v', Tl w v' X a L made lim → Far X v v' → K 4 v')
    (hK : isN L id = true → ∀ (hi : id.toNat < L.length) v', Tl w v' X a (L.set id.toNat ⟨L[id.toNat].name, L[id.toNat].is, true⟩) made lim → Far X v v' → K 0 v') : C_atom_Table_Mark a id v K := by
  obtain ⟨FT, h, s, u, dx, ix⟩ := t
  refine Mark_ok h (fun hb v' d n hL hm => ?_) (fun hb hi v' d n hL hm => ?_)
  · have := Tl.next h s u dx ix n
    rw [hL, hm] at this
    exact hno hb v' this.1 this.2
  · have := Tl.next h s u dx ix n
    rw [hL, hm] at this
    exact hK hb hi v' this.1 this.2

theorem Tl.sweep {K : Int → World → Prop} (t : Tl w v X a L made lim) (hK : ∀ v', Tl w v' X a (swL L L.length) made lim → Far X v v' → K (swC L L.length) v') : C_atom_Table_Sweep a v K := by
  obtain ⟨FT, h, s, u, dx, ix⟩ := t
  refine Sweep_ok h fun v' d n hL hm => ?_
  have := Tl.next h s u dx ix n
  rw [hL, hm] at this
  exact hK v' this.1 this.2

theorem Tl.intern {name : ByteArray} {K : Int → Int → World → Prop} (t : Tl w v X a L made lim) (hmade : made < 2 ^ 40)
    (hlong : 64 < name.size → ∀ v', Tl w v' X a L made lim → Far X v v' → K 0 3 v')
    (hfound : name.size ≤ 64 → ∀ i, findN L name = some i → ∀ v', Tl w v' X a L made lim → Far X v v' → K i 0 v')
    (hfree : name.size ≤ 64 → findN L name = none → ∀ i, freeN L = some i → ∀ v', Tl w v' X a (L.set i ⟨name, true, false⟩) (made + 1) lim → Far X v v' → K i 0 v')
    (hfull : name.size ≤ 64 → findN L name = none → freeN L = none → lim ≤ L.length → ∀ v', Tl w v' X a L made lim → Far X v v' → K 0 2 v')
    (hgrow : name.size ≤ 64 → findN L name = none → freeN L = none → L.length < lim → ∀ v', Tl w v' X a (L ++ [⟨name, true, false⟩]) (made + 1) lim → Far X v v' → K L.length 0 v') : C_atom_Table_Intern a name v K := by
  obtain ⟨FT, h, s, u, dx, ix⟩ := t
  have go : ∀ {v' : World} {d : AtD} {L' : List Slot} {m' : Int}, Nx v v' a FT lim d → d.L = L' → d.made = m' → Tl w v' X a L' m' lim ∧ Far X v v' := fun n hL hm => by
    rw [← hL, ← hm]; exact Tl.next h s u dx ix n
  exact Intern_ok h hmade (fun h1 v' d n hL hm => hlong h1 v' (go n hL hm).1 (go n hL hm).2) (fun h1 i h2 v' d n hL hm => hfound h1 i h2 v' (go n hL hm).1 (go n hL hm).2) (fun h1 h2 i h3 v' d n hL hm => hfree h1 h2 i h3 v' (go n hL hm).1 (go n hL hm).2) (fun h1 h2 h3 h4 v' d n hL hm => hfull h1 h2 h3 h4 v' (go n hL hm).1 (go n hL hm).2) (fun h1 h2 h3 h4 v' d n hL hm => hgrow h1 h2 h3 h4 v' (go n hL hm).1 (go n hL hm).2)

theorem Tl.intern_grow {name : ByteArray} {K : Int → Int → World → Prop} (t : Tl w v X a L made lim) (hmade : made < 2 ^ 40) (h1 : name.size ≤ 64) (h2 : findN L name = none) (h3 : freeN L = none) (h4 : L.length < lim)
    (hK : ∀ v', Tl w v' X a (L ++ [⟨name, true, false⟩]) (made + 1) lim → Far X v v' → K L.length 0 v') : C_atom_Table_Intern a name v K :=
  t.intern hmade (fun h => by omega) (fun _ i hi => by rw [h2] at hi; cases hi) (fun _ _ i hi => by rw [h3] at hi; cases hi) (fun _ _ _ h => by omega) (fun _ _ _ _ => hK)

theorem Tl.intern_free {name : ByteArray} {i : Nat} {K : Int → Int → World → Prop} (t : Tl w v X a L made lim) (hmade : made < 2 ^ 40) (h1 : name.size ≤ 64) (h2 : findN L name = none) (h3 : freeN L = some i)
    (hK : ∀ v', Tl w v' X a (L.set i ⟨name, true, false⟩) (made + 1) lim → Far X v v' → K i 0 v') : C_atom_Table_Intern a name v K :=
  t.intern hmade (fun h => by omega) (fun _ i hi => by rw [h2] at hi; cases hi) (fun _ _ j hj => by rw [h3] at hj; obtain rfl := Option.some.inj hj; exact hK) (fun _ _ h => by rw [h3] at h; cases h) (fun _ _ h => by rw [h3] at h; cases h)

end

end Go.Proofs.Ytlngmelfjiemlaa
