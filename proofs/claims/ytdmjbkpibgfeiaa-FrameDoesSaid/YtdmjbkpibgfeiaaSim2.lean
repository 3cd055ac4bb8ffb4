/- Each call leaves both stacks alike: plain. -/
import Derived.Test.YtdmjbkpibgfeiaaSim
namespace Go.Proofs.Ytdmjbkpibgfeiaa
open Go Go.D Go.Proofs
set_option linter.unusedSimpArgs false
set_option linter.unusedVariables false
set_option maxRecDepth 8000

section
variable {w : World} {d : FrD} {cur : List Int} {lev : List Level} {t : TwD} {φ : Int → Nat}

theorem er_push {x : Sl × Ch} {E : List (Sl × Ch)} {i : Nat} : ((E ++ [x])[i]?).getD noRec = if i < E.length then (E[i]?).getD noRec else if i = E.length then x else noRec := by
  by_cases h : i < E.length
  · rw [if_pos h, List.getElem?_append_left h]
  · rw [if_neg h, List.getElem?_append_right (by omega)]
    by_cases h2 : i = E.length
    · rw [if_pos h2, h2]; simp
    · rw [if_neg h2, List.getElem?_eq_none (by simp; omega)]; rfl

/-- An environment is made. -/
theorem Sim.alloc (sim : Sim d cur lev t φ) (ok : Ok d cur lev) {slots c0 c1 most : Int} {FW : List Nat} {x : Sl × Ch} {p : Option Addr} {c : Nat} {G H : List Nat} (h0 : 0 ≤ slots) (h1 : slots ≤ 64) (hroom : d.top + 4 + slots ≤ d.wlim)
    (hc0 : -2 ^ 63 ≤ c0 ∧ c0 < 2 ^ 63) (hc1 : -2 ^ 63 ≤ c1 ∧ c1 < 2 ^ 63) (hx : x.2 = zEnv t slots c0 c1) :
    Sim (d.alloc slots c0 c1 most FW) (d.top :: cur) lev (t.pushE x p c G H t.E.length) (fun b => if b = d.top then t.E.length else φ b) := by
  obtain ⟨ok', htop, hsz, hpv⟩ := ok.alloc (slots := slots) (c0 := c0) (c1 := c1) (most := most) (FW := FW) h0 h1 hroom
  have ht0 := ok.top0
  have hW : ∀ j : Nat, (j : Int) < d.top → (allocW d slots c0 c1)[j]? = d.W[j]? := fun j hj => allocW_lt ok h0 hj
  obtain ⟨ψ, hψ⟩ : ∃ ψ : Int → Nat, ψ = (fun b => if b = d.top then t.E.length else φ b) := ⟨_, rfl⟩
  rw [← hψ]
  have ψt : ψ d.top = t.E.length := by rw [hψ]; simp
  have ψn : ∀ b, b ≠ d.top → ψ b = φ b := fun b hb => by rw [hψ]; simp [hb]
  -- below the new one all is as it was
  have hidx : ∀ e : Int, e < d.top → eIdx ψ e = eIdx φ e := fun e he => by
    unfold eIdx; rw [ψn e (by omega)]
  have old : ∀ b, Node ((cur, d.env, d.top) :: lev) b → b < d.top := fun b hb => by have := ok.nd hb; omega
  have henv : d.env < d.top := by
    by_cases h : d.env < 0
    · omega
    · exact old _ (ok.nenv (by omega))
  refine ⟨fun b hb => ?_, ?_, sim.cs, ?_, sim.words, sim.lim⟩
  · by_cases hbt : b = d.top
    · subst hbt
      rw [ψt]
      refine ⟨by show t.E.length < (t.E ++ [x]).length; simp, ?_⟩
      show (((t.E ++ [x])[t.E.length]?).getD noRec).2 = { frameOf (allocW d slots c0 c1) d.top with top := eIdx ψ (prevOf (allocW d slots c0 c1) d.top) }
      rw [er_push, if_neg (by omega), if_pos rfl, hx]
      have hpv' : prevOf (allocW d slots c0 c1) d.top = d.env := hpv
      rw [hpv', hidx _ henv, ← sim.cur]
      have hsz' : sizeOf' (allocW d slots c0 c1) d.top = slots := hsz
      have hen : -2 ^ 63 ≤ d.env + 1 ∧ d.env + 1 < 2 ^ 63 := by
        have := ok.env1; have := ok.topl; have := ok.Wl; have := ok.wl
        omega
      have e1 : wordOf (allocW d slots c0 c1) (d.top + 1) = c0 := by
        have := allocW_head ok h0 (c0 := c0) (c1 := c1) (i := 1) (by omega) (by simp [header]; omega)
        simpa [header] using this
      have e2 : wordOf (allocW d slots c0 c1) (d.top + 2) = c1 := by
        have := allocW_head ok h0 (c0 := c0) (c1 := c1) (i := 2) (by omega) (by simp [header]; omega)
        simpa [header] using this
      have er : rowOf (allocW d slots c0 c1) d.top = List.replicate slots.toNat 0 := by
        unfold rowOf
        rw [hsz']
        have hfit := allocW_fits ok (c0 := c0) (c1 := c1) h0
        apply List.ext_getElem?
        intro i
        by_cases hi : i < slots.toNat
        · rw [List.getElem?_take_of_lt hi, List.getElem?_drop]
          have hlen : 4 + i < (header d slots c0 c1 ++ List.replicate slots.toNat 0).length := by simp [header]; omega
          have := lay_in hfit hlen
          unfold allocW
          rw [show d.top.toNat + 4 + i = d.top.toNat + (4 + i) by omega, this, List.getElem_append_right (by simp [header])]
          simp [List.getElem?_replicate, hi]
          decide
        · rw [List.getElem?_take_eq_none (by omega), List.getElem?_eq_none (by simp; omega)]
      unfold zEnv frameOf
      rw [e1, e2, er, sim.top ok]
    · have hb' : Node ((cur, d.env, d.top) :: lev) b := by
        obtain ⟨z, hz, hbz⟩ := hb
        rcases List.mem_cons.1 hz with rfl | hz
        · rcases List.mem_cons.1 hbz with h | h
          · exact absurd h hbt
          · exact ⟨_, List.mem_cons_self .., h⟩
        · exact ⟨z, List.mem_cons_of_mem _ hz, hbz⟩
      obtain ⟨n0, n1, n2⟩ := ok.nd hb'
      obtain ⟨q1, q2⟩ := sim.node b hb'
      rw [ψn b hbt]
      refine ⟨by show φ b < (t.E ++ [x]).length; simp; omega, ?_⟩
      show (((t.E ++ [x])[φ b]?).getD noRec).2 = { frameOf (allocW d slots c0 c1) b with top := eIdx ψ (prevOf (allocW d slots c0 c1) b) }
      rw [er_push, if_pos q1]
      obtain ⟨f1, f2⟩ := frame_in (W' := allocW d slots c0 c1) n0 n1 (fun j hj1 hj2 => hW j (by omega))
      rw [f1, f2, hidx _ (by have := (ok.nprev hb').1; omega)]
      exact q2
  · show (t.E.length : Int) = eIdx ψ d.top
    rw [eIdx_pos ht0, ψt]
  · rw [show (t.pushE x p c G H t.E.length).C.map (·.2) = t.C.map (·.2) from rfl, sim.ix]
    refine List.map_congr_left fun y hy => ?_
    obtain ⟨z, hz, rfl⟩ := List.mem_map.1 hy
    refine (hidx _ ?_).symm
    obtain ⟨lv, hlv, hle⟩ := ok.start z.2.env (List.mem_cons_of_mem _ (List.mem_map.2 ⟨z, hz, rfl⟩))
    have hch := Lv.chain ok.lv lv hlv
    rcases hl1 : lv.1 with _ | ⟨y', ys⟩
    · rw [hl1] at hch
      have : lv.2.1 = -1 := hch
      omega
    · rw [hl1] at hch
      have := hch.1
      have hnd := old y' ⟨lv, hlv, by rw [hl1]; simp⟩
      omega

/-- The current environment is left. -/
theorem Sim.left (sim : Sim d cur lev t φ) (ok : Ok d cur lev) (h0 : 0 ≤ d.env) : Sim d.left cur.tail lev { t with cur := (er t (φ d.env)).2.top } φ := by
  refine sim.sub (fun b hb => ?_) rfl rfl ?_ sim.cs sim.ix sim.words sim.lim
  · obtain ⟨z, hz, hbz⟩ := hb
    rcases List.mem_cons.1 hz with rfl | hz
    · exact ⟨_, List.mem_cons_self .., List.mem_of_mem_tail hbz⟩
    · exact ⟨z, List.mem_cons_of_mem _ hz, hbz⟩
  · show (er t (φ d.env)).2.top = eIdx φ (prevOf d.W d.env)
    rw [(sim.node _ (ok.nenv h0)).2]

/-- A slot is set. -/
theorem Sim.set (sim : Sim d cur lev t φ) (ok : Ok d cur lev) {i v : Int} (hi : d.has i) (hl : φ d.env < t.E.length) :
    Sim { d with W := d.W.set (d.env + 4 + i - 1).toNat v } cur lev (t.setSlot (φ d.env) (i.toNat - 1) v hl) φ := by
  obtain ⟨h0, h1, h2⟩ := hi
  have hnv := ok.nenv h0
  obtain ⟨n0, n1, n2⟩ := ok.nd hnv
  have htl := ok.topl
  have htop' : ({ d with W := d.W.set (d.env + 4 + i - 1).toNat v } : FrD).top = d.top := (ok.set ⟨h0, h1, h2⟩).2
  refine ⟨fun b hb => ?_, sim.cur, sim.cs, sim.ix, sim.words, sim.lim⟩
  rw [htop'] at hb
  have hb : Node ((cur, d.env, d.top) :: lev) b := hb
  obtain ⟨q1, q2⟩ := sim.node b hb
  refine ⟨by show φ b < (t.E.set _ _).length; simpa using q1, ?_⟩
  show (((t.E.set (φ d.env) _)[φ b]?).getD noRec).2 = { frameOf (d.W.set (d.env + 4 + i - 1).toNat v) b with top := eIdx φ (prevOf (d.W.set (d.env + 4 + i - 1).toNat v) b) }
  by_cases hbe : b = d.env
  · subst hbe
    rw [List.getElem?_set_self hl]
    rw [er_eq hl] at q2
    show ({ (t.E[φ d.env]).2 with args := (t.E[φ d.env]).2.args.set (i.toNat - 1) v } : Ch) = _
    rw [q2]
    have w0 : wordOf (d.W.set (d.env + 4 + i - 1).toNat v) d.env = wordOf d.W d.env := wordOf_set (by omega)
    have w1 : wordOf (d.W.set (d.env + 4 + i - 1).toNat v) (d.env + 1) = wordOf d.W (d.env + 1) := wordOf_set (by omega)
    have w2 : wordOf (d.W.set (d.env + 4 + i - 1).toNat v) (d.env + 2) = wordOf d.W (d.env + 2) := wordOf_set (by omega)
    have w3 : sizeOf' (d.W.set (d.env + 4 + i - 1).toNat v) d.env = sizeOf' d.W d.env := wordOf_set (by omega)
    have er : rowOf (d.W.set (d.env + 4 + i - 1).toNat v) d.env = (rowOf d.W d.env).set (i.toNat - 1) v := by
      unfold rowOf
      rw [w3, show (d.env + 4 + i - 1).toNat = (d.env.toNat + 4) + (i.toNat - 1) by omega, List.drop_set, if_neg (by omega), Nat.add_sub_cancel_left, List.take_set]
    unfold frameOf prevOf
    rw [w0, w1, w2, er]
  · have hne : ¬ φ d.env = φ b := fun h => hbe (sim.inj hb hnv h.symm)
    rw [List.getElem?_set_ne hne]
    obtain ⟨m0, m1, m2⟩ := ok.nd hb
    have hap := ok.napart hb hnv
    obtain ⟨f1, f2⟩ := frame_in (W' := d.W.set (d.env + 4 + i - 1).toNat v) m0 m1 (fun j hj1 hj2 => List.getElem?_set_ne (by omega))
    rw [f1, f2]
    exact q2

/-- The first slots are left. -/
theorem Sim.trim (sim : Sim d cur lev t φ) (ok : Ok d cur lev) {n : Int} (hn : d.trims n) {y : Sl × Ch} (hl : φ d.env < t.E.length) (hy : y.2 = { t.E[φ d.env].2 with args := t.E[φ d.env].2.args.take n.toNat }) :
    Sim (d.trimmed n) cur lev { t with E := t.E.set (φ d.env) y } φ := by
  obtain ⟨h0, h1, h2, h3⟩ := hn
  have hnv := ok.nenv h1
  obtain ⟨n0, n1, n2⟩ := ok.nd hnv
  have htl := ok.topl; have hWl := ok.Wl; have hwl := ok.wl
  refine ⟨fun b hb => ?_, sim.cur, sim.cs, sim.ix, sim.words, sim.lim⟩
  have hb : Node ((cur, d.env, d.top) :: lev) b := by
    obtain ⟨z, hz, hbz⟩ := hb
    rcases List.mem_cons.1 hz with rfl | hz
    · exact ⟨_, List.mem_cons_self .., hbz⟩
    · exact ⟨z, List.mem_cons_of_mem _ hz, hbz⟩
  obtain ⟨q1, q2⟩ := sim.node b hb
  refine ⟨by show φ b < (t.E.set _ _).length; simpa using q1, ?_⟩
  show (((t.E.set (φ d.env) y)[φ b]?).getD noRec).2 = { frameOf (setW d.W (d.env + 3) n) b with top := eIdx φ (prevOf (setW d.W (d.env + 3) n) b) }
  by_cases hbe : b = d.env
  · subst hbe
    rw [List.getElem?_set_self hl]
    rw [er_eq hl] at q2
    show y.2 = _
    rw [hy, q2]
    have w0 : wordOf (setW d.W (d.env + 3) n) d.env = wordOf d.W d.env := wordOf_setW (by omega)
    have w1 : wordOf (setW d.W (d.env + 3) n) (d.env + 1) = wordOf d.W (d.env + 1) := wordOf_setW (by omega)
    have w2 : wordOf (setW d.W (d.env + 3) n) (d.env + 2) = wordOf d.W (d.env + 2) := wordOf_setW (by omega)
    have w3 : sizeOf' (setW d.W (d.env + 3) n) d.env = n := (ok.trim ⟨h0, h1, h2, h3⟩).2.2
    have er : rowOf (setW d.W (d.env + 3) n) d.env = (rowOf d.W d.env).take n.toNat := by
      unfold rowOf
      rw [w3, List.take_take, Nat.min_eq_left (by omega)]
      apply List.ext_getElem?
      intro i
      by_cases hi : i < n.toNat
      · rw [List.getElem?_take_of_lt hi, List.getElem?_take_of_lt hi, List.getElem?_drop, List.getElem?_drop, setW_ne (by omega)]
      · rw [List.getElem?_take_eq_none (by omega), List.getElem?_take_eq_none (by omega)]
    unfold frameOf prevOf
    rw [w0, w1, w2, er]
  · have hne : ¬ φ d.env = φ b := fun h => hbe (sim.inj hb hnv h.symm)
    rw [List.getElem?_set_ne hne]
    obtain ⟨m0, m1, m2⟩ := ok.nd hb
    have hap := ok.napart hb hnv
    obtain ⟨f1, f2⟩ := frame_in (W' := setW d.W (d.env + 3) n) m0 m1 (fun j hj1 hj2 => setW_ne (by omega))
    rw [f1, f2]
    exact q2
end

end Go.Proofs.Ytdmjbkpibgfeiaa
