/- What makes both stacks alike, and stays so: plain. -/
import Derived.Test.YtdmjbkpibgfeiaaTwin5
import Derived.Test.YtdmjbkpibgfeiaaKeeps
namespace Go.Proofs.Ytdmjbkpibgfeiaa
open Go Go.D Go.Proofs
set_option linter.unusedSimpArgs false
set_option linter.unusedVariables false
set_option maxRecDepth 8000

theorem frame_in {W W' : List Int} {b : Int} (h0 : 0 ≤ b) (h1 : 0 ≤ sizeOf' W b) (hW : ∀ j : Nat, b ≤ (j : Int) → (j : Int) < b + 4 + sizeOf' W b → W'[j]? = W[j]?) : frameOf W' b = frameOf W b ∧ prevOf W' b = prevOf W b := by
  have e : ∀ i : Int, b ≤ i → i < b + 4 + sizeOf' W b → wordOf W' i = wordOf W i := fun i hi hi2 => wordOf_eq fun h => hW _ (by omega) (by omega)
  have e3 : sizeOf' W' b = sizeOf' W b := e _ (by omega) (by omega)
  have er : rowOf W' b = rowOf W b := by
    unfold rowOf
    rw [e3]
    apply List.ext_getElem?
    intro i
    by_cases hi : i < (sizeOf' W b).toNat
    · rw [List.getElem?_take_of_lt hi, List.getElem?_take_of_lt hi, List.getElem?_drop, List.getElem?_drop]
      exact hW _ (by omega) (by omega)
    · rw [List.getElem?_take_eq_none (by omega), List.getElem?_take_eq_none (by omega)]
  constructor
  · unfold frameOf
    rw [e _ (by omega) (by omega), e _ (by omega) (by omega), er]
  · unfold prevOf
    rw [e _ (by omega) (by omega)]

theorem ChainL.nx {W : List Int} : ∀ {xs : List Int} {e h : Int}, ChainL W xs e h → ∀ b ∈ xs, prevOf W b < b ∧ (0 ≤ prevOf W b → prevOf W b ∈ xs)
  | [], _, _, _, b, hb => by cases hb
  | x :: xs, e, h, ⟨h1, h2, h3, h4, h5⟩, b, hb => by
    rcases List.mem_cons.1 hb with rfl | hb
    · subst h1
      rcases xs with _ | ⟨y, ys⟩
      · have : prevOf W b = -1 := h5
        exact ⟨by omega, by omega⟩
      · obtain ⟨q1, q2, q3, q4, _⟩ := h5
        exact ⟨by omega, fun _ => by rw [q1]; simp⟩
    · obtain ⟨a, c⟩ := h5.nx b hb
      exact ⟨a, fun hp => List.mem_cons_of_mem _ (c hp)⟩

section
variable {w : World} {d : FrD} {cur : List Int} {lev : List Level} {t : TwD} {φ : Int → Nat}

theorem Ok.nd (ok : Ok d cur lev) {b : Int} (hb : Node ((cur, d.env, d.top) :: lev) b) : 0 ≤ b ∧ 0 ≤ sizeOf' d.W b ∧ b + 4 + sizeOf' d.W b ≤ d.top := by
  obtain ⟨z, hz, hbz⟩ := hb
  exact ok.lv.le (t := d.top) (by intro q hq; simp at hq; subst hq; exact Int.le_refl _) z hz b hbz

theorem Ok.nprev (ok : Ok d cur lev) {b : Int} (hb : Node ((cur, d.env, d.top) :: lev) b) : prevOf d.W b < b ∧ (0 ≤ prevOf d.W b → Node ((cur, d.env, d.top) :: lev) (prevOf d.W b)) := by
  obtain ⟨z, hz, hbz⟩ := hb
  obtain ⟨a, c⟩ := (Lv.chain ok.lv z hz).nx b hbz
  exact ⟨a, fun hp => ⟨z, hz, c hp⟩⟩

theorem Ok.nenv (ok : Ok d cur lev) (h : 0 ≤ d.env) : Node ((cur, d.env, d.top) :: lev) d.env := by
  obtain ⟨xs, hc, _⟩ := ok.cons h
  exact ⟨(cur, d.env, d.top), by simp, by simp [hc]⟩

theorem Ok.napart (ok : Ok d cur lev) {b c : Int} (hb : Node ((cur, d.env, d.top) :: lev) b) (hc : Node ((cur, d.env, d.top) :: lev) c) : b = c ∨ b + 4 + sizeOf' d.W b ≤ c ∨ c + 4 + sizeOf' d.W c ≤ b := by
  obtain ⟨z, hz, hbz⟩ := hb
  obtain ⟨y, hy, hcy⟩ := hc
  exact ok.lv.apart z hz b hbz y hy c hcy

theorem Sim.inj (sim : Sim d cur lev t φ) {b c : Int} (hb : Node ((cur, d.env, d.top) :: lev) b) (hc : Node ((cur, d.env, d.top) :: lev) c) (h : φ b = φ c) : b = c := by
  have h1 := (sim.node b hb).2
  have h2 := (sim.node c hc).2
  rw [h, h2] at h1
  have := congrArg Ch.env h1
  exact this.symm

/-- A simulation where fewer bases are asked for. -/
theorem Sim.sub {d' : FrD} {cur' : List Int} {lev' : List Level} {t' : TwD} (sim : Sim d cur lev t φ) (hn : ∀ b, Node ((cur', d'.env, d'.top) :: lev') b → Node ((cur, d.env, d.top) :: lev) b) (hW : d'.W = d.W) (hE : t'.E = t.E)
    (hcur : t'.cur = eIdx φ d'.env) (hcs : t'.C.map (·.1.2) = d'.cs) (hix : t'.C.map (·.2) = d'.cs.map (fun c => eIdx φ c.env)) (hw : t'.words = d'.wlim) (hl : t'.lim = d'.lim) : Sim d' cur' lev' t' φ where
  node b hb := by
    obtain ⟨h1, h2⟩ := sim.node b (hn b hb)
    unfold er at h2 ⊢
    rw [hW, hE]
    exact ⟨h1, h2⟩
  cur := hcur
  cs := hcs
  ix := hix
  words := hw
  lim := hl

theorem Sim.kept (sim : Sim d cur lev t φ) : t.kept = d.kept := by
  have h := congrArg List.getLast? sim.cs
  unfold FrD.cs at h
  rw [List.getLast?_map, List.getLast?_map] at h
  unfold TwD.kept FrD.kept
  rcases h1 : t.C.getLast? with _ | x <;> rcases h2 : d.l.getLast? with _ | y <;> rw [h1, h2] at h <;> simp at h ⊢
  rw [h]

theorem Sim.curE (sim : Sim d cur lev t φ) (ok : Ok d cur lev) (h : 0 ≤ d.env) : t.cur = (φ d.env : Int) ∧ ∃ hi : φ d.env < t.E.length, t.E[φ d.env].2 = { frameOf d.W d.env with top := eIdx φ (prevOf d.W d.env) } := by
  obtain ⟨h1, h2⟩ := sim.node _ (ok.nenv h)
  rw [er_eq h1] at h2
  exact ⟨by rw [sim.cur, eIdx_pos h], h1, h2⟩

theorem Ok.rowlen (ok : Ok d cur lev) {b : Int} (hb : Node ((cur, d.env, d.top) :: lev) b) : (rowOf d.W b).length = (sizeOf' d.W b).toNat := by
  obtain ⟨h1, h2, h3⟩ := ok.nd hb
  have := ok.topl
  exact rowOf_len h1 h2 (by omega)

theorem Sim.cEnd (sim : Sim d cur lev t φ) (ok : Ok d cur lev) : t.cEnd = if d.env < 0 then 0 else d.env + 4 + sizeOf' d.W d.env := by
  unfold TwD.cEnd
  by_cases h : d.env < 0
  · rw [if_pos h, dif_neg (by rw [sim.cur, eIdx_neg h]; omega)]
  · obtain ⟨h1, hi, h2⟩ := sim.curE ok (by omega)
    rw [if_neg h, dif_pos (by rw [h1]; exact ⟨by omega, by simpa using hi⟩)]
    have e : t.cur.toNat = φ d.env := by omega
    simp only [e, h2]
    have hr := ok.rowlen (ok.nenv (by omega))
    have hn := ok.nd (ok.nenv (by omega))
    show d.env + 4 + ((rowOf d.W d.env).length : Int) = _
    rw [hr]; omega

theorem Sim.top (sim : Sim d cur lev t φ) (ok : Ok d cur lev) : t.top = d.top := by
  unfold TwD.top FrD.top
  rw [sim.kept, sim.cEnd ok]
  have := ok.kept0
  split <;> omega

theorem Sim.slots (sim : Sim d cur lev t φ) (ok : Ok d cur lev) : t.slots = if d.env < 0 then 0 else sizeOf' d.W d.env := by
  unfold TwD.slots
  by_cases h : d.env < 0
  · rw [if_pos h, dif_neg (by rw [sim.cur, eIdx_neg h]; omega)]
  · obtain ⟨h1, hi, h2⟩ := sim.curE ok (by omega)
    rw [if_neg h, dif_pos (by rw [h1]; exact ⟨by omega, by simpa using hi⟩)]
    have e : t.cur.toNat = φ d.env := by omega
    simp only [e, h2]
    have hr := ok.rowlen (ok.nenv (by omega))
    have hn := ok.nd (ok.nenv (by omega))
    show ((rowOf d.W d.env).length : Int) = _
    rw [hr]; omega

theorem Sim.curOk (sim : Sim d cur lev t φ) (ok : Ok d cur lev) : t.cur < 0 ∨ t.cur.toNat < t.E.length := by
  by_cases h : d.env < 0
  · left; rw [sim.cur, eIdx_neg h]; omega
  · obtain ⟨h1, hi, _⟩ := sim.curE ok (by omega)
    right; omega

theorem Sim.tok (sim : Sim d cur lev t φ) (ok : Ok d cur lev) (hE : t.E.length < 2 ^ 20) : TOk t where
  cl := by have := sim.clen; have := ok.ll; have := ok.lim; omega
  el := hE
  cur := sim.curOk ok
  b h0 hh := by
    by_cases h : d.env < 0
    · exfalso
      have h1 := sim.cur
      rw [eIdx_neg h] at h1
      omega
    · obtain ⟨h1, hi, h2⟩ := sim.curE ok (by omega)
      have e : t.cur.toNat = φ d.env := by omega
      simp only [e, h2]
      have hr := ok.rowlen (ok.nenv (by omega))
      have hn := ok.nd (ok.nenv (by omega))
      have := ok.topl; have := ok.Wl; have := ok.wl
      refine ⟨by show 0 ≤ d.env; omega, by show d.env < _; omega, by show (rowOf d.W d.env).length < _; omega⟩
  tp := by
    rw [sim.top ok]
    have := ok.topl; have := ok.Wl; have := ok.wl; have := ok.top0
    omega
end

end Go.Proofs.Ytdmjbkpibgfeiaa
