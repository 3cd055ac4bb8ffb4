/- One call, of both stacks. -/
import Derived.Test.YtdmjbkpibgfeiaaAlike2
namespace Go.Proofs.Ytdmjbkpibgfeiaa
open Go Go.D Go.Proofs
set_option linter.unusedSimpArgs false
set_option linter.unusedVariables false
set_option maxRecDepth 8000

section
variable {w : World} {d : FrD} {cur : List Int} {lev : List Level} {t : TwD} {φ : Int → Nat}

theorem Sim.change (sim : Sim d cur lev t φ) (ok : Ok d cur lev) {cw : Int} {vs W' : List Int} {E' : List (Sl × Ch)} (hW : ChW d.W cw vs W') (hall : ∀ x, Node ((cur, d.env, d.top) :: lev) x → x ∈ vs) (hvs : ∀ v ∈ vs, Node ((cur, d.env, d.top) :: lev) v)
    (hl : E'.length = t.E.length) (hE : ∀ i (hi : i < t.E.length) (hi' : i < E'.length), (nodeIdx cur lev d t φ i → E'[i] = chL cw t.E[i])) :
    Ok { d.wd W' with l := d.l.map (chL cw) } cur lev ∧ Sim { d.wd W' with l := d.l.map (chL cw) } cur lev { t with E := E', C := t.C.map (chC cw) } φ := by
  obtain ⟨d', e⟩ : ∃ d' : FrD, d' = { d.wd W' with l := d.l.map (chL cw) } := ⟨_, rfl⟩
  have hdW : d'.W = W' := by rw [e]; rfl
  have hdl : d'.l = d.l.map (chL cw) := by rw [e]
  have hde : d'.env = d.env := by rw [e]; rfl
  have hdw : d'.wlim = d.wlim := by rw [e]; rfl
  have hdm : d'.lim = d.lim := by rw [e]; rfl
  rw [← e]
  have hh : ∀ {x i : Int}, Node ((cur, d.env, d.top) :: lev) x → 0 ≤ i → i < 4 → wordOf W' (x + i) = wordOf d.W (x + i) := fun hx h0 h3 => hW.head ok hvs hx h0 h3
  have h0 : ∀ {x : Int}, Node ((cur, d.env, d.top) :: lev) x → wordOf W' x = wordOf d.W x := fun {x} hx => by simpa using hh (i := 0) hx (by omega) (by omega)
  have hkept : d'.kept = d.kept := by
    unfold FrD.kept
    rw [hdl, List.getLast?_map]
    rcases d.l.getLast? with _ | x <;> rfl
  have htop : d'.top = d.top := by
    unfold FrD.top
    rw [hde, hkept, hdW]
    by_cases hn : d.env < 0
    · rw [if_pos hn, if_pos hn]
    · rw [if_neg hn, if_neg hn]
      have : sizeOf' W' d.env = sizeOf' d.W d.env := hh (ok.nenv (by omega)) (by omega) (by omega)
      rw [this]
  have htops : d'.tops = d.tops := by
    unfold FrD.tops
    rw [hdl, ← List.map_reverse, List.map_map]
    rfl
  refine ⟨⟨by rw [hdw]; exact ok.wl, by rw [hdW, hdw, hW.1]; exact ok.Wl, by rw [hdl, hdm, List.length_map]; exact ok.ll, by rw [hdm]; exact ok.lim, by rw [htop, hdW, hW.1]; exact ok.topl, ?_, by rw [htops]; exact ok.tops⟩, ⟨fun b hb => ?_, ?_, ?_, ?_, ?_, ?_⟩⟩
  · rw [hdW, hde, htop]
    exact ok.lv.turn fun z hz x hx => ⟨h0 ⟨z, hz, hx⟩, hh ⟨z, hz, hx⟩ (by omega) (by omega)⟩
  · rw [hde, htop] at hb
    obtain ⟨q1, q2⟩ := sim.node b hb
    have hb' : φ b < E'.length := by omega
    refine ⟨hb', ?_⟩
    rw [er_eq q1] at q2
    have hn : nodeIdx cur lev d t φ (φ b) := by
      unfold nodeIdx
      rw [er_eq q1, q2]
      exact ⟨hb, rfl⟩
    have h1 := hE _ q1 hb' hn
    show ((E'[φ b]?).getD noRec).2 = _
    rw [List.getElem?_eq_getElem hb', h1]
    show ({ (t.E[φ b]).2 with args := (t.E[φ b]).2.args.map (chg cw) } : Ch) = { frameOf d'.W b with top := eIdx φ (prevOf d'.W b) }
    rw [q2, hdW]
    obtain ⟨r1, r2⟩ := hW.row ok hvs (hall b hb)
    have p1 : prevOf W' b = prevOf d.W b := by unfold prevOf; rw [h0 hb]
    have p2 : frameOf W' b = { frameOf d.W b with args := (rowOf d.W b).map (chg cw) } := by
      unfold frameOf
      rw [hh hb (by omega) (by omega), hh hb (by omega) (by omega), r1]
    rw [p1, p2]
    rfl
  · rw [hde]; exact sim.cur
  · show (t.C.map (chC cw)).map (·.1.2) = d'.l.map (·.2)
    have := congrArg (List.map fun c : Ch => { c with args := c.args.map (chg cw) }) sim.cs
    rw [hdl]
    unfold FrD.cs at this
    simp only [List.map_map] at this ⊢
    exact this
  · show (t.C.map (chC cw)).map (·.2) = (d'.l.map (·.2)).map (fun c => eIdx φ c.env)
    have := sim.ix
    rw [hdl]
    unfold FrD.cs at this
    simp only [List.map_map] at this ⊢
    exact this
  · rw [hdw]; exact sim.words
  · rw [hdm]; exact sim.lim

theorem Sim.sht (sim : Sim d cur lev t φ) (h : Sht d.l) : ∀ x ∈ t.C, x.1.2.args.length ≤ 100 := fun x hx => by
  have : x.1.2 ∈ d.cs := by rw [← sim.cs]; exact List.mem_map.2 ⟨x, hx, rfl⟩
  obtain ⟨y, hy, e⟩ := List.mem_map.1 this
  rw [← e]; exact h y hy

/-- A call that can be made. -/
structure OpOk (w : World) (F : List Nat) (o : OpV) : Prop where
  n : -2 ^ 63 ≤ o.n ∧ o.n < 2 ^ 63
  c0 : -2 ^ 63 ≤ o.c0 ∧ o.c0 < 2 ^ 63
  c1 : -2 ^ 63 ≤ o.c1 ∧ o.c1 < 2 ^ 63
  L : ∃ L : List Int, Rd w 1 o.ap o.an (L.map (.int .u64)) ∧ L.length ≤ 100
  out : ∀ x, o.ap = some x → o.an ≠ 0 → x.block ∉ F

def OpV.arr (o : OpV) : Array Value := #[.int .i64 o.kind, .int .i64 o.n, .int .u64 o.w, .int .i64 o.c0, .int .i64 o.c1, .int .i64 o.h0, .slice o.ap o.an o.ac, .int .i64 o.h2, .int .i64 o.h3, .int .i64 o.h4, .int .i64 o.h5, .int .i64 o.h6, .int .i64 o.h7, .int .i64 o.h8]

theorem do_k1 {o : OpV} {r : Nat} {tt : Bool} {K : Bool → World → Prop} (bo : Bo w d cur lev t φ) (sh : Sht d.l) (b1 : Blk w r o.arr) (hrd : r ∉ d.F) (hrt : r ∉ t.F) (g : Goes w d t (K true)) : F_law22_do_k1 d.a t.a K r o.kind tt w := by
  unfold F_law22_do_k1 F_law22_do_k3
  unfold OpV.arr at b1
  simp only [NN_some, addN, drw_cell, drw_heap, exS, exI, exB, exP, exM, exStr, exV, a0, a1, a2, a3, a4, a5, a6, a7, a8, a9, a10, a11, a12, a13, maxI_eq, Nat.zero_add, Nat.add_zero, Nat.mul_one, Option.isNone_some, Option.isNone_none, Nat.reduceAdd, b1.cell]
  refine ifC (fun _ => ?_) (fun _ => ifC (fun _ => ?_) (fun _ => g.same bo (Upd.refl _ _)))
  · exact choices_ok bo g
  · refine New_rule fun rc w1 hr u1 hrc => ?_
    have bo1 := bo.keep u1
    obtain ⟨rd, rt⟩ := bo.new (r := rc) (by omega)
    refine Change_ok bo1.fr bo.ok hrc rd (fun x hx => by have := sh x hx; omega) fun w2 vs W' hW hall hvs f2 u2 => ?_
    have b2 := (b1.upd u1 (by simp)).upd u2 (by
      intro hx
      rcases List.mem_cons.1 hx with h1 | h1
      · have := b1.lt; omega
      · exact hrd h1)
    have T2 := bo1.tw.upd u2 (by
      intro k hk hx
      rcases List.mem_cons.1 hx with h1 | h1
      · subst h1; exact rt hk
      · exact bo.dis k h1 hk)
    simp only [NN_some, addN, drw_cell, drw_heap, exS, exI, exB, exP, exM, exStr, exV, a0, a1, a2, a3, a4, a5, a6, a7, a8, a9, a10, a11, a12, a13, maxI_eq, Nat.zero_add, Nat.add_zero, Nat.mul_one, Option.isNone_some, Option.isNone_none, b2.cell]
    refine changed_ok T2 bo.ok bo.sim (by have := bo.el; omega) (fun x hx => by have := bo.sim.sht sh x hx; omega) fun w3 E' hl hE T3 u3 => ?_
    obtain ⟨ok', sim'⟩ := bo.sim.change bo.ok hW hall hvs hl (fun i hi hi' hn => by rw [hE i hi hi', if_pos hn])
    have U2 : Upd d.F w w2 := (u1.after u2).mono (by
      intro k hk
      rcases List.mem_cons.1 hk with h1 | h1
      · right; omega
      · left; exact h1)
    refine g.pair (φ' := φ) bo f2 U2 (Sub.refl _ _) T3 u3 (Sub.refl _ _) ok' sim' rfl rfl (by show E'.length ≤ _; omega) (by show E'.length < _; have := bo.el; omega) ?_
    intro h q hq
    obtain ⟨y, hy, rfl⟩ := List.mem_map.1 hq
    show (y.2.args.map (chg _)).length ≤ 100
    rw [List.length_map]; exact h y hy

theorem do_k2 {o : OpV} {r : Nat} {tt : Bool} {K : Bool → World → Prop} (bo : Bo w d cur lev t φ) (sh : Sht d.l) (oo : OpOk w d.F o) (b1 : Blk w r o.arr) (hrd : r ∉ d.F) (hrt : r ∉ t.F) (g : Goes w d t (K true)) : F_law22_do_k2 d.a t.a K r o.kind tt w := by
  unfold F_law22_do_k2
  have b1' := b1
  unfold OpV.arr at b1
  simp only [NN_some, addN, drw_cell, drw_heap, exS, exI, exB, exP, exM, exStr, exV, a0, a1, a2, a3, a4, a5, a6, a7, a8, a9, a10, a11, a12, a13, maxI_eq, Nat.zero_add, Nat.add_zero, Nat.mul_one, Option.isNone_some, Option.isNone_none, Nat.reduceAdd, b1.cell]
  have bod := bo.keep (drw_upd w)
  refine ifC (fun _ => slots_ok bo oo.n g) (fun _ => ifC (fun _ => ?_) (fun _ => ifC (fun _ => ?_) (fun _ => ifC (fun _ => ?_) (fun _ => ifC (fun _ => ?_) (fun _ => ?_)))))
  · refine Trim_both bod fun e w1 u1 go => ?_
    have b2 := b1.drw.upd u1 hrd
    refine ⟨by rw [b2.cell]; rfl, go (fun t65 w1_14 => K (e == t65) w1_14) (g.next (drw_upd w) fun w' h => ?_)⟩
    rw [beq_self_eq_true]; exact h
  · obtain ⟨L, hL, hL2⟩ := oo.L
    refine Push_both (ch := { kind := o.h0, c2 := o.h2, c3 := o.h3, c4 := o.h4, c5 := o.h5, c6 := o.h6, env := o.h7, top := o.h8, args := L }) bod (hL.keep (drw_upd w)) hL2 oo.out fun e w1 u1 go => ?_
    have b2 := b1.drw.upd u1 hrd
    refine ⟨fun i hi => by simp only [NN_some, addN, drw_cell, drw_heap, exS, exI, exB, exP, exM, exStr, exV, a0, a1, a2, a3, a4, a5, a6, a7, a8, a9, a10, a11, a12, a13, maxI_eq, Nat.zero_add, Nat.add_zero, Nat.mul_one, Option.isNone_some, Option.isNone_none, b2.cell, b1.cell], go o.h7 o.h8 (fun t76 w1_16 => K (e == t76) w1_16) (g.next (drw_upd w) fun w' h => ?_)⟩
    rw [beq_self_eq_true]; exact h
  · exact do_k1 bo sh b1' hrd hrt g
  · exact do_k1 bo sh b1' hrd hrt g
  · exact do_k1 bo sh b1' hrd hrt g

theorem do_ok {o : OpV} {K : Bool → World → Prop} (bo : Bo w d cur lev t φ) (sh : Sht d.l) (oo : OpOk w d.F o) (hel : t.E.length + 1 < 2 ^ 19) (g : Goes w d t (K true)) :
    C_law22_do d.a t.a o.kind o.n o.w o.c0 o.c1 o.h0 o.ap o.an o.ac o.h2 o.h3 o.h4 o.h5 o.h6 o.h7 o.h8 w K := by
  apply C_law22_do.of
  unfold F_law22_do
  refine New_rule fun r w1 hr u1 b1 => ?_
  obtain ⟨rd, rt⟩ := bo.new (r := r) (by omega)
  have bo1 := bo.keep u1
  have bod := bo1.keep (drw_upd w1)
  have b1' : Blk w1 r o.arr := b1
  obtain ⟨L, hL, hL2⟩ := oo.L
  have oo1 : OpOk w1 d.F o := ⟨oo.n, oo.c0, oo.c1, ⟨L, hL.keep u1, hL2⟩, oo.out⟩
  simp only [NN_some, addN, drw_cell, drw_heap, exS, exI, exB, exP, exM, exStr, exV, a0, a1, a2, a3, a4, a5, a6, a7, a8, a9, a10, a11, a12, a13, maxI_eq, Nat.zero_add, Nat.add_zero, Nat.mul_one, Option.isNone_some, Option.isNone_none, Nat.reduceAdd, b1.cell]
  refine ifC (fun _ => ?_) (fun _ => ifC (fun _ => ?_) (fun _ => ifC (fun _ => ?_) (fun _ => ?_)))
  · refine Alloc_both bod hel oo.c0 oo.c1 fun e w2 u2 go => ?_
    have b2 := b1.drw.upd u2 rd
    refine ⟨fun i hi => by simp only [NN_some, addN, drw_cell, drw_heap, exS, exI, exB, exP, exM, exStr, exV, a0, a1, a2, a3, a4, a5, a6, a7, a8, a9, a10, a11, a12, a13, maxI_eq, Nat.zero_add, Nat.add_zero, Nat.mul_one, Option.isNone_some, Option.isNone_none, b2.cell, b1.cell], by rw [b2.cell]; rfl, go (fun t27 w => K (e == t27) w) (g.next (u1.after (drw_upd w1)) fun w' h => ?_)⟩
    rw [beq_self_eq_true]; exact h
  · refine Dealloc_both bo1 fun ga gb e w2 u2 go => ?_
    refine New_rule fun q w3 hq u3 b3 => ?_
    refine St_acc (Upd.refl _ _) b3 (by simp) rfl fun w4 u4 b4 => St_acc u4 b4 (by simp) rfl fun w5 u5 b5 => ?_
    simp at b5
    have V5 : Upd [] w2 w5 := u3.fresh u5 (by intro k hk; simp at hk; omega)
    have qt : q ∉ t.F := fun hx => by have := bo1.tw.inn _ hx; have := u2.size; omega
    refine go w5 V5 _ fun w' d' cur' lev' t' φ' bo' hb hb' he shh U S ut => ?_
    have b6 := b5.upd ut qt
    refine New_rule fun q2 w7 hq2 u7 b7 => ?_
    refine St_acc (Upd.refl _ _) b7 (by simp) rfl fun w8 u8 b8 => St_acc u8 b8 (by simp) rfl fun w9 u9 b9 => ?_
    simp at b9
    have V9 : Upd [] w' w9 := u7.fresh u9 (by intro k hk; simp at hk; omega)
    have b10 := b6.upd V9 (by simp)
    simp only [NN_some, addN, drw_cell, drw_heap, exS, exI, exB, exP, exM, exStr, exV, a0, a1, a2, a3, a4, a5, a6, a7, a8, a9, a10, a11, a12, a13, maxI_eq, Nat.zero_add, Nat.add_zero, Nat.mul_one, Option.isNone_some, Option.isNone_none, b10.cell, b9.cell]
    refine addrEq (ifT (by simp) ?_)
    rw [beq_self_eq_true]
    exact g w9 d' cur' lev' t' φ' (bo'.keep V9) hb hb' he shh (u1.after (U.before V9)) (S.old u1.size)
  · exact do_k2 bo1 sh oo1 b1' rd rt (g.next u1 fun w' h => h)
  · exact do_k2 bo1 sh oo1 b1' rd rt (g.next u1 fun w' h => h)
end

end Go.Proofs.Ytdmjbkpibgfeiaa
