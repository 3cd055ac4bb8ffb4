/- What must come of every program comes. -/
import Derived.Test.YtdmjbkpibgfeiaaTold
import Derived.Test.YtdmjbkpibgfeiaaOwn12
namespace Go.Proofs.Ytdmjbkpibgfeiaa
open Go Go.D Go.Proofs
set_option linter.unusedSimpArgs false
set_option linter.unusedVariables false
set_option maxRecDepth 8000

section
variable {w : World}

theorem FNew_ok {words ch : Int} {K : Option Addr → Int → World → Prop} (h0 : 0 ≤ words) (h1 : words ≤ 1048576) (h2 : 0 ≤ ch) (h3 : ch < 4096)
    (hK : ∀ d w', Fr w' d → Ok d [] [] → d.l = [] → d.env = -1 → d.W = [] → d.wlim = words → d.lim = ch → d.top = 0 → Upd [] w w' → Since d.F w → K d.a 0 w') : C_frame_New words ch w K := by
  apply C_frame_New.of
  unfold F_frame_New
  refine New_ok h0 h1 fun m w1 F1 r1 u1 n1 hm => ifF rfl (ifF (by simp; omega) (ifF (by simp; omega) (New_rule fun b w2 hb u2 hb2 => ?_)))
  refine hK { b := b, wp := m, env := -1, p := none, n := 0, c := 0, lim := ch, W := [], wlim := words, most := 0, FW := F1, l := [], G := [], H := [] } w2 ?_ ?_ rfl rfl rfl rfl rfl rfl (u1.after u2) ?_
  · have hbF : b ∉ F1 := fun hx => by have := r1.inn _ hx; omega
    exact ⟨hb2, r1.upd u2 (by intro k _ h; cases h), SlAt.nil _ _, rfl, hbF, by simp, by simp, (by intro k _ h; cases h), (by intro k _ h; cases h), (by intro k _ h; cases h)⟩
  · have htop : ({ b := b, wp := m, env := -1, p := none, n := 0, c := 0, lim := ch, W := [], wlim := words, most := 0, FW := F1, l := [], G := [], H := [] } : FrD).top = 0 := rfl
    refine ⟨h1, by simpa using h0, by simpa using h2, by show ch ≤ 4096; omega, by rw [htop]; simp, ⟨rfl, by rw [htop]; simp, by simp, trivial⟩, rfl⟩
  · intro k hk
    simp [FrD.F] at hk
    rcases hk with rfl | hk
    · have := u1.size; omega
    · exact n1 k hk

theorem FNew_bad {words ch : Int} {K : Option Addr → Int → World → Prop} (h0 : words < 0 ∨ 1048576 < words ∨ ch < 0 ∨ 4096 ≤ ch) (hK : ∀ w', Upd [] w w' → K none 1 w') : C_frame_New words ch w K := by
  apply C_frame_New.of
  unfold F_frame_New F_frame_New_k1
  by_cases h : words < 0 ∨ 1048576 < words
  · exact New_bad h (ifT rfl (hK w (Upd.refl _ _)))
  · refine New_ok (by omega) (by omega) fun m w1 F1 r1 u1 n1 hm => ifF rfl ?_
    by_cases h2 : ch < 0
    · exact ifT (by simpa using h2) (hK w1 u1)
    · exact ifF (by simpa using h2) (ifT (by simp; omega) (hK w1 u1))

theorem addrEq {a b c e : Int} {K : Bool → Prop} (h : K (decide (a = c ∧ b = e))) : AggEq Try.prog 31 (.agg #[.int .i64 a, .int .i64 b]) (.agg #[.int .i64 c, .int .i64 e]) K := by
  refine AggEq_ints [(.i64, a), (.i64, b)] [(.i64, c), (.i64, e)] (by kernel_rfl) (by kernel_rfl) (by kernel_rfl) rfl rfl rfl ?_
  simpa using h

/-- What lies elsewhere in a stack that is the same to those who ask. -/
theorem Ok.like {d d' : FrD} {cur : List Int} {lev : List Level} (ok : Ok d cur lev) (hW : d'.W = d.W) (he : d'.env = d.env) (hl : d'.l.length = d.l.length) (ht : d'.tops = d.tops) (hlim : d'.lim = d.lim) (hwl : d'.wlim = d.wlim) :
    Ok d' cur lev ∧ d'.top = d.top ∧ d'.kept = d.kept := by
  have hk : d'.kept = d.kept := by rw [kept_lev ok.tops, kept_lev (d := d') (lev := lev) (by rw [ht]; exact ok.tops)]
  have htop : d'.top = d.top := by unfold FrD.top; rw [he, hk, hW]
  exact ⟨⟨by rw [hwl]; exact ok.wl, by rw [hW, hwl]; exact ok.Wl, by rw [hl, hlim]; exact ok.ll, by rw [hlim]; exact ok.lim, by rw [htop, hW]; exact ok.topl, by rw [hW, he, htop]; exact ok.lv, by rw [ht]; exact ok.tops⟩, htop, hk⟩

theorem tops_set {d : FrD} (h0 : 0 < d.l.length) {y : Sl × Ch} {next : Int} (hy : y.2 = { (d.l[d.l.length - 1]'(by omega)).2 with c5 := next }) : ({ d with l := d.l.set (d.l.length - 1) y } : FrD).tops = d.tops := by
  show ((d.l.set (d.l.length - 1) y).reverse.map fun x => (x.2.env, x.2.top)) = d.l.reverse.map fun x => (x.2.env, x.2.top)
  rw [List.map_reverse, List.map_reverse]
  congr 1
  rw [List.map_set]
  apply List.ext_getElem?
  intro i
  by_cases hi : i = d.l.length - 1
  · subst hi
    rw [List.getElem?_set_self (by simp; omega), List.getElem?_map, List.getElem?_eq_getElem (by omega)]
    simp [hy]
  · rw [List.getElem?_set_ne (by omega)]

theorem lives_ok {K : Bool → World → Prop} (hK : ∀ w', Upd [] w w' → K true w') : C_law22_lives w K := by
  apply C_law22_lives.of
  unfold F_law22_lives
  refine FNew_ok (by omega) (by omega) (by omega) (by omega) fun d w1 f1 ok1 hl1 he1 hW1 hwl1 hlim1 htop1 u1 n1 => ifF rfl (ifF rfl ?_)
  -- an environment of two slots
  refine Alloc_ok f1 ok1 (by omega) (by omega) (by omega) fun w2 m2 F2 f2 u2 s2 => ?_
  obtain ⟨ok2, htop2, hsz2, hpr2⟩ := ok1.alloc (slots := 2) (c0 := 3) (c1 := 4) (most := m2) (FW := F2) (by omega) (by omega) (by omega)
  have U2 := u1.fresh u2 n1
  have n2 := n1.step s2 u1.size
  have hW2 : (d.alloc 2 3 4 m2 F2).W = [0, 3, 4, 2, 0, 0] := by
    show allocW d 2 3 4 = _
    unfold allocW header; rw [hW1, htop1, he1]; rfl
  have he2 : (d.alloc 2 3 4 m2 F2).env = 0 := htop1
  obtain ⟨d2, e2⟩ : ∃ d2, d2 = d.alloc 2 3 4 m2 F2 := ⟨_, rfl⟩
  have ha2 : d.a = d2.a := by rw [e2]; rfl
  have hl2 : d2.l = [] := by rw [e2]; exact hl1
  have hlim2 : d2.lim = 3 := by rw [e2]; exact hlim1
  have hwl2 : d2.wlim = 100 := by rw [e2]; exact hwl1
  rw [← e2] at f2 ok2 n2 hW2 he2 htop2
  clear e2
  rw [htop1] at htop2 ok2
  rw [ha2]
  have z2 : sizeOf' [0, 3, 4, 2, 0, 0] 0 = 2 := by rfl
  refine Set_ok' f2 ok2 ⟨by omega, by omega, by rw [hW2, he2, z2]; omega⟩ fun w3 f3 u3 => ?_
  have U3 := U2.fresh u3 n2
  obtain ⟨ok3, htop3⟩ := ok2.set (i := 2) (x := 77) ⟨by omega, by omega, by rw [hW2, he2, z2]; omega⟩
  obtain ⟨d3, e3⟩ : ∃ d3, d3 = { d2 with W := d2.W.set (d2.env + 4 + 2 - 1).toNat 77 } := ⟨_, rfl⟩
  have ha3 : d2.a = d3.a := by rw [e3]; rfl
  have hF3 : d3.F = d2.F := by rw [e3]; rfl
  have hl3 : d3.l = [] := by rw [e3]; exact hl2
  have hlim3 : d3.lim = 3 := by rw [e3]; exact hlim2
  have hwl3 : d3.wlim = 100 := by rw [e3]; exact hwl2
  have hW3 : d3.W = [0, 3, 4, 2, 0, 77] := by rw [e3]; show d2.W.set _ _ = _; rw [hW2, he2]; rfl
  have he3 : d3.env = 0 := by rw [e3]; exact he2
  rw [← e3] at f3 ok3 htop3
  clear e3
  rw [htop2] at htop3
  rw [ha3]
  have n3 : Since d3.F w := by rw [hF3]; exact n2
  -- a choice
  refine BSlL_rule eS_32 [.int .u64 5] (by rfl) (by simp [Value.cells]) (by rfl) (by omega) fun w4 hs4 u4 => ?_
  have f4 := f3.keep u4
  have hs4' : SlAt w4 1 (some ⟨w3.heap.size, 0, none⟩) 1 1 (([5] : List Int).map (.int .u64)) [w3.heap.size] := hs4
  refine Push_ok' (ch := { kind := 1, c2 := 0, c3 := 0, c4 := 0, c5 := 9, c6 := 0, env := 0, top := 0, args := [5] }) f4 ok3 (by rw [hl3, hlim3]; simp) (Cloned.own hs4' (by simp)) fun w5 x p c G H hx f5 u5 s5 => ?_
  obtain ⟨ok5, htop5, hk5⟩ := ok3.push (x := x) (p := p) (c := c) (G := G) (H := H) hx (by rw [hl3, hlim3]; simp)
  have U5 := (U3.after u4).fresh u5 n3
  have n5 := n3.step s5 (Nat.le_trans U3.size u4.size)
  obtain ⟨d5, e5⟩ : ∃ d5, d5 = d3.push x p c G H := ⟨_, rfl⟩
  have ha5 : d3.a = d5.a := by rw [e5]; rfl
  have hl5 : d5.l = [x] := by rw [e5]; show d3.l ++ [x] = _; rw [hl3]; rfl
  have hlim5 : d5.lim = 3 := by rw [e5]; exact hlim3
  have hwl5 : d5.wlim = 100 := by rw [e5]; exact hwl3
  have hW5 : d5.W = [0, 3, 4, 2, 0, 77] := by rw [e5]; exact hW3
  have he5 : d5.env = 0 := by rw [e5]; exact he3
  rw [← e5] at f5 ok5 htop5 hk5 n5
  clear e5
  rw [htop3] at htop5 hk5
  rw [he3, htop3] at ok5
  rw [ha5]
  have hx2 : x.2 = { kind := 1, c2 := 0, c3 := 0, c4 := 0, c5 := 9, c6 := 0, env := 0, top := 6, args := [5] } := by rw [hx]; unfold pushed; rw [he3, htop3]; rfl
  -- the environment is left
  have p5 : prevOf d5.W d5.env = -1 := by rw [hW5, he5]; rfl
  refine Dealloc_ok f5 ok5 (by omega) fun w6 f6 u6 => ?_
  obtain ⟨ok6, htop6⟩ := ok5.left (by omega)
  have U6 := U5.fresh u6 n5
  have x1 : wordOf d5.W (d5.env + 1) = 3 := by rw [hW5, he5]; rfl
  have x2 : wordOf d5.W (d5.env + 2) = 4 := by rw [hW5, he5]; rfl
  rw [x1, x2]
  have htop6 : d5.left.top = 6 := by
    have e : d5.left.top = if prevOf d5.W d5.env < 0 then d5.kept else max d5.kept (prevOf d5.W d5.env + 4 + sizeOf' d5.W (prevOf d5.W d5.env)) := rfl
    rw [e, p5, if_pos (by omega), hk5]; rfl
  obtain ⟨d6, e6⟩ : ∃ d6, d6 = d5.left := ⟨_, rfl⟩
  have ha6 : d5.a = d6.a := by rw [e6]; rfl
  have hF6 : d6.F = d5.F := by rw [e6]; rfl
  have hl6 : d6.l = [x] := by rw [e6]; exact hl5
  have hlim6 : d6.lim = 3 := by rw [e6]; exact hlim5
  have hwl6 : d6.wlim = 100 := by rw [e6]; exact hwl5
  have hW6 : d6.W = [0, 3, 4, 2, 0, 77] := by rw [e6]; exact hW5
  have he6 : d6.env = -1 := by rw [e6]; exact p5
  have hk6 : d6.kept = 6 := by rw [e6]; exact hk5
  rw [← e6] at f6 ok6 htop6
  clear e6
  rw [ha6]
  have n6 : Since d6.F w := by rw [hF6]; exact n5
  refine New_rule fun r w7 hr u7 hb7 => ?_
  simp only [NN_some, addN, drw_cell, drw_heap, exS, exI, exB, exP, exM, exStr, exV, a0, a1, a2, a3, a4, a5, a6, a7, a8, a9, a10, a11, a12, a13, maxI_eq, Nat.zero_add, Nat.add_zero, Nat.mul_one, Option.isNone_some, Option.isNone_none]
  refine St_acc (Upd.refl _ _) hb7 (by simp) rfl fun w8 u8 hb8 => St_acc u8 hb8 (by simp) rfl fun w9 u9 hb9 => ?_
  simp at hb9
  have V9 : Upd [] w6 w9 := u7.fresh u9 (by intro k hk; simp at hk; omega)
  have U9 := U6.after V9
  have f9 := f6.keep V9
  have hr6 : r ∉ d6.F := fun hx => by have := f6.inn r hx; omega
  -- another one
  refine Alloc_ok f9 ok6 (by omega) (by omega) (by omega) fun wa m7 F7 fa ua sa => ?_
  obtain ⟨oka, htopa, hsza, hpra⟩ := ok6.alloc (slots := 0) (c0 := 0) (c1 := 0) (most := m7) (FW := F7) (by omega) (by omega) (by omega)
  have Ua := U9.fresh ua n6
  have na := n6.step sa U9.size
  have hra : r ∉ (d6.alloc 0 0 0 m7 F7).F := fun hx => by
    rcases sa r hx with h1 | h1
    · exact hr6 h1
    · have := hb9.lt; omega
  have hba := hb9.upd ua hr6
  have hWa : (d6.alloc 0 0 0 m7 F7).W = [0, 3, 4, 2, 0, 77, 0, 0, 0, 0] := by
    show allocW d6 0 0 0 = _
    unfold allocW header; rw [hW6, htop6, he6]; rfl
  have hea : (d6.alloc 0 0 0 m7 F7).env = 6 := htop6
  obtain ⟨da, ea⟩ : ∃ da, da = d6.alloc 0 0 0 m7 F7 := ⟨_, rfl⟩
  have haa : d6.a = da.a := by rw [ea]; rfl
  have hla : da.l = [x] := by rw [ea]; exact hl6
  have hlima : da.lim = 3 := by rw [ea]; exact hlim6
  have hka : da.kept = 6 := by rw [ea]; exact hk6
  rw [← ea] at fa oka na hWa hea hra
  clear ea
  rw [haa]
  have h40 := oka.len40
  have hlen1 : da.l.length = 1 := by rw [hla]; rfl
  refine Env_ok fa (Restore_ok fa h40 (by omega) fun wb fb ub => ?_)
  obtain ⟨y, rr, hyr, okb, htopb⟩ := oka.restored (by omega)
  have hy1 : y = ([0], 0, 6) ∧ rr = [] := by simp at hyr; exact ⟨hyr.1.symm, hyr.2⟩
  obtain ⟨rfl, rfl⟩ := hy1
  have Ub := Ua.fresh ub na
  obtain ⟨db, eb⟩ : ∃ db, db = da.restored := ⟨_, rfl⟩
  have hab : da.a = db.a := by rw [eb]; rfl
  have hFb : db.F = da.F := by rw [eb]; rfl
  have hlb : db.l = [x] := by rw [eb]; exact hla
  have hWb : db.W = [0, 3, 4, 2, 0, 77, 0, 0, 0, 0] := by rw [eb]; exact hWa
  have heb : db.env = 0 := by
    rw [eb]
    show (da.tops.head?.getD (0, 0)).1 = 0
    rw [← oka.tops]; rfl
  have hkb : db.kept = 6 := by rw [eb]; exact hka
  rw [← eb] at fb okb htopb
  clear eb
  rw [hab, hea]
  have nb : Since db.F w := by rw [hFb]; exact na
  have hrb : r ∉ db.F := by rw [hFb]; exact hra
  have hbb := hba.upd ub hra
  have zb : sizeOf' [0, 3, 4, 2, 0, 77, 0, 0, 0, 0] 0 = 2 := by rfl
  refine Get_ok' (v := 77) fb okb ⟨by omega, by omega, by rw [hWb, heb, zb]; omega⟩ (by rw [hWb, heb]; rfl) ?_
  have hlenb : db.l.length = 1 := by rw [hlb]; rfl
  have hxb : ∀ hh, (db.l[db.l.length - 1]'hh).2 = { kind := 1, c2 := 0, c3 := 0, c4 := 0, c5 := 9, c6 := 0, env := 0, top := 6, args := [5] } := by
    intro hh
    have : db.l[db.l.length - 1]? = some x := by rw [hlb]; rfl
    rw [List.getElem?_eq_getElem hh] at this
    rw [Option.some.inj this]; exact hx2
  refine Last_ok fb okb.len40 (by omega) (by rw [hxb]; simp) fun lp ln lc lF wc hsc fc uc nc => ?_
  rw [hxb] at hsc
  simp only [hxb]
  have hln : ln = 1 := by have := hsc.1; simp at this; omega
  subst hln
  refine New_rule fun r1 wd hr1 ud hbd => St9 hbd rfl (by simp [Value.oneCell']) fun we ue hbe => ?_
  have Ve : Upd [] wb we := (uc.after ud).fresh ue (by intro k hk; simp at hk; have := uc.size; omega)
  have Ue := Ub.after Ve
  have fe := fb.keep Ve
  have hbre := hbb.upd Ve (by simp)
  refine FNew_bad (.inl (by omega)) fun wf uf => ?_
  have Uf := Ue.after uf
  have ff := fe.keep uf
  have hbrf := hbre.upd uf (by simp)
  have hbf := hbe.upd uf (by simp)
  refine ifT rfl (ifT rfl (ifT rfl (ifT rfl ?_)))
  simp only [NN_some, addN, drw_cell, drw_heap, exS, exI, exB, exP, exM, exStr, exV, a0, a1, a2, a3, a4, a5, a6, a7, a8, a9, a10, a11, a12, a13, maxI_eq, Nat.zero_add, Nat.add_zero, Nat.mul_one, Option.isNone_some, Option.isNone_none, hbrf.cell, hbf.cell]
  refine addrEq (ifT (by simp) (ifT rfl (ifT rfl (ifT rfl (ifT rfl (ifT rfl (ifT rfl (ifT rfl (ifT rfl (ifT (by simp) ?_))))))))))
  refine Env_ok ff (ifT (by simp [heb]) (Slots_ok ff okb (ifT ?_ ?_)))
  · rw [if_neg (by omega), hWb, heb, zb]; rfl
  refine Trim_no ff okb (by unfold FrD.trims; omega) fun wg fg ug => ifT rfl ?_
  have Ug := Uf.after ug
  refine Turn_ok fg okb.len40 (by omega) fun wh y hy1 hy2 fh uh => ifT rfl ?_
  obtain ⟨okh, htoph, hkh⟩ := okb.like (d' := { db with l := db.l.set (db.l.length - 1) y }) rfl rfl (by simp) (tops_set (by omega) hy2) rfl rfl
  have Uh := Ug.fresh uh nb
  have hah : db.a = ({ db with l := db.l.set (db.l.length - 1) y } : FrD).a := rfl
  rw [hah]
  have hlh : ({ db with l := db.l.set (db.l.length - 1) y } : FrD).l.length = 1 := by simp [hlenb]
  refine Drop_ok fh okh.len40 (by omega) fun wi H' fi hH' ui => ifT rfl ?_
  obtain ⟨y', rr', hyr', oki, htopi⟩ := okh.dropped (by omega) H'
  have hy1 : y' = ([0], 0, 6) ∧ rr' = [] := by simp at hyr'; exact ⟨hyr'.1.symm, hyr'.2⟩
  obtain ⟨rfl, rfl⟩ := hy1
  obtain ⟨di, ei⟩ : ∃ di, di = ({ db with l := db.l.set (db.l.length - 1) y } : FrD).dropped H' := ⟨_, rfl⟩
  have hai : ({ db with l := db.l.set (db.l.length - 1) y } : FrD).a = di.a := by rw [ei]; rfl
  have hli : di.l = [] := by rw [ei]; show (db.l.set (db.l.length - 1) y).take ((db.l.set (db.l.length - 1) y).length - 1) = []; rw [List.length_set, hlenb]; rfl
  have hWi : di.W = [0, 3, 4, 2, 0, 77, 0, 0, 0, 0] := by rw [ei]; exact hWb
  have hei : di.env = 0 := by rw [ei]; exact heb
  have hki : di.kept = 0 := by unfold FrD.kept; rw [hli]; rfl
  have hFi : ∀ k ∈ di.F, k ∈ db.F := by
    intro k hk
    rw [ei] at hk
    simp only [FrD.F, FrD.dropped, List.mem_cons, List.mem_append] at hk ⊢
    rcases hk with h1 | h1 | h1 | h1
    · simp [h1]
    · simp [h1]
    · simp [h1]
    · have := hH' k h1
      simp at this; simp [this]
  rw [← ei] at fi oki htopi
  clear ei
  rw [hai]
  have Ui := Uh.fresh ui nb
  have ni : Since di.F w := fun k hk => nb k (hFi k hk)
  refine Drop_no fi (by rw [hli]; rfl) (ifT rfl ?_)
  have ht : di.trims 1 := ⟨by omega, by omega, by omega, by rw [hWi, hei, zb]; omega⟩
  refine Trim_ok fi oki ht fun wj fj uj => ifT rfl ?_
  obtain ⟨okj, htopj, hszj⟩ := oki.trim ht
  have Uj := Ui.fresh uj ni
  have haj : di.a = (di.trimmed 1).a := rfl
  rw [haj]
  have fj' : Fr wj (di.trimmed 1) := fj
  refine Depth_ok fj' (ifT ?_ ?_)
  · show (((di.l.length : Nat) : Int) == 0) = true
    rw [hli]; rfl
  have hcj := okj.lv.1
  have hej : (di.trimmed 1).env = 0 := hei
  rw [hej] at hcj
  refine Chain_at fj' okj hcj ⟨_, List.mem_cons_self, by simp⟩ (fun z hz => ⟨_, List.mem_cons_self, hz⟩) okj.topl fun q n' c' F' wk hk fk uk nk => ?_
  have hn' := hk.len
  simp at hn'
  subst hn'
  refine ifT rfl (hK wk (Uj.fresh uk ?_))
  exact ni

end

end Go.Proofs.Ytdmjbkpibgfeiaa
