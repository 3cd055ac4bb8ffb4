/- The writer. -/
import Derived.Test.YtggbmakfifllnaaDoorBits
import Derived.Test.YtggbmakfifllnaaDoorGenAll
namespace Go.Proofs.YtggbmakfifllnaaDoor
open Go Go.D Go.Proofs
set_option linter.unusedSimpArgs false
set_option linter.unusedVariables false
set_option maxRecDepth 8000

/-- A writer: what is written, and whether that is bad. -/
def WrAt (w : World) (b : Nat) (l : List UInt8) (bad : Bool) (F : List Nat) : Prop :=
  ∃ p n c G, Blk w b #[.slice p n c, .bool bad] ∧ SlAt w 1 p n c (bc l) G ∧ F = b :: G ∧ b ∉ G

/-- A row that is read lies apart. -/
def Clear (p : Option Addr) (n : Nat) (F : List Nat) : Prop := ∀ x, p = some x → n ≠ 0 → x.block ∉ F

theorem cell_lt {w : World} {a : Addr} {v : Value} (h : w.cell? a = some v) : a.block < w.heap.size := by
  unfold World.cell? at h
  rcases hb : w.heap[a.block]? with _ | o
  · rw [hb] at h; cases h
  · exact (Array.getElem?_eq_some_iff.1 hb).1

theorem Rd_low {w : World} {sz : Nat} {p : Option Addr} {n : Nat} {cs : List Value} (h : Rd w sz p n cs) (hz : 0 < sz) : ∀ x, p = some x → n ≠ 0 → x.block < w.heap.size := by
  intro x hx hn
  rcases h.2 with h0 | ⟨y, hy, hc⟩
  · exact absurd h0 hn
  · obtain rfl : y = x := by rw [hy] at hx; simpa using hx
    have hpos : 0 < n * sz := Nat.mul_pos (by omega) hz
    have h1 := hc 0 hpos
    rw [List.getElem?_eq_getElem (by rw [h.1]; exact hpos)] at h1
    have := cell_lt h1
    rwa [add_block] at this

theorem Clear.step {w : World} {p : Option Addr} {n : Nat} {F F' : List Nat} (h : Clear p n F) (s : Sub F' F w) (hl : ∀ x, p = some x → n ≠ 0 → x.block < w.heap.size) : Clear p n F' := fun x hx hn hm => by
  rcases s _ hm with h1 | h1
  · exact h x hx hn h1
  · have := hl x hx hn; omega

section
variable {w : World} {b : Nat} {l : List UInt8} {bad : Bool} {F : List Nat}

theorem WrAt.inn (h : WrAt w b l bad F) : In F w := by
  obtain ⟨p, n, c, G, hb, hs, rfl, hn⟩ := h
  intro k hk
  rcases List.mem_cons.1 hk with rfl | hk
  · exact hb.lt
  · exact hs.inn k hk

theorem WrAt.upd {w' : World} {G : List Nat} (h : WrAt w b l bad F) (u : Upd G w w') (hd : Dis F G) : WrAt w' b l bad F := by
  obtain ⟨p, n, c, H, hb, hs, rfl, hn⟩ := h
  exact ⟨p, n, c, H, hb.upd u (hd b (by simp)), hs.upd u (fun k hk => hd k (by simp [hk])), rfl, hn⟩

theorem WrAt.keep {w' : World} (h : WrAt w b l bad F) (u : Upd [] w w') : WrAt w' b l bad F := h.upd u (by intro k _ h; cases h)

/-- Bytes stored as the writer's. -/
theorem wr_store {w1 : World} {p p' : Option Addr} {n c c' n' : Nat} {G F' : List Nat} {l' : List UInt8} {K : World → Prop} (hb : Blk w b #[.slice p n c, .bool bad]) (hn : b ∉ G) (hs : SlAt w1 1 p' n' c' (bc l') F') (u : Upd G w w1) (s : Sub F' G w)
    (hK : ∀ w' F', WrAt w' b l' bad F' → Upd (b :: G) w w' → Sub F' (b :: G) w → K w') : St w1 ⟨b, 0, none⟩ (.slice p' n' c') K := by
  have hb2 := hb.upd u hn
  have hbF : b ∉ F' := fun hx => by
    rcases s b hx with h | h
    · exact hn h
    · have := hb.lt; omega
  refine St_rule hb2 (by simp) rfl fun w3 hu3 hb3 => hK w3 (b :: F') ⟨p', n', c', F', hb3, hs.upd hu3 (by intro k hk; simp; rintro rfl; exact hbF hk), rfl, hbF⟩ ?_ ?_
  · exact u.trans hu3 (by intro k hk; simp [hk]) (by intro k hk; simp at hk; simp [hk])
  · intro k hk
    rcases List.mem_cons.1 hk with rfl | hk
    · simp
    · exact (s k hk).imp (by intro h; simp [h]) id

/-- One byte more. -/
theorem wr_put {p : Option Addr} {n c : Nat} {G : List Nat} {x : UInt8} {v : Int} {K : World → Prop} (hb : Blk w b #[.slice p n c, .bool bad]) (hs : SlAt w 1 p n c (bc l) G) (hn : b ∉ G) (hl : l.length < 2 ^ 42) (hv : v = (x.toNat : Int))
    (hK : ∀ w' F', WrAt w' b (l ++ [x]) bad F' → Upd (b :: G) w w' → Sub F' (b :: G) w → K w') :
    BSl Tryd.prog 28 1 [(0, .int .u8 v)] w fun t25P t25N t25C w1 =>
      App Tryd.prog #[28, 28] 28 #[.slice p n c, .slice t25P t25N t25C] w1 fun t26P t26N t26C w1_1 =>
      St w1_1 ⟨b, 0, none⟩ (.slice t26P t26N t26C) K := by
  subst hv
  have hln : n = l.length := by have := hs.1; rw [bc_len] at this; omega
  refine BSl_rule (cs := bc [x]) eS_28 (fill_one rfl) (by rfl) (by omega) fun w1 hs1 hu1 => ?_
  refine App_rule (hE := eS_28) (hs.upd hu1 (by intro k hk hx; cases hx)) hs1 (bc_one _) (by omega) fun p' c' F' w2 hs2 hu2 hsub => ?_
  rw [← bc_append] at hs2
  exact wr_store hb hn hs2 (hu1.after hu2) (hsub.old hu1.size) hK

theorem fold_ok {n : Int} {K : Int → World → Prop} (h0 : -2 ^ 63 ≤ n) (h1 : n < 2 ^ 63) (hK : K (zig n : Int) w) : C_script_fold n w K := by
  apply C_script_fold.of
  unfold F_script_fold F_script_fold_k1
  have e := fold_eq h0 h1
  refine ⟨by omega, ifC (fun hc => ?_) (fun hc => ?_)⟩
  · rw [if_pos (by simpa using hc)] at e; rw [e]; exact hK
  · rw [if_neg (by simpa using hc)] at e; rw [e]; exact hK

theorem unfold_ok {u : Nat} {K : Int → World → Prop} (h : u < 2 ^ 64) (hK : K (unzig u) w) : C_script_unfold u w K := by
  apply C_script_unfold.of
  unfold F_script_unfold F_script_unfold_k1
  have ei : IntKind.i64.wrap ((u / 2 : Nat) : Int) = ((u / 2 : Nat) : Int) := i64id (by omega) (by omega)
  rw [and1 h, shr1, ei, noti (by omega) (by omega)]
  unfold unzig at hK
  refine ⟨by omega, ifC (fun hc => ?_) (fun hc => ?_)⟩
  · rw [if_pos (by simp at hc; omega)] at hK; exact hK
  · rw [if_neg (by simp at hc; omega)] at hK; exact hK

/-- A number's bytes but for the last one. -/
theorem num_core {q : Option Addr} {m d : Nat} {t8 t9 : Int} {U : Nat} {K : Int → World → Prop} (h : WrAt w b l bad F) (hU : U < 2 ^ 64) (hl : l.length < 2 ^ 41)
    (hK : ∀ (V : Nat) l' w' F', V < 128 → l' ++ [UInt8.ofNat V] = l ++ vl U → WrAt w' b l' bad F' → Upd F w w' → Sub F' F w → K V w') :
    F_script_writer_numbers_L2 (some ⟨b, 0, none⟩) q m d t8 t9 ⟨(U : Int)⟩ w K := by
  have hvl : (vl U).length ≤ 10 := vl_len (k := 9) (by omega)
  refine ⟨fun s v => ∃ (V : Nat) (l' : List UInt8) (F' : List Nat), s.u = V ∧ V ≤ U ∧ l' ++ vl V = l ++ vl U ∧ WrAt v b l' bad F' ∧ Upd F w v ∧ Sub F' F w, fun s _ => s.u.toNat, ⟨U, l, F, rfl, Nat.le_refl _, rfl, h, Upd.refl _ _, Sub.refl _ _⟩, ?_⟩
  rintro ⟨u⟩ v ⟨V, l', F', rfl, hVU, he, hw, hu, hsb⟩
  unfold B_script_writer_numbers_L2
  dsimp only
  have hlen : l'.length ≤ l.length + 10 := by
    have := congrArg List.length he
    simp only [List.length_append] at this; omega
  refine ifC (fun hc => ?_) (fun hc => ?_)
  · simp at hc
    obtain ⟨p, n, c, G, hb, hs, rfl, hn⟩ := hw
    simp only [NN_some, addN, drw_cell, drw_heap, exS, exI, exB, exP, exM, exStr, exV, a0, a1, a2, a3, a4, a5, a6, a7, a8, a9, a10, a11, a12, a13, maxI_eq, Nat.zero_add, Nat.add_zero, Nat.mul_one, Option.isNone_some, Option.isNone_none, hb.cell]
    rw [vl_ge (by omega)] at he
    refine wr_put (x := UInt8.ofNat (V % 128 + 128)) hb hs hn (by omega) (by rw [or128, byteN (by omega)]) fun w3 F3 h3 u3 s3 => ⟨by omega, ⟨V / 128, l' ++ [UInt8.ofNat (V % 128 + 128)], F3, by rw [shr7], by omega, ?_, h3, hu.trans u3 (fun x hx => .inl hx) (fun x hx => hsb x hx), hsb.trans s3 hu.size⟩, ?_⟩
    · rw [← he]; simp
    · rw [shr7]; simp; omega
  · simp at hc
    rw [vl_lt (by omega)] at he
    exact hK V l' v F' (by omega) he hw hu hsb

theorem numbers_ok {L : List Int} {q : Option Addr} {m d : Nat} {K : World → Prop} (h : WrAt w b l bad F) (hq : Rd w 1 q m (L.map (.int .i64))) (hd : Clear q m F) (hf : Fits L) (hl : l.length + 10 * L.length < 2 ^ 41)
    (hK : ∀ w' F', WrAt w' b (l ++ encL L) bad F' → Upd F w w' → Sub F' F w → K w') : C_script_writer_numbers (some ⟨b, 0, none⟩) q m d w K := by
  apply C_script_writer_numbers.of
  unfold F_script_writer_numbers F_script_writer_numbers_L1
  have hm : m = L.length := by have := hq.1; simp at this; exact this.symm
  refine ⟨fun s v => ∃ (i : Nat) (F' : List Nat), s.t9 = i ∧ i ≤ m ∧ WrAt v b (l ++ encL (L.take i)) bad F' ∧ Upd F w v ∧ Sub F' F w, fun s _ => (m - s.t9).toNat, ⟨0, F, rfl, by omega, by simpa [encL] using h, Upd.refl _ _, Sub.refl _ _⟩, ?_⟩
  rintro ⟨t⟩ v ⟨i, F', rfl, him, hw, hu, hsb⟩
  unfold B_script_writer_numbers_L1
  dsimp only
  have hlen : (encL (L.take i)).length ≤ 10 * i := by
    have : ∀ {L : List Int}, Fits L → (encL L).length ≤ 10 * L.length := by
      intro L
      induction L with
      | nil => intro _; simp [encL]
      | cons x L ih =>
        intro hf
        have h1 := ih (fun n hn => hf n (by simp [hn]))
        have h2 := enc_len (hf x (by simp)).1 (hf x (by simp)).2
        simp only [encL, List.flatMap_cons, List.length_append, List.length_cons] at h1 ⊢
        omega
    have h1 := this (L := L.take i) (fun n hn => hf n (List.mem_of_mem_take hn))
    rw [List.length_take] at h1
    omega
  refine ifC (fun hc => ?_) (fun hc => ?_)
  · simp at hc
    have hiL : i < L.length := by omega
    have hq2 := hq.upd hu hd
    obtain ⟨x, hx, hcx⟩ := hq2.at (i := i) (by omega)
    rw [List.getElem?_map, List.getElem?_eq_getElem hiL] at hcx
    simp only [Option.map_some] at hcx
    have hfi := hf L[i] (List.getElem_mem hiL)
    have hz := zig_lt hfi.1 hfi.2
    simp only [NN_some, addN, drw_cell, drw_heap, exS, exI, exB, exP, exM, exStr, exV, a0, a1, a2, a3, a4, a5, a6, a7, a8, a9, a10, a11, a12, a13, maxI_eq, Nat.zero_add, Nat.add_zero, Nat.mul_one, Option.isNone_some, Option.isNone_none, hx, hcx, Int.toNat_natCast]
    refine ⟨by omega, by omega, fold_ok hfi.1 hfi.2 ?_⟩
    refine num_core hw hz (by rw [List.length_append]; omega) fun V l' w1 F1 hV he h1 u1 s1 => ?_
    have hlen1 : l'.length ≤ l.length + 10 * i + 10 := by
      have := congrArg List.length he
      have hvl : (vl (zig L[i])).length ≤ 10 := vl_len (k := 9) (by omega)
      simp only [List.length_append, List.length_singleton] at this; omega
    obtain ⟨p, n, c, G, hb, hs, rfl, hn⟩ := h1
    simp only [NN_some, addN, drw_cell, drw_heap, exS, exI, exB, exP, exM, exStr, exV, a0, a1, a2, a3, a4, a5, a6, a7, a8, a9, a10, a11, a12, a13, maxI_eq, Nat.zero_add, Nat.add_zero, Nat.mul_one, Option.isNone_some, Option.isNone_none, hb.cell]
    refine wr_put (x := UInt8.ofNat V) hb hs hn (by omega) (by rw [u8w', byteN (by omega)]; omega) fun w3 F3 h3 u3 s3 => ⟨⟨i + 1, F3, ?_, by omega, ?_, ?_, ?_⟩, ?_⟩
    · rw [i64id (by omega) (by omega)]; simp
    · rw [he] at h3
      have e : encL (L.take (i + 1)) = encL (L.take i) ++ vl (zig L[i]) := by
        rw [List.take_add_one, List.getElem?_eq_getElem hiL]
        simp only [encL, List.flatMap_append, Option.toList_some, List.flatMap_cons, List.flatMap_nil, List.append_nil]
        rfl
      rw [e, ← List.append_assoc]
      exact h3
    · exact hu.trans (u1.trans u3 (fun x hx => .inl hx) (fun x hx => s1 x hx)) (fun x hx => .inl hx) (fun x hx => hsb x hx)
    · exact hsb.trans (s1.trans s3 u1.size) hu.size
    · rw [i64id (by omega) (by omega)]; simp; omega
  · simp at hc
    obtain rfl : i = m := by omega
    rw [hm, List.take_length] at hw
    exact hK v F' hw hu hsb

theorem text_ok {s : ByteArray} {K : World → Prop} (h : WrAt w b l bad F) (hl : l.length + 10 + s.size < 2 ^ 41) (hs2 : s.size < 2 ^ 40)
    (hK : ∀ w' F', WrAt w' b (l ++ encT s.data.toList) (bad || decide (65536 < s.size)) F' → Upd F w w' → Sub F' F w → K w') : C_script_writer_text (some ⟨b, 0, none⟩) s w K := by
  have hsz : s.data.toList.length = s.size := by simp
  have hfit : Fits [((s.size : Nat) : Int)] := by intro n hn; simp at hn; omega
  have core : ∀ {w0 : World} {F0 : List Nat} {bd : Bool}, WrAt w0 b l bd F0 → (∀ w' F', WrAt w' b (l ++ encT s.data.toList) bd F' → Upd F0 w0 w' → Sub F' F0 w0 → K w') → F_script_writer_text_k1 (some ⟨b, 0, none⟩) s K w0 := by
    intro w0 F0 bd h0 hK
    unfold F_script_writer_text_k1
    refine BSl_rule (cs := [.int .i64 (s.size : Int)]) eS_24 (fill_one rfl) (by rfl) (by omega) fun w1 hs1 hu1 => ?_
    refine numbers_ok (L := [(s.size : Int)]) (h0.keep hu1) hs1.rd ?_ hfit (by simp; omega) fun w2 F2 h2 u2 s2 => ?_
    · intro x hx hn hm
      cases hx
      have := h0.inn _ hm
      simp at this
    · obtain ⟨p, n, c, G, hb, hs, rfl, hn⟩ := h2
      have hln : n = (l ++ encL [(s.size : Int)]).length := by have := hs.1; rw [bc_len] at this; omega
      have he : (encL [(s.size : Int)]).length ≤ 10 := by
        have := enc_len (n := (s.size : Int)) (by omega) (by omega)
        simpa [encL] using this
      simp only [NN_some, addN, drw_cell, drw_heap, exS, exI, exB, exP, exM, exStr, exV, a0, a1, a2, a3, a4, a5, a6, a7, a8, a9, a10, a11, a12, a13, maxI_eq, Nat.zero_add, Nat.add_zero, Nat.mul_one, Option.isNone_some, Option.isNone_none, hb.cell]
      refine AppS_rule (hE := eS_28) rfl hs (by rw [hln, List.length_append]; omega) fun p' c' F' w3 hs3 u3 s3 => ?_
      rw [← bc_append] at hs3
      refine wr_store hb hn hs3 u3 s3 fun w4 F4 h4 u4 s4 => hK w4 F4 ?_ ?_ ?_
      · unfold encT
        rw [hsz]
        simpa [encL] using h4
      · exact hu1.after (u2.trans u4 (fun x hx => .inl hx) (fun x hx => s2 x hx))
      · exact ((s2.trans s4 u2.size).old hu1.size)
  apply C_script_writer_text.of
  unfold F_script_writer_text
  have h' := h
  obtain ⟨p, n, c, G, hb, hs, hF, hn⟩ := h
  simp only [NN_some, addN, drw_cell, drw_heap, exS, exI, exB, exP, exM, exStr, exV, a0, a1, a2, a3, a4, a5, a6, a7, a8, a9, a10, a11, a12, a13, maxI_eq, Nat.zero_add, Nat.add_zero, Nat.mul_one, Option.isNone_some, Option.isNone_none, hb.cell]
  have hst : ∀ (v : Bool), (bad || decide (65536 < s.size)) = v → St w ⟨b, 1, none⟩ (.bool v) fun w1 => F_script_writer_text_k1 (some ⟨b, 0, none⟩) s K w1 := by
    intro v hv
    refine St_rule hb (by simp) rfl fun w1 u1 hb1 => ?_
    refine core (F0 := F) (bd := v) ⟨p, n, c, G, hb1, hs.upd u1 (by intro k hkk hkb; rw [List.mem_singleton] at hkb; rw [hkb] at hkk; exact hn hkk), hF, hn⟩ fun w' F' h2 u2 s2 => hK w' F' (hv ▸ h2) ?_ (s2.old u1.size)
    exact u1.trans u2 (by intro k hk; simp at hk; rw [hF]; simp [hk]) (fun x hx => .inl hx)
  refine ifC (fun hc => hst true (by simp [hc])) (fun hc => ?_)
  refine hst _ ?_
  rw [hc, Bool.false_or]
  exact decide_eq_decide.2 (by omega)

theorem done_ok {K : Option Addr → Nat → Nat → Int → World → Prop} (h : WrAt w b l false F) (hK : ∀ p n c G, SlAt w 1 p n c (bc l) G → (∀ k ∈ G, k ∈ F) → K p n c 0 w) : C_script_writer_done (some ⟨b, 0, none⟩) w K := by
  apply C_script_writer_done.of
  unfold F_script_writer_done
  obtain ⟨p, n, c, G, hb, hs, hF, hn⟩ := h
  simp only [NN_some, addN, drw_cell, drw_heap, exS, exI, exB, exP, exM, exStr, exV, a0, a1, a2, a3, a4, a5, a6, a7, a8, a9, a10, a11, a12, a13, maxI_eq, Nat.zero_add, Nat.add_zero, Nat.mul_one, Option.isNone_some, Option.isNone_none, hb.cell]
  exact ifF rfl (hK p n c G hs (by rw [hF]; intro k hk; simp [hk]))

theorem done_bad {K : Option Addr → Nat → Nat → Int → World → Prop} (h : WrAt w b l true F) (hK : K none 0 0 3 w) : C_script_writer_done (some ⟨b, 0, none⟩) w K := by
  apply C_script_writer_done.of
  unfold F_script_writer_done
  obtain ⟨p, n, c, G, hb, hs, hF, hn⟩ := h
  simp only [NN_some, addN, drw_cell, drw_heap, exS, exI, exB, exP, exM, exStr, exV, a0, a1, a2, a3, a4, a5, a6, a7, a8, a9, a10, a11, a12, a13, maxI_eq, Nat.zero_add, Nat.add_zero, Nat.mul_one, Option.isNone_some, Option.isNone_none, hb.cell]
  exact ifT rfl hK
end

/-- A writer that has come since. -/
def WrS (w0 w : World) (b : Nat) (l : List UInt8) (bad : Bool) : Prop := ∃ F, WrAt w b l bad F ∧ Upd [] w0 w ∧ ∀ k ∈ F, w0.heap.size ≤ k

section
variable {w0 w : World} {b : Nat} {l : List UInt8} {bad : Bool}

theorem WrS.upd (h : WrS w0 w b l bad) : Upd [] w0 w := by obtain ⟨F, _, u, _⟩ := h; exact u

theorem WrS.new (u : Upd [] w0 w) (hb : w0.heap.size ≤ b) (h : Blk w b #[.slice none 0 0, .bool bad]) : WrS w0 w b [] bad :=
  ⟨[b], ⟨none, 0, 0, [], h, SlAt.nil w 1, rfl, by simp⟩, u, by simpa using hb⟩

theorem WrS.keep {w' : World} (h : WrS w0 w b l bad) (u : Upd [] w w') : WrS w0 w' b l bad := by
  obtain ⟨F, h1, h2, h3⟩ := h
  exact ⟨F, h1.keep u, h2.after u, h3⟩

theorem WrS.step {w' : World} {F F' : List Nat} {l' : List UInt8} {bad' : Bool} (h2 : Upd [] w0 w) (h3 : ∀ k ∈ F, w0.heap.size ≤ k) (h : WrAt w' b l' bad' F') (u : Upd F w w') (s : Sub F' F w) : WrS w0 w' b l' bad' :=
  ⟨F', h, h2.fresh u h3, fun k hk => (s k hk).elim (fun h => h3 k h) (fun h => Nat.le_trans h2.size h)⟩

theorem text_S {s : ByteArray} {K : World → Prop} (h : WrS w0 w b l bad) (hl : l.length + 10 + s.size < 2 ^ 41) (hs2 : s.size < 2 ^ 40)
    (hK : ∀ w', WrS w0 w' b (l ++ encT s.data.toList) (bad || decide (65536 < s.size)) → K w') : C_script_writer_text (some ⟨b, 0, none⟩) s w K := by
  obtain ⟨F, h1, h2, h3⟩ := h
  exact text_ok h1 hl hs2 fun w' F' h4 u s => hK w' (WrS.step h2 h3 h4 u s)

/-- Numbers of a row that was there before. -/
theorem numbers_S {L : List Int} {q : Option Addr} {m d : Nat} {K : World → Prop} (h : WrS w0 w b l bad) (hq : Rd w0 1 q m (L.map (.int .i64))) (hf : Fits L) (hl : l.length + 10 * L.length < 2 ^ 41)
    (hK : ∀ w', WrS w0 w' b (l ++ encL L) bad → K w') : C_script_writer_numbers (some ⟨b, 0, none⟩) q m d w K := by
  obtain ⟨F, h1, h2, h3⟩ := h
  refine numbers_ok h1 (hq.keep h2) (fun x hx hn hm => ?_) hf hl fun w' F' h4 u s => hK w' (WrS.step h2 h3 h4 u s)
  have := Rd_low hq (by omega) x hx hn
  have := h3 _ hm
  omega

theorem flat_ints : ∀ L : List Int, (L.map (Value.int .i64)).flatMap (fun v => v.cells.toList) = L.map (Value.int .i64)
  | [] => rfl
  | x :: L => by simp only [List.map_cons, List.flatMap_cons, flat_ints L]; rfl

/-- Numbers that are named. -/
theorem numbersLit_ok {F : List Nat} {L : List Int} {len : Nat} {ps : List (Nat × Value)} {K : World → Prop} (h : WrAt w b l bad F) (hps : ps = ((L.map (Value.int .i64)).zipIdx 0).map fun x => (x.2, x.1)) (hn : len = L.length) (hlen : L.length < 1000) (hf : Fits L) (hl : l.length + 10 * L.length < 2 ^ 41)
    (hK : ∀ w' F', WrAt w' b (l ++ encL L) bad F' → Upd F w w' → Sub F' F w → K w') : BSl Tryd.prog 24 len ps w fun p n c w1 => C_script_writer_numbers (some ⟨b, 0, none⟩) p n c w1 K := by
  refine BSlP_rule (hE := eS_24) (L.map (Value.int .i64)) hps (by intro v hv; simp at hv; obtain ⟨x, _, rfl⟩ := hv; rfl) (by simp [hn]) (by omega) fun w1 hs1 _ hu1 => ?_
  have e := flat_ints L
  rw [e] at hs1
  refine numbers_ok (h.keep hu1) hs1.rd (fun x hx hn hm => ?_) hf hl fun w' F' h4 u s => hK w' F' h4 (hu1.after u) (s.old hu1.size)
  cases hx
  have := h.inn _ hm
  simp at this

theorem numbersLit_S {L : List Int} {len : Nat} {ps : List (Nat × Value)} {K : World → Prop} (h : WrS w0 w b l bad) (hps : ps = ((L.map (Value.int .i64)).zipIdx 0).map fun x => (x.2, x.1)) (hn : len = L.length) (hlen : L.length < 1000) (hf : Fits L) (hl : l.length + 10 * L.length < 2 ^ 41)
    (hK : ∀ w', WrS w0 w' b (l ++ encL L) bad → K w') : BSl Tryd.prog 24 len ps w fun p n c w1 => C_script_writer_numbers (some ⟨b, 0, none⟩) p n c w1 K := by
  obtain ⟨F, h1, h2, h3⟩ := h
  exact numbersLit_ok h1 hps hn hlen hf hl fun w' F' h4 u s => hK w' (WrS.step h2 h3 h4 u s)
end

end Go.Proofs.YtggbmakfifllnaaDoor
