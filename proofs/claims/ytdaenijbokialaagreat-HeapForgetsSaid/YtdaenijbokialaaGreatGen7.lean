import Derived.Test.YtdaenijbokialaaGreatGenC
set_option maxRecDepth 100000
set_option linter.unusedVariables false
namespace Go.Proofs.YtdaenijbokialaaGreat
open Go Go.D Go.Proofs
def F_cell_Tag (wx : Int) (w : World) (R : Int → World → Prop) : Prop :=
 R (IntKind.i64.wrap (andI .u64 wx (7 : Int))) w
theorem C_cell_Tag.of {wx : Int} {w : World} {R : Int → World → Prop} (h : F_cell_Tag wx w R) : C_cell_Tag wx w R := ofS4 (Fm := F_cell_Tag wx w) Tryz.func79 (by kernel_rfl) (L0 Tryz.f79) rfl (fun _ => by kernel_rfl) h
def F_cell_Number (wx : Int) (w : World) (R : Int → World → Prop) : Prop :=
 C_cell_Tag wx w fun t4 w1 =>
 If (t4 == (0 : Int))
 (R (0 : Int) w1)
 (0 ≤ (3 : Int) ∧
 R (shrI .i64 (IntKind.i64.wrap wx) (3 : Int)) w1)
theorem C_cell_Number.of {wx : Int} {w : World} {R : Int → World → Prop} (h : F_cell_Number wx w R) : C_cell_Number wx w R := ofS4 (Fm := F_cell_Number wx w) Tryz.func80 (by kernel_rfl) (L0 Tryz.f80) rfl (fun _ => by kernel_rfl) h
def F_atom_Table_Name (t : Option Addr) (idx : Int) (w : World) (R : ByteArray → Int → World → Prop) : Prop :=
 C_atom_Table_may t idx w fun t9 w1 =>
 If (t9 != (0 : Int))
 (R ⟨#[]⟩ t9 w1)
 (NN t fun a =>
 ∃ lP lN lC, w1.cell? (a.add 5) = some (.slice lP lN lC) ∧
 0 ≤ idx ∧ idx < (lN : Int) ∧ NN lP fun a_1 =>
 ∃ namex, w1.cell? ((a_1.add (idx.toNat * 3)).add 0) = some (.string namex) ∧
 R namex (0 : Int) w1)
theorem C_atom_Table_Name.of {t : Option Addr} {idx : Int} {w : World} {R : ByteArray → Int → World → Prop} (h : F_atom_Table_Name t idx w R) : C_atom_Table_Name t idx w R := ofS15 (Fm := F_atom_Table_Name t idx w) Tryz.func81 (by kernel_rfl) (L0 Tryz.f81) rfl (fun _ => by kernel_rfl) h
def F_heap_Heap_fun (hx : Option Addr) (wx : Int) (w : World) (R : ByteArray → Int → World → Prop) : Prop :=
 NN hx fun a =>
 ∃ funs, (drw w).cell? (a.add 3) = some (.pointer funs) ∧
 NN hx fun a_1 =>
 ∃ cellsP cellsN cellsC, (drw w).cell? (a_1.add 4) = some (.slice cellsP cellsN cellsC) ∧
 C_cell_Number wx (drw w) fun t19 w1 =>
 w1.cell? (a_1.add 4) = (drw w).cell? (a_1.add 4) ∧
 w1.cell? (a.add 3) = (drw w).cell? (a.add 3) ∧
 0 ≤ t19 ∧ t19 < (cellsN : Int) ∧ NN cellsP fun a_2 =>
 ∃ t21, w1.cell? (a_2.add (t19.toNat * 1)) = some (.int .u64 t21) ∧
 C_cell_Number t21 w1 fun t22 w1_1 =>
 w1_1.cell? (a.add 3) = (drw w).cell? (a.add 3) ∧
 C_functor_Table_Get funs t22 w1_1 fun t230 t231 t232 w1_2 =>
 R t230 t231 w1_2
def G_heap_Heap_fun : Gen where
 loop := lookL []
 plan := fun id =>
  bif Nat.beq id 1 then some ([0, 1, 3, 7, 0, 16, 48, 112, 0, 256, 1008, 2032, 4080, 8191, 16383, 32767, 32767, 32767, 65535, 393215, 1048575], .take 0 (.take 1 (.take 2 (.take 3 (.take 4 (.take 5 (.take 6 (.take 7 (.take 8 (.take 9 (.take 10 (.take 11 (.take 12 (.take 13 (.take 14 (.take 15 (.take 16 (.take 17 (.take 18 (.take 19 (.take 20 .done))))))))))))))))))))) else none
theorem C_heap_Heap_fun.of {hx : Option Addr} {wx : Int} {w : World} {R : ByteArray → Int → World → Prop} (h : F_heap_Heap_fun hx wx w R) : C_heap_Heap_fun hx wx w R := ofS15 (Fm := F_heap_Heap_fun hx wx w) Tryz.func82 (by kernel_rfl) (L1 G_heap_Heap_fun Tryz.f82 fun _ => rfl) rfl (fun _ => by kernel_rfl) h
structure S_heap_Heap_deref_L1 where
 wx_1 : Int
def B_heap_Heap_deref_L1 (hx_1 : Option Addr) (s : S_heap_Heap_deref_L1) (w : World) (Kn : S_heap_Heap_deref_L1 → World → Prop) (Kx0 : Int → World → Prop) : Prop :=
 C_cell_Is s.wx_1 (1 : Int) w fun t7 w1 =>
 If t7
 (NN hx_1 fun a =>
 ∃ cellsP cellsN cellsC, (drw w1).cell? (a.add 4) = some (.slice cellsP cellsN cellsC) ∧
 C_cell_Number s.wx_1 (drw w1) fun t13 w1_1 =>
 w1_1.cell? (a.add 4) = (drw w1).cell? (a.add 4) ∧
 0 ≤ t13 ∧ t13 < (cellsN : Int) ∧ NN cellsP fun a_1 =>
 ∃ t15, w1_1.cell? (a_1.add (t13.toNat * 1)) = some (.int .u64 t15) ∧
 If (t15 == s.wx_1)
 (Kx0 s.wx_1 w1_1)
 (Kn ⟨t15⟩ w1_1))
 (Kx0 s.wx_1 w1)
def F_heap_Heap_deref_L1 (hx_1 : Option Addr) (s : S_heap_Heap_deref_L1) (w : World) (Kx0 : Int → World → Prop) : Prop :=
 LoopS (fun s w Kn => B_heap_Heap_deref_L1 hx_1 s w Kn Kx0) s w
def F_heap_Heap_deref (hx : Option Addr) (wx : Int) (w : World) (R : Int → World → Prop) : Prop :=
 F_heap_Heap_deref_L1 hx ⟨wx⟩ w
 (fun wx_3 w1_2 =>
 R wx_3 w1_2)
def lit_heap_Heap_deref_L1 (f : (Option Addr)) (s : S_heap_Heap_deref_L1) : Env := [⟨0, .pointer f, none⟩, ⟨1, .int .u64 s.wx_1, none⟩]
def dec_heap_Heap_deref_L1 (e : Env) (K : (Option Addr) → S_heap_Heap_deref_L1 → Prop) : Prop :=
 oP e 0 fun hx_1 =>
 oI e 1 .u64 fun wx_1 =>
  K (hx_1) ⟨wx_1⟩
theorem dec_heap_Heap_deref_L1_ok {N : Nat} (e : Env) (a : Act) (K : (Option Addr) → S_heap_Heap_deref_L1 → Prop) (hr : Rep N a e) (h0 : dec_heap_Heap_deref_L1 e K) : ∃ f s, K f s ∧ Rep N a (lit_heap_Heap_deref_L1 f s) := by
 unfold dec_heap_Heap_deref_L1 at h0
 obtain ⟨hx_1, g0, h1⟩ := oP_elim h0
 obtain ⟨wx_1, g1, h2⟩ := oI_elim h1
 exact ⟨_, _, h2, rep_less hr (by simp [lit_heap_Heap_deref_L1, g0, g1])⟩
def spec_heap_Heap_deref_L1 (Q : Post) (e : Env) (w : World) : Prop :=
 dec_heap_Heap_deref_L1 e fun f s => F_heap_Heap_deref_L1 f s w (fun wx_2 w1 => Q (.exit 0) [⟨1, .int .u64 wx_2, none⟩] w1)
def G_heap_Heap_deref : Gen where
 loop := lookL [([false, false, true], spec_heap_Heap_deref_L1)]
 plan := fun id =>
  bif Nat.beq id 2 then some ([0, 1, 3, 7, 0, 16, 63, 127, 255], .take 0 (.take 1 (.take 2 (.take 3 (.take 4 (.take 5 (.take 6 (.take 7 (.take 8 .done))))))))) else none
def dx_heap_Heap_deref_L1_0 (e : Env) (K : (Option Addr) → Int → Prop) : Prop :=
 oP e 0 fun hx_1 =>
 oI e 1 .u64 fun wx_2 =>
  K (hx_1) wx_2
theorem body_heap_Heap_deref_L1 (f : (Option Addr)) (s : S_heap_Heap_deref_L1) (w : World) (Kn : (Option Addr) → S_heap_Heap_deref_L1 → World → Prop) (Kx0 : (Option Addr) → Int → World → Prop) :
  B_heap_Heap_deref_L1 f s w (fun s1 w1 => Kn f s1 w1) (fun wx_2 w1 => Kx0 f wx_2 w1) =
  den Tryz.prog Tryz.f83.ntmps G_heap_Heap_deref (sub (codeOf Tryz.f83) [false, false, false, true]) [false, false, false, true] (roundQ (fun e w => dec_heap_Heap_deref_L1 e fun f s => Kn f s w) (fun e w => False) (fun id e w => match Nat.beq id 0 with | true => dx_heap_Heap_deref_L1_0 e fun f wx_2 => Kx0 f wx_2 w | false => False)) (lit_heap_Heap_deref_L1 f s) w := by kernel_rfl
theorem ok_heap_Heap_deref_L1 : OneOk Tryz.prog Tryz.f83.ntmps G_heap_Heap_deref (codeOf Tryz.f83) [false, false, true] spec_heap_Heap_deref_L1 := by
 intro c hc ih Q e w a hr h
 have hcc : sub (codeOf Tryz.f83) [false, false, false, true] = c := sub_of_codeAt hc
 obtain ⟨f, s, h, hrep⟩ := dec_heap_Heap_deref_L1_ok e a _ hr h
 obtain ⟨J, μ, hj, hround⟩ := h
 refine loop_rule_deep seat_ok seat_mixed ih lit_heap_Heap_deref_L1 dec_heap_Heap_deref_L1 dec_heap_Heap_deref_L1_ok hc f J μ (Kr := fun e w => False) (Kx := fun id e w => match Nat.beq id 0 with | true => (dx_heap_Heap_deref_L1_0 e fun f1 wx_2 => f1 = f ∧ Q (.exit 0) [⟨1, .int .u64 wx_2, none⟩] w) | false => False) ?_ ?_ ?_ s w a hj hrep
 ·intro e a w hr h
  exact h.elim
 ·intro id e a w hr h0
  (try dsimp only at h0)
  split at h0
  ·rename_i hid
   obtain rfl := Nat.eq_of_beq_eq_true hid
   unfold dx_heap_Heap_deref_L1_0 at h0
   obtain ⟨hx_1, g0, h1⟩ := oP_elim h0
   obtain ⟨wx_2, g1, h2⟩ := oI_elim h1
   obtain ⟨hf, hq⟩ := h2
   subst hf
   exact ⟨_, rep_less hr (by simp [g1]), hq⟩
  ·exact h0.elim
 ·intro s w hj
  have hb := hround s w hj
  rw [← hcc]
  have e1 := body_heap_Heap_deref_L1 f s w (fun f1 s1 w1 => f1 = f ∧ J s1 w1 ∧ μ s1 w1 < μ s w) (fun f1 wx_2 w1 => f1 = f ∧ Q (.exit 0) [⟨1, .int .u64 wx_2, none⟩] w1)
  simp only [true_and] at e1
  exact cast e1 hb
theorem loops_heap_Heap_deref : LoopOk Tryz.prog Tryz.f83.ntmps G_heap_Heap_deref (codeOf Tryz.f83) := loopOk_list rfl ⟨ok_heap_Heap_deref_L1, trivial⟩
theorem C_heap_Heap_deref.of {hx : Option Addr} {wx : Int} {w : World} {R : Int → World → Prop} (h : F_heap_Heap_deref hx wx w R) : C_heap_Heap_deref hx wx w R := ofS9 (Fm := F_heap_Heap_deref hx wx w) Tryz.func83 (by kernel_rfl) loops_heap_Heap_deref rfl (fun _ => by kernel_rfl) h
def F_ref06_Atom (sx : ByteArray) (w : World) (R : Int → Int → ByteArray → Option Addr → Nat → Nat → World → Prop) : Prop :=
 New w (.cells #[.int .i64 0, .int .i64 0, .string ⟨#[]⟩, .slice none 0 0] 31) fun r w1 =>
 St w1 (Addr.add ⟨r, 0, none⟩ 0) (.int .i64 3) fun w1_1 =>
 St w1_1 (Addr.add ⟨r, 0, none⟩ 1) (.int .i64 0) fun w1_2 =>
 St w1_2 (Addr.add ⟨r, 0, none⟩ 2) (.string sx) fun w1_3 =>
 St w1_3 (Addr.add ⟨r, 0, none⟩ 3) (.slice none 0 0) fun w1_4 =>
 ∃ r_1, w1_4.cell? (Addr.add ⟨r, 0, none⟩ 0) = some (.int .i64 r_1) ∧
 ∃ r_2, w1_4.cell? (Addr.add ⟨r, 0, none⟩ 1) = some (.int .i64 r_2) ∧
 ∃ r_3, w1_4.cell? (Addr.add ⟨r, 0, none⟩ 2) = some (.string r_3) ∧
 ∃ rP rN rC, w1_4.cell? (Addr.add ⟨r, 0, none⟩ 3) = some (.slice rP rN rC) ∧
 R r_1 r_2 r_3 rP rN rC w1_4
theorem C_ref06_Atom.of {sx : ByteArray} {w : World} {R : Int → Int → ByteArray → Option Addr → Nat → Nat → World → Prop} (h : F_ref06_Atom sx w R) : C_ref06_Atom sx w R := ofS10 (Fm := F_ref06_Atom sx w) Tryz.func84 (by kernel_rfl) (L0 Tryz.f84) rfl (fun _ => by kernel_rfl) h
def F_functor_Table_Put (t : Option Addr) (namex : ByteArray) (arity : Int) (w : World) (R : Int → Int → World → Prop) : Prop :=
 C_functor_Table_made t w fun t15 w1 =>
 If (!t15)
 (R (0 : Int) (6 : Int) w1)
 (If (decide (arity < (1 : Int)))
 (R (0 : Int) (1 : Int) w1)
 (If (decide (arity > (16 : Int)))
 (R (0 : Int) (1 : Int) w1)
 (NN t fun a =>
 ∃ atoms, w1.cell? (a.add 0) = some (.pointer atoms) ∧
 C_atom_Table_Intern atoms namex w1 fun t300 t301 w1_1 =>
 If (t301 != (0 : Int))
 (R (0 : Int) t301 w1_1)
 (New w1_1 (.cells #[.int .i64 0, .int .i64 0] 204) fun r w1_2 =>
 St w1_2 (Addr.add ⟨r, 0, none⟩ 0) (.int .i64 t300) fun w1_3 =>
 St w1_3 (Addr.add ⟨r, 0, none⟩ 1) (.int .i64 arity) fun w1_4 =>
 NN t fun a_1 =>
 ∃ ids, (drw w1_4).cell? (a_1.add 3) = some (.map ids) ∧
 ∃ t440, (drw w1_4).cell? (Addr.add ⟨r, 0, none⟩ 0) = some (.int .i64 t440) ∧
 ∃ t441, (drw w1_4).cell? (Addr.add ⟨r, 0, none⟩ 1) = some (.int .i64 t441) ∧
 Run Tryz.prog (Instr.lookup 191 (.map ids) (.agg #[.int .i64 t440, .int .i64 t441]) true) (drw w1_4) fun v w1_5 => ∃ t450 : Int, ∃ t451 : Bool, v = (.tuple #[.int .i64 t450, .bool t451]) ∧
 If t451
 (R t450 (0 : Int) w1_5)
 (∃ t510, w1_5.cell? (Addr.add ⟨r, 0, none⟩ 0) = some (.int .i64 t510) ∧
 ∃ t511, w1_5.cell? (Addr.add ⟨r, 0, none⟩ 1) = some (.int .i64 t511) ∧
 C_functor_Table_add t t510 t511 w1_5 fun t520 t521 w1_6 =>
 R t520 t521 w1_6)))))
def G_functor_Table_Put : Gen where
 loop := lookL []
 plan := fun id =>
  bif Nat.beq id 9 then some ([0, 1, 3, 7, 0, 31, 63, 127, 127, 255, 1023], .take 0 (.take 1 (.take 2 (.take 3 (.take 4 (.take 5 (.take 6 (.take 7 (.take 8 (.take 9 (.take 10 .done))))))))))) else none
theorem C_functor_Table_Put.of {t : Option Addr} {namex : ByteArray} {arity : Int} {w : World} {R : Int → Int → World → Prop} (h : F_functor_Table_Put t namex arity w R) : C_functor_Table_Put t namex arity w R := ofS12 (Fm := F_functor_Table_Put t namex arity w) Tryz.func85 (by kernel_rfl) (L1 G_functor_Table_Put Tryz.f85 fun _ => rfl) rfl (fun _ => by kernel_rfl) h
structure S_heap_Heap_take_L1 where
 mk ::
structure S_heap_Heap_take_L2 where
 i : Int
def B_heap_Heap_take_L1 (hx_1 : Option Addr) (n_1 : Int) (atx : Int) (s : S_heap_Heap_take_L1) (w : World) (Kn : S_heap_Heap_take_L1 → World → Prop) (Kx0 : World → Prop) : Prop :=
 NN hx_1 fun a_1 =>
 ∃ cellsP cellsN cellsC, (drw w).cell? (a_1.add 4) = some (.slice cellsP cellsN cellsC) ∧
 NN hx_1 fun a_2 =>
 ∃ pool_1, (drw w).cell? (a_2.add 0) = some (.pointer pool_1) ∧
 C_pool_Pool_Top pool_1 (drw w) fun t30 w1_1 =>
 w1_1.cell? (a_1.add 4) = (drw w).cell? (a_1.add 4) ∧
 If (decide ((cellsN : Int) < t30))
 (NN hx_1 fun a_3 =>
 ∃ cellsP_1 cellsN_1 cellsC_1, w1_1.cell? (a_3.add 4) = some (.slice cellsP_1 cellsN_1 cellsC_1) ∧
 BSl Tryz.prog 36 1 [(0, .int .u64 0)] w1_1 fun t37P t37N t37C w1_2 =>
 App Tryz.prog #[36, 36] 36 #[.slice cellsP_1 cellsN_1 cellsC_1, .slice t37P t37N t37C] w1_2 fun t38P t38N t38C w1_3 =>
 NN hx_1 fun a_4 =>
 St w1_3 ((a_4.add 4).add 0) (.slice t38P t38N t38C) fun w1_4 =>
 Kn ⟨⟩ w1_4)
 (Kx0 w1_1)
def F_heap_Heap_take_L1 (hx_1 : Option Addr) (n_1 : Int) (atx : Int) (s : S_heap_Heap_take_L1) (w : World) (Kx0 : World → Prop) : Prop :=
 LoopS (fun s w Kn => B_heap_Heap_take_L1 hx_1 n_1 atx s w Kn Kx0) s w
def B_heap_Heap_take_L2 (hx_2 : Option Addr) (n_2 : Int) (atx_1 : Int) (s : S_heap_Heap_take_L2) (w : World) (Kn : S_heap_Heap_take_L2 → World → Prop) (Kx2 : World → Prop) : Prop :=
 If (decide (s.i < (IntKind.i64.wrap (atx_1 + n_2))))
 (NN hx_2 fun a_5 =>
 ∃ cellsP_2 cellsN_2 cellsC_2, (drw w).cell? (a_5.add 4) = some (.slice cellsP_2 cellsN_2 cellsC_2) ∧
 C_heap_ref s.i (drw w) fun t55 w1_6 =>
 w1_6.cell? (a_5.add 4) = (drw w).cell? (a_5.add 4) ∧
 0 ≤ s.i ∧ s.i < (cellsN_2 : Int) ∧ NN cellsP_2 fun a_6 =>
 St w1_6 ((a_6.add (s.i.toNat * 1)).add 0) (.int .u64 t55) fun w1_7 =>
 Kn ⟨(IntKind.i64.wrap (s.i + (1 : Int)))⟩ w1_7)
 (Kx2 w)
def F_heap_Heap_take_L2 (hx_2 : Option Addr) (n_2 : Int) (atx_1 : Int) (s : S_heap_Heap_take_L2) (w : World) (Kx2 : World → Prop) : Prop :=
 LoopS (fun s w Kn => B_heap_Heap_take_L2 hx_2 n_2 atx_1 s w Kn Kx2) s w
def F_heap_Heap_take (hx : Option Addr) (n : Int) (w : World) (R : Int → Int → World → Prop) : Prop :=
 NN hx fun a =>
 ∃ pool, w.cell? (a.add 0) = some (.pointer pool) ∧
 C_pool_Pool_Take pool n w fun t150 t151 w1 =>
 If (t151 != (0 : Int))
 (R (0 : Int) t151 w1)
 (F_heap_Heap_take_L1 hx n t150 ⟨⟩ w1
 (fun w1_5 =>
 F_heap_Heap_take_L2 hx n t150 ⟨t150⟩ w1_5
 (fun w1_8 =>
 R t150 (0 : Int) w1_8)))
def lit_heap_Heap_take_L1 (f : (Option Addr) × Int × Int) (s : S_heap_Heap_take_L1) : Env := [⟨0, .pointer f.1, none⟩, ⟨1, .int .i64 f.2.1, none⟩, ⟨6, .int .i64 f.2.2, none⟩]
def dec_heap_Heap_take_L1 (e : Env) (K : ((Option Addr) × Int × Int) → S_heap_Heap_take_L1 → Prop) : Prop :=
 oP e 0 fun hx_1 =>
 oI e 1 .i64 fun n_1 =>
 oI e 6 .i64 fun atx =>
  K (hx_1, n_1, atx) ⟨⟩
theorem dec_heap_Heap_take_L1_ok {N : Nat} (e : Env) (a : Act) (K : ((Option Addr) × Int × Int) → S_heap_Heap_take_L1 → Prop) (hr : Rep N a e) (h0 : dec_heap_Heap_take_L1 e K) : ∃ f s, K f s ∧ Rep N a (lit_heap_Heap_take_L1 f s) := by
 unfold dec_heap_Heap_take_L1 at h0
 obtain ⟨hx_1, g0, h1⟩ := oP_elim h0
 obtain ⟨n_1, g1, h2⟩ := oI_elim h1
 obtain ⟨atx, g6, h3⟩ := oI_elim h2
 exact ⟨_, _, h3, rep_less hr (by simp [lit_heap_Heap_take_L1, g0, g1, g6])⟩
def spec_heap_Heap_take_L1 (Q : Post) (e : Env) (w : World) : Prop :=
 dec_heap_Heap_take_L1 e fun f s => F_heap_Heap_take_L1 f.1 f.2.1 f.2.2 s w (fun w1 => Q (.exit 0) [⟨0, .pointer f.1, none⟩, ⟨1, .int .i64 f.2.1, none⟩, ⟨6, .int .i64 f.2.2, none⟩] w1)
def lit_heap_Heap_take_L2 (f : (Option Addr) × Int × Int) (s : S_heap_Heap_take_L2) : Env := [⟨0, .pointer f.1, none⟩, ⟨1, .int .i64 f.2.1, none⟩, ⟨6, .int .i64 f.2.2, none⟩, ⟨8, .int .i64 s.i, none⟩]
def dec_heap_Heap_take_L2 (e : Env) (K : ((Option Addr) × Int × Int) → S_heap_Heap_take_L2 → Prop) : Prop :=
 oP e 0 fun hx_2 =>
 oI e 1 .i64 fun n_2 =>
 oI e 6 .i64 fun atx_1 =>
 oI e 8 .i64 fun i =>
  K (hx_2, n_2, atx_1) ⟨i⟩
theorem dec_heap_Heap_take_L2_ok {N : Nat} (e : Env) (a : Act) (K : ((Option Addr) × Int × Int) → S_heap_Heap_take_L2 → Prop) (hr : Rep N a e) (h0 : dec_heap_Heap_take_L2 e K) : ∃ f s, K f s ∧ Rep N a (lit_heap_Heap_take_L2 f s) := by
 unfold dec_heap_Heap_take_L2 at h0
 obtain ⟨hx_2, g0, h1⟩ := oP_elim h0
 obtain ⟨n_2, g1, h2⟩ := oI_elim h1
 obtain ⟨atx_1, g6, h3⟩ := oI_elim h2
 obtain ⟨i, g8, h4⟩ := oI_elim h3
 exact ⟨_, _, h4, rep_less hr (by simp [lit_heap_Heap_take_L2, g0, g1, g6, g8])⟩
def spec_heap_Heap_take_L2 (Q : Post) (e : Env) (w : World) : Prop :=
 dec_heap_Heap_take_L2 e fun f s => F_heap_Heap_take_L2 f.1 f.2.1 f.2.2 s w (fun w1 => Q (.exit 2) [⟨6, .int .i64 f.2.2, none⟩] w1)
def G_heap_Heap_take : Gen where
 loop := lookL [([false, false, true, true, true], spec_heap_Heap_take_L1), ([false, true, false, true, true, true, true], spec_heap_Heap_take_L2)]
 plan := fun id =>
  bif Nat.beq id 4 then some ([0, 1, 3, 7, 15, 0, 32, 96, 224, 480, 1023], .take 0 (.take 1 (.take 2 (.take 3 (.take 4 (.take 5 (.take 6 (.take 7 (.take 8 (.take 9 (.take 10 .done))))))))))) else
  bif Nat.beq id 9 then some ([0, 1, 3, 7, 0, 0, 32, 127, 255], .take 0 (.take 1 (.take 2 (.take 3 (.take 4 (.take 5 (.take 6 (.take 7 (.take 8 .done))))))))) else none
def dx_heap_Heap_take_L1_0 (e : Env) (K : ((Option Addr) × Int × Int) → Prop) : Prop :=
 oP e 0 fun hx_1 =>
 oI e 1 .i64 fun n_1 =>
 oI e 6 .i64 fun atx =>
  K (hx_1, n_1, atx)
theorem body_heap_Heap_take_L1 (f : (Option Addr) × Int × Int) (s : S_heap_Heap_take_L1) (w : World) (Kn : ((Option Addr) × Int × Int) → S_heap_Heap_take_L1 → World → Prop) (Kx0 : ((Option Addr) × Int × Int) → World → Prop) :
  B_heap_Heap_take_L1 f.1 f.2.1 f.2.2 s w (fun s1 w1 => Kn f s1 w1) (fun w1 => Kx0 f w1) =
  den Tryz.prog Tryz.f86.ntmps G_heap_Heap_take (sub (codeOf Tryz.f86) [false, false, false, true, true, true]) [false, false, false, true, true, true] (roundQ (fun e w => dec_heap_Heap_take_L1 e fun f s => Kn f s w) (fun e w => False) (fun id e w => match Nat.beq id 0 with | true => dx_heap_Heap_take_L1_0 e fun f => Kx0 f w | false => False)) (lit_heap_Heap_take_L1 f s) w := by kernel_rfl
def dx_heap_Heap_take_L2_2 (e : Env) (K : ((Option Addr) × Int × Int) → Prop) : Prop :=
 oP e 0 fun hx_2 =>
 oI e 1 .i64 fun n_2 =>
 oI e 6 .i64 fun atx_1 =>
  K (hx_2, n_2, atx_1)
theorem body_heap_Heap_take_L2 (f : (Option Addr) × Int × Int) (s : S_heap_Heap_take_L2) (w : World) (Kn : ((Option Addr) × Int × Int) → S_heap_Heap_take_L2 → World → Prop) (Kx2 : ((Option Addr) × Int × Int) → World → Prop) :
  B_heap_Heap_take_L2 f.1 f.2.1 f.2.2 s w (fun s1 w1 => Kn f s1 w1) (fun w1 => Kx2 f w1) =
  den Tryz.prog Tryz.f86.ntmps G_heap_Heap_take (sub (codeOf Tryz.f86) [false, false, true, false, true, true, true, true]) [false, false, true, false, true, true, true, true] (roundQ (fun e w => dec_heap_Heap_take_L2 e fun f s => Kn f s w) (fun e w => False) (fun id e w => match Nat.beq id 2 with | true => dx_heap_Heap_take_L2_2 e fun f => Kx2 f w | false => False)) (lit_heap_Heap_take_L2 f s) w := by kernel_rfl
theorem ok_heap_Heap_take_L1 : OneOk Tryz.prog Tryz.f86.ntmps G_heap_Heap_take (codeOf Tryz.f86) [false, false, true, true, true] spec_heap_Heap_take_L1 := by
 intro c hc ih Q e w a hr h
 have hcc : sub (codeOf Tryz.f86) [false, false, false, true, true, true] = c := sub_of_codeAt hc
 obtain ⟨f, s, h, hrep⟩ := dec_heap_Heap_take_L1_ok e a _ hr h
 obtain ⟨J, μ, hj, hround⟩ := h
 refine loop_rule_deep seat_ok seat_mixed ih lit_heap_Heap_take_L1 dec_heap_Heap_take_L1 dec_heap_Heap_take_L1_ok hc f J μ (Kr := fun e w => False) (Kx := fun id e w => match Nat.beq id 0 with | true => (dx_heap_Heap_take_L1_0 e fun f1 => f1 = f ∧ Q (.exit 0) [⟨0, .pointer f.1, none⟩, ⟨1, .int .i64 f.2.1, none⟩, ⟨6, .int .i64 f.2.2, none⟩] w) | false => False) ?_ ?_ ?_ s w a hj hrep
 ·intro e a w hr h
  exact h.elim
 ·intro id e a w hr h0
  (try dsimp only at h0)
  split at h0
  ·rename_i hid
   obtain rfl := Nat.eq_of_beq_eq_true hid
   unfold dx_heap_Heap_take_L1_0 at h0
   obtain ⟨hx_1, g0, h1⟩ := oP_elim h0
   obtain ⟨n_1, g1, h2⟩ := oI_elim h1
   obtain ⟨atx, g6, h3⟩ := oI_elim h2
   obtain ⟨hf, hq⟩ := h3
   subst hf
   exact ⟨_, rep_less hr (by simp [g0, g1, g6]), hq⟩
  ·exact h0.elim
 ·intro s w hj
  have hb := hround s w hj
  rw [← hcc]
  have e1 := body_heap_Heap_take_L1 f s w (fun f1 s1 w1 => f1 = f ∧ J s1 w1 ∧ μ s1 w1 < μ s w) (fun f1 w1 => f1 = f ∧ Q (.exit 0) [⟨0, .pointer f.1, none⟩, ⟨1, .int .i64 f.2.1, none⟩, ⟨6, .int .i64 f.2.2, none⟩] w1)
  simp only [true_and] at e1
  exact cast e1 hb
theorem ok_heap_Heap_take_L2 : OneOk Tryz.prog Tryz.f86.ntmps G_heap_Heap_take (codeOf Tryz.f86) [false, true, false, true, true, true, true] spec_heap_Heap_take_L2 := by
 intro c hc ih Q e w a hr h
 have hcc : sub (codeOf Tryz.f86) [false, false, true, false, true, true, true, true] = c := sub_of_codeAt hc
 obtain ⟨f, s, h, hrep⟩ := dec_heap_Heap_take_L2_ok e a _ hr h
 obtain ⟨J, μ, hj, hround⟩ := h
 refine loop_rule_deep seat_ok seat_mixed ih lit_heap_Heap_take_L2 dec_heap_Heap_take_L2 dec_heap_Heap_take_L2_ok hc f J μ (Kr := fun e w => False) (Kx := fun id e w => match Nat.beq id 2 with | true => (dx_heap_Heap_take_L2_2 e fun f1 => f1 = f ∧ Q (.exit 2) [⟨6, .int .i64 f.2.2, none⟩] w) | false => False) ?_ ?_ ?_ s w a hj hrep
 ·intro e a w hr h
  exact h.elim
 ·intro id e a w hr h0
  (try dsimp only at h0)
  split at h0
  ·rename_i hid
   obtain rfl := Nat.eq_of_beq_eq_true hid
   unfold dx_heap_Heap_take_L2_2 at h0
   obtain ⟨hx_2, g0, h1⟩ := oP_elim h0
   obtain ⟨n_2, g1, h2⟩ := oI_elim h1
   obtain ⟨atx_1, g6, h3⟩ := oI_elim h2
   obtain ⟨hf, hq⟩ := h3
   subst hf
   exact ⟨_, rep_less hr (by simp [g6]), hq⟩
  ·exact h0.elim
 ·intro s w hj
  have hb := hround s w hj
  rw [← hcc]
  have e1 := body_heap_Heap_take_L2 f s w (fun f1 s1 w1 => f1 = f ∧ J s1 w1 ∧ μ s1 w1 < μ s w) (fun f1 w1 => f1 = f ∧ Q (.exit 2) [⟨6, .int .i64 f.2.2, none⟩] w1)
  simp only [true_and] at e1
  exact cast e1 hb
theorem loops_heap_Heap_take : LoopOk Tryz.prog Tryz.f86.ntmps G_heap_Heap_take (codeOf Tryz.f86) := loopOk_list rfl ⟨ok_heap_Heap_take_L1, ⟨ok_heap_Heap_take_L2, trivial⟩⟩
theorem C_heap_Heap_take.of {hx : Option Addr} {n : Int} {w : World} {R : Int → Int → World → Prop} (h : F_heap_Heap_take hx n w R) : C_heap_Heap_take hx n w R := ofS12 (Fm := F_heap_Heap_take hx n w) Tryz.func86 (by kernel_rfl) loops_heap_Heap_take rfl (fun _ => by kernel_rfl) h
def F_heap_word (tag : Int) (n : Int) (w : World) (R : Int → World → Prop) : Prop :=
 C_cell_Make tag n w fun t100 t101 w1 =>
 R t100 w1
theorem C_heap_word.of {tag : Int} {n : Int} {w : World} {R : Int → World → Prop} (h : F_heap_word tag n w R) : C_heap_word tag n w R := ofS9 (Fm := F_heap_word tag n w) Tryz.func87 (by kernel_rfl) (L0 Tryz.f87) rfl (fun _ => by kernel_rfl) h
def F_heap_Heap_compound (hx : Option Addr) (wx : Int) (i : Int) (w : World) (R : Int → Bool → World → Prop) : Prop :=
 C_heap_Heap_Deref hx wx w fun t12 w1 =>
 C_cell_Is t12 (2 : Int) w1 fun t14 w1_1 =>
 If (!t14)
 (R (0 : Int) false w1_1)
 (C_heap_Heap_fun hx t12 w1_1 fun t190 t191 w1_2 =>
 If (decide (i ≥ (1 : Int)))
 (R t12 (decide (i ≤ t191)) w1_2)
 (R t12 false w1_2))
theorem C_heap_Heap_compound.of {hx : Option Addr} {wx : Int} {i : Int} {w : World} {R : Int → Bool → World → Prop} (h : F_heap_Heap_compound hx wx i w R) : C_heap_Heap_compound hx wx i w R := ofS16 (Fm := F_heap_Heap_compound hx wx i w) Tryz.func88 (by kernel_rfl) (L0 Tryz.f88) rfl (fun _ => by kernel_rfl) h
def F_heap_ref (atx : Int) (w : World) (R : Int → World → Prop) : Prop :=
 C_heap_word (1 : Int) atx w fun t4 w1 =>
 R t4 w1
theorem C_heap_ref.of {atx : Int} {w : World} {R : Int → World → Prop} (h : F_heap_ref atx w R) : C_heap_ref atx w R := ofS9 (Fm := F_heap_ref atx w) Tryz.func89 (by kernel_rfl) (L0 Tryz.f89) rfl (fun _ => by kernel_rfl) h
def F_heap_arg (wx : Int) (i : Int) (w : World) (R : Int → World → Prop) : Prop :=
 C_cell_Number wx w fun t6 w1 =>
 R (IntKind.i64.wrap (t6 + i)) w1
theorem C_heap_arg.of {wx : Int} {i : Int} {w : World} {R : Int → World → Prop} (h : F_heap_arg wx i w R) : C_heap_arg wx i w R := ofS4 (Fm := F_heap_arg wx i w) Tryz.func90 (by kernel_rfl) (L0 Tryz.f90) rfl (fun _ => by kernel_rfl) h
structure S_ref06_large_L1 where
 i : Int
def F_ref06_large_k1 (R : Bool → World → Prop) (w1_2 : World) : Prop :=
 R true w1_2
def B_ref06_large_L1 (depth_1 : Int) (n_1 : Option Addr) (t : Addr) (s : S_ref06_large_L1) (w : World) (Kn : S_ref06_large_L1 → World → Prop) (Kx0 : World → Prop) (Kr : Bool → World → Prop) : Prop :=
 ∃ LP_1 LN_1 LC_1, w.cell? (t.add 3) = some (.slice LP_1 LN_1 LC_1) ∧
 If (decide (s.i < (LN_1 : Int)))
 (∃ LP_2 LN_2 LC_2, w.cell? (t.add 3) = some (.slice LP_2 LN_2 LC_2) ∧
 0 ≤ s.i ∧ s.i < (LN_2 : Int) ∧ NN LP_2 fun a_3 =>
 ∃ t440, w.cell? ((a_3.add (s.i.toNat * 4)).add 0) = some (.int .i64 t440) ∧
 ∃ t441, w.cell? ((a_3.add (s.i.toNat * 4)).add 1) = some (.int .i64 t441) ∧
 ∃ t442, w.cell? ((a_3.add (s.i.toNat * 4)).add 2) = some (.string t442) ∧
 ∃ t443P t443N t443C, w.cell? ((a_3.add (s.i.toNat * 4)).add 3) = some (.slice t443P t443N t443C) ∧
 C_ref06_large t440 t441 t442 t443P t443N t443C (IntKind.i64.wrap (depth_1 + (1 : Int))) n_1 w fun t48 w1_3 =>
 If t48
 (Kr true w1_3)
 (Kn ⟨(IntKind.i64.wrap (s.i + (1 : Int)))⟩ w1_3))
 (Kx0 w)
def F_ref06_large_L1 (depth_1 : Int) (n_1 : Option Addr) (t : Addr) (s : S_ref06_large_L1) (w : World) (Kx0 : World → Prop) (Kr : Bool → World → Prop) : Prop :=
 LoopS (fun s w Kn => B_ref06_large_L1 depth_1 n_1 t s w Kn Kx0 Kr) s w
def F_ref06_large (t0 : Int) (t1 : Int) (t2 : ByteArray) (t3P : Option Addr) (t3N : Nat) (t3C : Nat) (depth : Int) (n : Option Addr) (w : World) (R : Bool → World → Prop) : Prop :=
 New w (.cells #[.int .i64 t0, .int .i64 t1, .string t2, .slice t3P t3N t3C] 31) fun r w1 =>
 NN n fun a =>
 ∃ t11, (drw w1).cell? a = some (.int .i64 t11) ∧
 ∃ S, (drw w1).cell? (Addr.add ⟨r, 0, none⟩ 2) = some (.string S) ∧
 (16 : Int) ≠ 0 ∧
 NN n fun a_1 =>
 St (drw w1) (a_1.add 0) (.int .i64 (IntKind.i64.wrap ((IntKind.i64.wrap (t11 + (1 : Int))) + (IntKind.i64.wrap ((S.size : Int).tdiv (16 : Int)))))) fun w1_1 =>
 NN n fun a_2 =>
 ∃ t21, w1_1.cell? a_2 = some (.int .i64 t21) ∧
 If (decide (t21 > (6000 : Int)))
 (F_ref06_large_k1 R w1_1)
 (If (decide (depth > (300 : Int)))
 (F_ref06_large_k1 R w1_1)
 (∃ LP LN LC, w1_1.cell? (Addr.add ⟨r, 0, none⟩ 3) = some (.slice LP LN LC) ∧
 If (decide ((LN : Int) > (100 : Int)))
 (R true w1_1)
 (F_ref06_large_L1 depth n ⟨r, 0, none⟩ ⟨(0 : Int)⟩ w1_1
 (fun w1_4 =>
 R false w1_4)
 (fun t6_1 w1_5 =>
 R t6_1 w1_5))))
def lit_ref06_large_L1 (f : Int × (Option Addr) × Addr) (s : S_ref06_large_L1) : Env := [⟨1, .int .i64 f.1, none⟩, ⟨2, .pointer f.2.1, none⟩, ⟨3, .pointer (some f.2.2), none⟩, ⟨7, .int .i64 s.i, none⟩]
def dec_ref06_large_L1 (e : Env) (K : (Int × (Option Addr) × Addr) → S_ref06_large_L1 → Prop) : Prop :=
 oI e 1 .i64 fun depth_1 =>
 oP e 2 fun n_1 =>
 oA e 3 fun t =>
 oI e 7 .i64 fun i =>
  K (depth_1, n_1, t) ⟨i⟩
theorem dec_ref06_large_L1_ok {N : Nat} (e : Env) (a : Act) (K : (Int × (Option Addr) × Addr) → S_ref06_large_L1 → Prop) (hr : Rep N a e) (h0 : dec_ref06_large_L1 e K) : ∃ f s, K f s ∧ Rep N a (lit_ref06_large_L1 f s) := by
 unfold dec_ref06_large_L1 at h0
 obtain ⟨depth_1, g1, h1⟩ := oI_elim h0
 obtain ⟨n_1, g2, h2⟩ := oP_elim h1
 obtain ⟨t, g3, h3⟩ := oA_elim h2
 obtain ⟨i, g7, h4⟩ := oI_elim h3
 exact ⟨_, _, h4, rep_less hr (by simp [lit_ref06_large_L1, g1, g2, g3, g7])⟩
def spec_ref06_large_L1 (Q : Post) (e : Env) (w : World) : Prop :=
 dec_ref06_large_L1 e fun f s => F_ref06_large_L1 f.1 f.2.1 f.2.2 s w (fun w1 => Q (.exit 0) [] w1) (fun t6 w1 => Q .ret [⟨6, .bool t6, none⟩] w1)
def G_ref06_large : Gen where
 loop := lookL [([false, true, false, true, true, true], spec_ref06_large_L1)]
 plan := fun id =>
  bif Nat.beq id 1 then some ([0, 0, 2, 6, 14, 0, 32, 96, 224, 510, 1023, 2047], .take 0 (.take 1 (.take 2 (.take 3 (.take 4 (.take 5 (.take 6 (.take 7 (.take 8 (.take 9 (.take 10 (.take 11 .done)))))))))))) else none
def dx_ref06_large_L1_0 (e : Env) (K : (Int × (Option Addr) × Addr) → Prop) : Prop :=
 oI e 1 .i64 fun depth_1 =>
 oP e 2 fun n_1 =>
 oA e 3 fun t =>
  K (depth_1, n_1, t)
def dx_ref06_large_L1_ret (e : Env) (K : (Int × (Option Addr) × Addr) → Bool → Prop) : Prop :=
 oI e 1 .i64 fun depth_1 =>
 oP e 2 fun n_1 =>
 oA e 3 fun t =>
 oB e 6 fun t6 =>
  K (depth_1, n_1, t) t6
theorem body_ref06_large_L1 (f : Int × (Option Addr) × Addr) (s : S_ref06_large_L1) (w : World) (Kn : (Int × (Option Addr) × Addr) → S_ref06_large_L1 → World → Prop) (Kx0 : (Int × (Option Addr) × Addr) → World → Prop) (Kr : (Int × (Option Addr) × Addr) → Bool → World → Prop) :
  B_ref06_large_L1 f.1 f.2.1 f.2.2 s w (fun s1 w1 => Kn f s1 w1) (fun w1 => Kx0 f w1) (fun t6 w1 => Kr f t6 w1) =
  den Tryz.prog Tryz.f91.ntmps G_ref06_large (sub (codeOf Tryz.f91) [false, false, true, false, true, true, true]) [false, false, true, false, true, true, true] (roundQ (fun e w => dec_ref06_large_L1 e fun f s => Kn f s w) (fun e w => dx_ref06_large_L1_ret e fun f t6 => Kr f t6 w) (fun id e w => match Nat.beq id 0 with | true => dx_ref06_large_L1_0 e fun f => Kx0 f w | false => False)) (lit_ref06_large_L1 f s) w := by kernel_rfl
theorem ok_ref06_large_L1 : OneOk Tryz.prog Tryz.f91.ntmps G_ref06_large (codeOf Tryz.f91) [false, true, false, true, true, true] spec_ref06_large_L1 := by
 intro c hc ih Q e w a hr h
 have hcc : sub (codeOf Tryz.f91) [false, false, true, false, true, true, true] = c := sub_of_codeAt hc
 obtain ⟨f, s, h, hrep⟩ := dec_ref06_large_L1_ok e a _ hr h
 obtain ⟨J, μ, hj, hround⟩ := h
 refine loop_rule_deep seat_ok seat_mixed ih lit_ref06_large_L1 dec_ref06_large_L1 dec_ref06_large_L1_ok hc f J μ (Kr := fun e w => dx_ref06_large_L1_ret e fun f1 t6 => f1 = f ∧ Q .ret [⟨6, .bool t6, none⟩] w) (Kx := fun id e w => match Nat.beq id 0 with | true => (dx_ref06_large_L1_0 e fun f1 => f1 = f ∧ Q (.exit 0) [] w) | false => False) ?_ ?_ ?_ s w a hj hrep
 ·intro e a w hr h0
  unfold dx_ref06_large_L1_ret at h0
  obtain ⟨depth_1, g1, h1⟩ := oI_elim h0
  obtain ⟨n_1, g2, h2⟩ := oP_elim h1
  obtain ⟨t, g3, h3⟩ := oA_elim h2
  obtain ⟨t6, g6, h4⟩ := oB_elim h3
  obtain ⟨hf, hq⟩ := h4
  subst hf
  exact ⟨_, rep_less hr (by simp [g6]), hq⟩
 ·intro id e a w hr h0
  (try dsimp only at h0)
  split at h0
  ·rename_i hid
   obtain rfl := Nat.eq_of_beq_eq_true hid
   unfold dx_ref06_large_L1_0 at h0
   obtain ⟨depth_1, g1, h1⟩ := oI_elim h0
   obtain ⟨n_1, g2, h2⟩ := oP_elim h1
   obtain ⟨t, g3, h3⟩ := oA_elim h2
   obtain ⟨hf, hq⟩ := h3
   subst hf
   exact ⟨_, rep_less hr (by simp), hq⟩
  ·exact h0.elim
 ·intro s w hj
  have hb := hround s w hj
  rw [← hcc]
  have e1 := body_ref06_large_L1 f s w (fun f1 s1 w1 => f1 = f ∧ J s1 w1 ∧ μ s1 w1 < μ s w) (fun f1 w1 => f1 = f ∧ Q (.exit 0) [] w1) (fun f1 t6 w1 => f1 = f ∧ Q .ret [⟨6, .bool t6, none⟩] w1)
  simp only [true_and] at e1
  exact cast e1 hb
theorem loops_ref06_large : LoopOk Tryz.prog Tryz.f91.ntmps G_ref06_large (codeOf Tryz.f91) := loopOk_list rfl ⟨ok_ref06_large_L1, trivial⟩
theorem C_ref06_large.of {t0 : Int} {t1 : Int} {t2 : ByteArray} {t3P : Option Addr} {t3N : Nat} {t3C : Nat} {depth : Int} {n : Option Addr} {w : World} {R : Bool → World → Prop} (h : F_ref06_large t0 t1 t2 t3P t3N t3C depth n w R) : C_ref06_large t0 t1 t2 t3P t3N t3C depth n w R := ofS2 (Fm := F_ref06_large t0 t1 t2 t3P t3N t3C depth n w) Tryz.func91 (by kernel_rfl) loops_ref06_large rfl (fun _ => by kernel_rfl) h
def F_cell_Is (wx : Int) (tag : Int) (w : World) (R : Bool → World → Prop) : Prop :=
 If (decide (tag > (0 : Int)))
 (C_cell_Tag wx w fun t9 w1 =>
 R (t9 == tag) w1)
 (R false w)
theorem C_cell_Is.of {wx : Int} {tag : Int} {w : World} {R : Bool → World → Prop} (h : F_cell_Is wx tag w R) : C_cell_Is wx tag w R := ofS2 (Fm := F_cell_Is wx tag w) Tryz.func93 (by kernel_rfl) (L0 Tryz.f93) rfl (fun _ => by kernel_rfl) h
structure S_heap_Heap_reach_L1 where
 i : Int
def B_heap_Heap_reach_L1 (hx_1 : Option Addr) (wx_1 : Int) (x_1 : Int) (seen_1 : Option Nat) (arity : Int) (s : S_heap_Heap_reach_L1) (w : World) (Kn : S_heap_Heap_reach_L1 → World → Prop) (Kx1 : World → Prop) (Kr : Bool → World → Prop) : Prop :=
 If (decide (s.i ≤ arity))
 (C_heap_arg x_1 s.i w fun t45 w1_5 =>
 C_heap_ref t45 w1_5 fun t46 w1_6 =>
 C_heap_Heap_reach hx_1 wx_1 t46 seen_1 w1_6 fun t48 w1_7 =>
 If t48
 (Kr true w1_7)
 (Kn ⟨(IntKind.i64.wrap (s.i + (1 : Int)))⟩ w1_7))
 (Kx1 w)
def F_heap_Heap_reach_L1 (hx_1 : Option Addr) (wx_1 : Int) (x_1 : Int) (seen_1 : Option Nat) (arity : Int) (s : S_heap_Heap_reach_L1) (w : World) (Kx1 : World → Prop) (Kr : Bool → World → Prop) : Prop :=
 LoopS (fun s w Kn => B_heap_Heap_reach_L1 hx_1 wx_1 x_1 seen_1 arity s w Kn Kx1 Kr) s w
def F_heap_Heap_reach (hx : Option Addr) (wx : Int) (x : Int) (seen : Option Nat) (w : World) (R : Bool → World → Prop) : Prop :=
 C_heap_Heap_deref hx x w fun t14 w1 =>
 If (t14 == wx)
 (R true w1)
 (C_cell_Is t14 (2 : Int) w1 fun t21 w1_1 =>
 If (!t21)
 (R false w1_1)
 (Run Tryz.prog (Instr.lookup 139 (.map seen) (.int .u64 t14) false) w1_1 fun v w1_2 => ∃ t26 : Bool, v = (.bool t26) ∧
 If t26
 (R false w1_2)
 (MUp Tryz.prog 139 (.map seen) (.int .u64 t14) (.bool true) w1_2 fun w1_3 =>
 C_heap_Heap_fun hx t14 w1_3 fun t330 t331 w1_4 =>
 F_heap_Heap_reach_L1 hx wx t14 seen t331 ⟨(1 : Int)⟩ w1_4
 (fun w1_8 =>
 R false w1_8)
 (fun t8_1 w1_9 =>
 R t8_1 w1_9))))
def lit_heap_Heap_reach_L1 (f : (Option Addr) × Int × Int × (Option Nat) × Int) (s : S_heap_Heap_reach_L1) : Env := [⟨0, .pointer f.1, none⟩, ⟨1, .int .u64 f.2.1, none⟩, ⟨2, .int .u64 f.2.2.1, none⟩, ⟨3, .map f.2.2.2.1, none⟩, ⟨10, .int .i64 f.2.2.2.2, none⟩, ⟨11, .int .i64 s.i, none⟩]
def dec_heap_Heap_reach_L1 (e : Env) (K : ((Option Addr) × Int × Int × (Option Nat) × Int) → S_heap_Heap_reach_L1 → Prop) : Prop :=
 oP e 0 fun hx_1 =>
 oI e 1 .u64 fun wx_1 =>
 oI e 2 .u64 fun x_1 =>
 oM e 3 fun seen_1 =>
 oI e 10 .i64 fun arity =>
 oI e 11 .i64 fun i =>
  K (hx_1, wx_1, x_1, seen_1, arity) ⟨i⟩
theorem dec_heap_Heap_reach_L1_ok {N : Nat} (e : Env) (a : Act) (K : ((Option Addr) × Int × Int × (Option Nat) × Int) → S_heap_Heap_reach_L1 → Prop) (hr : Rep N a e) (h0 : dec_heap_Heap_reach_L1 e K) : ∃ f s, K f s ∧ Rep N a (lit_heap_Heap_reach_L1 f s) := by
 unfold dec_heap_Heap_reach_L1 at h0
 obtain ⟨hx_1, g0, h1⟩ := oP_elim h0
 obtain ⟨wx_1, g1, h2⟩ := oI_elim h1
 obtain ⟨x_1, g2, h3⟩ := oI_elim h2
 obtain ⟨seen_1, g3, h4⟩ := oM_elim h3
 obtain ⟨arity, g10, h5⟩ := oI_elim h4
 obtain ⟨i, g11, h6⟩ := oI_elim h5
 exact ⟨_, _, h6, rep_less hr (by simp [lit_heap_Heap_reach_L1, g0, g1, g2, g3, g10, g11])⟩
def spec_heap_Heap_reach_L1 (Q : Post) (e : Env) (w : World) : Prop :=
 dec_heap_Heap_reach_L1 e fun f s => F_heap_Heap_reach_L1 f.1 f.2.1 f.2.2.1 f.2.2.2.1 f.2.2.2.2 s w (fun w1 => Q (.exit 1) [] w1) (fun t8 w1 => Q .ret [⟨8, .bool t8, none⟩] w1)
def G_heap_Heap_reach : Gen where
 loop := lookL [([false, true, false, true, true, true, true, true], spec_heap_Heap_reach_L1)]
 plan := fun _ => none
def dx_heap_Heap_reach_L1_1 (e : Env) (K : ((Option Addr) × Int × Int × (Option Nat) × Int) → Prop) : Prop :=
 oP e 0 fun hx_1 =>
 oI e 1 .u64 fun wx_1 =>
 oI e 2 .u64 fun x_1 =>
 oM e 3 fun seen_1 =>
 oI e 10 .i64 fun arity =>
  K (hx_1, wx_1, x_1, seen_1, arity)
def dx_heap_Heap_reach_L1_ret (e : Env) (K : ((Option Addr) × Int × Int × (Option Nat) × Int) → Bool → Prop) : Prop :=
 oP e 0 fun hx_1 =>
 oI e 1 .u64 fun wx_1 =>
 oI e 2 .u64 fun x_1 =>
 oM e 3 fun seen_1 =>
 oI e 10 .i64 fun arity =>
 oB e 8 fun t8 =>
  K (hx_1, wx_1, x_1, seen_1, arity) t8
theorem body_heap_Heap_reach_L1 (f : (Option Addr) × Int × Int × (Option Nat) × Int) (s : S_heap_Heap_reach_L1) (w : World) (Kn : ((Option Addr) × Int × Int × (Option Nat) × Int) → S_heap_Heap_reach_L1 → World → Prop) (Kx1 : ((Option Addr) × Int × Int × (Option Nat) × Int) → World → Prop) (Kr : ((Option Addr) × Int × Int × (Option Nat) × Int) → Bool → World → Prop) :
  B_heap_Heap_reach_L1 f.1 f.2.1 f.2.2.1 f.2.2.2.1 f.2.2.2.2 s w (fun s1 w1 => Kn f s1 w1) (fun w1 => Kx1 f w1) (fun t8 w1 => Kr f t8 w1) =
  den Tryz.prog Tryz.f94.ntmps G_heap_Heap_reach (sub (codeOf Tryz.f94) [false, false, true, false, true, true, true, true, true]) [false, false, true, false, true, true, true, true, true] (roundQ (fun e w => dec_heap_Heap_reach_L1 e fun f s => Kn f s w) (fun e w => dx_heap_Heap_reach_L1_ret e fun f t8 => Kr f t8 w) (fun id e w => match Nat.beq id 1 with | true => dx_heap_Heap_reach_L1_1 e fun f => Kx1 f w | false => False)) (lit_heap_Heap_reach_L1 f s) w := by kernel_rfl
theorem ok_heap_Heap_reach_L1 : OneOk Tryz.prog Tryz.f94.ntmps G_heap_Heap_reach (codeOf Tryz.f94) [false, true, false, true, true, true, true, true] spec_heap_Heap_reach_L1 := by
 intro c hc ih Q e w a hr h
 have hcc : sub (codeOf Tryz.f94) [false, false, true, false, true, true, true, true, true] = c := sub_of_codeAt hc
 obtain ⟨f, s, h, hrep⟩ := dec_heap_Heap_reach_L1_ok e a _ hr h
 obtain ⟨J, μ, hj, hround⟩ := h
 refine loop_rule_deep seat_ok seat_mixed ih lit_heap_Heap_reach_L1 dec_heap_Heap_reach_L1 dec_heap_Heap_reach_L1_ok hc f J μ (Kr := fun e w => dx_heap_Heap_reach_L1_ret e fun f1 t8 => f1 = f ∧ Q .ret [⟨8, .bool t8, none⟩] w) (Kx := fun id e w => match Nat.beq id 1 with | true => (dx_heap_Heap_reach_L1_1 e fun f1 => f1 = f ∧ Q (.exit 1) [] w) | false => False) ?_ ?_ ?_ s w a hj hrep
 ·intro e a w hr h0
  unfold dx_heap_Heap_reach_L1_ret at h0
  obtain ⟨hx_1, g0, h1⟩ := oP_elim h0
  obtain ⟨wx_1, g1, h2⟩ := oI_elim h1
  obtain ⟨x_1, g2, h3⟩ := oI_elim h2
  obtain ⟨seen_1, g3, h4⟩ := oM_elim h3
  obtain ⟨arity, g10, h5⟩ := oI_elim h4
  obtain ⟨t8, g8, h6⟩ := oB_elim h5
  obtain ⟨hf, hq⟩ := h6
  subst hf
  exact ⟨_, rep_less hr (by simp [g8]), hq⟩
 ·intro id e a w hr h0
  (try dsimp only at h0)
  split at h0
  ·rename_i hid
   obtain rfl := Nat.eq_of_beq_eq_true hid
   unfold dx_heap_Heap_reach_L1_1 at h0
   obtain ⟨hx_1, g0, h1⟩ := oP_elim h0
   obtain ⟨wx_1, g1, h2⟩ := oI_elim h1
   obtain ⟨x_1, g2, h3⟩ := oI_elim h2
   obtain ⟨seen_1, g3, h4⟩ := oM_elim h3
   obtain ⟨arity, g10, h5⟩ := oI_elim h4
   obtain ⟨hf, hq⟩ := h5
   subst hf
   exact ⟨_, rep_less hr (by simp), hq⟩
  ·exact h0.elim
 ·intro s w hj
  have hb := hround s w hj
  rw [← hcc]
  have e1 := body_heap_Heap_reach_L1 f s w (fun f1 s1 w1 => f1 = f ∧ J s1 w1 ∧ μ s1 w1 < μ s w) (fun f1 w1 => f1 = f ∧ Q (.exit 1) [] w1) (fun f1 t8 w1 => f1 = f ∧ Q .ret [⟨8, .bool t8, none⟩] w1)
  simp only [true_and] at e1
  exact cast e1 hb
theorem loops_heap_Heap_reach : LoopOk Tryz.prog Tryz.f94.ntmps G_heap_Heap_reach (codeOf Tryz.f94) := loopOk_list rfl ⟨ok_heap_Heap_reach_L1, trivial⟩
theorem C_heap_Heap_reach.of {hx : Option Addr} {wx : Int} {x : Int} {seen : Option Nat} {w : World} {R : Bool → World → Prop} (h : F_heap_Heap_reach hx wx x seen w R) : C_heap_Heap_reach hx wx x seen w R := ofS2 (Fm := F_heap_Heap_reach hx wx x seen w) Tryz.func94 (by kernel_rfl) loops_heap_Heap_reach rfl (fun _ => by kernel_rfl) h
def F_heap_unbound (wx : Int) (w : World) (R : Bool → World → Prop) : Prop :=
 C_cell_Is wx (1 : Int) w fun t4 w1 =>
 R t4 w1
theorem C_heap_unbound.of {wx : Int} {w : World} {R : Bool → World → Prop} (h : F_heap_unbound wx w R) : C_heap_unbound wx w R := ofS2 (Fm := F_heap_unbound wx w) Tryz.func95 (by kernel_rfl) (L0 Tryz.f95) rfl (fun _ => by kernel_rfl) h
def F_heap_Heap_bind_k1 (hx : Option Addr) (x : Int) (R : Bool → Int → World → Prop) (t23 : Int) (w1_6 : World) : Prop :=
 NN hx fun a_4 =>
 ∃ cellsP cellsN cellsC, w1_6.cell? (a_4.add 4) = some (.slice cellsP cellsN cellsC) ∧
 0 ≤ t23 ∧ t23 < (cellsN : Int) ∧ NN cellsP fun a_5 =>
 St w1_6 ((a_5.add (t23.toNat * 1)).add 0) (.int .u64 x) fun w1_7 =>
 R true (0 : Int) w1_7
def F_heap_Heap_bind_k2 (hx : Option Addr) (wx : Int) (x : Int) (R : Bool → Int → World → Prop) (w1_3 : World) : Prop :=
 C_cell_Number wx w1_3 fun t23 w1_4 =>
 NN hx fun a =>
 ∃ startsP startsN startsC, (drw w1_4).cell? (a.add 5) = some (.slice startsP startsN startsC) ∧
 NN hx fun a_1 =>
 ∃ startsP_1 startsN_1 startsC_1, (drw w1_4).cell? (a_1.add 5) = some (.slice startsP_1 startsN_1 startsC_1) ∧
 0 ≤ (IntKind.i64.wrap ((startsN_1 : Int) - (1 : Int))) ∧ (IntKind.i64.wrap ((startsN_1 : Int) - (1 : Int))) < (startsN : Int) ∧ NN startsP fun a_2 =>
 ∃ t36, (drw w1_4).cell? (a_2.add ((IntKind.i64.wrap ((startsN_1 : Int) - (1 : Int))).toNat * 1)) = some (.int .i64 t36) ∧
 If (decide (t23 < t36))
 (NN hx fun a_3 =>
 ∃ trail, (drw w1_4).cell? (a_3.add 1) = some (.pointer trail) ∧
 C_room_Room_Push trail (IntKind.u64.wrap t23) (drw w1_4) fun t44 w1_5 =>
 If (t44 != (0 : Int))
 (R false t44 w1_5)
 (F_heap_Heap_bind_k1 hx x R t23 w1_5))
 (F_heap_Heap_bind_k1 hx x R t23 (drw w1_4))
def F_heap_Heap_bind (hx : Option Addr) (wx : Int) (x : Int) (w : World) (R : Bool → Int → World → Prop) : Prop :=
 If (wx == x)
 (R true (0 : Int) w)
 (C_cell_Is x (2 : Int) w fun t14 w1 =>
 If t14
 (New w1 (.map #[] 0) fun r w1_1 =>
 C_heap_Heap_reach hx wx x (some r) w1_1 fun t20 w1_2 =>
 If t20
 (R false (0 : Int) w1_2)
 (F_heap_Heap_bind_k2 hx wx x R w1_2))
 (F_heap_Heap_bind_k2 hx wx x R w1))
def G_heap_Heap_bind : Gen where
 loop := lookL []
 plan := fun id =>
  bif Nat.beq id 6 then some ([0, 0, 2, 6, 14, 0, 32, 96, 224, 480, 992, 2046, 4094, 8191], .take 0 (.take 1 (.take 2 (.take 3 (.take 4 (.take 5 (.take 6 (.take 7 (.take 8 (.take 9 (.take 10 (.take 11 (.take 12 (.take 13 .done)))))))))))))) else none
theorem C_heap_Heap_bind.of {hx : Option Addr} {wx : Int} {x : Int} {w : World} {R : Bool → Int → World → Prop} (h : F_heap_Heap_bind hx wx x w R) : C_heap_Heap_bind hx wx x w R := ofS11 (Fm := F_heap_Heap_bind hx wx x w) Tryz.func96 (by kernel_rfl) (L1 G_heap_Heap_bind Tryz.f96 fun _ => rfl) rfl (fun _ => by kernel_rfl) h
structure S_heap_matcher_unify_L1 where
 i : Int
def F_heap_matcher_unify_k1 (R : Bool → World → Prop) (w1_10 : World) : Prop :=
 R false w1_10
def B_heap_matcher_unify_L1 (m_1 : Option Addr) (a_12 : Int) (b_1 : Int) (arity : Int) (s : S_heap_matcher_unify_L1) (w : World) (Kn : S_heap_matcher_unify_L1 → World → Prop) (Kx1 : World → Prop) (Kr : Bool → World → Prop) : Prop :=
 If (decide (s.i ≤ arity))
 (C_heap_arg a_12 s.i w fun t106 w1_17 =>
 C_heap_ref t106 w1_17 fun t107 w1_18 =>
 C_heap_arg b_1 s.i w1_18 fun t110 w1_19 =>
 C_heap_ref t110 w1_19 fun t111 w1_20 =>
 C_heap_matcher_unify m_1 t107 t111 w1_20 fun t112 w1_21 =>
 If (!t112)
 (Kr false w1_21)
 (Kn ⟨(IntKind.i64.wrap (s.i + (1 : Int)))⟩ w1_21))
 (Kx1 w)
def F_heap_matcher_unify_L1 (m_1 : Option Addr) (a_12 : Int) (b_1 : Int) (arity : Int) (s : S_heap_matcher_unify_L1) (w : World) (Kx1 : World → Prop) (Kr : Bool → World → Prop) : Prop :=
 LoopS (fun s w Kn => B_heap_matcher_unify_L1 m_1 a_12 b_1 arity s w Kn Kx1 Kr) s w
def F_heap_matcher_unify (m : Option Addr) (a : Int) (b : Int) (w : World) (R : Bool → World → Prop) : Prop :=
 NN m fun a_1 =>
 ∃ hx, (drw w).cell? (a_1.add 0) = some (.pointer hx) ∧
 NN m fun a_2 =>
 ∃ hx_1, (drw w).cell? (a_2.add 0) = some (.pointer hx_1) ∧
 C_heap_Heap_deref hx a (drw w) fun t16 w1 =>
 w1.cell? (a_2.add 0) = (drw w).cell? (a_2.add 0) ∧
 C_heap_Heap_deref hx_1 b w1 fun t22 w1_1 =>
 If (t16 == t22)
 (R true w1_1)
 (C_heap_unbound t16 w1_1 fun t29 w1_2 =>
 If t29
 (C_heap_matcher_bind m t16 t22 w1_2 fun t33 w1_3 =>
 R t33 w1_3)
 (C_heap_unbound t22 w1_2 fun t36 w1_4 =>
 If t36
 (C_heap_matcher_bind m t22 t16 w1_4 fun t40 w1_5 =>
 R t40 w1_5)
 (C_cell_Is t16 (2 : Int) (drw w1_4) fun t43 w1_6 =>
 If (!t43)
 (F_heap_matcher_unify_k1 R w1_6)
 (C_cell_Is t22 (2 : Int) w1_6 fun t47 w1_7 =>
 If (!t47)
 (F_heap_matcher_unify_k1 R w1_7)
 (NN m fun a_3 =>
 ∃ hx_2, w1_7.cell? (a_3.add 0) = some (.pointer hx_2) ∧
 NN hx_2 fun a_4 =>
 ∃ cellsP cellsN cellsC, w1_7.cell? (a_4.add 4) = some (.slice cellsP cellsN cellsC) ∧
 NN m fun a_5 =>
 ∃ hx_3, w1_7.cell? (a_5.add 0) = some (.pointer hx_3) ∧
 NN hx_3 fun a_6 =>
 ∃ cellsP_1 cellsN_1 cellsC_1, w1_7.cell? (a_6.add 4) = some (.slice cellsP_1 cellsN_1 cellsC_1) ∧
 C_cell_Number t16 w1_7 fun t59 w1_8 =>
 w1_8.cell? (a_6.add 4) = w1_7.cell? (a_6.add 4) ∧
 w1_8.cell? (a_5.add 0) = w1_7.cell? (a_5.add 0) ∧
 w1_8.cell? (a_4.add 4) = w1_7.cell? (a_4.add 4) ∧
 w1_8.cell? (a_3.add 0) = w1_7.cell? (a_3.add 0) ∧
 0 ≤ t59 ∧ t59 < (cellsN : Int) ∧ NN cellsP fun a_7 =>
 ∃ t61, w1_8.cell? (a_7.add (t59.toNat * 1)) = some (.int .u64 t61) ∧
 C_cell_Number t22 w1_8 fun t70 w1_9 =>
 w1_9.cell? (a_7.add (t59.toNat * 1)) = w1_8.cell? (a_7.add (t59.toNat * 1)) ∧
 w1_9.cell? (a_6.add 4) = w1_7.cell? (a_6.add 4) ∧
 w1_9.cell? (a_5.add 0) = w1_7.cell? (a_5.add 0) ∧
 w1_9.cell? (a_4.add 4) = w1_7.cell? (a_4.add 4) ∧
 w1_9.cell? (a_3.add 0) = w1_7.cell? (a_3.add 0) ∧
 0 ≤ t70 ∧ t70 < (cellsN_1 : Int) ∧ NN cellsP_1 fun a_8 =>
 ∃ t72, w1_9.cell? (a_8.add (t70.toNat * 1)) = some (.int .u64 t72) ∧
 If (t61 != t72)
 (R false w1_9)
 (New w1_9 (.cells #[.int .u64 0, .int .u64 0] 208) fun r w1_11 =>
 St w1_11 (Addr.add ⟨r, 0, none⟩ 0) (.int .u64 t16) fun w1_12 =>
 St w1_12 (Addr.add ⟨r, 0, none⟩ 1) (.int .u64 t22) fun w1_13 =>
 NN m fun a_9 =>
 ∃ seen, (drw w1_13).cell? (a_9.add 1) = some (.map seen) ∧
 ∃ t820, (drw w1_13).cell? (Addr.add ⟨r, 0, none⟩ 0) = some (.int .u64 t820) ∧
 ∃ t821, (drw w1_13).cell? (Addr.add ⟨r, 0, none⟩ 1) = some (.int .u64 t821) ∧
 Run Tryz.prog (Instr.lookup 141 (.map seen) (.agg #[.int .u64 t820, .int .u64 t821]) false) (drw w1_13) fun v w1_14 => ∃ t83 : Bool, v = (.bool t83) ∧
 If t83
 (R true w1_14)
 (NN m fun a_10 =>
 ∃ seen_1, (drw w1_14).cell? (a_10.add 1) = some (.map seen_1) ∧
 ∃ t880, (drw w1_14).cell? (Addr.add ⟨r, 0, none⟩ 0) = some (.int .u64 t880) ∧
 ∃ t881, (drw w1_14).cell? (Addr.add ⟨r, 0, none⟩ 1) = some (.int .u64 t881) ∧
 MUp Tryz.prog 141 (.map seen_1) (.agg #[.int .u64 t880, .int .u64 t881]) (.bool true) (drw w1_14) fun w1_15 =>
 NN m fun a_11 =>
 ∃ hx_4, w1_15.cell? (a_11.add 0) = some (.pointer hx_4) ∧
 C_heap_Heap_fun hx_4 t16 w1_15 fun t950 t951 w1_16 =>
 F_heap_matcher_unify_L1 m t16 t22 t951 ⟨(1 : Int)⟩ w1_16
 (fun w1_22 =>
 R true w1_22)
 (fun t6_1 w1_23 =>
 R t6_1 w1_23))))))))
def lit_heap_matcher_unify_L1 (f : (Option Addr) × Int × Int × Int) (s : S_heap_matcher_unify_L1) : Env := [⟨0, .pointer f.1, none⟩, ⟨1, .int .u64 f.2.1, none⟩, ⟨2, .int .u64 f.2.2.1, none⟩, ⟨9, .int .i64 f.2.2.2, none⟩, ⟨10, .int .i64 s.i, none⟩]
def dec_heap_matcher_unify_L1 (e : Env) (K : ((Option Addr) × Int × Int × Int) → S_heap_matcher_unify_L1 → Prop) : Prop :=
 oP e 0 fun m_1 =>
 oI e 1 .u64 fun a_12 =>
 oI e 2 .u64 fun b_1 =>
 oI e 9 .i64 fun arity =>
 oI e 10 .i64 fun i =>
  K (m_1, a_12, b_1, arity) ⟨i⟩
theorem dec_heap_matcher_unify_L1_ok {N : Nat} (e : Env) (a : Act) (K : ((Option Addr) × Int × Int × Int) → S_heap_matcher_unify_L1 → Prop) (hr : Rep N a e) (h0 : dec_heap_matcher_unify_L1 e K) : ∃ f s, K f s ∧ Rep N a (lit_heap_matcher_unify_L1 f s) := by
 unfold dec_heap_matcher_unify_L1 at h0
 obtain ⟨m_1, g0, h1⟩ := oP_elim h0
 obtain ⟨a_12, g1, h2⟩ := oI_elim h1
 obtain ⟨b_1, g2, h3⟩ := oI_elim h2
 obtain ⟨arity, g9, h4⟩ := oI_elim h3
 obtain ⟨i, g10, h5⟩ := oI_elim h4
 exact ⟨_, _, h5, rep_less hr (by simp [lit_heap_matcher_unify_L1, g0, g1, g2, g9, g10])⟩
def spec_heap_matcher_unify_L1 (Q : Post) (e : Env) (w : World) : Prop :=
 dec_heap_matcher_unify_L1 e fun f s => F_heap_matcher_unify_L1 f.1 f.2.1 f.2.2.1 f.2.2.2 s w (fun w1 => Q (.exit 1) [] w1) (fun t6 w1 => Q .ret [⟨6, .bool t6, none⟩] w1)
def G_heap_matcher_unify : Gen where
 loop := lookL [([false, true, false, true, true, true, true, true, true, true], spec_heap_matcher_unify_L1)]
 plan := fun id =>
  bif Nat.beq id 1 then some ([0, 1, 3, 7, 0, 31, 0, 64, 192, 448, 0, 2047, 4095, 8191], .take 0 (.take 1 (.take 2 (.take 3 (.take 4 (.take 6 (.take 7 (.take 8 (.take 9 (.take 10 (.take 5 (.take 11 (.take 12 (.take 13 .done)))))))))))))) else
  bif Nat.beq id 8 then some ([0, 1, 3, 7, 15, 31, 63, 127, 255, 511, 1023, 2047, 4095, 8191, 16383, 32767, 511, 66047, 262143, 524287, 511, 1049087, 3146239, 7340543, 15729151, 32506367, 66060799, 511, 134414847, 536019455, 1072890367, 2147483647, 4294967295, 8589934591], .take 0 (.take 1 (.take 2 (.take 3 (.take 4 (.take 5 (.take 6 (.take 7 (.take 8 (.take 9 (.take 10 (.take 11 (.take 12 (.take 13 (.take 14 (.take 15 (.take 16 (.take 20 (.take 21 (.take 22 (.take 23 (.take 24 (.take 25 (.take 26 (.take 27 (.take 17 (.take 18 (.take 19 (.take 28 (.take 29 (.take 30 (.take 31 (.take 32 (.take 33 .done)))))))))))))))))))))))))))))))))) else
  bif Nat.beq id 11 || Nat.beq id 13 then some ([0, 1, 3, 7, 0, 31], .take 0 (.take 1 (.take 2 (.take 3 (.take 4 (.take 5 .done)))))) else none
def dx_heap_matcher_unify_L1_1 (e : Env) (K : ((Option Addr) × Int × Int × Int) → Prop) : Prop :=
 oP e 0 fun m_1 =>
 oI e 1 .u64 fun a_12 =>
 oI e 2 .u64 fun b_1 =>
 oI e 9 .i64 fun arity =>
  K (m_1, a_12, b_1, arity)
def dx_heap_matcher_unify_L1_ret (e : Env) (K : ((Option Addr) × Int × Int × Int) → Bool → Prop) : Prop :=
 oP e 0 fun m_1 =>
 oI e 1 .u64 fun a_12 =>
 oI e 2 .u64 fun b_1 =>
 oI e 9 .i64 fun arity =>
 oB e 6 fun t6 =>
  K (m_1, a_12, b_1, arity) t6
theorem body_heap_matcher_unify_L1 (f : (Option Addr) × Int × Int × Int) (s : S_heap_matcher_unify_L1) (w : World) (Kn : ((Option Addr) × Int × Int × Int) → S_heap_matcher_unify_L1 → World → Prop) (Kx1 : ((Option Addr) × Int × Int × Int) → World → Prop) (Kr : ((Option Addr) × Int × Int × Int) → Bool → World → Prop) :
  B_heap_matcher_unify_L1 f.1 f.2.1 f.2.2.1 f.2.2.2 s w (fun s1 w1 => Kn f s1 w1) (fun w1 => Kx1 f w1) (fun t6 w1 => Kr f t6 w1) =
  den Tryz.prog Tryz.f97.ntmps G_heap_matcher_unify (sub (codeOf Tryz.f97) [false, false, true, false, true, true, true, true, true, true, true]) [false, false, true, false, true, true, true, true, true, true, true] (roundQ (fun e w => dec_heap_matcher_unify_L1 e fun f s => Kn f s w) (fun e w => dx_heap_matcher_unify_L1_ret e fun f t6 => Kr f t6 w) (fun id e w => match Nat.beq id 1 with | true => dx_heap_matcher_unify_L1_1 e fun f => Kx1 f w | false => False)) (lit_heap_matcher_unify_L1 f s) w := by kernel_rfl
theorem ok_heap_matcher_unify_L1 : OneOk Tryz.prog Tryz.f97.ntmps G_heap_matcher_unify (codeOf Tryz.f97) [false, true, false, true, true, true, true, true, true, true] spec_heap_matcher_unify_L1 := by
 intro c hc ih Q e w a hr h
 have hcc : sub (codeOf Tryz.f97) [false, false, true, false, true, true, true, true, true, true, true] = c := sub_of_codeAt hc
 obtain ⟨f, s, h, hrep⟩ := dec_heap_matcher_unify_L1_ok e a _ hr h
 obtain ⟨J, μ, hj, hround⟩ := h
 refine loop_rule_deep seat_ok seat_mixed ih lit_heap_matcher_unify_L1 dec_heap_matcher_unify_L1 dec_heap_matcher_unify_L1_ok hc f J μ (Kr := fun e w => dx_heap_matcher_unify_L1_ret e fun f1 t6 => f1 = f ∧ Q .ret [⟨6, .bool t6, none⟩] w) (Kx := fun id e w => match Nat.beq id 1 with | true => (dx_heap_matcher_unify_L1_1 e fun f1 => f1 = f ∧ Q (.exit 1) [] w) | false => False) ?_ ?_ ?_ s w a hj hrep
 ·intro e a w hr h0
  unfold dx_heap_matcher_unify_L1_ret at h0
  obtain ⟨m_1, g0, h1⟩ := oP_elim h0
  obtain ⟨a_12, g1, h2⟩ := oI_elim h1
  obtain ⟨b_1, g2, h3⟩ := oI_elim h2
  obtain ⟨arity, g9, h4⟩ := oI_elim h3
  obtain ⟨t6, g6, h5⟩ := oB_elim h4
  obtain ⟨hf, hq⟩ := h5
  subst hf
  exact ⟨_, rep_less hr (by simp [g6]), hq⟩
 ·intro id e a w hr h0
  (try dsimp only at h0)
  split at h0
  ·rename_i hid
   obtain rfl := Nat.eq_of_beq_eq_true hid
   unfold dx_heap_matcher_unify_L1_1 at h0
   obtain ⟨m_1, g0, h1⟩ := oP_elim h0
   obtain ⟨a_12, g1, h2⟩ := oI_elim h1
   obtain ⟨b_1, g2, h3⟩ := oI_elim h2
   obtain ⟨arity, g9, h4⟩ := oI_elim h3
   obtain ⟨hf, hq⟩ := h4
   subst hf
   exact ⟨_, rep_less hr (by simp), hq⟩
  ·exact h0.elim
 ·intro s w hj
  have hb := hround s w hj
  rw [← hcc]
  have e1 := body_heap_matcher_unify_L1 f s w (fun f1 s1 w1 => f1 = f ∧ J s1 w1 ∧ μ s1 w1 < μ s w) (fun f1 w1 => f1 = f ∧ Q (.exit 1) [] w1) (fun f1 t6 w1 => f1 = f ∧ Q .ret [⟨6, .bool t6, none⟩] w1)
  simp only [true_and] at e1
  exact cast e1 hb
theorem loops_heap_matcher_unify : LoopOk Tryz.prog Tryz.f97.ntmps G_heap_matcher_unify (codeOf Tryz.f97) := loopOk_list rfl ⟨ok_heap_matcher_unify_L1, trivial⟩
theorem C_heap_matcher_unify.of {m : Option Addr} {a : Int} {b : Int} {w : World} {R : Bool → World → Prop} (h : F_heap_matcher_unify m a b w R) : C_heap_matcher_unify m a b w R := ofS2 (Fm := F_heap_matcher_unify m a b w) Tryz.func97 (by kernel_rfl) loops_heap_matcher_unify rfl (fun _ => by kernel_rfl) h
end Go.Proofs.YtdaenijbokialaaGreat
