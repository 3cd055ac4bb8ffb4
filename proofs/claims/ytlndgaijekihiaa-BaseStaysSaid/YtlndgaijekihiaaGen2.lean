import Derived.Test.YtlndgaijekihiaaGenC
set_option maxRecDepth 100000
set_option linter.unusedVariables false
namespace Go.Proofs.Ytlndgaijekihiaa
open Go Go.D Go.Proofs
def F_base_New (limitx : Int) (w : World) (R : Option Addr → Int → World → Prop) : Prop :=
 If (decide (limitx < (1 : Int)))
 (R none (1 : Int) w)
 (If (decide (limitx > (16384 : Int)))
 (R none (1 : Int) w)
 (New w (.map #[] 0) fun r w1 =>
 New w1 (.cells #[.int .i64 limitx, .int .i64 0, .slice none 0 0, .slice none 0 0, .map (some r)] 75) fun r_1 w1_1 =>
 R (some ⟨r_1, 0, none⟩) (0 : Int) w1_1))
theorem C_base_New.of {limitx : Int} {w : World} {R : Option Addr → Int → World → Prop} (h : F_base_New limitx w R) : C_base_New limitx w R := ofS3 (Fm := F_base_New limitx w) Try.func7 (by kernel_rfl) (L0 Try.f7) rfl (fun _ => by kernel_rfl) h
def F_base_Base_Add_k1 (b : Option Addr) (codeP : Option Addr) (codeN : Nat) (codeC : Nat) (front : Bool) (R : Int → Int → World → Prop) (r : Nat) (t310 : Int) (t : Option Addr) (w1_12 : World) : Prop :=
 ∃ Head0_1, w1_12.cell? ((Addr.add ⟨r, 0, none⟩ 0).add 0) = some (.int .i64 Head0_1) ∧
 ∃ Head1_1, w1_12.cell? ((Addr.add ⟨r, 0, none⟩ 0).add 1) = some (.int .i64 Head1_1) ∧
 ∃ Head2_1, w1_12.cell? ((Addr.add ⟨r, 0, none⟩ 0).add 2) = some (.string Head2_1) ∧
 ∃ Head3P_1 Head3N_1 Head3C_1, w1_12.cell? ((Addr.add ⟨r, 0, none⟩ 0).add 3) = some (.slice Head3P_1 Head3N_1 Head3C_1) ∧
 C_index_First Head0_1 Head1_1 Head2_1 Head3P_1 Head3N_1 Head3C_1 w1_12 fun t630 t631 t632 w1_13 =>
 C_index_Table_Add t t310 t630 t631 t632 front w1_13 fun t65 w1_14 =>
 NN b fun a_2 =>
 ∃ generation, w1_14.cell? (a_2.add 1) = some (.int .i64 generation) ∧
 NN b fun a_3 =>
 St w1_14 ((a_3.add 1).add 0) (.int .i64 (IntKind.i64.wrap (generation + (1 : Int)))) fun w1_15 =>
 ∃ t750, (drw w1_15).cell? (Addr.add ⟨r, 0, none⟩ 0) = some (.int .i64 t750) ∧
 ∃ t751, (drw w1_15).cell? (Addr.add ⟨r, 0, none⟩ 1) = some (.int .i64 t751) ∧
 ∃ t752, (drw w1_15).cell? (Addr.add ⟨r, 0, none⟩ 2) = some (.string t752) ∧
 ∃ t753P t753N t753C, (drw w1_15).cell? (Addr.add ⟨r, 0, none⟩ 3) = some (.slice t753P t753N t753C) ∧
 ∃ t754P t754N t754C, (drw w1_15).cell? (Addr.add ⟨r, 0, none⟩ 4) = some (.slice t754P t754N t754C) ∧
 ∃ t755, (drw w1_15).cell? (Addr.add ⟨r, 0, none⟩ 5) = some (.int .i64 t755) ∧
 NN b fun a_4 =>
 ∃ generation_1, (drw w1_15).cell? (a_4.add 1) = some (.int .i64 generation_1) ∧
 C_base_copyOf t750 t751 t752 t753P t753N t753C t754P t754N t754C t755 (drw w1_15) fun t760 t761 t762 t763P t763N t763C t764P t764N t764C t765 w1_16 =>
 w1_16.cell? (a_4.add 1) = (drw w1_15).cell? (a_4.add 1) ∧
 C_slices_Clone codeP codeN codeC w1_16 fun t78P t78N t78C w1_17 =>
 w1_17.cell? (a_4.add 1) = (drw w1_15).cell? (a_4.add 1) ∧
 C_base_Base_take b t310 t760 t761 t762 t763P t763N t763C t764P t764N t764C t765 t78P t78N t78C generation_1 (0 : Int) true w1_17 fun w1_18 =>
 R t310 (0 : Int) w1_18
def F_base_Base_Add_k2 (b : Option Addr) (codeP : Option Addr) (codeN : Nat) (codeC : Nat) (front : Bool) (R : Int → Int → World → Prop) (r : Nat) (w1_2 : World) : Prop :=
 C_base_Base_room b w1_2 fun t310 t311 w1_3 =>
 ∃ Head0, w1_3.cell? ((Addr.add ⟨r, 0, none⟩ 0).add 0) = some (.int .i64 Head0) ∧
 ∃ Head1, w1_3.cell? ((Addr.add ⟨r, 0, none⟩ 0).add 1) = some (.int .i64 Head1) ∧
 ∃ Head2, w1_3.cell? ((Addr.add ⟨r, 0, none⟩ 0).add 2) = some (.string Head2) ∧
 ∃ Head3P Head3N Head3C, w1_3.cell? ((Addr.add ⟨r, 0, none⟩ 0).add 3) = some (.slice Head3P Head3N Head3C) ∧
 C_base_of Head0 Head1 Head2 Head3P Head3N Head3C w1_3 fun t360 t361 w1_4 =>
 New w1_4 (.cells #[.string ⟨#[]⟩, .int .i64 0] 78) fun r_1 w1_5 =>
 St w1_5 (Addr.add ⟨r_1, 0, none⟩ 0) (.string t360) fun w1_6 =>
 St w1_6 (Addr.add ⟨r_1, 0, none⟩ 1) (.int .i64 t361) fun w1_7 =>
 NN b fun a =>
 ∃ preds, (drw w1_7).cell? (a.add 4) = some (.map preds) ∧
 ∃ t410, (drw w1_7).cell? (Addr.add ⟨r_1, 0, none⟩ 0) = some (.string t410) ∧
 ∃ t411, (drw w1_7).cell? (Addr.add ⟨r_1, 0, none⟩ 1) = some (.int .i64 t411) ∧
 Run Try.prog (Instr.lookup 72 (.map preds) (.agg #[.string t410, .int .i64 t411]) false) (drw w1_7) fun v w1_8 => ∃ t42 : Option Addr, v = (.pointer t42) ∧
 If (!t311)
 (R (0 : Int) (2 : Int) w1_8)
 (C_index_Table_Len t42 w1_8 fun t47 w1_9 =>
 If (decide (t47 ≥ (4096 : Int)))
 (R (0 : Int) (2 : Int) w1_9)
 (If t42.isNone
 (C_index_New  w1_9 fun t52 w1_10 =>
 NN b fun a_1 =>
 ∃ preds_1, (drw w1_10).cell? (a_1.add 4) = some (.map preds_1) ∧
 ∃ t570, (drw w1_10).cell? (Addr.add ⟨r_1, 0, none⟩ 0) = some (.string t570) ∧
 ∃ t571, (drw w1_10).cell? (Addr.add ⟨r_1, 0, none⟩ 1) = some (.int .i64 t571) ∧
 MUp Try.prog 72 (.map preds_1) (.agg #[.string t570, .int .i64 t571]) (.pointer t52) (drw w1_10) fun w1_11 =>
 F_base_Base_Add_k1 b codeP codeN codeC front R r t310 t52 w1_11)
 (F_base_Base_Add_k1 b codeP codeN codeC front R r t310 t42 w1_9)))
def F_base_Base_Add (b : Option Addr) (c0 : Int) (c1 : Int) (c2 : ByteArray) (c3P : Option Addr) (c3N : Nat) (c3C : Nat) (c4P : Option Addr) (c4N : Nat) (c4C : Nat) (c5 : Int) (codeP : Option Addr) (codeN : Nat) (codeC : Nat) (front : Bool) (w : World) (R : Int → Int → World → Prop) : Prop :=
 New w (.cells #[.int .i64 c0, .int .i64 c1, .string c2, .slice c3P c3N c3C, .slice c4P c4N c4C, .int .i64 c5] 34) fun r w1 =>
 C_base_Base_made b w1 fun t16 w1_1 =>
 If (!t16)
 (R (0 : Int) (6 : Int) w1_1)
 (∃ Kind, w1_1.cell? ((Addr.add ⟨r, 0, none⟩ 0).add 0) = some (.int .i64 Kind) ∧
 If (Kind != (3 : Int))
 (∃ Kind_1, w1_1.cell? ((Addr.add ⟨r, 0, none⟩ 0).add 0) = some (.int .i64 Kind_1) ∧
 If (Kind_1 != (4 : Int))
 (R (0 : Int) (1 : Int) w1_1)
 (F_base_Base_Add_k2 b codeP codeN codeC front R r w1_1))
 (F_base_Base_Add_k2 b codeP codeN codeC front R r w1_1))
def G_base_Base_Add : Gen where
 loop := lookL []
 plan := fun id =>
  bif Nat.beq id 7 then some ([0, 1, 3, 7, 0, 31, 63], .take 0 (.take 1 (.take 2 (.take 3 (.take 4 (.take 5 (.take 6 .done))))))) else
  bif Nat.beq id 12 then some ([0, 1, 3, 7, 0, 0, 63], .take 0 (.take 1 (.take 2 (.take 3 (.take 4 (.take 5 (.take 6 .done))))))) else
  bif Nat.beq id 15 then some ([0, 0, 0, 4, 0, 28, 0, 64, 192, 448, 1020, 2047], .take 0 (.take 1 (.take 2 (.take 4 (.take 6 (.take 7 (.take 8 (.take 9 (.take 3 (.take 5 (.take 10 (.take 11 .done)))))))))))) else none
theorem C_base_Base_Add.of {b : Option Addr} {c0 : Int} {c1 : Int} {c2 : ByteArray} {c3P : Option Addr} {c3N : Nat} {c3C : Nat} {c4P : Option Addr} {c4N : Nat} {c4C : Nat} {c5 : Int} {codeP : Option Addr} {codeN : Nat} {codeC : Nat} {front : Bool} {w : World} {R : Int → Int → World → Prop} (h : F_base_Base_Add b c0 c1 c2 c3P c3N c3C c4P c4N c4C c5 codeP codeN codeC front w R) : C_base_Base_Add b c0 c1 c2 c3P c3N c3C c4P c4N c4C c5 codeP codeN codeC front w R := ofS4 (Fm := F_base_Base_Add b c0 c1 c2 c3P c3N c3C c4P c4N c4C c5 codeP codeN codeC front w) Try.func8 (by kernel_rfl) (L1 G_base_Base_Add Try.f8 fun _ => rfl) rfl (fun _ => by kernel_rfl) h
def F_base_Base_Kill (b : Option Addr) (idx : Int) (w : World) (R : Int → World → Prop) : Prop :=
 C_base_Base_may b idx w fun t8 w1 =>
 If (t8 != (0 : Int))
 (R t8 w1)
 (NN b fun a =>
 ∃ lP lN lC, w1.cell? (a.add 2) = some (.slice lP lN lC) ∧
 0 ≤ idx ∧ idx < (lN : Int) ∧ NN lP fun a_1 =>
 ∃ dead, w1.cell? ((a_1.add (idx.toNat * 10)).add 8) = some (.int .i64 dead) ∧
 If (decide (dead > (0 : Int)))
 (R (4 : Int) w1)
 (NN b fun a_2 =>
 ∃ generation, w1.cell? (a_2.add 1) = some (.int .i64 generation) ∧
 NN b fun a_3 =>
 St w1 ((a_3.add 1).add 0) (.int .i64 (IntKind.i64.wrap (generation + (1 : Int)))) fun w1_1 =>
 NN b fun a_4 =>
 ∃ lP_1 lN_1 lC_1, (drw w1_1).cell? (a_4.add 2) = some (.slice lP_1 lN_1 lC_1) ∧
 NN b fun a_5 =>
 ∃ generation_1, (drw w1_1).cell? (a_5.add 1) = some (.int .i64 generation_1) ∧
 0 ≤ idx ∧ idx < (lN_1 : Int) ∧ NN lP_1 fun a_6 =>
 St (drw w1_1) (((a_6.add (idx.toNat * 10)).add 8).add 0) (.int .i64 generation_1) fun w1_2 =>
 R (0 : Int) w1_2))
def G_base_Base_Kill : Gen where
 loop := lookL []
 plan := fun id =>
  bif Nat.beq id 7 then some ([0, 1, 3, 7, 0, 0, 32, 96, 224, 511, 1023, 2047], .take 0 (.take 1 (.take 2 (.take 3 (.take 4 (.take 5 (.take 6 (.take 7 (.take 8 (.take 9 (.take 10 (.take 11 .done)))))))))))) else none
theorem C_base_Base_Kill.of {b : Option Addr} {idx : Int} {w : World} {R : Int → World → Prop} (h : F_base_Base_Kill b idx w R) : C_base_Base_Kill b idx w R := ofS5 (Fm := F_base_Base_Kill b idx w) Try.func9 (by kernel_rfl) (L1 G_base_Base_Kill Try.f9 fun _ => rfl) rfl (fun _ => by kernel_rfl) h
def F_base_Base_Generation (b : Option Addr) (w : World) (R : Int → World → Prop) : Prop :=
 C_base_Base_made b w fun t4 w1 =>
 If (!t4)
 (R (0 : Int) w1)
 (NN b fun a =>
 ∃ generation, w1.cell? (a.add 1) = some (.int .i64 generation) ∧
 R generation w1)
theorem C_base_Base_Generation.of {b : Option Addr} {w : World} {R : Int → World → Prop} (h : F_base_Base_Generation b w R) : C_base_Base_Generation b w R := ofS5 (Fm := F_base_Base_Generation b w) Try.func10 (by kernel_rfl) (L0 Try.f10) rfl (fun _ => by kernel_rfl) h
structure S_base_Base_Preds_L1 where
 outP : Option Addr
 outN : Nat
 outC : Nat
def F_base_Base_Preds_k1 (b_1 : Option Addr) (t13_1 : Option Addr) (s : S_base_Base_Preds_L1) (Kn : S_base_Base_Preds_L1 → World → Prop) (Kx0 : Option Addr → Nat → Nat → World → Prop) (t15 : Bool) (w1_3 : World) : Prop :=
 If t15
 (Run Try.prog (Instr.entry (.pointer t13_1)) w1_3 fun v_1 w1_4 => ∃ t16k0 : ByteArray, ∃ t16k1 : Int, ∃ t16v : Option Addr, v_1 = (.tuple #[.agg #[.string t16k0, .int .i64 t16k1], .pointer t16v]) ∧
 New w1_4 (.cells #[.string ⟨#[]⟩, .int .i64 0] 78) fun r w1_5 =>
 St w1_5 (Addr.add ⟨r, 0, none⟩ 0) (.string t16k0) fun w1_6 =>
 St w1_6 (Addr.add ⟨r, 0, none⟩ 1) (.int .i64 t16k1) fun w1_7 =>
 ∃ namex, (drw w1_7).cell? (Addr.add ⟨r, 0, none⟩ 0) = some (.string namex) ∧
 ∃ arity, (drw w1_7).cell? (Addr.add ⟨r, 0, none⟩ 1) = some (.int .i64 arity) ∧
 C_base_Base_live b_1 t16v (drw w1_7) fun t26 w1_8 =>
 w1_8.cell? (Addr.add ⟨r, 0, none⟩ 1) = (drw w1_7).cell? (Addr.add ⟨r, 0, none⟩ 1) ∧
 w1_8.cell? (Addr.add ⟨r, 0, none⟩ 0) = (drw w1_7).cell? (Addr.add ⟨r, 0, none⟩ 0) ∧
 BSl Try.prog 44 1 [(0, .agg #[.string namex, .int .i64 arity, .int .i64 t26])] w1_8 fun t28P t28N t28C w1_9 =>
 App Try.prog #[44, 44] 44 #[.slice s.outP s.outN s.outC, .slice t28P t28N t28C] w1_9 fun t29P t29N t29C w1_10 =>
 Kn ⟨t29P, t29N, t29C⟩ w1_10)
 (Kx0 s.outP s.outN s.outC w1_3)
def B_base_Base_Preds_L1 (b_1 : Option Addr) (t13_1 : Option Addr) (s : S_base_Base_Preds_L1) (w : World) (Kn : S_base_Base_Preds_L1 → World → Prop) (Kx0 : Option Addr → Nat → Nat → World → Prop) : Prop :=
 Run Try.prog (Instr.next (.pointer t13_1) false 0) w fun v w1_2 =>
 (v = .tuple #[.bool false] ∧
 (F_base_Base_Preds_k1 b_1 t13_1 s Kn Kx0 false w1_2)) ∨
 (∃ kx : Value, ∃ vx : Value, v = (.tuple #[.bool true, kx, vx]) ∧
 (F_base_Base_Preds_k1 b_1 t13_1 s Kn Kx0 true w1_2))
def F_base_Base_Preds_L1 (b_1 : Option Addr) (t13_1 : Option Addr) (s : S_base_Base_Preds_L1) (w : World) (Kx0 : Option Addr → Nat → Nat → World → Prop) : Prop :=
 LoopS (fun s w Kn => B_base_Base_Preds_L1 b_1 t13_1 s w Kn Kx0) s w
def F_base_Base_Preds (b : Option Addr) (w : World) (R : Option Addr → Nat → Nat → World → Prop) : Prop :=
 C_base_Base_made b w fun t7 w1 =>
 If (!t7)
 (R none 0 0 w1)
 (NN b fun a =>
 ∃ preds, w1.cell? (a.add 4) = some (.map preds) ∧
 Rng Try.prog 72 (.map preds) w1 fun t13 w1_1 =>
 F_base_Base_Preds_L1 b t13 ⟨none, 0, 0⟩ w1_1
 (fun outP_2 outN_2 outC_2 w1_11 =>
 C_slices_SortFunc outP_2 outN_2 outC_2 (.func (.func 40) #[] #[]) w1_11 fun w1_12 =>
 R outP_2 outN_2 outC_2 w1_12))
def lit_base_Base_Preds_L1 (f : (Option Addr) × (Option Addr)) (s : S_base_Base_Preds_L1) : Env := [⟨0, .pointer f.1, none⟩, ⟨13, .pointer f.2, none⟩, ⟨3, .slice s.outP s.outN s.outC, none⟩]
def dec_base_Base_Preds_L1 (e : Env) (K : ((Option Addr) × (Option Addr)) → S_base_Base_Preds_L1 → Prop) : Prop :=
 oP e 0 fun b_1 =>
 oP e 13 fun t13_1 =>
 oS e 3 fun outP outN outC =>
  K (b_1, t13_1) ⟨outP, outN, outC⟩
theorem dec_base_Base_Preds_L1_ok {N : Nat} (e : Env) (a : Act) (K : ((Option Addr) × (Option Addr)) → S_base_Base_Preds_L1 → Prop) (hr : Rep N a e) (h0 : dec_base_Base_Preds_L1 e K) : ∃ f s, K f s ∧ Rep N a (lit_base_Base_Preds_L1 f s) := by
 unfold dec_base_Base_Preds_L1 at h0
 obtain ⟨b_1, g0, h1⟩ := oP_elim h0
 obtain ⟨t13_1, g13, h2⟩ := oP_elim h1
 obtain ⟨outP, outN, outC, g3, h3⟩ := oS_elim h2
 exact ⟨_, _, h3, rep_less hr (by simp [lit_base_Base_Preds_L1, g0, g13, g3])⟩
def spec_base_Base_Preds_L1 (Q : Post) (e : Env) (w : World) : Prop :=
 dec_base_Base_Preds_L1 e fun f s => F_base_Base_Preds_L1 f.1 f.2 s w (fun outP_1 outN_1 outC_1 w1 => Q (.exit 0) [⟨3, .slice outP_1 outN_1 outC_1, none⟩] w1)
def G_base_Base_Preds : Gen where
 loop := lookL [([false, true, false, true, true, true], spec_base_Base_Preds_L1)]
 plan := fun id =>
  bif Nat.beq id 7 then some ([0, 0, 2, 0, 8, 0, 0, 96, 254, 510, 1023, 2047], .take 0 (.take 1 (.take 2 (.take 3 (.take 4 (.take 5 (.take 6 (.take 7 (.take 8 (.take 9 (.take 10 (.take 11 .done)))))))))))) else none
def dx_base_Base_Preds_L1_0 (e : Env) (K : ((Option Addr) × (Option Addr)) → Option Addr → Nat → Nat → Prop) : Prop :=
 oP e 0 fun b_1 =>
 oP e 13 fun t13_1 =>
 oS e 3 fun outP_1 outN_1 outC_1 =>
  K (b_1, t13_1) outP_1 outN_1 outC_1
theorem body_base_Base_Preds_L1 (f : (Option Addr) × (Option Addr)) (s : S_base_Base_Preds_L1) (w : World) (Kn : ((Option Addr) × (Option Addr)) → S_base_Base_Preds_L1 → World → Prop) (Kx0 : ((Option Addr) × (Option Addr)) → Option Addr → Nat → Nat → World → Prop) :
  B_base_Base_Preds_L1 f.1 f.2 s w (fun s1 w1 => Kn f s1 w1) (fun outP_1 outN_1 outC_1 w1 => Kx0 f outP_1 outN_1 outC_1 w1) =
  den Try.prog Try.f11.ntmps G_base_Base_Preds (sub (codeOf Try.f11) [false, false, true, false, true, true, true]) [false, false, true, false, true, true, true] (roundQ (fun e w => dec_base_Base_Preds_L1 e fun f s => Kn f s w) (fun e w => False) (fun id e w => match Nat.beq id 0 with | true => dx_base_Base_Preds_L1_0 e fun f outP_1 outN_1 outC_1 => Kx0 f outP_1 outN_1 outC_1 w | false => False)) (lit_base_Base_Preds_L1 f s) w := by kernel_rfl
theorem ok_base_Base_Preds_L1 : OneOk Try.prog Try.f11.ntmps G_base_Base_Preds (codeOf Try.f11) [false, true, false, true, true, true] spec_base_Base_Preds_L1 := by
 intro c hc ih Q e w a hr h
 have hcc : sub (codeOf Try.f11) [false, false, true, false, true, true, true] = c := sub_of_codeAt hc
 obtain ⟨f, s, h, hrep⟩ := dec_base_Base_Preds_L1_ok e a _ hr h
 obtain ⟨J, μ, hj, hround⟩ := h
 refine loop_rule_deep seat_ok seat_mixed ih lit_base_Base_Preds_L1 dec_base_Base_Preds_L1 dec_base_Base_Preds_L1_ok hc f J μ (Kr := fun e w => False) (Kx := fun id e w => match Nat.beq id 0 with | true => (dx_base_Base_Preds_L1_0 e fun f1 outP_1 outN_1 outC_1 => f1 = f ∧ Q (.exit 0) [⟨3, .slice outP_1 outN_1 outC_1, none⟩] w) | false => False) ?_ ?_ ?_ s w a hj hrep
 ·intro e a w hr h
  exact h.elim
 ·intro id e a w hr h0
  (try dsimp only at h0)
  split at h0
  ·rename_i hid
   obtain rfl := Nat.eq_of_beq_eq_true hid
   unfold dx_base_Base_Preds_L1_0 at h0
   obtain ⟨b_1, g0, h1⟩ := oP_elim h0
   obtain ⟨t13_1, g13, h2⟩ := oP_elim h1
   obtain ⟨outP_1, outN_1, outC_1, g3, h3⟩ := oS_elim h2
   obtain ⟨hf, hq⟩ := h3
   subst hf
   exact ⟨_, rep_less hr (by simp [g3]), hq⟩
  ·exact h0.elim
 ·intro s w hj
  have hb := hround s w hj
  rw [← hcc]
  have e1 := body_base_Base_Preds_L1 f s w (fun f1 s1 w1 => f1 = f ∧ J s1 w1 ∧ μ s1 w1 < μ s w) (fun f1 outP_1 outN_1 outC_1 w1 => f1 = f ∧ Q (.exit 0) [⟨3, .slice outP_1 outN_1 outC_1, none⟩] w1)
  simp only [true_and] at e1
  exact cast e1 hb
theorem loops_base_Base_Preds : LoopOk Try.prog Try.f11.ntmps G_base_Base_Preds (codeOf Try.f11) := loopOk_list rfl ⟨ok_base_Base_Preds_L1, trivial⟩
theorem C_base_Base_Preds.of {b : Option Addr} {w : World} {R : Option Addr → Nat → Nat → World → Prop} (h : F_base_Base_Preds b w R) : C_base_Base_Preds b w R := ofS6 (Fm := F_base_Base_Preds b w) Try.func11 (by kernel_rfl) loops_base_Base_Preds rfl (fun _ => by kernel_rfl) h
structure S_law19_all_L1 where
 outP : Option Addr
 outN : Nat
 outC : Nat
 idx : Int
 isx : Bool
 i : Int
def B_law19_all_L1 (b_1 : Option Addr) (gen_1 : Int) (s : S_law19_all_L1) (w : World) (Kn : S_law19_all_L1 → World → Prop) (Kx0 : Option Addr → Nat → Nat → World → Prop) : Prop :=
 If (decide (s.i < (100 : Int)))
 (If s.isx
 (BSl Try.prog 47 1 [(0, .int .i64 s.idx)] w fun t31P t31N t31C w1_1 =>
 App Try.prog #[47, 47] 47 #[.slice s.outP s.outN s.outC, .slice t31P t31N t31C] w1_1 fun t32P t32N t32C w1_2 =>
 C_base_Base_Next b_1 s.idx (0 : Int) ⟨#[]⟩ (0 : Int) gen_1 w1_2 fun t380 t381 w1_3 =>
 Kn ⟨t32P, t32N, t32C, t380, t381, (IntKind.i64.wrap (s.i + (1 : Int)))⟩ w1_3)
 (Kx0 s.outP s.outN s.outC w))
 (Kx0 s.outP s.outN s.outC w)
def F_law19_all_L1 (b_1 : Option Addr) (gen_1 : Int) (s : S_law19_all_L1) (w : World) (Kx0 : Option Addr → Nat → Nat → World → Prop) : Prop :=
 LoopS (fun s w Kn => B_law19_all_L1 b_1 gen_1 s w Kn Kx0) s w
def F_law19_all (b : Option Addr) (namex : ByteArray) (arity : Int) (gen : Int) (w : World) (R : Option Addr → Nat → Nat → World → Prop) : Prop :=
 C_base_Base_Head b namex arity (0 : Int) ⟨#[]⟩ (0 : Int) gen w fun t190 t191 w1 =>
 F_law19_all_L1 b gen ⟨none, 0, 0, t190, t191, (0 : Int)⟩ w1
 (fun outP_2 outN_2 outC_2 w1_4 =>
 R outP_2 outN_2 outC_2 w1_4)
def lit_law19_all_L1 (f : (Option Addr) × Int) (s : S_law19_all_L1) : Env := [⟨0, .pointer f.1, none⟩, ⟨3, .int .i64 f.2, none⟩, ⟨9, .slice s.outP s.outN s.outC, none⟩, ⟨10, .int .i64 s.idx, none⟩, ⟨11, .bool s.isx, none⟩, ⟨12, .int .i64 s.i, none⟩]
def dec_law19_all_L1 (e : Env) (K : ((Option Addr) × Int) → S_law19_all_L1 → Prop) : Prop :=
 oP e 0 fun b_1 =>
 oI e 3 .i64 fun gen_1 =>
 oS e 9 fun outP outN outC =>
 oI e 10 .i64 fun idx =>
 oB e 11 fun isx =>
 oI e 12 .i64 fun i =>
  K (b_1, gen_1) ⟨outP, outN, outC, idx, isx, i⟩
theorem dec_law19_all_L1_ok {N : Nat} (e : Env) (a : Act) (K : ((Option Addr) × Int) → S_law19_all_L1 → Prop) (hr : Rep N a e) (h0 : dec_law19_all_L1 e K) : ∃ f s, K f s ∧ Rep N a (lit_law19_all_L1 f s) := by
 unfold dec_law19_all_L1 at h0
 obtain ⟨b_1, g0, h1⟩ := oP_elim h0
 obtain ⟨gen_1, g3, h2⟩ := oI_elim h1
 obtain ⟨outP, outN, outC, g9, h3⟩ := oS_elim h2
 obtain ⟨idx, g10, h4⟩ := oI_elim h3
 obtain ⟨isx, g11, h5⟩ := oB_elim h4
 obtain ⟨i, g12, h6⟩ := oI_elim h5
 exact ⟨_, _, h6, rep_less hr (by simp [lit_law19_all_L1, g0, g3, g9, g10, g11, g12])⟩
def spec_law19_all_L1 (Q : Post) (e : Env) (w : World) : Prop :=
 dec_law19_all_L1 e fun f s => F_law19_all_L1 f.1 f.2 s w (fun outP_1 outN_1 outC_1 w1 => Q (.exit 0) [⟨9, .slice outP_1 outN_1 outC_1, none⟩] w1)
def G_law19_all : Gen where
 loop := lookL [([false, true, false, true, true, true], spec_law19_all_L1)]
 plan := fun _ => none
def dx_law19_all_L1_0 (e : Env) (K : ((Option Addr) × Int) → Option Addr → Nat → Nat → Prop) : Prop :=
 oP e 0 fun b_1 =>
 oI e 3 .i64 fun gen_1 =>
 oS e 9 fun outP_1 outN_1 outC_1 =>
  K (b_1, gen_1) outP_1 outN_1 outC_1
theorem body_law19_all_L1 (f : (Option Addr) × Int) (s : S_law19_all_L1) (w : World) (Kn : ((Option Addr) × Int) → S_law19_all_L1 → World → Prop) (Kx0 : ((Option Addr) × Int) → Option Addr → Nat → Nat → World → Prop) :
  B_law19_all_L1 f.1 f.2 s w (fun s1 w1 => Kn f s1 w1) (fun outP_1 outN_1 outC_1 w1 => Kx0 f outP_1 outN_1 outC_1 w1) =
  den Try.prog Try.f12.ntmps G_law19_all (sub (codeOf Try.f12) [false, false, true, false, true, true, true]) [false, false, true, false, true, true, true] (roundQ (fun e w => dec_law19_all_L1 e fun f s => Kn f s w) (fun e w => False) (fun id e w => match Nat.beq id 0 with | true => dx_law19_all_L1_0 e fun f outP_1 outN_1 outC_1 => Kx0 f outP_1 outN_1 outC_1 w | false => False)) (lit_law19_all_L1 f s) w := by kernel_rfl
theorem ok_law19_all_L1 : OneOk Try.prog Try.f12.ntmps G_law19_all (codeOf Try.f12) [false, true, false, true, true, true] spec_law19_all_L1 := by
 intro c hc ih Q e w a hr h
 have hcc : sub (codeOf Try.f12) [false, false, true, false, true, true, true] = c := sub_of_codeAt hc
 obtain ⟨f, s, h, hrep⟩ := dec_law19_all_L1_ok e a _ hr h
 obtain ⟨J, μ, hj, hround⟩ := h
 refine loop_rule_deep seat_ok seat_mixed ih lit_law19_all_L1 dec_law19_all_L1 dec_law19_all_L1_ok hc f J μ (Kr := fun e w => False) (Kx := fun id e w => match Nat.beq id 0 with | true => (dx_law19_all_L1_0 e fun f1 outP_1 outN_1 outC_1 => f1 = f ∧ Q (.exit 0) [⟨9, .slice outP_1 outN_1 outC_1, none⟩] w) | false => False) ?_ ?_ ?_ s w a hj hrep
 ·intro e a w hr h
  exact h.elim
 ·intro id e a w hr h0
  (try dsimp only at h0)
  split at h0
  ·rename_i hid
   obtain rfl := Nat.eq_of_beq_eq_true hid
   unfold dx_law19_all_L1_0 at h0
   obtain ⟨b_1, g0, h1⟩ := oP_elim h0
   obtain ⟨gen_1, g3, h2⟩ := oI_elim h1
   obtain ⟨outP_1, outN_1, outC_1, g9, h3⟩ := oS_elim h2
   obtain ⟨hf, hq⟩ := h3
   subst hf
   exact ⟨_, rep_less hr (by simp [g9]), hq⟩
  ·exact h0.elim
 ·intro s w hj
  have hb := hround s w hj
  rw [← hcc]
  have e1 := body_law19_all_L1 f s w (fun f1 s1 w1 => f1 = f ∧ J s1 w1 ∧ μ s1 w1 < μ s w) (fun f1 outP_1 outN_1 outC_1 w1 => f1 = f ∧ Q (.exit 0) [⟨9, .slice outP_1 outN_1 outC_1, none⟩] w1)
  simp only [true_and] at e1
  exact cast e1 hb
theorem loops_law19_all : LoopOk Try.prog Try.f12.ntmps G_law19_all (codeOf Try.f12) := loopOk_list rfl ⟨ok_law19_all_L1, trivial⟩
theorem C_law19_all.of {b : Option Addr} {namex : ByteArray} {arity : Int} {gen : Int} {w : World} {R : Option Addr → Nat → Nat → World → Prop} (h : F_law19_all b namex arity gen w R) : C_law19_all b namex arity gen w R := ofS6 (Fm := F_law19_all b namex arity gen w) Try.func12 (by kernel_rfl) loops_law19_all rfl (fun _ => by kernel_rfl) h
structure S_ref15_SameInts_L1 where
 i : Int
def B_ref15_SameInts_L1 (aP_1 : Option Addr) (aN_1 : Nat) (aC_1 : Nat) (bP_1 : Option Addr) (bN_1 : Nat) (bC_1 : Nat) (s : S_ref15_SameInts_L1) (w : World) (Kn : S_ref15_SameInts_L1 → World → Prop) (Kx0 : World → Prop) (Kr : Bool → World → Prop) : Prop :=
 If (decide (s.i < (aN_1 : Int)))
 (0 ≤ s.i ∧ s.i < (aN_1 : Int) ∧ NN aP_1 fun a =>
 ∃ t20, (drw w).cell? (a.add (s.i.toNat * 1)) = some (.int .i64 t20) ∧
 0 ≤ s.i ∧ s.i < (bN_1 : Int) ∧ NN bP_1 fun a_1 =>
 ∃ t24, (drw w).cell? (a_1.add (s.i.toNat * 1)) = some (.int .i64 t24) ∧
 If (t20 != t24)
 (Kr false (drw w))
 (Kn ⟨(IntKind.i64.wrap (s.i + (1 : Int)))⟩ (drw w)))
 (Kx0 w)
def F_ref15_SameInts_L1 (aP_1 : Option Addr) (aN_1 : Nat) (aC_1 : Nat) (bP_1 : Option Addr) (bN_1 : Nat) (bC_1 : Nat) (s : S_ref15_SameInts_L1) (w : World) (Kx0 : World → Prop) (Kr : Bool → World → Prop) : Prop :=
 LoopS (fun s w Kn => B_ref15_SameInts_L1 aP_1 aN_1 aC_1 bP_1 bN_1 bC_1 s w Kn Kx0 Kr) s w
def F_ref15_SameInts (aP : Option Addr) (aN : Nat) (aC : Nat) (bP : Option Addr) (bN : Nat) (bC : Nat) (w : World) (R : Bool → World → Prop) : Prop :=
 If ((aN : Int) != (bN : Int))
 (R false w)
 (F_ref15_SameInts_L1 aP aN aC bP bN bC ⟨(0 : Int)⟩ w
 (fun w1 =>
 R true w1)
 (fun t4_1 w1_1 =>
 R t4_1 w1_1))
def lit_ref15_SameInts_L1 (f : (Option Addr) × Nat × Nat × (Option Addr) × Nat × Nat) (s : S_ref15_SameInts_L1) : Env := [⟨0, .slice f.1 f.2.1 f.2.2.1, none⟩, ⟨1, .slice f.2.2.2.1 f.2.2.2.2.1 f.2.2.2.2.2, none⟩, ⟨5, .int .i64 s.i, none⟩]
def dec_ref15_SameInts_L1 (e : Env) (K : ((Option Addr) × Nat × Nat × (Option Addr) × Nat × Nat) → S_ref15_SameInts_L1 → Prop) : Prop :=
 oS e 0 fun aP_1 aN_1 aC_1 =>
 oS e 1 fun bP_1 bN_1 bC_1 =>
 oI e 5 .i64 fun i =>
  K (aP_1, aN_1, aC_1, bP_1, bN_1, bC_1) ⟨i⟩
theorem dec_ref15_SameInts_L1_ok {N : Nat} (e : Env) (a : Act) (K : ((Option Addr) × Nat × Nat × (Option Addr) × Nat × Nat) → S_ref15_SameInts_L1 → Prop) (hr : Rep N a e) (h0 : dec_ref15_SameInts_L1 e K) : ∃ f s, K f s ∧ Rep N a (lit_ref15_SameInts_L1 f s) := by
 unfold dec_ref15_SameInts_L1 at h0
 obtain ⟨aP_1, aN_1, aC_1, g0, h1⟩ := oS_elim h0
 obtain ⟨bP_1, bN_1, bC_1, g1, h2⟩ := oS_elim h1
 obtain ⟨i, g5, h3⟩ := oI_elim h2
 exact ⟨_, _, h3, rep_less hr (by simp [lit_ref15_SameInts_L1, g0, g1, g5])⟩
def spec_ref15_SameInts_L1 (Q : Post) (e : Env) (w : World) : Prop :=
 dec_ref15_SameInts_L1 e fun f s => F_ref15_SameInts_L1 f.1 f.2.1 f.2.2.1 f.2.2.2.1 f.2.2.2.2.1 f.2.2.2.2.2 s w (fun w1 => Q (.exit 0) [] w1) (fun t4 w1 => Q .ret [⟨4, .bool t4, none⟩] w1)
def G_ref15_SameInts : Gen where
 loop := lookL [([false, true, false, true, true], spec_ref15_SameInts_L1)]
 plan := fun id =>
  bif Nat.beq id 6 then some ([0, 0, 3, 7, 0, 0, 48, 112, 255], .take 0 (.take 1 (.take 2 (.take 3 (.take 4 (.take 5 (.take 6 (.take 7 (.take 8 .done))))))))) else none
def dx_ref15_SameInts_L1_0 (e : Env) (K : ((Option Addr) × Nat × Nat × (Option Addr) × Nat × Nat) → Prop) : Prop :=
 oS e 0 fun aP_1 aN_1 aC_1 =>
 oS e 1 fun bP_1 bN_1 bC_1 =>
  K (aP_1, aN_1, aC_1, bP_1, bN_1, bC_1)
def dx_ref15_SameInts_L1_ret (e : Env) (K : ((Option Addr) × Nat × Nat × (Option Addr) × Nat × Nat) → Bool → Prop) : Prop :=
 oS e 0 fun aP_1 aN_1 aC_1 =>
 oS e 1 fun bP_1 bN_1 bC_1 =>
 oB e 4 fun t4 =>
  K (aP_1, aN_1, aC_1, bP_1, bN_1, bC_1) t4
theorem body_ref15_SameInts_L1 (f : (Option Addr) × Nat × Nat × (Option Addr) × Nat × Nat) (s : S_ref15_SameInts_L1) (w : World) (Kn : ((Option Addr) × Nat × Nat × (Option Addr) × Nat × Nat) → S_ref15_SameInts_L1 → World → Prop) (Kx0 : ((Option Addr) × Nat × Nat × (Option Addr) × Nat × Nat) → World → Prop) (Kr : ((Option Addr) × Nat × Nat × (Option Addr) × Nat × Nat) → Bool → World → Prop) :
  B_ref15_SameInts_L1 f.1 f.2.1 f.2.2.1 f.2.2.2.1 f.2.2.2.2.1 f.2.2.2.2.2 s w (fun s1 w1 => Kn f s1 w1) (fun w1 => Kx0 f w1) (fun t4 w1 => Kr f t4 w1) =
  den Try.prog Try.f13.ntmps G_ref15_SameInts (sub (codeOf Try.f13) [false, false, true, false, true, true]) [false, false, true, false, true, true] (roundQ (fun e w => dec_ref15_SameInts_L1 e fun f s => Kn f s w) (fun e w => dx_ref15_SameInts_L1_ret e fun f t4 => Kr f t4 w) (fun id e w => match Nat.beq id 0 with | true => dx_ref15_SameInts_L1_0 e fun f => Kx0 f w | false => False)) (lit_ref15_SameInts_L1 f s) w := by kernel_rfl
theorem ok_ref15_SameInts_L1 : OneOk Try.prog Try.f13.ntmps G_ref15_SameInts (codeOf Try.f13) [false, true, false, true, true] spec_ref15_SameInts_L1 := by
 intro c hc ih Q e w a hr h
 have hcc : sub (codeOf Try.f13) [false, false, true, false, true, true] = c := sub_of_codeAt hc
 obtain ⟨f, s, h, hrep⟩ := dec_ref15_SameInts_L1_ok e a _ hr h
 obtain ⟨J, μ, hj, hround⟩ := h
 refine loop_rule_deep seat_ok seat_mixed ih lit_ref15_SameInts_L1 dec_ref15_SameInts_L1 dec_ref15_SameInts_L1_ok hc f J μ (Kr := fun e w => dx_ref15_SameInts_L1_ret e fun f1 t4 => f1 = f ∧ Q .ret [⟨4, .bool t4, none⟩] w) (Kx := fun id e w => match Nat.beq id 0 with | true => (dx_ref15_SameInts_L1_0 e fun f1 => f1 = f ∧ Q (.exit 0) [] w) | false => False) ?_ ?_ ?_ s w a hj hrep
 ·intro e a w hr h0
  unfold dx_ref15_SameInts_L1_ret at h0
  obtain ⟨aP_1, aN_1, aC_1, g0, h1⟩ := oS_elim h0
  obtain ⟨bP_1, bN_1, bC_1, g1, h2⟩ := oS_elim h1
  obtain ⟨t4, g4, h3⟩ := oB_elim h2
  obtain ⟨hf, hq⟩ := h3
  subst hf
  exact ⟨_, rep_less hr (by simp [g4]), hq⟩
 ·intro id e a w hr h0
  (try dsimp only at h0)
  split at h0
  ·rename_i hid
   obtain rfl := Nat.eq_of_beq_eq_true hid
   unfold dx_ref15_SameInts_L1_0 at h0
   obtain ⟨aP_1, aN_1, aC_1, g0, h1⟩ := oS_elim h0
   obtain ⟨bP_1, bN_1, bC_1, g1, h2⟩ := oS_elim h1
   obtain ⟨hf, hq⟩ := h2
   subst hf
   exact ⟨_, rep_less hr (by simp), hq⟩
  ·exact h0.elim
 ·intro s w hj
  have hb := hround s w hj
  rw [← hcc]
  have e1 := body_ref15_SameInts_L1 f s w (fun f1 s1 w1 => f1 = f ∧ J s1 w1 ∧ μ s1 w1 < μ s w) (fun f1 w1 => f1 = f ∧ Q (.exit 0) [] w1) (fun f1 t4 w1 => f1 = f ∧ Q .ret [⟨4, .bool t4, none⟩] w1)
  simp only [true_and] at e1
  exact cast e1 hb
theorem loops_ref15_SameInts : LoopOk Try.prog Try.f13.ntmps G_ref15_SameInts (codeOf Try.f13) := loopOk_list rfl ⟨ok_ref15_SameInts_L1, trivial⟩
theorem C_ref15_SameInts.of {aP : Option Addr} {aN : Nat} {aC : Nat} {bP : Option Addr} {bN : Nat} {bC : Nat} {w : World} {R : Bool → World → Prop} (h : F_ref15_SameInts aP aN aC bP bN bC w R) : C_ref15_SameInts aP aN aC bP bN bC w R := ofS2 (Fm := F_ref15_SameInts aP aN aC bP bN bC w) Try.func13 (by kernel_rfl) loops_ref15_SameInts rfl (fun _ => by kernel_rfl) h
def F_ref06_Comp (sx : ByteArray) (lP : Option Addr) (lN : Nat) (lC : Nat) (w : World) (R : Int → Int → ByteArray → Option Addr → Nat → Nat → World → Prop) : Prop :=
 New w (.cells #[.int .i64 0, .int .i64 0, .string ⟨#[]⟩, .slice none 0 0] 31) fun r w1 =>
 If ((lN : Int) == (0 : Int))
 (C_ref06_Atom sx w1 fun t90 t91 t92 t93P t93N t93C w1_1 =>
 St w1_1 (Addr.add ⟨r, 0, none⟩ 0) (.int .i64 t90) fun w1_2 =>
 St w1_2 (Addr.add ⟨r, 0, none⟩ 1) (.int .i64 t91) fun w1_3 =>
 St w1_3 (Addr.add ⟨r, 0, none⟩ 2) (.string t92) fun w1_4 =>
 St w1_4 (Addr.add ⟨r, 0, none⟩ 3) (.slice t93P t93N t93C) fun w1_5 =>
 ∃ r_1, w1_5.cell? (Addr.add ⟨r, 0, none⟩ 0) = some (.int .i64 r_1) ∧
 ∃ r_2, w1_5.cell? (Addr.add ⟨r, 0, none⟩ 1) = some (.int .i64 r_2) ∧
 ∃ r_3, w1_5.cell? (Addr.add ⟨r, 0, none⟩ 2) = some (.string r_3) ∧
 ∃ rP rN rC, w1_5.cell? (Addr.add ⟨r, 0, none⟩ 3) = some (.slice rP rN rC) ∧
 R r_1 r_2 r_3 rP rN rC w1_5)
 (BSl Try.prog 29 0 [] w1 fun t11P t11N t11C w1_6 =>
 App Try.prog #[29, 29] 29 #[.slice t11P t11N t11C, .slice lP lN lC] w1_6 fun t13P t13N t13C w1_7 =>
 St w1_7 (Addr.add ⟨r, 0, none⟩ 0) (.int .i64 4) fun w1_8 =>
 St w1_8 (Addr.add ⟨r, 0, none⟩ 1) (.int .i64 0) fun w1_9 =>
 St w1_9 (Addr.add ⟨r, 0, none⟩ 2) (.string sx) fun w1_10 =>
 St w1_10 (Addr.add ⟨r, 0, none⟩ 3) (.slice t13P t13N t13C) fun w1_11 =>
 ∃ r_4, w1_11.cell? (Addr.add ⟨r, 0, none⟩ 0) = some (.int .i64 r_4) ∧
 ∃ r_5, w1_11.cell? (Addr.add ⟨r, 0, none⟩ 1) = some (.int .i64 r_5) ∧
 ∃ r_6, w1_11.cell? (Addr.add ⟨r, 0, none⟩ 2) = some (.string r_6) ∧
 ∃ rP_1 rN_1 rC_1, w1_11.cell? (Addr.add ⟨r, 0, none⟩ 3) = some (.slice rP_1 rN_1 rC_1) ∧
 R r_4 r_5 r_6 rP_1 rN_1 rC_1 w1_11)
theorem C_ref06_Comp.of {sx : ByteArray} {lP : Option Addr} {lN : Nat} {lC : Nat} {w : World} {R : Int → Int → ByteArray → Option Addr → Nat → Nat → World → Prop} (h : F_ref06_Comp sx lP lN lC w R) : C_ref06_Comp sx lP lN lC w R := ofS7 (Fm := F_ref06_Comp sx lP lN lC w) Try.func14 (by kernel_rfl) (L0 Try.f14) rfl (fun _ => by kernel_rfl) h
structure S_ref15_Large_L1 where
 n : Int
 i : Int
def B_ref15_Large_L1 (cx : Addr) (s : S_ref15_Large_L1) (w : World) (Kn : S_ref15_Large_L1 → World → Prop) (Kx0 : World → Prop) (Kr : Bool → World → Prop) : Prop :=
 ∃ GoalsP_1 GoalsN_1 GoalsC_1, w.cell? (cx.add 4) = some (.slice GoalsP_1 GoalsN_1 GoalsC_1) ∧
 If (decide (s.i < (GoalsN_1 : Int)))
 (∃ GoalsP_2 GoalsN_2 GoalsC_2, w.cell? (cx.add 4) = some (.slice GoalsP_2 GoalsN_2 GoalsC_2) ∧
 0 ≤ s.i ∧ s.i < (GoalsN_2 : Int) ∧ NN GoalsP_2 fun a =>
 ∃ Term0, w.cell? (((a.add (s.i.toNat * 5)).add 1).add 0) = some (.int .i64 Term0) ∧
 ∃ Term1, w.cell? (((a.add (s.i.toNat * 5)).add 1).add 1) = some (.int .i64 Term1) ∧
 ∃ Term2, w.cell? (((a.add (s.i.toNat * 5)).add 1).add 2) = some (.string Term2) ∧
 ∃ Term3P Term3N Term3C, w.cell? (((a.add (s.i.toNat * 5)).add 1).add 3) = some (.slice Term3P Term3N Term3C) ∧
 C_ref06_Large Term0 Term1 Term2 Term3P Term3N Term3C w fun t30 w1_3 =>
 If t30
 (Kr true w1_3)
 (∃ GoalsP_3 GoalsN_3 GoalsC_3, w1_3.cell? (cx.add 4) = some (.slice GoalsP_3 GoalsN_3 GoalsC_3) ∧
 0 ≤ s.i ∧ s.i < (GoalsN_3 : Int) ∧ NN GoalsP_3 fun a_1 =>
 ∃ Term0_1, w1_3.cell? (((a_1.add (s.i.toNat * 5)).add 1).add 0) = some (.int .i64 Term0_1) ∧
 ∃ Term1_1, w1_3.cell? (((a_1.add (s.i.toNat * 5)).add 1).add 1) = some (.int .i64 Term1_1) ∧
 ∃ Term2_1, w1_3.cell? (((a_1.add (s.i.toNat * 5)).add 1).add 2) = some (.string Term2_1) ∧
 ∃ Term3P_1 Term3N_1 Term3C_1, w1_3.cell? (((a_1.add (s.i.toNat * 5)).add 1).add 3) = some (.slice Term3P_1 Term3N_1 Term3C_1) ∧
 C_ref06_Size Term0_1 Term1_1 Term2_1 Term3P_1 Term3N_1 Term3C_1 w1_3 fun t38 w1_4 =>
 If (decide ((IntKind.i64.wrap (s.n + t38)) > (8000 : Int)))
 (Kr true w1_4)
 (Kn ⟨(IntKind.i64.wrap (s.n + t38)), (IntKind.i64.wrap (s.i + (1 : Int)))⟩ w1_4)))
 (Kx0 w)
def F_ref15_Large_L1 (cx : Addr) (s : S_ref15_Large_L1) (w : World) (Kx0 : World → Prop) (Kr : Bool → World → Prop) : Prop :=
 LoopS (fun s w Kn => B_ref15_Large_L1 cx s w Kn Kx0 Kr) s w
def F_ref15_Large (c0 : Int) (c1 : Int) (c2 : ByteArray) (c3P : Option Addr) (c3N : Nat) (c3C : Nat) (c4P : Option Addr) (c4N : Nat) (c4C : Nat) (c5 : Int) (w : World) (R : Bool → World → Prop) : Prop :=
 New w (.cells #[.int .i64 c0, .int .i64 c1, .string c2, .slice c3P c3N c3C, .slice c4P c4N c4C, .int .i64 c5] 34) fun r w1 =>
 ∃ Head0, w1.cell? ((Addr.add ⟨r, 0, none⟩ 0).add 0) = some (.int .i64 Head0) ∧
 ∃ Head1, w1.cell? ((Addr.add ⟨r, 0, none⟩ 0).add 1) = some (.int .i64 Head1) ∧
 ∃ Head2, w1.cell? ((Addr.add ⟨r, 0, none⟩ 0).add 2) = some (.string Head2) ∧
 ∃ Head3P Head3N Head3C, w1.cell? ((Addr.add ⟨r, 0, none⟩ 0).add 3) = some (.slice Head3P Head3N Head3C) ∧
 C_ref06_Large Head0 Head1 Head2 Head3P Head3N Head3C w1 fun t7 w1_1 =>
 If t7
 (R true w1_1)
 (∃ GoalsP GoalsN GoalsC, w1_1.cell? (Addr.add ⟨r, 0, none⟩ 4) = some (.slice GoalsP GoalsN GoalsC) ∧
 If (decide ((GoalsN : Int) > (80 : Int)))
 (R true w1_1)
 (∃ Head0_1, w1_1.cell? ((Addr.add ⟨r, 0, none⟩ 0).add 0) = some (.int .i64 Head0_1) ∧
 ∃ Head1_1, w1_1.cell? ((Addr.add ⟨r, 0, none⟩ 0).add 1) = some (.int .i64 Head1_1) ∧
 ∃ Head2_1, w1_1.cell? ((Addr.add ⟨r, 0, none⟩ 0).add 2) = some (.string Head2_1) ∧
 ∃ Head3P_1 Head3N_1 Head3C_1, w1_1.cell? ((Addr.add ⟨r, 0, none⟩ 0).add 3) = some (.slice Head3P_1 Head3N_1 Head3C_1) ∧
 C_ref06_Size Head0_1 Head1_1 Head2_1 Head3P_1 Head3N_1 Head3C_1 w1_1 fun t16 w1_2 =>
 F_ref15_Large_L1 ⟨r, 0, none⟩ ⟨t16, (0 : Int)⟩ w1_2
 (fun w1_5 =>
 R false w1_5)
 (fun t2_1 w1_6 =>
 R t2_1 w1_6)))
def lit_ref15_Large_L1 (f : Addr) (s : S_ref15_Large_L1) : Env := [⟨1, .pointer (some f), none⟩, ⟨3, .int .i64 s.n, none⟩, ⟨4, .int .i64 s.i, none⟩]
def dec_ref15_Large_L1 (e : Env) (K : Addr → S_ref15_Large_L1 → Prop) : Prop :=
 oA e 1 fun cx =>
 oI e 3 .i64 fun n =>
 oI e 4 .i64 fun i =>
  K (cx) ⟨n, i⟩
theorem dec_ref15_Large_L1_ok {N : Nat} (e : Env) (a : Act) (K : Addr → S_ref15_Large_L1 → Prop) (hr : Rep N a e) (h0 : dec_ref15_Large_L1 e K) : ∃ f s, K f s ∧ Rep N a (lit_ref15_Large_L1 f s) := by
 unfold dec_ref15_Large_L1 at h0
 obtain ⟨cx, g1, h1⟩ := oA_elim h0
 obtain ⟨n, g3, h2⟩ := oI_elim h1
 obtain ⟨i, g4, h3⟩ := oI_elim h2
 exact ⟨_, _, h3, rep_less hr (by simp [lit_ref15_Large_L1, g1, g3, g4])⟩
def spec_ref15_Large_L1 (Q : Post) (e : Env) (w : World) : Prop :=
 dec_ref15_Large_L1 e fun f s => F_ref15_Large_L1 f s w (fun w1 => Q (.exit 0) [] w1) (fun t2 w1 => Q .ret [⟨2, .bool t2, none⟩] w1)
def G_ref15_Large : Gen where
 loop := lookL [([false, true, false, true, true, true], spec_ref15_Large_L1)]
 plan := fun _ => none
def dx_ref15_Large_L1_0 (e : Env) (K : Addr → Prop) : Prop :=
 oA e 1 fun cx =>
  K (cx)
def dx_ref15_Large_L1_ret (e : Env) (K : Addr → Bool → Prop) : Prop :=
 oA e 1 fun cx =>
 oB e 2 fun t2 =>
  K (cx) t2
theorem body_ref15_Large_L1 (f : Addr) (s : S_ref15_Large_L1) (w : World) (Kn : Addr → S_ref15_Large_L1 → World → Prop) (Kx0 : Addr → World → Prop) (Kr : Addr → Bool → World → Prop) :
  B_ref15_Large_L1 f s w (fun s1 w1 => Kn f s1 w1) (fun w1 => Kx0 f w1) (fun t2 w1 => Kr f t2 w1) =
  den Try.prog Try.f16.ntmps G_ref15_Large (sub (codeOf Try.f16) [false, false, true, false, true, true, true]) [false, false, true, false, true, true, true] (roundQ (fun e w => dec_ref15_Large_L1 e fun f s => Kn f s w) (fun e w => dx_ref15_Large_L1_ret e fun f t2 => Kr f t2 w) (fun id e w => match Nat.beq id 0 with | true => dx_ref15_Large_L1_0 e fun f => Kx0 f w | false => False)) (lit_ref15_Large_L1 f s) w := by kernel_rfl
theorem ok_ref15_Large_L1 : OneOk Try.prog Try.f16.ntmps G_ref15_Large (codeOf Try.f16) [false, true, false, true, true, true] spec_ref15_Large_L1 := by
 intro c hc ih Q e w a hr h
 have hcc : sub (codeOf Try.f16) [false, false, true, false, true, true, true] = c := sub_of_codeAt hc
 obtain ⟨f, s, h, hrep⟩ := dec_ref15_Large_L1_ok e a _ hr h
 obtain ⟨J, μ, hj, hround⟩ := h
 refine loop_rule_deep seat_ok seat_mixed ih lit_ref15_Large_L1 dec_ref15_Large_L1 dec_ref15_Large_L1_ok hc f J μ (Kr := fun e w => dx_ref15_Large_L1_ret e fun f1 t2 => f1 = f ∧ Q .ret [⟨2, .bool t2, none⟩] w) (Kx := fun id e w => match Nat.beq id 0 with | true => (dx_ref15_Large_L1_0 e fun f1 => f1 = f ∧ Q (.exit 0) [] w) | false => False) ?_ ?_ ?_ s w a hj hrep
 ·intro e a w hr h0
  unfold dx_ref15_Large_L1_ret at h0
  obtain ⟨cx, g1, h1⟩ := oA_elim h0
  obtain ⟨t2, g2, h2⟩ := oB_elim h1
  obtain ⟨hf, hq⟩ := h2
  subst hf
  exact ⟨_, rep_less hr (by simp [g2]), hq⟩
 ·intro id e a w hr h0
  (try dsimp only at h0)
  split at h0
  ·rename_i hid
   obtain rfl := Nat.eq_of_beq_eq_true hid
   unfold dx_ref15_Large_L1_0 at h0
   obtain ⟨cx, g1, h1⟩ := oA_elim h0
   obtain ⟨hf, hq⟩ := h1
   subst hf
   exact ⟨_, rep_less hr (by simp), hq⟩
  ·exact h0.elim
 ·intro s w hj
  have hb := hround s w hj
  rw [← hcc]
  have e1 := body_ref15_Large_L1 f s w (fun f1 s1 w1 => f1 = f ∧ J s1 w1 ∧ μ s1 w1 < μ s w) (fun f1 w1 => f1 = f ∧ Q (.exit 0) [] w1) (fun f1 t2 w1 => f1 = f ∧ Q .ret [⟨2, .bool t2, none⟩] w1)
  simp only [true_and] at e1
  exact cast e1 hb
theorem loops_ref15_Large : LoopOk Try.prog Try.f16.ntmps G_ref15_Large (codeOf Try.f16) := loopOk_list rfl ⟨ok_ref15_Large_L1, trivial⟩
theorem C_ref15_Large.of {c0 : Int} {c1 : Int} {c2 : ByteArray} {c3P : Option Addr} {c3N : Nat} {c3C : Nat} {c4P : Option Addr} {c4N : Nat} {c4C : Nat} {c5 : Int} {w : World} {R : Bool → World → Prop} (h : F_ref15_Large c0 c1 c2 c3P c3N c3C c4P c4N c4C c5 w R) : C_ref15_Large c0 c1 c2 c3P c3N c3C c4P c4N c4C c5 w R := ofS2 (Fm := F_ref15_Large c0 c1 c2 c3P c3N c3C c4P c4N c4C c5 w) Try.func16 (by kernel_rfl) loops_ref15_Large rfl (fun _ => by kernel_rfl) h
def F_law19_fact (n : Int) (w : World) (R : Int → Int → ByteArray → Option Addr → Nat → Nat → Option Addr → Nat → Nat → Int → World → Prop) : Prop :=
 New w (.cells #[.int .i64 0, .int .i64 0, .string ⟨#[]⟩, .slice none 0 0, .slice none 0 0, .int .i64 0] 34) fun r w1 =>
 C_ref06_Int n w1 fun t40 t41 t42 t43P t43N t43C w1_1 =>
 BSl Try.prog 29 1 [(0, .agg #[.int .i64 t40, .int .i64 t41, .string t42, .slice t43P t43N t43C])] w1_1 fun t5P t5N t5C w1_2 =>
 C_ref06_Comp ⟨#[112]⟩ t5P t5N t5C w1_2 fun t60 t61 t62 t63P t63N t63C w1_3 =>
 St w1_3 (Addr.add ⟨r, 0, none⟩ 0) (.int .i64 t60) fun w1_4 =>
 St w1_4 (Addr.add ⟨r, 0, none⟩ 1) (.int .i64 t61) fun w1_5 =>
 St w1_5 (Addr.add ⟨r, 0, none⟩ 2) (.string t62) fun w1_6 =>
 St w1_6 (Addr.add ⟨r, 0, none⟩ 3) (.slice t63P t63N t63C) fun w1_7 =>
 St w1_7 (Addr.add ⟨r, 0, none⟩ 4) (.slice none 0 0) fun w1_8 =>
 St w1_8 (Addr.add ⟨r, 0, none⟩ 5) (.int .i64 0) fun w1_9 =>
 ∃ r_1, w1_9.cell? (Addr.add ⟨r, 0, none⟩ 0) = some (.int .i64 r_1) ∧
 ∃ r_2, w1_9.cell? (Addr.add ⟨r, 0, none⟩ 1) = some (.int .i64 r_2) ∧
 ∃ r_3, w1_9.cell? (Addr.add ⟨r, 0, none⟩ 2) = some (.string r_3) ∧
 ∃ rP rN rC, w1_9.cell? (Addr.add ⟨r, 0, none⟩ 3) = some (.slice rP rN rC) ∧
 ∃ rP_1 rN_1 rC_1, w1_9.cell? (Addr.add ⟨r, 0, none⟩ 4) = some (.slice rP_1 rN_1 rC_1) ∧
 ∃ r_4, w1_9.cell? (Addr.add ⟨r, 0, none⟩ 5) = some (.int .i64 r_4) ∧
 R r_1 r_2 r_3 rP rN rC rP_1 rN_1 rC_1 r_4 w1_9
theorem C_law19_fact.of {n : Int} {w : World} {R : Int → Int → ByteArray → Option Addr → Nat → Nat → Option Addr → Nat → Nat → Int → World → Prop} (h : F_law19_fact n w R) : C_law19_fact n w R := ofS8 (Fm := F_law19_fact n w) Try.func17 (by kernel_rfl) (L0 Try.f17) rfl (fun _ => by kernel_rfl) h
def F_base_Base_Head (b : Option Addr) (namex : ByteArray) (arity : Int) (k0x : Int) (k1x : ByteArray) (k2x : Int) (generation : Int) (w : World) (R : Int → Bool → World → Prop) : Prop :=
 New w (.cells #[.int .i64 k0x, .string k1x, .int .i64 k2x] 37) fun r w1 =>
 C_base_Base_made b w1 fun t16 w1_1 =>
 If (!t16)
 (R (0 : Int) false w1_1)
 (NN b fun a =>
 ∃ preds, w1_1.cell? (a.add 4) = some (.map preds) ∧
 Run Try.prog (Instr.lookup 72 (.map preds) (.agg #[.string namex, .int .i64 arity]) false) w1_1 fun v w1_2 => ∃ t25 : Option Addr, v = (.pointer t25) ∧
 ∃ t280, w1_2.cell? (Addr.add ⟨r, 0, none⟩ 0) = some (.int .i64 t280) ∧
 ∃ t281, w1_2.cell? (Addr.add ⟨r, 0, none⟩ 1) = some (.string t281) ∧
 ∃ t282, w1_2.cell? (Addr.add ⟨r, 0, none⟩ 2) = some (.int .i64 t282) ∧
 C_index_Table_Head t25 t280 t281 t282 w1_2 fun t290 t291 w1_3 =>
 ∃ t360, w1_3.cell? (Addr.add ⟨r, 0, none⟩ 0) = some (.int .i64 t360) ∧
 ∃ t361, w1_3.cell? (Addr.add ⟨r, 0, none⟩ 1) = some (.string t361) ∧
 ∃ t362, w1_3.cell? (Addr.add ⟨r, 0, none⟩ 2) = some (.int .i64 t362) ∧
 C_base_Base_first b t25 t290 t291 t360 t361 t362 generation w1_3 fun t380 t381 w1_4 =>
 R t380 t381 w1_4)
theorem C_base_Base_Head.of {b : Option Addr} {namex : ByteArray} {arity : Int} {k0x : Int} {k1x : ByteArray} {k2x : Int} {generation : Int} {w : World} {R : Int → Bool → World → Prop} (h : F_base_Base_Head b namex arity k0x k1x k2x generation w R) : C_base_Base_Head b namex arity k0x k1x k2x generation w R := ofS9 (Fm := F_base_Base_Head b namex arity k0x k1x k2x generation w) Try.func18 (by kernel_rfl) (L0 Try.f18) rfl (fun _ => by kernel_rfl) h
def F_base_Base_Next (b : Option Addr) (idx : Int) (k0x : Int) (k1x : ByteArray) (k2x : Int) (generation : Int) (w : World) (R : Int → Bool → World → Prop) : Prop :=
 New w (.cells #[.int .i64 k0x, .string k1x, .int .i64 k2x] 37) fun r w1 =>
 C_base_Base_has b idx w1 fun t15 w1_1 =>
 If (!t15)
 (R (0 : Int) false w1_1)
 (NN b fun a =>
 ∃ preds, (drw w1_1).cell? (a.add 4) = some (.map preds) ∧
 NN b fun a_1 =>
 ∃ lP lN lC, (drw w1_1).cell? (a_1.add 2) = some (.slice lP lN lC) ∧
 0 ≤ idx ∧ idx < (lN : Int) ∧ NN lP fun a_2 =>
 ∃ Head0, (drw w1_1).cell? ((((a_2.add (idx.toNat * 10)).add 0).add 0).add 0) = some (.int .i64 Head0) ∧
 ∃ Head1, (drw w1_1).cell? ((((a_2.add (idx.toNat * 10)).add 0).add 0).add 1) = some (.int .i64 Head1) ∧
 ∃ Head2, (drw w1_1).cell? ((((a_2.add (idx.toNat * 10)).add 0).add 0).add 2) = some (.string Head2) ∧
 ∃ Head3P Head3N Head3C, (drw w1_1).cell? ((((a_2.add (idx.toNat * 10)).add 0).add 0).add 3) = some (.slice Head3P Head3N Head3C) ∧
 C_base_of Head0 Head1 Head2 Head3P Head3N Head3C (drw w1_1) fun t300 t301 w1_2 =>
 w1_2.cell? (a.add 4) = (drw w1_1).cell? (a.add 4) ∧
 Run Try.prog (Instr.lookup 72 (.map preds) (.agg #[.string t300, .int .i64 t301]) false) w1_2 fun v w1_3 => ∃ t31 : Option Addr, v = (.pointer t31) ∧
 ∃ t350, w1_3.cell? (Addr.add ⟨r, 0, none⟩ 0) = some (.int .i64 t350) ∧
 ∃ t351, w1_3.cell? (Addr.add ⟨r, 0, none⟩ 1) = some (.string t351) ∧
 ∃ t352, w1_3.cell? (Addr.add ⟨r, 0, none⟩ 2) = some (.int .i64 t352) ∧
 C_index_Table_Next t31 idx t350 t351 t352 w1_3 fun t360 t361 w1_4 =>
 ∃ t430, w1_4.cell? (Addr.add ⟨r, 0, none⟩ 0) = some (.int .i64 t430) ∧
 ∃ t431, w1_4.cell? (Addr.add ⟨r, 0, none⟩ 1) = some (.string t431) ∧
 ∃ t432, w1_4.cell? (Addr.add ⟨r, 0, none⟩ 2) = some (.int .i64 t432) ∧
 C_base_Base_first b t31 t360 t361 t430 t431 t432 generation w1_4 fun t450 t451 w1_5 =>
 R t450 t451 w1_5)
def G_base_Base_Next : Gen where
 loop := lookL []
 plan := fun id =>
  bif Nat.beq id 3 then some ([0, 1, 3, 7, 0, 16, 48, 112, 0, 496, 1008, 2032, 4080, 8176, 16383, 32767], .take 0 (.take 1 (.take 2 (.take 3 (.take 4 (.take 5 (.take 6 (.take 7 (.take 8 (.take 9 (.take 10 (.take 11 (.take 12 (.take 13 (.take 14 (.take 15 .done)))))))))))))))) else none
theorem C_base_Base_Next.of {b : Option Addr} {idx : Int} {k0x : Int} {k1x : ByteArray} {k2x : Int} {generation : Int} {w : World} {R : Int → Bool → World → Prop} (h : F_base_Base_Next b idx k0x k1x k2x generation w R) : C_base_Base_Next b idx k0x k1x k2x generation w R := ofS9 (Fm := F_base_Base_Next b idx k0x k1x k2x generation w) Try.func19 (by kernel_rfl) (L1 G_base_Base_Next Try.f19 fun _ => rfl) rfl (fun _ => by kernel_rfl) h
def F_base_Base_Clause (b : Option Addr) (idx : Int) (w : World) (R : Int → Int → ByteArray → Option Addr → Nat → Nat → Option Addr → Nat → Nat → Int → Int → World → Prop) : Prop :=
 New w (.cells #[.int .i64 0, .int .i64 0, .string ⟨#[]⟩, .slice none 0 0, .slice none 0 0, .int .i64 0] 34) fun r w1 =>
 C_base_Base_may b idx w1 fun t9 w1_1 =>
 If (t9 != (0 : Int))
 (St w1_1 (Addr.add ⟨r, 0, none⟩ 0) (.int .i64 0) fun w1_2 =>
 St w1_2 (Addr.add ⟨r, 0, none⟩ 1) (.int .i64 0) fun w1_3 =>
 St w1_3 (Addr.add ⟨r, 0, none⟩ 2) (.string ⟨#[]⟩) fun w1_4 =>
 St w1_4 (Addr.add ⟨r, 0, none⟩ 3) (.slice none 0 0) fun w1_5 =>
 St w1_5 (Addr.add ⟨r, 0, none⟩ 4) (.slice none 0 0) fun w1_6 =>
 St w1_6 (Addr.add ⟨r, 0, none⟩ 5) (.int .i64 0) fun w1_7 =>
 ∃ r_1, w1_7.cell? (Addr.add ⟨r, 0, none⟩ 0) = some (.int .i64 r_1) ∧
 ∃ r_2, w1_7.cell? (Addr.add ⟨r, 0, none⟩ 1) = some (.int .i64 r_2) ∧
 ∃ r_3, w1_7.cell? (Addr.add ⟨r, 0, none⟩ 2) = some (.string r_3) ∧
 ∃ rP rN rC, w1_7.cell? (Addr.add ⟨r, 0, none⟩ 3) = some (.slice rP rN rC) ∧
 ∃ rP_1 rN_1 rC_1, w1_7.cell? (Addr.add ⟨r, 0, none⟩ 4) = some (.slice rP_1 rN_1 rC_1) ∧
 ∃ r_4, w1_7.cell? (Addr.add ⟨r, 0, none⟩ 5) = some (.int .i64 r_4) ∧
 R r_1 r_2 r_3 rP rN rC rP_1 rN_1 rC_1 r_4 t9 w1_7)
 (NN b fun a =>
 ∃ lP lN lC, w1_1.cell? (a.add 2) = some (.slice lP lN lC) ∧
 0 ≤ idx ∧ idx < (lN : Int) ∧ NN lP fun a_1 =>
 ∃ c0, w1_1.cell? (((a_1.add (idx.toNat * 10)).add 0).add 0) = some (.int .i64 c0) ∧
 ∃ c1, w1_1.cell? (((a_1.add (idx.toNat * 10)).add 0).add 1) = some (.int .i64 c1) ∧
 ∃ c2, w1_1.cell? (((a_1.add (idx.toNat * 10)).add 0).add 2) = some (.string c2) ∧
 ∃ c3P c3N c3C, w1_1.cell? (((a_1.add (idx.toNat * 10)).add 0).add 3) = some (.slice c3P c3N c3C) ∧
 ∃ c4P c4N c4C, w1_1.cell? (((a_1.add (idx.toNat * 10)).add 0).add 4) = some (.slice c4P c4N c4C) ∧
 ∃ c5, w1_1.cell? (((a_1.add (idx.toNat * 10)).add 0).add 5) = some (.int .i64 c5) ∧
 C_base_copyOf c0 c1 c2 c3P c3N c3C c4P c4N c4C c5 w1_1 fun t220 t221 t222 t223P t223N t223C t224P t224N t224C t225 w1_8 =>
 St w1_8 (Addr.add ⟨r, 0, none⟩ 0) (.int .i64 t220) fun w1_9 =>
 St w1_9 (Addr.add ⟨r, 0, none⟩ 1) (.int .i64 t221) fun w1_10 =>
 St w1_10 (Addr.add ⟨r, 0, none⟩ 2) (.string t222) fun w1_11 =>
 St w1_11 (Addr.add ⟨r, 0, none⟩ 3) (.slice t223P t223N t223C) fun w1_12 =>
 St w1_12 (Addr.add ⟨r, 0, none⟩ 4) (.slice t224P t224N t224C) fun w1_13 =>
 St w1_13 (Addr.add ⟨r, 0, none⟩ 5) (.int .i64 t225) fun w1_14 =>
 ∃ r_5, w1_14.cell? (Addr.add ⟨r, 0, none⟩ 0) = some (.int .i64 r_5) ∧
 ∃ r_6, w1_14.cell? (Addr.add ⟨r, 0, none⟩ 1) = some (.int .i64 r_6) ∧
 ∃ r_7, w1_14.cell? (Addr.add ⟨r, 0, none⟩ 2) = some (.string r_7) ∧
 ∃ rP_2 rN_2 rC_2, w1_14.cell? (Addr.add ⟨r, 0, none⟩ 3) = some (.slice rP_2 rN_2 rC_2) ∧
 ∃ rP_3 rN_3 rC_3, w1_14.cell? (Addr.add ⟨r, 0, none⟩ 4) = some (.slice rP_3 rN_3 rC_3) ∧
 ∃ r_8, w1_14.cell? (Addr.add ⟨r, 0, none⟩ 5) = some (.int .i64 r_8) ∧
 R r_5 r_6 r_7 rP_2 rN_2 rC_2 rP_3 rN_3 rC_3 r_8 (0 : Int) w1_14)
theorem C_base_Base_Clause.of {b : Option Addr} {idx : Int} {w : World} {R : Int → Int → ByteArray → Option Addr → Nat → Nat → Option Addr → Nat → Nat → Int → Int → World → Prop} (h : F_base_Base_Clause b idx w R) : C_base_Base_Clause b idx w R := ofS10 (Fm := F_base_Base_Clause b idx w) Try.func20 (by kernel_rfl) (L0 Try.f20) rfl (fun _ => by kernel_rfl) h
def F_base_Base_At_k1 (R : Int → ByteArray → Int → Int → Int → Bool → World → Prop) (r : Nat) (w1_2 : World) : Prop :=
 St w1_2 (Addr.add ⟨r, 0, none⟩ 0) (.int .i64 0) fun w1_3 =>
 St w1_3 (Addr.add ⟨r, 0, none⟩ 1) (.string ⟨#[]⟩) fun w1_4 =>
 St w1_4 (Addr.add ⟨r, 0, none⟩ 2) (.int .i64 0) fun w1_5 =>
 St w1_5 (Addr.add ⟨r, 0, none⟩ 3) (.int .i64 0) fun w1_6 =>
 St w1_6 (Addr.add ⟨r, 0, none⟩ 4) (.int .i64 0) fun w1_7 =>
 ∃ r_1, w1_7.cell? (Addr.add ⟨r, 0, none⟩ 0) = some (.int .i64 r_1) ∧
 ∃ r_2, w1_7.cell? (Addr.add ⟨r, 0, none⟩ 1) = some (.string r_2) ∧
 ∃ r_3, w1_7.cell? (Addr.add ⟨r, 0, none⟩ 2) = some (.int .i64 r_3) ∧
 ∃ r_4, w1_7.cell? (Addr.add ⟨r, 0, none⟩ 3) = some (.int .i64 r_4) ∧
 ∃ r_5, w1_7.cell? (Addr.add ⟨r, 0, none⟩ 4) = some (.int .i64 r_5) ∧
 R r_1 r_2 r_3 r_4 r_5 false w1_7
def F_base_Base_At (b : Option Addr) (idx : Int) (i : Int) (w : World) (R : Int → ByteArray → Int → Int → Int → Bool → World → Prop) : Prop :=
 New w (.cells #[.int .i64 0, .string ⟨#[]⟩, .int .i64 0, .int .i64 0, .int .i64 0] 60) fun r w1 =>
 C_base_Base_has b idx w1 fun t10 w1_1 =>
 If (!t10)
 (F_base_Base_At_k1 R r w1_1)
 (If (decide (i < (0 : Int)))
 (F_base_Base_At_k1 R r w1_1)
 (NN b fun a =>
 ∃ lP lN lC, w1_1.cell? (a.add 2) = some (.slice lP lN lC) ∧
 0 ≤ idx ∧ idx < (lN : Int) ∧ NN lP fun a_1 =>
 ∃ codeP codeN codeC, w1_1.cell? ((a_1.add (idx.toNat * 10)).add 6) = some (.slice codeP codeN codeC) ∧
 If (decide (i ≥ (codeN : Int)))
 (St w1_1 (Addr.add ⟨r, 0, none⟩ 0) (.int .i64 0) fun w1_8 =>
 St w1_8 (Addr.add ⟨r, 0, none⟩ 1) (.string ⟨#[]⟩) fun w1_9 =>
 St w1_9 (Addr.add ⟨r, 0, none⟩ 2) (.int .i64 0) fun w1_10 =>
 St w1_10 (Addr.add ⟨r, 0, none⟩ 3) (.int .i64 0) fun w1_11 =>
 St w1_11 (Addr.add ⟨r, 0, none⟩ 4) (.int .i64 0) fun w1_12 =>
 ∃ r_6, w1_12.cell? (Addr.add ⟨r, 0, none⟩ 0) = some (.int .i64 r_6) ∧
 ∃ r_7, w1_12.cell? (Addr.add ⟨r, 0, none⟩ 1) = some (.string r_7) ∧
 ∃ r_8, w1_12.cell? (Addr.add ⟨r, 0, none⟩ 2) = some (.int .i64 r_8) ∧
 ∃ r_9, w1_12.cell? (Addr.add ⟨r, 0, none⟩ 3) = some (.int .i64 r_9) ∧
 ∃ r_10, w1_12.cell? (Addr.add ⟨r, 0, none⟩ 4) = some (.int .i64 r_10) ∧
 R r_6 r_7 r_8 r_9 r_10 false w1_12)
 (NN b fun a_2 =>
 ∃ lP_1 lN_1 lC_1, w1_1.cell? (a_2.add 2) = some (.slice lP_1 lN_1 lC_1) ∧
 0 ≤ idx ∧ idx < (lN_1 : Int) ∧ NN lP_1 fun a_3 =>
 ∃ codeP_1 codeN_1 codeC_1, w1_1.cell? ((a_3.add (idx.toNat * 10)).add 6) = some (.slice codeP_1 codeN_1 codeC_1) ∧
 0 ≤ i ∧ i < (codeN_1 : Int) ∧ NN codeP_1 fun a_4 =>
 ∃ t400, w1_1.cell? ((a_4.add (i.toNat * 5)).add 0) = some (.int .i64 t400) ∧
 ∃ t401, w1_1.cell? ((a_4.add (i.toNat * 5)).add 1) = some (.string t401) ∧
 ∃ t402, w1_1.cell? ((a_4.add (i.toNat * 5)).add 2) = some (.int .i64 t402) ∧
 ∃ t403, w1_1.cell? ((a_4.add (i.toNat * 5)).add 3) = some (.int .i64 t403) ∧
 ∃ t404, w1_1.cell? ((a_4.add (i.toNat * 5)).add 4) = some (.int .i64 t404) ∧
 St w1_1 (Addr.add ⟨r, 0, none⟩ 0) (.int .i64 t400) fun w1_13 =>
 St w1_13 (Addr.add ⟨r, 0, none⟩ 1) (.string t401) fun w1_14 =>
 St w1_14 (Addr.add ⟨r, 0, none⟩ 2) (.int .i64 t402) fun w1_15 =>
 St w1_15 (Addr.add ⟨r, 0, none⟩ 3) (.int .i64 t403) fun w1_16 =>
 St w1_16 (Addr.add ⟨r, 0, none⟩ 4) (.int .i64 t404) fun w1_17 =>
 ∃ r_11, w1_17.cell? (Addr.add ⟨r, 0, none⟩ 0) = some (.int .i64 r_11) ∧
 ∃ r_12, w1_17.cell? (Addr.add ⟨r, 0, none⟩ 1) = some (.string r_12) ∧
 ∃ r_13, w1_17.cell? (Addr.add ⟨r, 0, none⟩ 2) = some (.int .i64 r_13) ∧
 ∃ r_14, w1_17.cell? (Addr.add ⟨r, 0, none⟩ 3) = some (.int .i64 r_14) ∧
 ∃ r_15, w1_17.cell? (Addr.add ⟨r, 0, none⟩ 4) = some (.int .i64 r_15) ∧
 R r_11 r_12 r_13 r_14 r_15 true w1_17)))
theorem C_base_Base_At.of {b : Option Addr} {idx : Int} {i : Int} {w : World} {R : Int → ByteArray → Int → Int → Int → Bool → World → Prop} (h : F_base_Base_At b idx i w R) : C_base_Base_At b idx i w R := ofS11 (Fm := F_base_Base_At b idx i w) Try.func21 (by kernel_rfl) (L0 Try.f21) rfl (fun _ => by kernel_rfl) h
def F_base_Base_Lives (b : Option Addr) (idx : Int) (generation : Int) (w : World) (R : Bool → World → Prop) : Prop :=
 C_base_Base_has b idx w fun t10 w1 =>
 If (!t10)
 (R false w1)
 (NN b fun a =>
 ∃ lP lN lC, w1.cell? (a.add 2) = some (.slice lP lN lC) ∧
 0 ≤ idx ∧ idx < (lN : Int) ∧ NN lP fun a_1 =>
 ∃ t180, w1.cell? ((a_1.add (idx.toNat * 10)).add 0) = some (.int .i64 t180) ∧
 ∃ t181, w1.cell? ((a_1.add (idx.toNat * 10)).add 1) = some (.int .i64 t181) ∧
 ∃ t182, w1.cell? ((a_1.add (idx.toNat * 10)).add 2) = some (.string t182) ∧
 ∃ t183P t183N t183C, w1.cell? ((a_1.add (idx.toNat * 10)).add 3) = some (.slice t183P t183N t183C) ∧
 ∃ t184P t184N t184C, w1.cell? ((a_1.add (idx.toNat * 10)).add 4) = some (.slice t184P t184N t184C) ∧
 ∃ t185, w1.cell? ((a_1.add (idx.toNat * 10)).add 5) = some (.int .i64 t185) ∧
 ∃ t186P t186N t186C, w1.cell? ((a_1.add (idx.toNat * 10)).add 6) = some (.slice t186P t186N t186C) ∧
 ∃ t187, w1.cell? ((a_1.add (idx.toNat * 10)).add 7) = some (.int .i64 t187) ∧
 ∃ t188, w1.cell? ((a_1.add (idx.toNat * 10)).add 8) = some (.int .i64 t188) ∧
 ∃ t189, w1.cell? ((a_1.add (idx.toNat * 10)).add 9) = some (.bool t189) ∧
 New w1 (.cells #[.int .i64 0, .int .i64 0, .string ⟨#[]⟩, .slice none 0 0, .slice none 0 0, .int .i64 0, .slice none 0 0, .int .i64 0, .int .i64 0, .bool false] 88) fun r w1_1 =>
 St w1_1 (Addr.add ⟨r, 0, none⟩ 0) (.int .i64 t180) fun w1_2 =>
 St w1_2 (Addr.add ⟨r, 0, none⟩ 1) (.int .i64 t181) fun w1_3 =>
 St w1_3 (Addr.add ⟨r, 0, none⟩ 2) (.string t182) fun w1_4 =>
 St w1_4 (Addr.add ⟨r, 0, none⟩ 3) (.slice t183P t183N t183C) fun w1_5 =>
 St w1_5 (Addr.add ⟨r, 0, none⟩ 4) (.slice t184P t184N t184C) fun w1_6 =>
 St w1_6 (Addr.add ⟨r, 0, none⟩ 5) (.int .i64 t185) fun w1_7 =>
 St w1_7 (Addr.add ⟨r, 0, none⟩ 6) (.slice t186P t186N t186C) fun w1_8 =>
 St w1_8 (Addr.add ⟨r, 0, none⟩ 7) (.int .i64 t187) fun w1_9 =>
 St w1_9 (Addr.add ⟨r, 0, none⟩ 8) (.int .i64 t188) fun w1_10 =>
 St w1_10 (Addr.add ⟨r, 0, none⟩ 9) (.bool t189) fun w1_11 =>
 ∃ born, w1_11.cell? (Addr.add ⟨r, 0, none⟩ 7) = some (.int .i64 born) ∧
 If (decide (born ≤ generation))
 (∃ dead, w1_11.cell? (Addr.add ⟨r, 0, none⟩ 8) = some (.int .i64 dead) ∧
 If (dead == (0 : Int))
 (R true w1_11)
 (∃ dead_1, w1_11.cell? (Addr.add ⟨r, 0, none⟩ 8) = some (.int .i64 dead_1) ∧
 R (decide (dead_1 > generation)) w1_11))
 (R false w1_11))
theorem C_base_Base_Lives.of {b : Option Addr} {idx : Int} {generation : Int} {w : World} {R : Bool → World → Prop} (h : F_base_Base_Lives b idx generation w R) : C_base_Base_Lives b idx generation w R := ofS2 (Fm := F_base_Base_Lives b idx generation w) Try.func22 (by kernel_rfl) (L0 Try.f22) rfl (fun _ => by kernel_rfl) h
end Go.Proofs.Ytlndgaijekihiaa
