/- The formulas of this seat's functions, held against the loaded program by the kernel. Printed by a program. -/
import Derived.Test.YtpkfckfdehaamaaGenC
set_option maxRecDepth 100000
set_option linter.unusedVariables false
namespace Go.Proofs.Ytpkfckfdehaamaa
open Go Go.D Go.Proofs

def F_gosem_cut_init (w : World) (R : World → Prop) : Prop :=
  CallX Try.prog 1 [] w fun v w1 => v = (.tuple #[]) ∧
  R w1

def G_gosem_cut_init : Gen where
  loop := lookL []
  plan := fun _ => none

theorem loops_gosem_cut_init : LoopOk Try.prog Try.f2.ntmps G_gosem_cut_init (codeOf Try.f2) := loopOk_none fun _ => rfl

theorem den_gosem_cut_init  (w : World) (R : Value → World → Prop) :
    F_gosem_cut_init w (fun w1 => R (.tuple #[]) w1) = den Try.prog Try.f2.ntmps G_gosem_cut_init (codeOf Try.f2) [] (postD Try.prog Try.f2.results.toList R) (entry [] 0) w := by kernel_rfl

theorem C_gosem_cut_init.of {w : World} {R : World → Prop} (h : F_gosem_cut_init w R) : C_gosem_cut_init w R := by
  refine (calls_of_den (c := codeOf Try.f2) seat_ok seat_mixed Try.func2 (by kernel_rfl) loops_gosem_cut_init (args := []) rfl (R := fun v w1 => v = (.tuple #[] : Value) ∧ R w1) ?_).mono ?_
  · rw [← den_gosem_cut_init]
    simpa using h
  · rintro en w1 ⟨v, he, rfl, h⟩
    exact ⟨he, h⟩

def F_law18_IndexKeys_k1 (R : Bool → World → Prop) (w1_10 : World) : Prop :=
  R false w1_10

def F_law18_IndexKeys (t0 : Int) (t1 : Int) (t2 : ByteArray) (t3P : Option Addr) (t3N : Nat) (t3C : Nat) (a0 : Int) (a1 : ByteArray) (a2 : Int) (b0 : Int) (b1 : ByteArray) (b2 : Int) (w : World) (R : Bool → World → Prop) : Prop :=
  New w (.cells #[.int .i64 t0, .int .i64 t1, .string t2, .slice t3P t3N t3C] 24) fun r w1 =>
  New w1 (.cells #[.int .i64 a0, .string a1, .int .i64 a2] 26) fun r_1 w1_1 =>
  New w1_1 (.cells #[.int .i64 b0, .string b1, .int .i64 b2] 26) fun r_2 w1_2 =>
  C_law18_lives  (drw w1_2) fun t7 w1_3 =>
  If t7
  (∃ t90 : Int, w1_3.cell? ((⟨r, 0, none⟩ : Addr).add 0) = some (.int .i64 t90) ∧
  ∃ t91 : Int, w1_3.cell? ((⟨r, 0, none⟩ : Addr).add 1) = some (.int .i64 t91) ∧
  ∃ t92 : ByteArray, w1_3.cell? ((⟨r, 0, none⟩ : Addr).add 2) = some (.string t92) ∧
  ∃ t93P : Option Addr, ∃ t93N : Nat, ∃ t93C : Nat, w1_3.cell? ((⟨r, 0, none⟩ : Addr).add 3) = some (.slice t93P t93N t93C) ∧
  ∃ t110 : Int, w1_3.cell? ((⟨r, 0, none⟩ : Addr).add 0) = some (.int .i64 t110) ∧
  ∃ t111 : Int, w1_3.cell? ((⟨r, 0, none⟩ : Addr).add 1) = some (.int .i64 t111) ∧
  ∃ t112 : ByteArray, w1_3.cell? ((⟨r, 0, none⟩ : Addr).add 2) = some (.string t112) ∧
  ∃ t113P : Option Addr, ∃ t113N : Nat, ∃ t113C : Nat, w1_3.cell? ((⟨r, 0, none⟩ : Addr).add 3) = some (.slice t113P t113N t113C) ∧
  C_index_KeyOf t90 t91 t92 t93P t93N t93C w1_3 fun t100 t101 t102 w1_4 =>
  (∀ i, i < 4 → w1_4.cell? ((⟨r, 0, none⟩ : Addr).add i) = w1_3.cell? ((⟨r, 0, none⟩ : Addr).add i)) ∧
  C_ref18_KeyOf t110 t111 t112 t113P t113N t113C w1_4 fun t120 t121 t122 w1_5 =>
  AggEq Try.prog 26 (.agg #[.int .i64 t100, .string t101, .int .i64 t102]) (.agg #[.int .i64 t120, .string t121, .int .i64 t122]) fun bb =>
  If bb
  (∃ t160 : Int, w1_5.cell? ((⟨r, 0, none⟩ : Addr).add 0) = some (.int .i64 t160) ∧
  ∃ t161 : Int, w1_5.cell? ((⟨r, 0, none⟩ : Addr).add 1) = some (.int .i64 t161) ∧
  ∃ t162 : ByteArray, w1_5.cell? ((⟨r, 0, none⟩ : Addr).add 2) = some (.string t162) ∧
  ∃ t163P : Option Addr, ∃ t163N : Nat, ∃ t163C : Nat, w1_5.cell? ((⟨r, 0, none⟩ : Addr).add 3) = some (.slice t163P t163N t163C) ∧
  ∃ t180 : Int, w1_5.cell? ((⟨r, 0, none⟩ : Addr).add 0) = some (.int .i64 t180) ∧
  ∃ t181 : Int, w1_5.cell? ((⟨r, 0, none⟩ : Addr).add 1) = some (.int .i64 t181) ∧
  ∃ t182 : ByteArray, w1_5.cell? ((⟨r, 0, none⟩ : Addr).add 2) = some (.string t182) ∧
  ∃ t183P : Option Addr, ∃ t183N : Nat, ∃ t183C : Nat, w1_5.cell? ((⟨r, 0, none⟩ : Addr).add 3) = some (.slice t183P t183N t183C) ∧
  C_index_First t160 t161 t162 t163P t163N t163C w1_5 fun t170 t171 t172 w1_6 =>
  (∀ i, i < 4 → w1_6.cell? ((⟨r, 0, none⟩ : Addr).add i) = w1_5.cell? ((⟨r, 0, none⟩ : Addr).add i)) ∧
  C_ref18_First t180 t181 t182 t183P t183N t183C w1_6 fun t190 t191 t192 w1_7 =>
  AggEq Try.prog 26 (.agg #[.int .i64 t170, .string t171, .int .i64 t172]) (.agg #[.int .i64 t190, .string t191, .int .i64 t192]) fun bb_1 =>
  If bb_1
  (∃ t230 : Int, w1_7.cell? ((⟨r_1, 0, none⟩ : Addr).add 0) = some (.int .i64 t230) ∧
  ∃ t231 : ByteArray, w1_7.cell? ((⟨r_1, 0, none⟩ : Addr).add 1) = some (.string t231) ∧
  ∃ t232 : Int, w1_7.cell? ((⟨r_1, 0, none⟩ : Addr).add 2) = some (.int .i64 t232) ∧
  ∃ t240 : Int, w1_7.cell? ((⟨r_2, 0, none⟩ : Addr).add 0) = some (.int .i64 t240) ∧
  ∃ t241 : ByteArray, w1_7.cell? ((⟨r_2, 0, none⟩ : Addr).add 1) = some (.string t241) ∧
  ∃ t242 : Int, w1_7.cell? ((⟨r_2, 0, none⟩ : Addr).add 2) = some (.int .i64 t242) ∧
  ∃ t260 : Int, w1_7.cell? ((⟨r_1, 0, none⟩ : Addr).add 0) = some (.int .i64 t260) ∧
  ∃ t261 : ByteArray, w1_7.cell? ((⟨r_1, 0, none⟩ : Addr).add 1) = some (.string t261) ∧
  ∃ t262 : Int, w1_7.cell? ((⟨r_1, 0, none⟩ : Addr).add 2) = some (.int .i64 t262) ∧
  ∃ t270 : Int, w1_7.cell? ((⟨r_2, 0, none⟩ : Addr).add 0) = some (.int .i64 t270) ∧
  ∃ t271 : ByteArray, w1_7.cell? ((⟨r_2, 0, none⟩ : Addr).add 1) = some (.string t271) ∧
  ∃ t272 : Int, w1_7.cell? ((⟨r_2, 0, none⟩ : Addr).add 2) = some (.int .i64 t272) ∧
  C_index_Meet t230 t231 t232 t240 t241 t242 w1_7 fun t25 w1_8 =>
  (∀ i, i < 3 → w1_8.cell? ((⟨r_2, 0, none⟩ : Addr).add i) = w1_7.cell? ((⟨r_2, 0, none⟩ : Addr).add i)) ∧
  (∀ i, i < 3 → w1_8.cell? ((⟨r_1, 0, none⟩ : Addr).add i) = w1_7.cell? ((⟨r_1, 0, none⟩ : Addr).add i)) ∧
  C_ref18_Meet t260 t261 t262 t270 t271 t272 w1_8 fun t28 w1_9 =>
  R (t25 == t28) w1_9)
  (F_law18_IndexKeys_k1 R w1_7))
  (F_law18_IndexKeys_k1 R w1_5))
  (F_law18_IndexKeys_k1 R w1_3)

def G_law18_IndexKeys : Gen where
  loop := lookL []
  plan := fun id =>
    bif Nat.beq id 1 then some ([0, 1, 3, 7, 3, 31, 63, 127, 255, 511, 1023, 511, 4095, 8191, 16383, 32767, 65535, 65535, 262143, 65535, 65535, 2097151, 4194303, 8388607, 16777215], .take 0 (.take 1 (.take 2 (.take 4 (.take 3 (.take 5 (.take 6 (.take 7 (.take 8 (.take 9 (.take 11 (.take 10 (.take 12 (.take 13 (.take 14 (.take 15 (.take 16 (.take 17 (.take 19 (.take 20 (.take 18 (.take 21 (.take 22 (.take 23 (.take 24 .done))))))))))))))))))))))))) else none

theorem loops_law18_IndexKeys : LoopOk Try.prog Try.f3.ntmps G_law18_IndexKeys (codeOf Try.f3) := loopOk_none fun _ => rfl

theorem den_law18_IndexKeys (t0 : Int) (t1 : Int) (t2 : ByteArray) (t3P : Option Addr) (t3N : Nat) (t3C : Nat) (a0 : Int) (a1 : ByteArray) (a2 : Int) (b0 : Int) (b1 : ByteArray) (b2 : Int) (w : World) (R : Value → World → Prop) :
    F_law18_IndexKeys t0 t1 t2 t3P t3N t3C a0 a1 a2 b0 b1 b2 w (fun r w1 => R (.bool r) w1) = den Try.prog Try.f3.ntmps G_law18_IndexKeys (codeOf Try.f3) [] (postD Try.prog Try.f3.results.toList R) (entry [.agg #[.int .i64 t0, .int .i64 t1, .string t2, .slice t3P t3N t3C], .agg #[.int .i64 a0, .string a1, .int .i64 a2], .agg #[.int .i64 b0, .string b1, .int .i64 b2]] 0) w := by kernel_rfl

theorem C_law18_IndexKeys.of {t0 : Int} {t1 : Int} {t2 : ByteArray} {t3P : Option Addr} {t3N : Nat} {t3C : Nat} {a0 : Int} {a1 : ByteArray} {a2 : Int} {b0 : Int} {b1 : ByteArray} {b2 : Int} {w : World} {R : Bool → World → Prop} (h : F_law18_IndexKeys t0 t1 t2 t3P t3N t3C a0 a1 a2 b0 b1 b2 w R) : C_law18_IndexKeys t0 t1 t2 t3P t3N t3C a0 a1 a2 b0 b1 b2 w R := by
  refine (calls_of_den (c := codeOf Try.f3) seat_ok seat_mixed Try.func3 (by kernel_rfl) loops_law18_IndexKeys (args := [.agg #[.int .i64 t0, .int .i64 t1, .string t2, .slice t3P t3N t3C], .agg #[.int .i64 a0, .string a1, .int .i64 a2], .agg #[.int .i64 b0, .string b1, .int .i64 b2]]) rfl (R := fun v w1 => ∃ (r : Bool), v = (.bool r : Value) ∧ R r w1) ?_).mono ?_
  · rw [← den_law18_IndexKeys]
    have e : (fun r w1 => ∃ (r' : Bool), (.bool r : Value) = (.bool r' : Value) ∧ R r' w1) = R := by
      funext r w1
      exact propext ⟨fun ⟨r', he, h⟩ => by simp at he; simp_all, fun h => ⟨_, rfl, h⟩⟩
    simpa only [e] using h
  · rintro en w1 ⟨v, he, r, rfl, h⟩
    exact ⟨_, he, h⟩

structure S_law18_IndexDoes_L1 where
  i : Int

def F_law18_IndexDoes_k1 (Kr : Bool → World → Prop) (w1_11 : World) : Prop :=
  Kr false w1_11

/-- One round. -/
def B_law18_IndexDoes_L1 (lP_1 : Option Addr) (lN_1 : Nat) (lC_1 : Nat) (t : Option Addr) (x : Addr) (s : S_law18_IndexDoes_L1) (w : World) (Kn : S_law18_IndexDoes_L1 → World → Prop) (Kx0 : World → Prop) (Kr : Bool → World → Prop) : Prop :=
  If (decide ((s.i : Int) < (lN_1 : Int)))
  (If (decide ((s.i : Int) < (60 : Int)))
  (0 ≤ (s.i : Int) ∧ (s.i : Int) < (lN_1 : Int) ∧ NN lP_1 fun a =>
  ∃ t300 : Int, (drw w).cell? ((a.add ((s.i : Int).toNat * 6)).add 0) = some (.int .i64 t300) ∧
  ∃ t301 : Int, (drw w).cell? ((a.add ((s.i : Int).toNat * 6)).add 1) = some (.int .i64 t301) ∧
  ∃ t302 : Int, (drw w).cell? ((a.add ((s.i : Int).toNat * 6)).add 2) = some (.int .i64 t302) ∧
  ∃ t303 : ByteArray, (drw w).cell? ((a.add ((s.i : Int).toNat * 6)).add 3) = some (.string t303) ∧
  ∃ t304 : Int, (drw w).cell? ((a.add ((s.i : Int).toNat * 6)).add 4) = some (.int .i64 t304) ∧
  ∃ t305 : Bool, (drw w).cell? ((a.add ((s.i : Int).toNat * 6)).add 5) = some (.bool t305) ∧
  C_law18_do t (some x) t300 t301 t302 t303 t304 t305 (drw w) fun t31 w1_3 =>
  If (!t31)
  (F_law18_IndexDoes_k1 Kr w1_3)
  (NN (some x) fun a_1 =>
  ∃ LP : Option Addr, ∃ LN : Nat, ∃ LC : Nat, w1_3.cell? (a_1.add 0) = some (.slice LP LN LC) ∧
  C_index_Table_Len t w1_3 fun t35 w1_4 =>
  w1_4.cell? (a_1.add 0) = w1_3.cell? (a_1.add 0) ∧
  If (t35 != (LN : Int))
  (F_law18_IndexDoes_k1 Kr w1_4)
  (0 ≤ (s.i : Int) ∧ (s.i : Int) < (lN_1 : Int) ∧ NN lP_1 fun a_2 =>
  ∃ Key0 : Int, w1_4.cell? (((a_2.add ((s.i : Int).toNat * 6)).add 2).add 0) = some (.int .i64 Key0) ∧
  ∃ Key1 : ByteArray, w1_4.cell? (((a_2.add ((s.i : Int).toNat * 6)).add 2).add 1) = some (.string Key1) ∧
  ∃ Key2 : Int, w1_4.cell? (((a_2.add ((s.i : Int).toNat * 6)).add 2).add 2) = some (.int .i64 Key2) ∧
  0 ≤ (s.i : Int) ∧ (s.i : Int) < (lN_1 : Int) ∧ NN lP_1 fun a_3 =>
  ∃ Key0_1 : Int, w1_4.cell? (((a_3.add ((s.i : Int).toNat * 6)).add 2).add 0) = some (.int .i64 Key0_1) ∧
  ∃ Key1_1 : ByteArray, w1_4.cell? (((a_3.add ((s.i : Int).toNat * 6)).add 2).add 1) = some (.string Key1_1) ∧
  ∃ Key2_1 : Int, w1_4.cell? (((a_3.add ((s.i : Int).toNat * 6)).add 2).add 2) = some (.int .i64 Key2_1) ∧
  C_index_Table_All t Key0 Key1 Key2 w1_4 fun t50P t50N t50C w1_5 =>
  (∀ i, i < 3 → w1_5.cell? (((a_3.add ((s.i : Int).toNat * 6)).add 2).add i) = w1_4.cell? (((a_3.add ((s.i : Int).toNat * 6)).add 2).add i)) ∧
  C_ref18_Table_All (some x) Key0_1 Key1_1 Key2_1 w1_5 fun t57P t57N t57C w1_6 =>
  C_ref15_SameInts t50P t50N t50C t57P t57N t57C w1_6 fun t58 w1_7 =>
  If (!t58)
  (F_law18_IndexDoes_k1 Kr w1_7)
  (C_index_Table_All t (0 : Int) ⟨#[]⟩ (0 : Int) w1_7 fun t64P t64N t64C w1_8 =>
  C_ref18_Table_All (some x) (0 : Int) ⟨#[]⟩ (0 : Int) w1_8 fun t67P t67N t67C w1_9 =>
  C_ref15_SameInts t64P t64N t64C t67P t67N t67C w1_9 fun t68 w1_10 =>
  If (!t68)
  (Kr false w1_10)
  (Kn ⟨(IntKind.i64.wrap ((s.i : Int) + (1 : Int)))⟩ w1_10)))))
  (Kx0 w))
  (Kx0 w)

def F_law18_IndexDoes_L1 (lP_1 : Option Addr) (lN_1 : Nat) (lC_1 : Nat) (t : Option Addr) (x : Addr) (s : S_law18_IndexDoes_L1) (w : World) (Kx0 : World → Prop) (Kr : Bool → World → Prop) : Prop :=
  LoopS (fun s w Kn => B_law18_IndexDoes_L1 lP_1 lN_1 lC_1 t x s w Kn Kx0 Kr) s w

def F_law18_IndexDoes (lP : Option Addr) (lN : Nat) (lC : Nat) (w : World) (R : Bool → World → Prop) : Prop :=
  C_index_New  w fun t6 w1 =>
  New w1 (.cells #[.slice none 0 0] 37) fun r w1_1 =>
  C_law18_lives  w1_1 fun t9 w1_2 =>
  If (!t9)
  (R false w1_2)
  (If t6.isNone
  (R false w1_2)
  (F_law18_IndexDoes_L1 lP lN lC t6 ⟨r, 0, none⟩ ⟨(0 : Int)⟩ w1_2
  (fun w1_12 =>
  R true w1_12)
  (fun t2_1 w1_13 =>
  R t2_1 w1_13)))

def lit_law18_IndexDoes_L1 (f : (Option Addr) × Nat × Nat × (Option Addr) × Addr) (s : S_law18_IndexDoes_L1) : Env := [⟨0, .slice f.1 f.2.1 f.2.2.1, none⟩, ⟨3, .pointer f.2.2.2.1, none⟩, ⟨4, .pointer (some f.2.2.2.2), none⟩, ⟨5, .int .i64 s.i, none⟩]

def dec_law18_IndexDoes_L1 (e : Env) (K : ((Option Addr) × Nat × Nat × (Option Addr) × Addr) → S_law18_IndexDoes_L1 → Prop) : Prop :=
  onV (getV e 0) fun u1 =>
  asS u1 fun lP_1 lN_1 lC_1 =>
  onV (getV e 3) fun u2 =>
  asP u2 fun t =>
  onV (getV e 4) fun u3 =>
  asA u3 fun x =>
  onV (getV e 5) fun u4 =>
  asI .i64 u4 fun i =>
    K (lP_1, lN_1, lC_1, t, x) ⟨i⟩

theorem dec_law18_IndexDoes_L1_ok {N : Nat} (e : Env) (a : Act) (K : ((Option Addr) × Nat × Nat × (Option Addr) × Addr) → S_law18_IndexDoes_L1 → Prop) (hr : Rep N a e) (h0 : dec_law18_IndexDoes_L1 e K) : ∃ f s, K f s ∧ Rep N a (lit_law18_IndexDoes_L1 f s) := by
  unfold dec_law18_IndexDoes_L1 at h0
  obtain ⟨u1, g0, h1⟩ := onV_elim h0
  obtain ⟨lP_1, lN_1, lC_1, rfl, h2⟩ := asS_elim h1
  obtain ⟨u2, g3, h3⟩ := onV_elim h2
  obtain ⟨t, rfl, h4⟩ := asP_elim h3
  obtain ⟨u3, g4, h5⟩ := onV_elim h4
  obtain ⟨x, rfl, h6⟩ := asA_elim h5
  obtain ⟨u4, g5, h7⟩ := onV_elim h6
  obtain ⟨i, rfl, h8⟩ := asI_elim h7
  exact ⟨_, _, h8, rep_less hr (by simp [lit_law18_IndexDoes_L1, g0, g3, g4, g5])⟩

def spec_law18_IndexDoes_L1 (Q : Post) (e : Env) (w : World) : Prop :=
  dec_law18_IndexDoes_L1 e fun f s => F_law18_IndexDoes_L1 f.1 f.2.1 f.2.2.1 f.2.2.2.1 f.2.2.2.2 s w (fun w1 => Q (.exit 0) [] w1) (fun t2 w1 => Q .ret [⟨2, .bool t2, none⟩] w1)

def G_law18_IndexDoes : Gen where
  loop := lookL [([false, true, false, true, true, true], spec_law18_IndexDoes_L1)]
  plan := fun id =>
    bif Nat.beq id 7 then some ([0, 0, 0, 0, 12, 28, 63, 127, 255, 511, 1023, 511, 2559, 6655, 14847, 31231, 65535, 131071, 262143, 524287, 524287, 524287, 3670015, 7864319, 16252927, 33554431, 524287, 524287, 524287, 403177471, 940048383, 2013790207, 4294967295, 8589934591, 17179869183, 34359738367, 68719476735, 137438953471, 137438953471, 549755813887, 137438953471, 137438953471, 4398046511103, 8796093022207, 17592186044415, 35184372088831], .take 0 (.take 1 (.take 2 (.take 3 (.take 4 (.take 5 (.take 6 (.take 7 (.take 8 (.take 9 (.take 11 (.take 12 (.take 13 (.take 14 (.take 15 (.take 10 (.take 16 (.take 17 (.take 18 (.take 19 (.take 20 (.take 21 (.take 22 (.take 23 (.take 24 (.take 26 (.take 27 (.take 28 (.take 29 (.take 30 (.take 31 (.take 25 (.take 32 (.take 33 (.take 34 (.take 35 (.take 36 (.take 37 (.take 38 (.take 40 (.take 41 (.take 39 (.take 42 (.take 43 (.take 44 (.take 45 .done)))))))))))))))))))))))))))))))))))))))))))))) else none

def dx_law18_IndexDoes_L1_0 (e : Env) (K : ((Option Addr) × Nat × Nat × (Option Addr) × Addr) → Prop) : Prop :=
  onV (getV e 0) fun u1 =>
  asS u1 fun lP_1 lN_1 lC_1 =>
  onV (getV e 3) fun u2 =>
  asP u2 fun t =>
  onV (getV e 4) fun u3 =>
  asA u3 fun x =>
    K (lP_1, lN_1, lC_1, t, x)

def dx_law18_IndexDoes_L1_ret (e : Env) (K : ((Option Addr) × Nat × Nat × (Option Addr) × Addr) → Bool → Prop) : Prop :=
  onV (getV e 0) fun u1 =>
  asS u1 fun lP_1 lN_1 lC_1 =>
  onV (getV e 3) fun u2 =>
  asP u2 fun t =>
  onV (getV e 4) fun u3 =>
  asA u3 fun x =>
  onV (getV e 2) fun u4 =>
  asB u4 fun t2 =>
    K (lP_1, lN_1, lC_1, t, x) t2

theorem body_law18_IndexDoes_L1 (f : (Option Addr) × Nat × Nat × (Option Addr) × Addr) (s : S_law18_IndexDoes_L1) (w : World) (Kn : ((Option Addr) × Nat × Nat × (Option Addr) × Addr) → S_law18_IndexDoes_L1 → World → Prop) (Kx0 : ((Option Addr) × Nat × Nat × (Option Addr) × Addr) → World → Prop) (Kr : ((Option Addr) × Nat × Nat × (Option Addr) × Addr) → Bool → World → Prop) :
    B_law18_IndexDoes_L1 f.1 f.2.1 f.2.2.1 f.2.2.2.1 f.2.2.2.2 s w (fun s1 w1 => Kn f s1 w1) (fun w1 => Kx0 f w1) (fun t2 w1 => Kr f t2 w1) =
    den Try.prog Try.f4.ntmps G_law18_IndexDoes (sub (codeOf Try.f4) [false, false, true, false, true, true, true]) [false, false, true, false, true, true, true] (roundQ (fun e w => dec_law18_IndexDoes_L1 e fun f s => Kn f s w) (fun e w => dx_law18_IndexDoes_L1_ret e fun f t2 => Kr f t2 w) (fun id e w => match Nat.beq id 0 with | true => dx_law18_IndexDoes_L1_0 e fun f => Kx0 f w | false => False)) (lit_law18_IndexDoes_L1 f s) w := by kernel_rfl

theorem ok_law18_IndexDoes_L1 : OneOk Try.prog Try.f4.ntmps G_law18_IndexDoes (codeOf Try.f4) [false, true, false, true, true, true] spec_law18_IndexDoes_L1 := by
  intro c hc ih Q e w a hr h
  have hcc : sub (codeOf Try.f4) [false, false, true, false, true, true, true] = c := sub_of_codeAt hc
  obtain ⟨f, s, h, hrep⟩ := dec_law18_IndexDoes_L1_ok e a _ hr h
  obtain ⟨J, μ, hj, hround⟩ := h
  refine loop_rule_deep seat_ok seat_mixed ih lit_law18_IndexDoes_L1 dec_law18_IndexDoes_L1 dec_law18_IndexDoes_L1_ok hc f J μ (Kr := fun e w => dx_law18_IndexDoes_L1_ret e fun f1 t2 => f1 = f ∧ Q .ret [⟨2, .bool t2, none⟩] w) (Kx := fun id e w => match Nat.beq id 0 with | true => (dx_law18_IndexDoes_L1_0 e fun f1 => f1 = f ∧ Q (.exit 0) [] w) | false => False) ?_ ?_ ?_ s w a hj hrep
  · intro e a w hr h0
    unfold dx_law18_IndexDoes_L1_ret at h0
    obtain ⟨u1, g0, h1⟩ := onV_elim h0
    obtain ⟨lP_1, lN_1, lC_1, rfl, h2⟩ := asS_elim h1
    obtain ⟨u2, g3, h3⟩ := onV_elim h2
    obtain ⟨t, rfl, h4⟩ := asP_elim h3
    obtain ⟨u3, g4, h5⟩ := onV_elim h4
    obtain ⟨x, rfl, h6⟩ := asA_elim h5
    obtain ⟨u4, g2, h7⟩ := onV_elim h6
    obtain ⟨t2, rfl, h8⟩ := asB_elim h7
    obtain ⟨hf, hq⟩ := h8
    subst hf
    exact ⟨_, rep_less hr (by simp [g2]), hq⟩
  · intro id e a w hr h0
    (try dsimp only at h0)
    split at h0
    · rename_i hid
      obtain rfl := Nat.eq_of_beq_eq_true hid
      unfold dx_law18_IndexDoes_L1_0 at h0
      obtain ⟨u1, g0, h1⟩ := onV_elim h0
      obtain ⟨lP_1, lN_1, lC_1, rfl, h2⟩ := asS_elim h1
      obtain ⟨u2, g3, h3⟩ := onV_elim h2
      obtain ⟨t, rfl, h4⟩ := asP_elim h3
      obtain ⟨u3, g4, h5⟩ := onV_elim h4
      obtain ⟨x, rfl, h6⟩ := asA_elim h5
      obtain ⟨hf, hq⟩ := h6
      subst hf
      exact ⟨_, rep_less hr (by simp), hq⟩
    · exact h0.elim
  · intro s w hj
    have hb := hround s w hj
    rw [← hcc]
    have e1 := body_law18_IndexDoes_L1 f s w (fun f1 s1 w1 => f1 = f ∧ J s1 w1 ∧ μ s1 w1 < μ s w) (fun f1 w1 => f1 = f ∧ Q (.exit 0) [] w1) (fun f1 t2 w1 => f1 = f ∧ Q .ret [⟨2, .bool t2, none⟩] w1)
    simp only [true_and] at e1
    exact cast e1 hb

theorem loops_law18_IndexDoes : LoopOk Try.prog Try.f4.ntmps G_law18_IndexDoes (codeOf Try.f4) := loopOk_list rfl ⟨ok_law18_IndexDoes_L1, trivial⟩

theorem den_law18_IndexDoes (lP : Option Addr) (lN : Nat) (lC : Nat) (w : World) (R : Value → World → Prop) :
    F_law18_IndexDoes lP lN lC w (fun r w1 => R (.bool r) w1) = den Try.prog Try.f4.ntmps G_law18_IndexDoes (codeOf Try.f4) [] (postD Try.prog Try.f4.results.toList R) (entry [.slice lP lN lC] 0) w := by kernel_rfl

theorem C_law18_IndexDoes.of {lP : Option Addr} {lN : Nat} {lC : Nat} {w : World} {R : Bool → World → Prop} (h : F_law18_IndexDoes lP lN lC w R) : C_law18_IndexDoes lP lN lC w R := by
  refine (calls_of_den (c := codeOf Try.f4) seat_ok seat_mixed Try.func4 (by kernel_rfl) loops_law18_IndexDoes (args := [.slice lP lN lC]) rfl (R := fun v w1 => ∃ (r : Bool), v = (.bool r : Value) ∧ R r w1) ?_).mono ?_
  · rw [← den_law18_IndexDoes]
    have e : (fun r w1 => ∃ (r' : Bool), (.bool r : Value) = (.bool r' : Value) ∧ R r' w1) = R := by
      funext r w1
      exact propext ⟨fun ⟨r', he, h⟩ => by simp at he; simp_all, fun h => ⟨_, rfl, h⟩⟩
    simpa only [e] using h
  · rintro en w1 ⟨v, he, r, rfl, h⟩
    exact ⟨_, he, h⟩

structure S_law18_IndexTells_L1 where
  i : Int

structure S_law18_IndexTells_L2 where
  outP : Option Addr
  outN : Nat
  outC : Nat
  idx : Int
  isx : Bool
  i_1 : Int

def F_law18_IndexTells_k1 (s : S_law18_IndexTells_L1) (Kn : S_law18_IndexTells_L1 → World → Prop) (w1_5 : World) : Prop :=
  Kn ⟨(IntKind.i64.wrap ((s.i : Int) + (1 : Int)))⟩ w1_5

/-- One round. -/
def B_law18_IndexTells_L1 (lP_1 : Option Addr) (lN_1 : Nat) (lC_1 : Nat) (k : Addr) (t : Option Addr) (s : S_law18_IndexTells_L1) (w : World) (Kn : S_law18_IndexTells_L1 → World → Prop) (Kx0 : World → Prop) : Prop :=
  If (decide ((s.i : Int) < (lN_1 : Int)))
  (If (decide ((s.i : Int) < (60 : Int)))
  (0 ≤ (s.i : Int) ∧ (s.i : Int) < (lN_1 : Int) ∧ NN lP_1 fun a =>
  ∃ Kind : Int, w.cell? ((a.add ((s.i : Int).toNat * 6)).add 0) = some (.int .i64 Kind) ∧
  If (Kind == (2 : Int))
  (0 ≤ (s.i : Int) ∧ (s.i : Int) < (lN_1 : Int) ∧ NN lP_1 fun a_1 =>
  ∃ Id : Int, w.cell? ((a_1.add ((s.i : Int).toNat * 6)).add 1) = some (.int .i64 Id) ∧
  C_index_Table_Drop t Id w fun t40 w1_3 =>
  F_law18_IndexTells_k1 s Kn w1_3)
  (0 ≤ (s.i : Int) ∧ (s.i : Int) < (lN_1 : Int) ∧ NN lP_1 fun a_2 =>
  ∃ Id_1 : Int, (drw w).cell? ((a_2.add ((s.i : Int).toNat * 6)).add 1) = some (.int .i64 Id_1) ∧
  0 ≤ (s.i : Int) ∧ (s.i : Int) < (lN_1 : Int) ∧ NN lP_1 fun a_3 =>
  ∃ Key0 : Int, (drw w).cell? (((a_3.add ((s.i : Int).toNat * 6)).add 2).add 0) = some (.int .i64 Key0) ∧
  ∃ Key1 : ByteArray, (drw w).cell? (((a_3.add ((s.i : Int).toNat * 6)).add 2).add 1) = some (.string Key1) ∧
  ∃ Key2 : Int, (drw w).cell? (((a_3.add ((s.i : Int).toNat * 6)).add 2).add 2) = some (.int .i64 Key2) ∧
  0 ≤ (s.i : Int) ∧ (s.i : Int) < (lN_1 : Int) ∧ NN lP_1 fun a_4 =>
  ∃ Front : Bool, (drw w).cell? ((a_4.add ((s.i : Int).toNat * 6)).add 5) = some (.bool Front) ∧
  C_index_Table_Add t Id_1 Key0 Key1 Key2 Front (drw w) fun t57 w1_4 =>
  F_law18_IndexTells_k1 s Kn w1_4))
  (Kx0 w))
  (Kx0 w)

def F_law18_IndexTells_L1 (lP_1 : Option Addr) (lN_1 : Nat) (lC_1 : Nat) (k : Addr) (t : Option Addr) (s : S_law18_IndexTells_L1) (w : World) (Kx0 : World → Prop) : Prop :=
  LoopS (fun s w Kn => B_law18_IndexTells_L1 lP_1 lN_1 lC_1 k t s w Kn Kx0) s w

/-- One round. -/
def B_law18_IndexTells_L2 (k_1 : Addr) (t_1 : Option Addr) (s : S_law18_IndexTells_L2) (w : World) (Kn : S_law18_IndexTells_L2 → World → Prop) (Kx2 : Option Addr → Nat → Nat → Bool → World → Prop) : Prop :=
  If (decide ((s.i_1 : Int) < (100 : Int)))
  (If s.isx
  (BSl Try.prog 43 1 [(0, .int .i64 s.idx)] w fun t73P t73N t73C w1_8 =>
  App Try.prog #[43, 43] 43 #[.slice s.outP s.outN s.outC, .slice t73P t73N t73C] w1_8 fun t74P t74N t74C w1_9 =>
  ∃ t780 : Int, w1_9.cell? (k_1.add 0) = some (.int .i64 t780) ∧
  ∃ t781 : ByteArray, w1_9.cell? (k_1.add 1) = some (.string t781) ∧
  ∃ t782 : Int, w1_9.cell? (k_1.add 2) = some (.int .i64 t782) ∧
  C_index_Table_Next t_1 (s.idx : Int) t780 t781 t782 w1_9 fun t790 t791 w1_10 =>
  Kn ⟨t74P, t74N, t74C, t790, t791, (IntKind.i64.wrap ((s.i_1 : Int) + (1 : Int)))⟩ w1_10)
  (Kx2 s.outP s.outN s.outC s.isx w))
  (Kx2 s.outP s.outN s.outC s.isx w)

def F_law18_IndexTells_L2 (k_1 : Addr) (t_1 : Option Addr) (s : S_law18_IndexTells_L2) (w : World) (Kx2 : Option Addr → Nat → Nat → Bool → World → Prop) : Prop :=
  LoopS (fun s w Kn => B_law18_IndexTells_L2 k_1 t_1 s w Kn Kx2) s w

def F_law18_IndexTells (lP : Option Addr) (lN : Nat) (lC : Nat) (k0x : Int) (k1x : ByteArray) (k2x : Int) (w : World) (R : Bool → World → Prop) : Prop :=
  New w (.cells #[.int .i64 k0x, .string k1x, .int .i64 k2x] 26) fun r w1 =>
  C_index_New  w1 fun t11 w1_1 =>
  C_law18_lives  w1_1 fun t12 w1_2 =>
  If (!t12)
  (R false w1_2)
  (If t11.isNone
  (R false w1_2)
  (F_law18_IndexTells_L1 lP lN lC ⟨r, 0, none⟩ t11 ⟨(0 : Int)⟩ w1_2
  (fun w1_6 =>
  ∃ t600 : Int, w1_6.cell? ((⟨r, 0, none⟩ : Addr).add 0) = some (.int .i64 t600) ∧
  ∃ t601 : ByteArray, w1_6.cell? ((⟨r, 0, none⟩ : Addr).add 1) = some (.string t601) ∧
  ∃ t602 : Int, w1_6.cell? ((⟨r, 0, none⟩ : Addr).add 2) = some (.int .i64 t602) ∧
  C_index_Table_Head t11 t600 t601 t602 w1_6 fun t610 t611 w1_7 =>
  F_law18_IndexTells_L2 ⟨r, 0, none⟩ t11 ⟨none, 0, 0, t610, t611, (0 : Int)⟩ w1_7
  (fun outP_2 outN_2 outC_2 isx_2 w1_11 =>
  If (!isx_2)
  (∃ t870 : Int, w1_11.cell? ((⟨r, 0, none⟩ : Addr).add 0) = some (.int .i64 t870) ∧
  ∃ t871 : ByteArray, w1_11.cell? ((⟨r, 0, none⟩ : Addr).add 1) = some (.string t871) ∧
  ∃ t872 : Int, w1_11.cell? ((⟨r, 0, none⟩ : Addr).add 2) = some (.int .i64 t872) ∧
  C_index_Table_All t11 t870 t871 t872 w1_11 fun t88P t88N t88C w1_12 =>
  C_ref15_SameInts outP_2 outN_2 outC_2 t88P t88N t88C w1_12 fun t89 w1_13 =>
  R t89 w1_13)
  (R false w1_11)))))

def lit_law18_IndexTells_L1 (f : (Option Addr) × Nat × Nat × Addr × (Option Addr)) (s : S_law18_IndexTells_L1) : Env := [⟨0, .slice f.1 f.2.1 f.2.2.1, none⟩, ⟨3, .pointer (some f.2.2.2.1), none⟩, ⟨5, .pointer f.2.2.2.2, none⟩, ⟨6, .int .i64 s.i, none⟩]

def dec_law18_IndexTells_L1 (e : Env) (K : ((Option Addr) × Nat × Nat × Addr × (Option Addr)) → S_law18_IndexTells_L1 → Prop) : Prop :=
  onV (getV e 0) fun u1 =>
  asS u1 fun lP_1 lN_1 lC_1 =>
  onV (getV e 3) fun u2 =>
  asA u2 fun k =>
  onV (getV e 5) fun u3 =>
  asP u3 fun t =>
  onV (getV e 6) fun u4 =>
  asI .i64 u4 fun i =>
    K (lP_1, lN_1, lC_1, k, t) ⟨i⟩

theorem dec_law18_IndexTells_L1_ok {N : Nat} (e : Env) (a : Act) (K : ((Option Addr) × Nat × Nat × Addr × (Option Addr)) → S_law18_IndexTells_L1 → Prop) (hr : Rep N a e) (h0 : dec_law18_IndexTells_L1 e K) : ∃ f s, K f s ∧ Rep N a (lit_law18_IndexTells_L1 f s) := by
  unfold dec_law18_IndexTells_L1 at h0
  obtain ⟨u1, g0, h1⟩ := onV_elim h0
  obtain ⟨lP_1, lN_1, lC_1, rfl, h2⟩ := asS_elim h1
  obtain ⟨u2, g3, h3⟩ := onV_elim h2
  obtain ⟨k, rfl, h4⟩ := asA_elim h3
  obtain ⟨u3, g5, h5⟩ := onV_elim h4
  obtain ⟨t, rfl, h6⟩ := asP_elim h5
  obtain ⟨u4, g6, h7⟩ := onV_elim h6
  obtain ⟨i, rfl, h8⟩ := asI_elim h7
  exact ⟨_, _, h8, rep_less hr (by simp [lit_law18_IndexTells_L1, g0, g3, g5, g6])⟩

def spec_law18_IndexTells_L1 (Q : Post) (e : Env) (w : World) : Prop :=
  dec_law18_IndexTells_L1 e fun f s => F_law18_IndexTells_L1 f.1 f.2.1 f.2.2.1 f.2.2.2.1 f.2.2.2.2 s w (fun w1 => Q (.exit 0) [⟨3, .pointer (some f.2.2.2.1), none⟩, ⟨5, .pointer f.2.2.2.2, none⟩] w1)

def lit_law18_IndexTells_L2 (f : Addr × (Option Addr)) (s : S_law18_IndexTells_L2) : Env := [⟨3, .pointer (some f.1), none⟩, ⟨5, .pointer f.2, none⟩, ⟨7, .slice s.outP s.outN s.outC, none⟩, ⟨8, .int .i64 s.idx, none⟩, ⟨9, .bool s.isx, none⟩, ⟨10, .int .i64 s.i_1, none⟩]

def dec_law18_IndexTells_L2 (e : Env) (K : (Addr × (Option Addr)) → S_law18_IndexTells_L2 → Prop) : Prop :=
  onV (getV e 3) fun u1 =>
  asA u1 fun k_1 =>
  onV (getV e 5) fun u2 =>
  asP u2 fun t_1 =>
  onV (getV e 7) fun u3 =>
  asS u3 fun outP outN outC =>
  onV (getV e 8) fun u4 =>
  asI .i64 u4 fun idx =>
  onV (getV e 9) fun u5 =>
  asB u5 fun isx =>
  onV (getV e 10) fun u6 =>
  asI .i64 u6 fun i_1 =>
    K (k_1, t_1) ⟨outP, outN, outC, idx, isx, i_1⟩

theorem dec_law18_IndexTells_L2_ok {N : Nat} (e : Env) (a : Act) (K : (Addr × (Option Addr)) → S_law18_IndexTells_L2 → Prop) (hr : Rep N a e) (h0 : dec_law18_IndexTells_L2 e K) : ∃ f s, K f s ∧ Rep N a (lit_law18_IndexTells_L2 f s) := by
  unfold dec_law18_IndexTells_L2 at h0
  obtain ⟨u1, g3, h1⟩ := onV_elim h0
  obtain ⟨k_1, rfl, h2⟩ := asA_elim h1
  obtain ⟨u2, g5, h3⟩ := onV_elim h2
  obtain ⟨t_1, rfl, h4⟩ := asP_elim h3
  obtain ⟨u3, g7, h5⟩ := onV_elim h4
  obtain ⟨outP, outN, outC, rfl, h6⟩ := asS_elim h5
  obtain ⟨u4, g8, h7⟩ := onV_elim h6
  obtain ⟨idx, rfl, h8⟩ := asI_elim h7
  obtain ⟨u5, g9, h9⟩ := onV_elim h8
  obtain ⟨isx, rfl, h10⟩ := asB_elim h9
  obtain ⟨u6, g10, h11⟩ := onV_elim h10
  obtain ⟨i_1, rfl, h12⟩ := asI_elim h11
  exact ⟨_, _, h12, rep_less hr (by simp [lit_law18_IndexTells_L2, g3, g5, g7, g8, g9, g10])⟩

def spec_law18_IndexTells_L2 (Q : Post) (e : Env) (w : World) : Prop :=
  dec_law18_IndexTells_L2 e fun f s => F_law18_IndexTells_L2 f.1 f.2 s w (fun outP_1 outN_1 outC_1 isx_1 w1 => Q (.exit 2) [⟨3, .pointer (some f.1), none⟩, ⟨5, .pointer f.2, none⟩, ⟨7, .slice outP_1 outN_1 outC_1, none⟩, ⟨9, .bool isx_1, none⟩] w1)

def G_law18_IndexTells : Gen where
  loop := lookL [([false, true, false, true, true, true], spec_law18_IndexTells_L1), ([false, true, false, true, true, true, true, true, true], spec_law18_IndexTells_L2)]
  plan := fun id =>
    bif Nat.beq id 9 then some ([0, 0, 0, 6, 14, 30, 0, 0, 192, 448, 960, 0, 0, 6144, 14336, 30720, 65535], .take 0 (.take 1 (.take 2 (.take 3 (.take 4 (.take 5 (.take 6 (.take 7 (.take 8 (.take 9 (.take 10 (.take 11 (.take 12 (.take 13 (.take 14 (.take 15 (.take 16 .done))))))))))))))))) else none

def dx_law18_IndexTells_L1_0 (e : Env) (K : ((Option Addr) × Nat × Nat × Addr × (Option Addr)) → Prop) : Prop :=
  onV (getV e 0) fun u1 =>
  asS u1 fun lP_1 lN_1 lC_1 =>
  onV (getV e 3) fun u2 =>
  asA u2 fun k =>
  onV (getV e 5) fun u3 =>
  asP u3 fun t =>
    K (lP_1, lN_1, lC_1, k, t)

theorem body_law18_IndexTells_L1 (f : (Option Addr) × Nat × Nat × Addr × (Option Addr)) (s : S_law18_IndexTells_L1) (w : World) (Kn : ((Option Addr) × Nat × Nat × Addr × (Option Addr)) → S_law18_IndexTells_L1 → World → Prop) (Kx0 : ((Option Addr) × Nat × Nat × Addr × (Option Addr)) → World → Prop) :
    B_law18_IndexTells_L1 f.1 f.2.1 f.2.2.1 f.2.2.2.1 f.2.2.2.2 s w (fun s1 w1 => Kn f s1 w1) (fun w1 => Kx0 f w1) =
    den Try.prog Try.f5.ntmps G_law18_IndexTells (sub (codeOf Try.f5) [false, false, true, false, true, true, true]) [false, false, true, false, true, true, true] (roundQ (fun e w => dec_law18_IndexTells_L1 e fun f s => Kn f s w) (fun e w => False) (fun id e w => match Nat.beq id 0 with | true => dx_law18_IndexTells_L1_0 e fun f => Kx0 f w | false => False)) (lit_law18_IndexTells_L1 f s) w := by kernel_rfl

def dx_law18_IndexTells_L2_2 (e : Env) (K : (Addr × (Option Addr)) → Option Addr → Nat → Nat → Bool → Prop) : Prop :=
  onV (getV e 3) fun u1 =>
  asA u1 fun k_1 =>
  onV (getV e 5) fun u2 =>
  asP u2 fun t_1 =>
  onV (getV e 7) fun u3 =>
  asS u3 fun outP_1 outN_1 outC_1 =>
  onV (getV e 9) fun u4 =>
  asB u4 fun isx_1 =>
    K (k_1, t_1) outP_1 outN_1 outC_1 isx_1

theorem body_law18_IndexTells_L2 (f : Addr × (Option Addr)) (s : S_law18_IndexTells_L2) (w : World) (Kn : (Addr × (Option Addr)) → S_law18_IndexTells_L2 → World → Prop) (Kx2 : (Addr × (Option Addr)) → Option Addr → Nat → Nat → Bool → World → Prop) :
    B_law18_IndexTells_L2 f.1 f.2 s w (fun s1 w1 => Kn f s1 w1) (fun outP_1 outN_1 outC_1 isx_1 w1 => Kx2 f outP_1 outN_1 outC_1 isx_1 w1) =
    den Try.prog Try.f5.ntmps G_law18_IndexTells (sub (codeOf Try.f5) [false, false, true, false, true, true, true, true, true, true]) [false, false, true, false, true, true, true, true, true, true] (roundQ (fun e w => dec_law18_IndexTells_L2 e fun f s => Kn f s w) (fun e w => False) (fun id e w => match Nat.beq id 2 with | true => dx_law18_IndexTells_L2_2 e fun f outP_1 outN_1 outC_1 isx_1 => Kx2 f outP_1 outN_1 outC_1 isx_1 w | false => False)) (lit_law18_IndexTells_L2 f s) w := by kernel_rfl

theorem ok_law18_IndexTells_L1 : OneOk Try.prog Try.f5.ntmps G_law18_IndexTells (codeOf Try.f5) [false, true, false, true, true, true] spec_law18_IndexTells_L1 := by
  intro c hc ih Q e w a hr h
  have hcc : sub (codeOf Try.f5) [false, false, true, false, true, true, true] = c := sub_of_codeAt hc
  obtain ⟨f, s, h, hrep⟩ := dec_law18_IndexTells_L1_ok e a _ hr h
  obtain ⟨J, μ, hj, hround⟩ := h
  refine loop_rule_deep seat_ok seat_mixed ih lit_law18_IndexTells_L1 dec_law18_IndexTells_L1 dec_law18_IndexTells_L1_ok hc f J μ (Kr := fun e w => False) (Kx := fun id e w => match Nat.beq id 0 with | true => (dx_law18_IndexTells_L1_0 e fun f1 => f1 = f ∧ Q (.exit 0) [⟨3, .pointer (some f.2.2.2.1), none⟩, ⟨5, .pointer f.2.2.2.2, none⟩] w) | false => False) ?_ ?_ ?_ s w a hj hrep
  · intro e a w hr h
    exact h.elim
  · intro id e a w hr h0
    (try dsimp only at h0)
    split at h0
    · rename_i hid
      obtain rfl := Nat.eq_of_beq_eq_true hid
      unfold dx_law18_IndexTells_L1_0 at h0
      obtain ⟨u1, g0, h1⟩ := onV_elim h0
      obtain ⟨lP_1, lN_1, lC_1, rfl, h2⟩ := asS_elim h1
      obtain ⟨u2, g3, h3⟩ := onV_elim h2
      obtain ⟨k, rfl, h4⟩ := asA_elim h3
      obtain ⟨u3, g5, h5⟩ := onV_elim h4
      obtain ⟨t, rfl, h6⟩ := asP_elim h5
      obtain ⟨hf, hq⟩ := h6
      subst hf
      exact ⟨_, rep_less hr (by simp [g3, g5]), hq⟩
    · exact h0.elim
  · intro s w hj
    have hb := hround s w hj
    rw [← hcc]
    have e1 := body_law18_IndexTells_L1 f s w (fun f1 s1 w1 => f1 = f ∧ J s1 w1 ∧ μ s1 w1 < μ s w) (fun f1 w1 => f1 = f ∧ Q (.exit 0) [⟨3, .pointer (some f.2.2.2.1), none⟩, ⟨5, .pointer f.2.2.2.2, none⟩] w1)
    simp only [true_and] at e1
    exact cast e1 hb

theorem ok_law18_IndexTells_L2 : OneOk Try.prog Try.f5.ntmps G_law18_IndexTells (codeOf Try.f5) [false, true, false, true, true, true, true, true, true] spec_law18_IndexTells_L2 := by
  intro c hc ih Q e w a hr h
  have hcc : sub (codeOf Try.f5) [false, false, true, false, true, true, true, true, true, true] = c := sub_of_codeAt hc
  obtain ⟨f, s, h, hrep⟩ := dec_law18_IndexTells_L2_ok e a _ hr h
  obtain ⟨J, μ, hj, hround⟩ := h
  refine loop_rule_deep seat_ok seat_mixed ih lit_law18_IndexTells_L2 dec_law18_IndexTells_L2 dec_law18_IndexTells_L2_ok hc f J μ (Kr := fun e w => False) (Kx := fun id e w => match Nat.beq id 2 with | true => (dx_law18_IndexTells_L2_2 e fun f1 outP_1 outN_1 outC_1 isx_1 => f1 = f ∧ Q (.exit 2) [⟨3, .pointer (some f.1), none⟩, ⟨5, .pointer f.2, none⟩, ⟨7, .slice outP_1 outN_1 outC_1, none⟩, ⟨9, .bool isx_1, none⟩] w) | false => False) ?_ ?_ ?_ s w a hj hrep
  · intro e a w hr h
    exact h.elim
  · intro id e a w hr h0
    (try dsimp only at h0)
    split at h0
    · rename_i hid
      obtain rfl := Nat.eq_of_beq_eq_true hid
      unfold dx_law18_IndexTells_L2_2 at h0
      obtain ⟨u1, g3, h1⟩ := onV_elim h0
      obtain ⟨k_1, rfl, h2⟩ := asA_elim h1
      obtain ⟨u2, g5, h3⟩ := onV_elim h2
      obtain ⟨t_1, rfl, h4⟩ := asP_elim h3
      obtain ⟨u3, g7, h5⟩ := onV_elim h4
      obtain ⟨outP_1, outN_1, outC_1, rfl, h6⟩ := asS_elim h5
      obtain ⟨u4, g9, h7⟩ := onV_elim h6
      obtain ⟨isx_1, rfl, h8⟩ := asB_elim h7
      obtain ⟨hf, hq⟩ := h8
      subst hf
      exact ⟨_, rep_less hr (by simp [g3, g5, g7, g9]), hq⟩
    · exact h0.elim
  · intro s w hj
    have hb := hround s w hj
    rw [← hcc]
    have e1 := body_law18_IndexTells_L2 f s w (fun f1 s1 w1 => f1 = f ∧ J s1 w1 ∧ μ s1 w1 < μ s w) (fun f1 outP_1 outN_1 outC_1 isx_1 w1 => f1 = f ∧ Q (.exit 2) [⟨3, .pointer (some f.1), none⟩, ⟨5, .pointer f.2, none⟩, ⟨7, .slice outP_1 outN_1 outC_1, none⟩, ⟨9, .bool isx_1, none⟩] w1)
    simp only [true_and] at e1
    exact cast e1 hb

theorem loops_law18_IndexTells : LoopOk Try.prog Try.f5.ntmps G_law18_IndexTells (codeOf Try.f5) := loopOk_list rfl ⟨ok_law18_IndexTells_L1, ⟨ok_law18_IndexTells_L2, trivial⟩⟩

theorem den_law18_IndexTells (lP : Option Addr) (lN : Nat) (lC : Nat) (k0x : Int) (k1x : ByteArray) (k2x : Int) (w : World) (R : Value → World → Prop) :
    F_law18_IndexTells lP lN lC k0x k1x k2x w (fun r w1 => R (.bool r) w1) = den Try.prog Try.f5.ntmps G_law18_IndexTells (codeOf Try.f5) [] (postD Try.prog Try.f5.results.toList R) (entry [.slice lP lN lC, .agg #[.int .i64 k0x, .string k1x, .int .i64 k2x]] 0) w := by kernel_rfl

theorem C_law18_IndexTells.of {lP : Option Addr} {lN : Nat} {lC : Nat} {k0x : Int} {k1x : ByteArray} {k2x : Int} {w : World} {R : Bool → World → Prop} (h : F_law18_IndexTells lP lN lC k0x k1x k2x w R) : C_law18_IndexTells lP lN lC k0x k1x k2x w R := by
  refine (calls_of_den (c := codeOf Try.f5) seat_ok seat_mixed Try.func5 (by kernel_rfl) loops_law18_IndexTells (args := [.slice lP lN lC, .agg #[.int .i64 k0x, .string k1x, .int .i64 k2x]]) rfl (R := fun v w1 => ∃ (r : Bool), v = (.bool r : Value) ∧ R r w1) ?_).mono ?_
  · rw [← den_law18_IndexTells]
    have e : (fun r w1 => ∃ (r' : Bool), (.bool r : Value) = (.bool r' : Value) ∧ R r' w1) = R := by
      funext r w1
      exact propext ⟨fun ⟨r', he, h⟩ => by simp at he; simp_all, fun h => ⟨_, rfl, h⟩⟩
    simpa only [e] using h
  · rintro en w1 ⟨v, he, r, rfl, h⟩
    exact ⟨_, he, h⟩

structure S_law18_IndexFull_L1 where
  i : Int

def F_law18_IndexFull_k1 (R : Bool → World → Prop) (w1_1 : World) : Prop :=
  C_law18_lives  w1_1 fun t22 w1_2 =>
  R t22 w1_2

def F_law18_IndexFull_k2 (k : Addr) (t : Option Addr) (s : S_law18_IndexFull_L1) (Kn : S_law18_IndexFull_L1 → World → Prop) (Kr : Bool → World → Prop) (want : Int) (w1_7 : World) : Prop :=
  ∃ t390 : Int, w1_7.cell? (k.add 0) = some (.int .i64 t390) ∧
  ∃ t391 : ByteArray, w1_7.cell? (k.add 1) = some (.string t391) ∧
  ∃ t392 : Int, w1_7.cell? (k.add 2) = some (.int .i64 t392) ∧
  C_index_Table_Add t (s.i : Int) t390 t391 t392 false w1_7 fun t40 w1_8 =>
  If (t40 != want)
  (Kr false w1_8)
  (Kn ⟨(IntKind.i64.wrap ((s.i : Int) + (1 : Int)))⟩ w1_8)

def F_law18_IndexFull_k3 (R : Bool → World → Prop) (t4_2 : Bool) (w1_18 : World) : Prop :=
  R t4_2 w1_18

def F_law18_IndexFull_k4 (R : Bool → World → Prop) (w1_19 : World) : Prop :=
  R false w1_19

/-- One round. -/
def B_law18_IndexFull_L1 (n_1 : Int) (k : Addr) (t : Option Addr) (s : S_law18_IndexFull_L1) (w : World) (Kn : S_law18_IndexFull_L1 → World → Prop) (Kx0 : World → Prop) (Kr : Bool → World → Prop) : Prop :=
  If (decide ((s.i : Int) < n_1))
  (If (decide ((s.i : Int) ≥ (4096 : Int)))
  (F_law18_IndexFull_k2 k t s Kn Kr (2 : Int) w)
  (F_law18_IndexFull_k2 k t s Kn Kr (0 : Int) w))
  (Kx0 w)

def F_law18_IndexFull_L1 (n_1 : Int) (k : Addr) (t : Option Addr) (s : S_law18_IndexFull_L1) (w : World) (Kx0 : World → Prop) (Kr : Bool → World → Prop) : Prop :=
  LoopS (fun s w Kn => B_law18_IndexFull_L1 n_1 k t s w Kn Kx0 Kr) s w

def F_law18_IndexFull_k5 (n : Int) (R : Bool → World → Prop) (r : Nat) (w1_4 : World) : Prop :=
  C_index_New  w1_4 fun t23 w1_5 =>
  C_law18_lives  w1_5 fun t24 w1_6 =>
  If (!t24)
  (R false w1_6)
  (If t23.isNone
  (R false w1_6)
  (F_law18_IndexFull_L1 n ⟨r, 0, none⟩ t23 ⟨(0 : Int)⟩ w1_6
  (fun w1_9 =>
  If (decide (n ≤ (4096 : Int)))
  (C_index_Table_Len t23 w1_9 fun t47 w1_11 =>
  If (t47 == n)
  (R true w1_11)
  (If (decide (n > (4096 : Int)))
  (C_index_Table_Len t23 w1_11 fun t56 w1_12 =>
  If (t56 == (4096 : Int))
  (C_index_Table_Drop t23 (5 : Int) w1_12 fun t61 w1_13 =>
  If (t61 == (0 : Int))
  (∃ t660 : Int, w1_13.cell? ((⟨r, 0, none⟩ : Addr).add 0) = some (.int .i64 t660) ∧
  ∃ t661 : ByteArray, w1_13.cell? ((⟨r, 0, none⟩ : Addr).add 1) = some (.string t661) ∧
  ∃ t662 : Int, w1_13.cell? ((⟨r, 0, none⟩ : Addr).add 2) = some (.int .i64 t662) ∧
  C_index_Table_Add t23 (9999 : Int) t660 t661 t662 true w1_13 fun t67 w1_14 =>
  F_law18_IndexFull_k3 R (t67 == (0 : Int)) w1_14)
  (F_law18_IndexFull_k4 R w1_13))
  (F_law18_IndexFull_k4 R w1_12))
  (F_law18_IndexFull_k4 R w1_11)))
  (If (decide (n > (4096 : Int)))
  (C_index_Table_Len t23 w1_9 fun t56_1 w1_15 =>
  If (t56_1 == (4096 : Int))
  (C_index_Table_Drop t23 (5 : Int) w1_15 fun t61_1 w1_16 =>
  If (t61_1 == (0 : Int))
  (∃ t660_1 : Int, w1_16.cell? ((⟨r, 0, none⟩ : Addr).add 0) = some (.int .i64 t660_1) ∧
  ∃ t661_1 : ByteArray, w1_16.cell? ((⟨r, 0, none⟩ : Addr).add 1) = some (.string t661_1) ∧
  ∃ t662_1 : Int, w1_16.cell? ((⟨r, 0, none⟩ : Addr).add 2) = some (.int .i64 t662_1) ∧
  C_index_Table_Add t23 (9999 : Int) t660_1 t661_1 t662_1 true w1_16 fun t67_1 w1_17 =>
  F_law18_IndexFull_k3 R (t67_1 == (0 : Int)) w1_17)
  (F_law18_IndexFull_k4 R w1_16))
  (F_law18_IndexFull_k4 R w1_15))
  (F_law18_IndexFull_k4 R w1_9)))
  (fun t4_1 w1_10 =>
  R t4_1 w1_10)))

def F_law18_IndexFull (n : Int) (k0x : Int) (k1x : ByteArray) (k2x : Int) (w : World) (R : Bool → World → Prop) : Prop :=
  New w (.cells #[.int .i64 k0x, .string k1x, .int .i64 k2x] 26) fun r w1 =>
  If (decide (n < (0 : Int)))
  (F_law18_IndexFull_k1 R w1)
  (If (decide (n > (4200 : Int)))
  (F_law18_IndexFull_k1 R w1)
  (If (decide (n > (300 : Int)))
  (If (decide (n < (4090 : Int)))
  (C_law18_lives  w1 fun t22_1 w1_3 =>
  R t22_1 w1_3)
  (F_law18_IndexFull_k5 n R r w1))
  (F_law18_IndexFull_k5 n R r w1)))

def lit_law18_IndexFull_L1 (f : Int × Addr × (Option Addr)) (s : S_law18_IndexFull_L1) : Env := [⟨0, .int .i64 f.1, none⟩, ⟨3, .pointer (some f.2.1), none⟩, ⟨5, .pointer f.2.2, none⟩, ⟨6, .int .i64 s.i, none⟩]

def dec_law18_IndexFull_L1 (e : Env) (K : (Int × Addr × (Option Addr)) → S_law18_IndexFull_L1 → Prop) : Prop :=
  onV (getV e 0) fun u1 =>
  asI .i64 u1 fun n_1 =>
  onV (getV e 3) fun u2 =>
  asA u2 fun k =>
  onV (getV e 5) fun u3 =>
  asP u3 fun t =>
  onV (getV e 6) fun u4 =>
  asI .i64 u4 fun i =>
    K (n_1, k, t) ⟨i⟩

theorem dec_law18_IndexFull_L1_ok {N : Nat} (e : Env) (a : Act) (K : (Int × Addr × (Option Addr)) → S_law18_IndexFull_L1 → Prop) (hr : Rep N a e) (h0 : dec_law18_IndexFull_L1 e K) : ∃ f s, K f s ∧ Rep N a (lit_law18_IndexFull_L1 f s) := by
  unfold dec_law18_IndexFull_L1 at h0
  obtain ⟨u1, g0, h1⟩ := onV_elim h0
  obtain ⟨n_1, rfl, h2⟩ := asI_elim h1
  obtain ⟨u2, g3, h3⟩ := onV_elim h2
  obtain ⟨k, rfl, h4⟩ := asA_elim h3
  obtain ⟨u3, g5, h5⟩ := onV_elim h4
  obtain ⟨t, rfl, h6⟩ := asP_elim h5
  obtain ⟨u4, g6, h7⟩ := onV_elim h6
  obtain ⟨i, rfl, h8⟩ := asI_elim h7
  exact ⟨_, _, h8, rep_less hr (by simp [lit_law18_IndexFull_L1, g0, g3, g5, g6])⟩

def spec_law18_IndexFull_L1 (Q : Post) (e : Env) (w : World) : Prop :=
  dec_law18_IndexFull_L1 e fun f s => F_law18_IndexFull_L1 f.1 f.2.1 f.2.2 s w (fun w1 => Q (.exit 0) [⟨0, .int .i64 f.1, none⟩, ⟨3, .pointer (some f.2.1), none⟩, ⟨5, .pointer f.2.2, none⟩] w1) (fun t4 w1 => Q .ret [⟨4, .bool t4, none⟩] w1)

def G_law18_IndexFull : Gen where
  loop := lookL [([false, true, false, true, true, true, true], spec_law18_IndexFull_L1)]
  plan := fun _ => none

def dx_law18_IndexFull_L1_0 (e : Env) (K : (Int × Addr × (Option Addr)) → Prop) : Prop :=
  onV (getV e 0) fun u1 =>
  asI .i64 u1 fun n_1 =>
  onV (getV e 3) fun u2 =>
  asA u2 fun k =>
  onV (getV e 5) fun u3 =>
  asP u3 fun t =>
    K (n_1, k, t)

def dx_law18_IndexFull_L1_ret (e : Env) (K : (Int × Addr × (Option Addr)) → Bool → Prop) : Prop :=
  onV (getV e 0) fun u1 =>
  asI .i64 u1 fun n_1 =>
  onV (getV e 3) fun u2 =>
  asA u2 fun k =>
  onV (getV e 5) fun u3 =>
  asP u3 fun t =>
  onV (getV e 4) fun u4 =>
  asB u4 fun t4 =>
    K (n_1, k, t) t4

theorem body_law18_IndexFull_L1 (f : Int × Addr × (Option Addr)) (s : S_law18_IndexFull_L1) (w : World) (Kn : (Int × Addr × (Option Addr)) → S_law18_IndexFull_L1 → World → Prop) (Kx0 : (Int × Addr × (Option Addr)) → World → Prop) (Kr : (Int × Addr × (Option Addr)) → Bool → World → Prop) :
    B_law18_IndexFull_L1 f.1 f.2.1 f.2.2 s w (fun s1 w1 => Kn f s1 w1) (fun w1 => Kx0 f w1) (fun t4 w1 => Kr f t4 w1) =
    den Try.prog Try.f6.ntmps G_law18_IndexFull (sub (codeOf Try.f6) [false, false, true, false, true, true, true, true]) [false, false, true, false, true, true, true, true] (roundQ (fun e w => dec_law18_IndexFull_L1 e fun f s => Kn f s w) (fun e w => dx_law18_IndexFull_L1_ret e fun f t4 => Kr f t4 w) (fun id e w => match Nat.beq id 0 with | true => dx_law18_IndexFull_L1_0 e fun f => Kx0 f w | false => False)) (lit_law18_IndexFull_L1 f s) w := by kernel_rfl

theorem ok_law18_IndexFull_L1 : OneOk Try.prog Try.f6.ntmps G_law18_IndexFull (codeOf Try.f6) [false, true, false, true, true, true, true] spec_law18_IndexFull_L1 := by
  intro c hc ih Q e w a hr h
  have hcc : sub (codeOf Try.f6) [false, false, true, false, true, true, true, true] = c := sub_of_codeAt hc
  obtain ⟨f, s, h, hrep⟩ := dec_law18_IndexFull_L1_ok e a _ hr h
  obtain ⟨J, μ, hj, hround⟩ := h
  refine loop_rule_deep seat_ok seat_mixed ih lit_law18_IndexFull_L1 dec_law18_IndexFull_L1 dec_law18_IndexFull_L1_ok hc f J μ (Kr := fun e w => dx_law18_IndexFull_L1_ret e fun f1 t4 => f1 = f ∧ Q .ret [⟨4, .bool t4, none⟩] w) (Kx := fun id e w => match Nat.beq id 0 with | true => (dx_law18_IndexFull_L1_0 e fun f1 => f1 = f ∧ Q (.exit 0) [⟨0, .int .i64 f.1, none⟩, ⟨3, .pointer (some f.2.1), none⟩, ⟨5, .pointer f.2.2, none⟩] w) | false => False) ?_ ?_ ?_ s w a hj hrep
  · intro e a w hr h0
    unfold dx_law18_IndexFull_L1_ret at h0
    obtain ⟨u1, g0, h1⟩ := onV_elim h0
    obtain ⟨n_1, rfl, h2⟩ := asI_elim h1
    obtain ⟨u2, g3, h3⟩ := onV_elim h2
    obtain ⟨k, rfl, h4⟩ := asA_elim h3
    obtain ⟨u3, g5, h5⟩ := onV_elim h4
    obtain ⟨t, rfl, h6⟩ := asP_elim h5
    obtain ⟨u4, g4, h7⟩ := onV_elim h6
    obtain ⟨t4, rfl, h8⟩ := asB_elim h7
    obtain ⟨hf, hq⟩ := h8
    subst hf
    exact ⟨_, rep_less hr (by simp [g4]), hq⟩
  · intro id e a w hr h0
    (try dsimp only at h0)
    split at h0
    · rename_i hid
      obtain rfl := Nat.eq_of_beq_eq_true hid
      unfold dx_law18_IndexFull_L1_0 at h0
      obtain ⟨u1, g0, h1⟩ := onV_elim h0
      obtain ⟨n_1, rfl, h2⟩ := asI_elim h1
      obtain ⟨u2, g3, h3⟩ := onV_elim h2
      obtain ⟨k, rfl, h4⟩ := asA_elim h3
      obtain ⟨u3, g5, h5⟩ := onV_elim h4
      obtain ⟨t, rfl, h6⟩ := asP_elim h5
      obtain ⟨hf, hq⟩ := h6
      subst hf
      exact ⟨_, rep_less hr (by simp [g0, g3, g5]), hq⟩
    · exact h0.elim
  · intro s w hj
    have hb := hround s w hj
    rw [← hcc]
    have e1 := body_law18_IndexFull_L1 f s w (fun f1 s1 w1 => f1 = f ∧ J s1 w1 ∧ μ s1 w1 < μ s w) (fun f1 w1 => f1 = f ∧ Q (.exit 0) [⟨0, .int .i64 f.1, none⟩, ⟨3, .pointer (some f.2.1), none⟩, ⟨5, .pointer f.2.2, none⟩] w1) (fun f1 t4 w1 => f1 = f ∧ Q .ret [⟨4, .bool t4, none⟩] w1)
    simp only [true_and] at e1
    exact cast e1 hb

theorem loops_law18_IndexFull : LoopOk Try.prog Try.f6.ntmps G_law18_IndexFull (codeOf Try.f6) := loopOk_list rfl ⟨ok_law18_IndexFull_L1, trivial⟩

theorem den_law18_IndexFull (n : Int) (k0x : Int) (k1x : ByteArray) (k2x : Int) (w : World) (R : Value → World → Prop) :
    F_law18_IndexFull n k0x k1x k2x w (fun r w1 => R (.bool r) w1) = den Try.prog Try.f6.ntmps G_law18_IndexFull (codeOf Try.f6) [] (postD Try.prog Try.f6.results.toList R) (entry [.int .i64 n, .agg #[.int .i64 k0x, .string k1x, .int .i64 k2x]] 0) w := by kernel_rfl

theorem C_law18_IndexFull.of {n : Int} {k0x : Int} {k1x : ByteArray} {k2x : Int} {w : World} {R : Bool → World → Prop} (h : F_law18_IndexFull n k0x k1x k2x w R) : C_law18_IndexFull n k0x k1x k2x w R := by
  refine (calls_of_den (c := codeOf Try.f6) seat_ok seat_mixed Try.func6 (by kernel_rfl) loops_law18_IndexFull (args := [.int .i64 n, .agg #[.int .i64 k0x, .string k1x, .int .i64 k2x]]) rfl (R := fun v w1 => ∃ (r : Bool), v = (.bool r : Value) ∧ R r w1) ?_).mono ?_
  · rw [← den_law18_IndexFull]
    have e : (fun r w1 => ∃ (r' : Bool), (.bool r : Value) = (.bool r' : Value) ∧ R r' w1) = R := by
      funext r w1
      exact propext ⟨fun ⟨r', he, h⟩ => by simp at he; simp_all, fun h => ⟨_, rfl, h⟩⟩
    simpa only [e] using h
  · rintro en w1 ⟨v, he, r, rfl, h⟩
    exact ⟨_, he, h⟩

def F_law18_IndexNobody_k1 (R : Bool → World → Prop) (w1_8 : World) : Prop :=
  R false w1_8

def F_law18_IndexNobody (o0 : Int) (o1 : Int) (o2 : Int) (o3 : ByteArray) (o4 : Int) (o5 : Bool) (w : World) (R : Bool → World → Prop) : Prop :=
  New w (.cells #[.int .i64 o0, .int .i64 o1, .int .i64 o2, .string o3, .int .i64 o4, .bool o5] 40) fun r w1 =>
  ∃ Id : Int, w1.cell? ((⟨r, 0, none⟩ : Addr).add 1) = some (.int .i64 Id) ∧
  ∃ Key0 : Int, w1.cell? (((⟨r, 0, none⟩ : Addr).add 2).add 0) = some (.int .i64 Key0) ∧
  ∃ Key1 : ByteArray, w1.cell? (((⟨r, 0, none⟩ : Addr).add 2).add 1) = some (.string Key1) ∧
  ∃ Key2 : Int, w1.cell? (((⟨r, 0, none⟩ : Addr).add 2).add 2) = some (.int .i64 Key2) ∧
  C_index_Table_Next none Id Key0 Key1 Key2 w1 fun t140 t141 w1_1 =>
  ∃ Key0_1 : Int, w1_1.cell? (((⟨r, 0, none⟩ : Addr).add 2).add 0) = some (.int .i64 Key0_1) ∧
  ∃ Key1_1 : ByteArray, w1_1.cell? (((⟨r, 0, none⟩ : Addr).add 2).add 1) = some (.string Key1_1) ∧
  ∃ Key2_1 : Int, w1_1.cell? (((⟨r, 0, none⟩ : Addr).add 2).add 2) = some (.int .i64 Key2_1) ∧
  C_index_Table_Head none Key0_1 Key1_1 Key2_1 w1_1 fun t210 t211 w1_2 =>
  C_law18_lives  w1_2 fun t24 w1_3 =>
  If t24
  (∃ Id_1 : Int, w1_3.cell? ((⟨r, 0, none⟩ : Addr).add 1) = some (.int .i64 Id_1) ∧
  ∃ Key0_2 : Int, w1_3.cell? (((⟨r, 0, none⟩ : Addr).add 2).add 0) = some (.int .i64 Key0_2) ∧
  ∃ Key1_2 : ByteArray, w1_3.cell? (((⟨r, 0, none⟩ : Addr).add 2).add 1) = some (.string Key1_2) ∧
  ∃ Key2_2 : Int, w1_3.cell? (((⟨r, 0, none⟩ : Addr).add 2).add 2) = some (.int .i64 Key2_2) ∧
  ∃ Front : Bool, w1_3.cell? ((⟨r, 0, none⟩ : Addr).add 5) = some (.bool Front) ∧
  C_index_Table_Add none Id_1 Key0_2 Key1_2 Key2_2 Front w1_3 fun t33 w1_4 =>
  If (t33 == (6 : Int))
  (∃ Id_2 : Int, w1_4.cell? ((⟨r, 0, none⟩ : Addr).add 1) = some (.int .i64 Id_2) ∧
  C_index_Table_Drop none Id_2 w1_4 fun t40 w1_5 =>
  If (t40 == (6 : Int))
  (If (t140 == (0 : Int))
  (If (!t141)
  (If (t210 == (0 : Int))
  (If (!t211)
  (∃ Key0_3 : Int, w1_5.cell? (((⟨r, 0, none⟩ : Addr).add 2).add 0) = some (.int .i64 Key0_3) ∧
  ∃ Key1_3 : ByteArray, w1_5.cell? (((⟨r, 0, none⟩ : Addr).add 2).add 1) = some (.string Key1_3) ∧
  ∃ Key2_3 : Int, w1_5.cell? (((⟨r, 0, none⟩ : Addr).add 2).add 2) = some (.int .i64 Key2_3) ∧
  C_index_Table_All none Key0_3 Key1_3 Key2_3 w1_5 fun t63P t63N t63C w1_6 =>
  If ((t63N : Int) == (0 : Int))
  (C_index_Table_Len none w1_6 fun t69 w1_7 =>
  R (t69 == (0 : Int)) w1_7)
  (F_law18_IndexNobody_k1 R w1_6))
  (F_law18_IndexNobody_k1 R w1_5))
  (F_law18_IndexNobody_k1 R w1_5))
  (F_law18_IndexNobody_k1 R w1_5))
  (F_law18_IndexNobody_k1 R w1_5))
  (F_law18_IndexNobody_k1 R w1_5))
  (F_law18_IndexNobody_k1 R w1_4))
  (F_law18_IndexNobody_k1 R w1_3)

def G_law18_IndexNobody : Gen where
  loop := lookL []
  plan := fun _ => none

theorem loops_law18_IndexNobody : LoopOk Try.prog Try.f7.ntmps G_law18_IndexNobody (codeOf Try.f7) := loopOk_none fun _ => rfl

theorem den_law18_IndexNobody (o0 : Int) (o1 : Int) (o2 : Int) (o3 : ByteArray) (o4 : Int) (o5 : Bool) (w : World) (R : Value → World → Prop) :
    F_law18_IndexNobody o0 o1 o2 o3 o4 o5 w (fun r w1 => R (.bool r) w1) = den Try.prog Try.f7.ntmps G_law18_IndexNobody (codeOf Try.f7) [] (postD Try.prog Try.f7.results.toList R) (entry [.agg #[.int .i64 o0, .int .i64 o1, .int .i64 o2, .string o3, .int .i64 o4, .bool o5]] 0) w := by kernel_rfl

theorem C_law18_IndexNobody.of {o0 : Int} {o1 : Int} {o2 : Int} {o3 : ByteArray} {o4 : Int} {o5 : Bool} {w : World} {R : Bool → World → Prop} (h : F_law18_IndexNobody o0 o1 o2 o3 o4 o5 w R) : C_law18_IndexNobody o0 o1 o2 o3 o4 o5 w R := by
  refine (calls_of_den (c := codeOf Try.f7) seat_ok seat_mixed Try.func7 (by kernel_rfl) loops_law18_IndexNobody (args := [.agg #[.int .i64 o0, .int .i64 o1, .int .i64 o2, .string o3, .int .i64 o4, .bool o5]]) rfl (R := fun v w1 => ∃ (r : Bool), v = (.bool r : Value) ∧ R r w1) ?_).mono ?_
  · rw [← den_law18_IndexNobody]
    have e : (fun r w1 => ∃ (r' : Bool), (.bool r : Value) = (.bool r' : Value) ∧ R r' w1) = R := by
      funext r w1
      exact propext ⟨fun ⟨r', he, h⟩ => by simp at he; simp_all, fun h => ⟨_, rfl, h⟩⟩
    simpa only [e] using h
  · rintro en w1 ⟨v, he, r, rfl, h⟩
    exact ⟨_, he, h⟩

def F_law18_lives_k1 (R : Bool → World → Prop) (t0 : Bool) (w1_32 : World) : Prop :=
  R t0 w1_32

def F_law18_lives_k2 (R : Bool → World → Prop) (w1_33 : World) : Prop :=
  R false w1_33

def F_law18_lives (w : World) (R : Bool → World → Prop) : Prop :=
  C_index_New  w fun t13 w1 =>
  If t13.isNone
  (R false w1)
  (New w1 (.cells #[.int .i64 0, .string ⟨#[]⟩, .int .i64 0] 26) fun r w1_1 =>
  St w1_1 ((⟨r, 0, none⟩ : Addr).add 0) (.int .i64 3) fun w1_2 =>
  St w1_2 ((⟨r, 0, none⟩ : Addr).add 1) (.string ⟨#[102]⟩) fun w1_3 =>
  St w1_3 ((⟨r, 0, none⟩ : Addr).add 2) (.int .i64 1) fun w1_4 =>
  New w1_4 (.cells #[.int .i64 0, .string ⟨#[]⟩, .int .i64 0] 26) fun r_1 w1_5 =>
  St w1_5 ((⟨r_1, 0, none⟩ : Addr).add 0) (.int .i64 2) fun w1_6 =>
  St w1_6 ((⟨r_1, 0, none⟩ : Addr).add 1) (.string ⟨#[98]⟩) fun w1_7 =>
  St w1_7 ((⟨r_1, 0, none⟩ : Addr).add 2) (.int .i64 0) fun w1_8 =>
  ∃ t190 : Int, (drw w1_8).cell? ((⟨r, 0, none⟩ : Addr).add 0) = some (.int .i64 t190) ∧
  ∃ t191 : ByteArray, (drw w1_8).cell? ((⟨r, 0, none⟩ : Addr).add 1) = some (.string t191) ∧
  ∃ t192 : Int, (drw w1_8).cell? ((⟨r, 0, none⟩ : Addr).add 2) = some (.int .i64 t192) ∧
  ∃ t250 : Int, (drw w1_8).cell? ((⟨r_1, 0, none⟩ : Addr).add 0) = some (.int .i64 t250) ∧
  ∃ t251 : ByteArray, (drw w1_8).cell? ((⟨r_1, 0, none⟩ : Addr).add 1) = some (.string t251) ∧
  ∃ t252 : Int, (drw w1_8).cell? ((⟨r_1, 0, none⟩ : Addr).add 2) = some (.int .i64 t252) ∧
  C_index_Table_Add t13 (4 : Int) t190 t191 t192 false (drw w1_8) fun t20 w1_9 =>
  (∀ i, i < 3 → w1_9.cell? ((⟨r_1, 0, none⟩ : Addr).add i) = (drw w1_8).cell? ((⟨r_1, 0, none⟩ : Addr).add i)) ∧
  C_index_Table_Add t13 (7 : Int) (0 : Int) ⟨#[]⟩ (0 : Int) false w1_9 fun t23 w1_10 =>
  (∀ i, i < 3 → w1_10.cell? ((⟨r_1, 0, none⟩ : Addr).add i) = (drw w1_8).cell? ((⟨r_1, 0, none⟩ : Addr).add i)) ∧
  C_index_Table_Add t13 (9 : Int) t250 t251 t252 true w1_10 fun t26 w1_11 =>
  ∃ t290 : Int, w1_11.cell? ((⟨r, 0, none⟩ : Addr).add 0) = some (.int .i64 t290) ∧
  ∃ t291 : ByteArray, w1_11.cell? ((⟨r, 0, none⟩ : Addr).add 1) = some (.string t291) ∧
  ∃ t292 : Int, w1_11.cell? ((⟨r, 0, none⟩ : Addr).add 2) = some (.int .i64 t292) ∧
  C_index_Table_Head t13 t290 t291 t292 w1_11 fun t300 t301 w1_12 =>
  ∃ t350 : Int, w1_12.cell? ((⟨r, 0, none⟩ : Addr).add 0) = some (.int .i64 t350) ∧
  ∃ t351 : ByteArray, w1_12.cell? ((⟨r, 0, none⟩ : Addr).add 1) = some (.string t351) ∧
  ∃ t352 : Int, w1_12.cell? ((⟨r, 0, none⟩ : Addr).add 2) = some (.int .i64 t352) ∧
  C_index_Table_Next t13 (4 : Int) t350 t351 t352 w1_12 fun t360 t361 w1_13 =>
  ∃ t410 : Int, w1_13.cell? ((⟨r_1, 0, none⟩ : Addr).add 0) = some (.int .i64 t410) ∧
  ∃ t411 : ByteArray, w1_13.cell? ((⟨r_1, 0, none⟩ : Addr).add 1) = some (.string t411) ∧
  ∃ t412 : Int, w1_13.cell? ((⟨r_1, 0, none⟩ : Addr).add 2) = some (.int .i64 t412) ∧
  C_index_Table_Next t13 (7 : Int) t410 t411 t412 w1_13 fun t420 t421 w1_14 =>
  If (t20 == (0 : Int))
  (If (t23 == (0 : Int))
  (If (t26 == (0 : Int))
  (If t301
  (If (t300 == (4 : Int))
  (If t361
  (If (t360 == (7 : Int))
  (If (!t421)
  (C_index_Table_Len t13 (drw w1_14) fun t75 w1_15 =>
  If (t75 == (3 : Int))
  (∃ t800 : Int, w1_15.cell? ((⟨r_1, 0, none⟩ : Addr).add 0) = some (.int .i64 t800) ∧
  ∃ t801 : ByteArray, w1_15.cell? ((⟨r_1, 0, none⟩ : Addr).add 1) = some (.string t801) ∧
  ∃ t802 : Int, w1_15.cell? ((⟨r_1, 0, none⟩ : Addr).add 2) = some (.int .i64 t802) ∧
  (C_index_Table_All t13 t800 t801 t802 w1_15 fun t81P t81N t81C w1_16 =>
  BSl Try.prog 43 2 [(0, .int .i64 9), (1, .int .i64 7)] w1_16 fun t82P t82N t82C w1_17 =>
  C_ref15_SameInts t81P t81N t81C t82P t82N t82C w1_17 fun t83 w1_18 =>
  If t83
  (C_index_Table_Drop t13 (5 : Int) w1_18 fun t87 w1_19 =>
  If (t87 == (4 : Int))
  (∃ t910 : Int, w1_19.cell? ((⟨r, 0, none⟩ : Addr).add 0) = some (.int .i64 t910) ∧
  ∃ t911 : ByteArray, w1_19.cell? ((⟨r, 0, none⟩ : Addr).add 1) = some (.string t911) ∧
  ∃ t912 : Int, w1_19.cell? ((⟨r, 0, none⟩ : Addr).add 2) = some (.int .i64 t912) ∧
  ∃ t920 : Int, w1_19.cell? ((⟨r, 0, none⟩ : Addr).add 0) = some (.int .i64 t920) ∧
  ∃ t921 : ByteArray, w1_19.cell? ((⟨r, 0, none⟩ : Addr).add 1) = some (.string t921) ∧
  ∃ t922 : Int, w1_19.cell? ((⟨r, 0, none⟩ : Addr).add 2) = some (.int .i64 t922) ∧
  C_index_Meet t910 t911 t912 t920 t921 t922 w1_19 fun t93 w1_20 =>
  If t93
  (∃ t960 : Int, w1_20.cell? ((⟨r, 0, none⟩ : Addr).add 0) = some (.int .i64 t960) ∧
  ∃ t961 : ByteArray, w1_20.cell? ((⟨r, 0, none⟩ : Addr).add 1) = some (.string t961) ∧
  ∃ t962 : Int, w1_20.cell? ((⟨r, 0, none⟩ : Addr).add 2) = some (.int .i64 t962) ∧
  ∃ t970 : Int, w1_20.cell? ((⟨r_1, 0, none⟩ : Addr).add 0) = some (.int .i64 t970) ∧
  ∃ t971 : ByteArray, w1_20.cell? ((⟨r_1, 0, none⟩ : Addr).add 1) = some (.string t971) ∧
  ∃ t972 : Int, w1_20.cell? ((⟨r_1, 0, none⟩ : Addr).add 2) = some (.int .i64 t972) ∧
  C_index_Meet t960 t961 t962 t970 t971 t972 w1_20 fun t98 w1_21 =>
  If (!t98)
  (∃ t1040 : Int, w1_21.cell? ((⟨r_1, 0, none⟩ : Addr).add 0) = some (.int .i64 t1040) ∧
  ∃ t1041 : ByteArray, w1_21.cell? ((⟨r_1, 0, none⟩ : Addr).add 1) = some (.string t1041) ∧
  ∃ t1042 : Int, w1_21.cell? ((⟨r_1, 0, none⟩ : Addr).add 2) = some (.int .i64 t1042) ∧
  C_index_KeyOf (3 : Int) (0 : Int) ⟨#[98]⟩ none 0 0 w1_21 fun t1030 t1031 t1032 w1_22 =>
  (∀ i, i < 3 → w1_22.cell? ((⟨r_1, 0, none⟩ : Addr).add i) = w1_21.cell? ((⟨r_1, 0, none⟩ : Addr).add i)) ∧
  AggEq Try.prog 26 (.agg #[.int .i64 t1030, .string t1031, .int .i64 t1032]) (.agg #[.int .i64 t1040, .string t1041, .int .i64 t1042]) fun bb =>
  If bb
  (C_index_First (0 : Int) (0 : Int) ⟨#[]⟩ none 0 0 w1_22 fun t1090 t1091 t1092 w1_23 =>
  AggEq Try.prog 26 (.agg #[.int .i64 t1090, .string t1091, .int .i64 t1092]) (.agg #[.int .i64 0, .string ⟨#[]⟩, .int .i64 0]) fun bb_1 =>
  F_law18_lives_k1 R bb_1 w1_23)
  (F_law18_lives_k2 R w1_22))
  (F_law18_lives_k2 R w1_21))
  (F_law18_lives_k2 R w1_20))
  (F_law18_lives_k2 R w1_19))
  (F_law18_lives_k2 R w1_18)) ∧
  (BSl Try.prog 43 2 [(0, .int .i64 9), (1, .int .i64 7)] w1_15 fun t82P_1 t82N_1 t82C_1 w1_24 =>
  (∀ i, i < 3 → w1_24.cell? ((⟨r_1, 0, none⟩ : Addr).add i) = w1_15.cell? ((⟨r_1, 0, none⟩ : Addr).add i)) ∧
  C_index_Table_All t13 t800 t801 t802 w1_24 fun t81P_1 t81N_1 t81C_1 w1_25 =>
  C_ref15_SameInts t81P_1 t81N_1 t81C_1 t82P_1 t82N_1 t82C_1 w1_25 fun t83_1 w1_26 =>
  If t83_1
  (C_index_Table_Drop t13 (5 : Int) w1_26 fun t87_1 w1_27 =>
  If (t87_1 == (4 : Int))
  (∃ t910_1 : Int, w1_27.cell? ((⟨r, 0, none⟩ : Addr).add 0) = some (.int .i64 t910_1) ∧
  ∃ t911_1 : ByteArray, w1_27.cell? ((⟨r, 0, none⟩ : Addr).add 1) = some (.string t911_1) ∧
  ∃ t912_1 : Int, w1_27.cell? ((⟨r, 0, none⟩ : Addr).add 2) = some (.int .i64 t912_1) ∧
  ∃ t920_1 : Int, w1_27.cell? ((⟨r, 0, none⟩ : Addr).add 0) = some (.int .i64 t920_1) ∧
  ∃ t921_1 : ByteArray, w1_27.cell? ((⟨r, 0, none⟩ : Addr).add 1) = some (.string t921_1) ∧
  ∃ t922_1 : Int, w1_27.cell? ((⟨r, 0, none⟩ : Addr).add 2) = some (.int .i64 t922_1) ∧
  C_index_Meet t910_1 t911_1 t912_1 t920_1 t921_1 t922_1 w1_27 fun t93_1 w1_28 =>
  If t93_1
  (∃ t960_1 : Int, w1_28.cell? ((⟨r, 0, none⟩ : Addr).add 0) = some (.int .i64 t960_1) ∧
  ∃ t961_1 : ByteArray, w1_28.cell? ((⟨r, 0, none⟩ : Addr).add 1) = some (.string t961_1) ∧
  ∃ t962_1 : Int, w1_28.cell? ((⟨r, 0, none⟩ : Addr).add 2) = some (.int .i64 t962_1) ∧
  ∃ t970_1 : Int, w1_28.cell? ((⟨r_1, 0, none⟩ : Addr).add 0) = some (.int .i64 t970_1) ∧
  ∃ t971_1 : ByteArray, w1_28.cell? ((⟨r_1, 0, none⟩ : Addr).add 1) = some (.string t971_1) ∧
  ∃ t972_1 : Int, w1_28.cell? ((⟨r_1, 0, none⟩ : Addr).add 2) = some (.int .i64 t972_1) ∧
  C_index_Meet t960_1 t961_1 t962_1 t970_1 t971_1 t972_1 w1_28 fun t98_1 w1_29 =>
  If (!t98_1)
  (∃ t1040_1 : Int, w1_29.cell? ((⟨r_1, 0, none⟩ : Addr).add 0) = some (.int .i64 t1040_1) ∧
  ∃ t1041_1 : ByteArray, w1_29.cell? ((⟨r_1, 0, none⟩ : Addr).add 1) = some (.string t1041_1) ∧
  ∃ t1042_1 : Int, w1_29.cell? ((⟨r_1, 0, none⟩ : Addr).add 2) = some (.int .i64 t1042_1) ∧
  C_index_KeyOf (3 : Int) (0 : Int) ⟨#[98]⟩ none 0 0 w1_29 fun t1030_1 t1031_1 t1032_1 w1_30 =>
  (∀ i, i < 3 → w1_30.cell? ((⟨r_1, 0, none⟩ : Addr).add i) = w1_29.cell? ((⟨r_1, 0, none⟩ : Addr).add i)) ∧
  AggEq Try.prog 26 (.agg #[.int .i64 t1030_1, .string t1031_1, .int .i64 t1032_1]) (.agg #[.int .i64 t1040_1, .string t1041_1, .int .i64 t1042_1]) fun bb_2 =>
  If bb_2
  (C_index_First (0 : Int) (0 : Int) ⟨#[]⟩ none 0 0 w1_30 fun t1090_1 t1091_1 t1092_1 w1_31 =>
  AggEq Try.prog 26 (.agg #[.int .i64 t1090_1, .string t1091_1, .int .i64 t1092_1]) (.agg #[.int .i64 0, .string ⟨#[]⟩, .int .i64 0]) fun bb_3 =>
  F_law18_lives_k1 R bb_3 w1_31)
  (F_law18_lives_k2 R w1_30))
  (F_law18_lives_k2 R w1_29))
  (F_law18_lives_k2 R w1_28))
  (F_law18_lives_k2 R w1_27))
  (F_law18_lives_k2 R w1_26)))
  ((F_law18_lives_k2 R w1_15) ∧
  (F_law18_lives_k2 R w1_15)))
  ((F_law18_lives_k2 R (drw w1_14)) ∧
  (F_law18_lives_k2 R (drw w1_14))))
  ((F_law18_lives_k2 R (drw w1_14)) ∧
  (F_law18_lives_k2 R (drw w1_14))))
  ((F_law18_lives_k2 R (drw w1_14)) ∧
  (F_law18_lives_k2 R (drw w1_14))))
  ((F_law18_lives_k2 R (drw w1_14)) ∧
  (F_law18_lives_k2 R (drw w1_14))))
  ((F_law18_lives_k2 R (drw w1_14)) ∧
  (F_law18_lives_k2 R (drw w1_14))))
  ((F_law18_lives_k2 R (drw w1_14)) ∧
  (F_law18_lives_k2 R (drw w1_14))))
  ((F_law18_lives_k2 R (drw w1_14)) ∧
  (F_law18_lives_k2 R (drw w1_14))))
  ((F_law18_lives_k2 R (drw w1_14)) ∧
  (F_law18_lives_k2 R (drw w1_14))))

def G_law18_lives : Gen where
  loop := lookL []
  plan := fun id =>
    bif Nat.beq id 6 then some ([0, 0, 3, 0, 0, 31, 0, 0, 255, 511, 1023, 2047], .take 0 (.take 1 (.take 3 (.take 4 (.take 6 (.take 7 (.take 2 (.take 5 (.take 8 (.take 9 (.take 10 (.take 11 .done)))))))))))) else
    bif Nat.beq id 10 then some ([0, 1, 3, 7, 15, 31, 63, 127, 255, 511, 1023, 2047, 4095, 8191, 16383, 32767, 65535, 131071, 262143, 524287, 1048575, 2097151, 4194303, 8388607, 16777215, 33554431, 67108863, 134217727, 268435455, 536870911, 1073741823, 2147483647, 4294967295, 8589934591, 17179869183, 17179869183, 68719476735, 17179869183, 274877906943, 549755813887, 1099511627775, 2199023255551, 4398046511103, 8796093022207, 17592186044415, 35184372088831, 70368744177663, 70368744177663, 281474976710655, 562949953421311, 1125899906842623, 2251799813685247, 2251799813685247, 9007199254740991, 18014398509481983, 36028797018963967, 72057594037927935, 144115188075855871, 288230376151711743, 144115188075855871, 1152921504606846975, 2305843009213693951, 4611686018427387903, 9223372036854775807, 18446744073709551615, 9223372036854775807, 73786976294838206463, 147573952589676412927, 295147905179352825855], .take 0 (.take 1 (.take 2 (.take 3 (.take 4 (.take 5 (.take 6 (.take 7 (.take 8 (.take 9 (.take 10 (.take 11 (.take 12 (.take 13 (.take 14 (.take 15 (.take 16 (.take 17 (.take 18 (.take 19 (.take 20 (.take 21 (.take 22 (.take 23 (.take 24 (.take 25 (.take 26 (.take 27 (.take 28 (.take 29 (.take 30 (.take 31 (.take 32 (.take 33 (.take 34 (.take 35 (.both 36 (.take 37 (.take 38 (.take 39 (.take 40 (.take 41 (.take 42 (.take 43 (.take 44 (.take 45 (.take 46 (.take 47 (.take 48 (.take 49 (.take 50 (.take 51 (.take 52 (.take 53 (.take 54 (.take 55 (.take 56 (.take 57 (.take 59 (.take 58 (.take 60 (.take 61 (.take 62 (.take 63 (.take 65 (.take 64 (.take 66 (.take 67 (.take 68 .done)))))))))))))))))))))))))))))))) 37 (.take 36 (.take 38 (.take 39 (.take 40 (.take 41 (.take 42 (.take 43 (.take 44 (.take 45 (.take 46 (.take 47 (.take 48 (.take 49 (.take 50 (.take 51 (.take 52 (.take 53 (.take 54 (.take 55 (.take 56 (.take 57 (.take 59 (.take 58 (.take 60 (.take 61 (.take 62 (.take 63 (.take 65 (.take 64 (.take 66 (.take 67 (.take 68 .done))))))))))))))))))))))))))))))))))))))))))))))))))))))))))))))))))))) else none

theorem loops_law18_lives : LoopOk Try.prog Try.f8.ntmps G_law18_lives (codeOf Try.f8) := loopOk_none fun _ => rfl

theorem den_law18_lives  (w : World) (R : Value → World → Prop) :
    F_law18_lives w (fun r w1 => R (.bool r) w1) = den Try.prog Try.f8.ntmps G_law18_lives (codeOf Try.f8) [] (postD Try.prog Try.f8.results.toList R) (entry [] 0) w := by kernel_rfl

theorem C_law18_lives.of {w : World} {R : Bool → World → Prop} (h : F_law18_lives w R) : C_law18_lives w R := by
  refine (calls_of_den (c := codeOf Try.f8) seat_ok seat_mixed Try.func8 (by kernel_rfl) loops_law18_lives (args := []) rfl (R := fun v w1 => ∃ (r : Bool), v = (.bool r : Value) ∧ R r w1) ?_).mono ?_
  · rw [← den_law18_lives]
    have e : (fun r w1 => ∃ (r' : Bool), (.bool r : Value) = (.bool r' : Value) ∧ R r' w1) = R := by
      funext r w1
      exact propext ⟨fun ⟨r', he, h⟩ => by simp at he; simp_all, fun h => ⟨_, rfl, h⟩⟩
    simpa only [e] using h
  · rintro en w1 ⟨v, he, r, rfl, h⟩
    exact ⟨_, he, h⟩

end Go.Proofs.Ytpkfckfdehaamaa
