/- What the structs that come in are made of. Printed by a program. -/
import Derived.Test.YtlndgaijekihiaaGreatOwn6
import Derived.Test.YtlndgaijekihiaaGreatProg
set_option maxRecDepth 100000
set_option linter.unusedVariables false
namespace Go.Proofs.YtlndgaijekihiaaGreat
open Go Go.D Go.Proofs

/-- struct  x int64 y int signed bool code abi.BoundsErrorCode  -/
theorem see_7 {w : World} {f : Nat} {cs : List Value} (h : Sees Tryz.prog w f 7 cs) : ∃ g : Nat, ∃ x_x : Int, ∃ x_y : Int, ∃ x_signed : Bool, ∃ x_code : Int, cs = [.int .i64 x_x, .int .i64 x_y, .bool x_signed, .int .u8 x_code] ∧ (Lit.int .i64 x_x).wf = true ∧ (Lit.int .i64 x_y).wf = true ∧ (Lit.int .u8 x_code).wf = true := by
  obtain ⟨g, rfl, hl, hf⟩ := see_struct (fs := _) (by rfl) (sz := 4) (by kernel_rfl) h
  match cs, hl with
  | [c0, c1, c2, c3], _ =>
    have h0 : Sees Tryz.prog w g 2 [c0] := hf 0 _ rfl
    obtain ⟨x_x, e0, k0⟩ := see_int (by rfl) h0
    simp only [List.cons.injEq, and_true] at e0
    obtain rfl := e0
    have h1 : Sees Tryz.prog w g 3 [c1] := hf 1 _ rfl
    obtain ⟨x_y, e1, k1⟩ := see_int (by rfl) h1
    simp only [List.cons.injEq, and_true] at e1
    obtain rfl := e1
    have h2 : Sees Tryz.prog w g 4 [c2] := hf 2 _ rfl
    obtain ⟨x_signed, e2⟩ := see_bool (by rfl) h2
    simp only [List.cons.injEq, and_true] at e2
    obtain rfl := e2
    have h3 : Sees Tryz.prog w g 6 [c3] := hf 3 _ rfl
    obtain ⟨x_code, e3, k3⟩ := see_int (by rfl) h3
    simp only [List.cons.injEq, and_true] at e3
    obtain rfl := e3
    exact ⟨g, x_x, x_y, x_signed, x_code, rfl, k0, k1, k3⟩

/-- runtime.boundsError -/
theorem see_8 {w : World} {f : Nat} {cs : List Value} (h : Sees Tryz.prog w f 8 cs) : ∃ g : Nat, ∃ x_x : Int, ∃ x_y : Int, ∃ x_signed : Bool, ∃ x_code : Int, cs = [.int .i64 x_x, .int .i64 x_y, .bool x_signed, .int .u8 x_code] ∧ (Lit.int .i64 x_x).wf = true ∧ (Lit.int .i64 x_y).wf = true ∧ (Lit.int .u8 x_code).wf = true := by
  obtain ⟨g, rfl, hl, hf⟩ := see_struct (fs := _) (by rfl) (sz := 4) (by kernel_rfl) h
  match cs, hl with
  | [c0, c1, c2, c3], _ =>
    have h0 : Sees Tryz.prog w g 2 [c0] := hf 0 _ rfl
    obtain ⟨x_x, e0, k0⟩ := see_int (by rfl) h0
    simp only [List.cons.injEq, and_true] at e0
    obtain rfl := e0
    have h1 : Sees Tryz.prog w g 3 [c1] := hf 1 _ rfl
    obtain ⟨x_y, e1, k1⟩ := see_int (by rfl) h1
    simp only [List.cons.injEq, and_true] at e1
    obtain rfl := e1
    have h2 : Sees Tryz.prog w g 4 [c2] := hf 2 _ rfl
    obtain ⟨x_signed, e2⟩ := see_bool (by rfl) h2
    simp only [List.cons.injEq, and_true] at e2
    obtain rfl := e2
    have h3 : Sees Tryz.prog w g 6 [c3] := hf 3 _ rfl
    obtain ⟨x_code, e3, k3⟩ := see_int (by rfl) h3
    simp only [List.cons.injEq, and_true] at e3
    obtain rfl := e3
    exact ⟨g, x_x, x_y, x_signed, x_code, rfl, k0, k1, k3⟩

/-- struct  msg string addr uintptr  -/
theorem see_13 {w : World} {f : Nat} {cs : List Value} (h : Sees Tryz.prog w f 13 cs) : ∃ g : Nat, ∃ x_msg : ByteArray, ∃ x_addr : Int, cs = [.string x_msg, .int .u64 x_addr] ∧ x_msg.size ≤ maxLen ∧ (Lit.int .u64 x_addr).wf = true := by
  obtain ⟨g, rfl, hl, hf⟩ := see_struct (fs := _) (by rfl) (sz := 2) (by kernel_rfl) h
  match cs, hl with
  | [c0, c1], _ =>
    have h0 : Sees Tryz.prog w g 9 [c0] := hf 0 _ rfl
    obtain ⟨x_msg, e0, k0⟩ := see_string (by rfl) h0
    simp only [List.cons.injEq, and_true] at e0
    obtain rfl := e0
    have h1 : Sees Tryz.prog w g 12 [c1] := hf 1 _ rfl
    obtain ⟨x_addr, e1, k1⟩ := see_int (by rfl) h1
    simp only [List.cons.injEq, and_true] at e1
    obtain rfl := e1
    exact ⟨g, x_msg, x_addr, rfl, k0, k1⟩

/-- runtime.errorAddressString -/
theorem see_14 {w : World} {f : Nat} {cs : List Value} (h : Sees Tryz.prog w f 14 cs) : ∃ g : Nat, ∃ x_msg : ByteArray, ∃ x_addr : Int, cs = [.string x_msg, .int .u64 x_addr] ∧ x_msg.size ≤ maxLen ∧ (Lit.int .u64 x_addr).wf = true := by
  obtain ⟨g, rfl, hl, hf⟩ := see_struct (fs := _) (by rfl) (sz := 2) (by kernel_rfl) h
  match cs, hl with
  | [c0, c1], _ =>
    have h0 : Sees Tryz.prog w g 9 [c0] := hf 0 _ rfl
    obtain ⟨x_msg, e0, k0⟩ := see_string (by rfl) h0
    simp only [List.cons.injEq, and_true] at e0
    obtain rfl := e0
    have h1 : Sees Tryz.prog w g 12 [c1] := hf 1 _ rfl
    obtain ⟨x_addr, e1, k1⟩ := see_int (by rfl) h1
    simp only [List.cons.injEq, and_true] at e1
    obtain rfl := e1
    exact ⟨g, x_msg, x_addr, rfl, k0, k1⟩

/-- struct  Kind int N int S string L []api.Term  -/
theorem see_23 {w : World} {f : Nat} {cs : List Value} (h : Sees Tryz.prog w f 23 cs) : ∃ g : Nat, ∃ x_Kind : Int, ∃ x_N : Int, ∃ x_S : ByteArray, ∃ x_LP : Option Addr, ∃ x_LN : Nat, ∃ x_LC : Nat, cs = [.int .i64 x_Kind, .int .i64 x_N, .string x_S, .slice x_LP x_LN x_LC] ∧ (Lit.int .i64 x_Kind).wf = true ∧ (Lit.int .i64 x_N).wf = true ∧ x_S.size ≤ maxLen ∧ (∃ g, Sees Tryz.prog w g 22 [.slice x_LP x_LN x_LC]) := by
  obtain ⟨g, rfl, hl, hf⟩ := see_struct (fs := _) (by rfl) (sz := 4) (by kernel_rfl) h
  match cs, hl with
  | [c0, c1, c2, c3], _ =>
    have h0 : Sees Tryz.prog w g 3 [c0] := hf 0 _ rfl
    obtain ⟨x_Kind, e0, k0⟩ := see_int (by rfl) h0
    simp only [List.cons.injEq, and_true] at e0
    obtain rfl := e0
    have h1 : Sees Tryz.prog w g 3 [c1] := hf 1 _ rfl
    obtain ⟨x_N, e1, k1⟩ := see_int (by rfl) h1
    simp only [List.cons.injEq, and_true] at e1
    obtain rfl := e1
    have h2 : Sees Tryz.prog w g 9 [c2] := hf 2 _ rfl
    obtain ⟨x_S, e2, k2⟩ := see_string (by rfl) h2
    simp only [List.cons.injEq, and_true] at e2
    obtain rfl := e2
    have h3 : Sees Tryz.prog w g 22 [c3] := hf 3 _ rfl
    obtain ⟨x_LP, x_LN, x_LC, cs3, _, _, e3, _⟩ := see_slice (by rfl) (sz := 4) (by kernel_rfl) h3
    simp only [List.cons.injEq, and_true] at e3
    obtain rfl := e3
    exact ⟨g, x_Kind, x_N, x_S, x_LP, x_LN, x_LC, rfl, k0, k1, k2, ⟨_, h3⟩⟩

/-- api.Term -/
theorem see_24 {w : World} {f : Nat} {cs : List Value} (h : Sees Tryz.prog w f 24 cs) : ∃ g : Nat, ∃ x_Kind : Int, ∃ x_N : Int, ∃ x_S : ByteArray, ∃ x_LP : Option Addr, ∃ x_LN : Nat, ∃ x_LC : Nat, cs = [.int .i64 x_Kind, .int .i64 x_N, .string x_S, .slice x_LP x_LN x_LC] ∧ (Lit.int .i64 x_Kind).wf = true ∧ (Lit.int .i64 x_N).wf = true ∧ x_S.size ≤ maxLen ∧ (∃ g, Sees Tryz.prog w g 22 [.slice x_LP x_LN x_LC]) := by
  obtain ⟨g, rfl, hl, hf⟩ := see_struct (fs := _) (by rfl) (sz := 4) (by kernel_rfl) h
  match cs, hl with
  | [c0, c1, c2, c3], _ =>
    have h0 : Sees Tryz.prog w g 3 [c0] := hf 0 _ rfl
    obtain ⟨x_Kind, e0, k0⟩ := see_int (by rfl) h0
    simp only [List.cons.injEq, and_true] at e0
    obtain rfl := e0
    have h1 : Sees Tryz.prog w g 3 [c1] := hf 1 _ rfl
    obtain ⟨x_N, e1, k1⟩ := see_int (by rfl) h1
    simp only [List.cons.injEq, and_true] at e1
    obtain rfl := e1
    have h2 : Sees Tryz.prog w g 9 [c2] := hf 2 _ rfl
    obtain ⟨x_S, e2, k2⟩ := see_string (by rfl) h2
    simp only [List.cons.injEq, and_true] at e2
    obtain rfl := e2
    have h3 : Sees Tryz.prog w g 22 [c3] := hf 3 _ rfl
    obtain ⟨x_LP, x_LN, x_LC, cs3, _, _, e3, _⟩ := see_slice (by rfl) (sz := 4) (by kernel_rfl) h3
    simp only [List.cons.injEq, and_true] at e3
    obtain rfl := e3
    exact ⟨g, x_Kind, x_N, x_S, x_LP, x_LN, x_LC, rfl, k0, k1, k2, ⟨_, h3⟩⟩

/-- struct  Head api.Term Goals []api.Goal Vars int  -/
theorem see_26 {w : World} {f : Nat} {cs : List Value} (h : Sees Tryz.prog w f 26 cs) : ∃ g : Nat, ∃ x_Head_Kind : Int, ∃ x_Head_N : Int, ∃ x_Head_S : ByteArray, ∃ x_Head_LP : Option Addr, ∃ x_Head_LN : Nat, ∃ x_Head_LC : Nat, ∃ x_GoalsP : Option Addr, ∃ x_GoalsN : Nat, ∃ x_GoalsC : Nat, ∃ x_Vars : Int, cs = [.int .i64 x_Head_Kind, .int .i64 x_Head_N, .string x_Head_S, .slice x_Head_LP x_Head_LN x_Head_LC, .slice x_GoalsP x_GoalsN x_GoalsC, .int .i64 x_Vars] ∧ (Lit.int .i64 x_Head_Kind).wf = true ∧ (Lit.int .i64 x_Head_N).wf = true ∧ x_Head_S.size ≤ maxLen ∧ (∃ g, Sees Tryz.prog w g 22 [.slice x_Head_LP x_Head_LN x_Head_LC]) ∧ (∃ g, Sees Tryz.prog w g 25 [.slice x_GoalsP x_GoalsN x_GoalsC]) ∧ (Lit.int .i64 x_Vars).wf = true := by
  obtain ⟨g, rfl, hl, hf⟩ := see_struct (fs := _) (by rfl) (sz := 6) (by kernel_rfl) h
  match cs, hl with
  | [c0, c1, c2, c3, c4, c5], _ =>
    have h0 : Sees Tryz.prog w g 24 [c0, c1, c2, c3] := hf 0 _ rfl
    obtain ⟨g0, x_Head_Kind, x_Head_N, x_Head_S, x_Head_LP, x_Head_LN, x_Head_LC, e0, k0_0, k0_1, k0_2, k0_3⟩ := see_24 h0
    simp only [List.cons.injEq, and_true] at e0
    obtain ⟨rfl, rfl, rfl, rfl⟩ := e0
    have h1 : Sees Tryz.prog w g 25 [c4] := hf 1 _ rfl
    obtain ⟨x_GoalsP, x_GoalsN, x_GoalsC, cs1, _, _, e1, _⟩ := see_slice (by rfl) (sz := 5) (by kernel_rfl) h1
    simp only [List.cons.injEq, and_true] at e1
    obtain rfl := e1
    have h2 : Sees Tryz.prog w g 3 [c5] := hf 2 _ rfl
    obtain ⟨x_Vars, e2, k2⟩ := see_int (by rfl) h2
    simp only [List.cons.injEq, and_true] at e2
    obtain rfl := e2
    exact ⟨g, x_Head_Kind, x_Head_N, x_Head_S, x_Head_LP, x_Head_LN, x_Head_LC, x_GoalsP, x_GoalsN, x_GoalsC, x_Vars, rfl, k0_0, k0_1, k0_2, k0_3, ⟨_, h1⟩, k2⟩

/-- api.Clause -/
theorem see_27 {w : World} {f : Nat} {cs : List Value} (h : Sees Tryz.prog w f 27 cs) : ∃ g : Nat, ∃ x_Head_Kind : Int, ∃ x_Head_N : Int, ∃ x_Head_S : ByteArray, ∃ x_Head_LP : Option Addr, ∃ x_Head_LN : Nat, ∃ x_Head_LC : Nat, ∃ x_GoalsP : Option Addr, ∃ x_GoalsN : Nat, ∃ x_GoalsC : Nat, ∃ x_Vars : Int, cs = [.int .i64 x_Head_Kind, .int .i64 x_Head_N, .string x_Head_S, .slice x_Head_LP x_Head_LN x_Head_LC, .slice x_GoalsP x_GoalsN x_GoalsC, .int .i64 x_Vars] ∧ (Lit.int .i64 x_Head_Kind).wf = true ∧ (Lit.int .i64 x_Head_N).wf = true ∧ x_Head_S.size ≤ maxLen ∧ (∃ g, Sees Tryz.prog w g 22 [.slice x_Head_LP x_Head_LN x_Head_LC]) ∧ (∃ g, Sees Tryz.prog w g 25 [.slice x_GoalsP x_GoalsN x_GoalsC]) ∧ (Lit.int .i64 x_Vars).wf = true := by
  obtain ⟨g, rfl, hl, hf⟩ := see_struct (fs := _) (by rfl) (sz := 6) (by kernel_rfl) h
  match cs, hl with
  | [c0, c1, c2, c3, c4, c5], _ =>
    have h0 : Sees Tryz.prog w g 24 [c0, c1, c2, c3] := hf 0 _ rfl
    obtain ⟨g0, x_Head_Kind, x_Head_N, x_Head_S, x_Head_LP, x_Head_LN, x_Head_LC, e0, k0_0, k0_1, k0_2, k0_3⟩ := see_24 h0
    simp only [List.cons.injEq, and_true] at e0
    obtain ⟨rfl, rfl, rfl, rfl⟩ := e0
    have h1 : Sees Tryz.prog w g 25 [c4] := hf 1 _ rfl
    obtain ⟨x_GoalsP, x_GoalsN, x_GoalsC, cs1, _, _, e1, _⟩ := see_slice (by rfl) (sz := 5) (by kernel_rfl) h1
    simp only [List.cons.injEq, and_true] at e1
    obtain rfl := e1
    have h2 : Sees Tryz.prog w g 3 [c5] := hf 2 _ rfl
    obtain ⟨x_Vars, e2, k2⟩ := see_int (by rfl) h2
    simp only [List.cons.injEq, and_true] at e2
    obtain rfl := e2
    exact ⟨g, x_Head_Kind, x_Head_N, x_Head_S, x_Head_LP, x_Head_LN, x_Head_LC, x_GoalsP, x_GoalsN, x_GoalsC, x_Vars, rfl, k0_0, k0_1, k0_2, k0_3, ⟨_, h1⟩, k2⟩

/-- struct  Kind int S string N int  -/
theorem see_29 {w : World} {f : Nat} {cs : List Value} (h : Sees Tryz.prog w f 29 cs) : ∃ g : Nat, ∃ x_Kind : Int, ∃ x_S : ByteArray, ∃ x_N : Int, cs = [.int .i64 x_Kind, .string x_S, .int .i64 x_N] ∧ (Lit.int .i64 x_Kind).wf = true ∧ x_S.size ≤ maxLen ∧ (Lit.int .i64 x_N).wf = true := by
  obtain ⟨g, rfl, hl, hf⟩ := see_struct (fs := _) (by rfl) (sz := 3) (by kernel_rfl) h
  match cs, hl with
  | [c0, c1, c2], _ =>
    have h0 : Sees Tryz.prog w g 3 [c0] := hf 0 _ rfl
    obtain ⟨x_Kind, e0, k0⟩ := see_int (by rfl) h0
    simp only [List.cons.injEq, and_true] at e0
    obtain rfl := e0
    have h1 : Sees Tryz.prog w g 9 [c1] := hf 1 _ rfl
    obtain ⟨x_S, e1, k1⟩ := see_string (by rfl) h1
    simp only [List.cons.injEq, and_true] at e1
    obtain rfl := e1
    have h2 : Sees Tryz.prog w g 3 [c2] := hf 2 _ rfl
    obtain ⟨x_N, e2, k2⟩ := see_int (by rfl) h2
    simp only [List.cons.injEq, and_true] at e2
    obtain rfl := e2
    exact ⟨g, x_Kind, x_S, x_N, rfl, k0, k1, k2⟩

/-- api.Key -/
theorem see_30 {w : World} {f : Nat} {cs : List Value} (h : Sees Tryz.prog w f 30 cs) : ∃ g : Nat, ∃ x_Kind : Int, ∃ x_S : ByteArray, ∃ x_N : Int, cs = [.int .i64 x_Kind, .string x_S, .int .i64 x_N] ∧ (Lit.int .i64 x_Kind).wf = true ∧ x_S.size ≤ maxLen ∧ (Lit.int .i64 x_N).wf = true := by
  obtain ⟨g, rfl, hl, hf⟩ := see_struct (fs := _) (by rfl) (sz := 3) (by kernel_rfl) h
  match cs, hl with
  | [c0, c1, c2], _ =>
    have h0 : Sees Tryz.prog w g 3 [c0] := hf 0 _ rfl
    obtain ⟨x_Kind, e0, k0⟩ := see_int (by rfl) h0
    simp only [List.cons.injEq, and_true] at e0
    obtain rfl := e0
    have h1 : Sees Tryz.prog w g 9 [c1] := hf 1 _ rfl
    obtain ⟨x_S, e1, k1⟩ := see_string (by rfl) h1
    simp only [List.cons.injEq, and_true] at e1
    obtain rfl := e1
    have h2 : Sees Tryz.prog w g 3 [c2] := hf 2 _ rfl
    obtain ⟨x_N, e2, k2⟩ := see_int (by rfl) h2
    simp only [List.cons.injEq, and_true] at e2
    obtain rfl := e2
    exact ⟨g, x_Kind, x_S, x_N, rfl, k0, k1, k2⟩

/-- struct  Kind int C api.Clause Code []api.Instr Flag bool N i -/
theorem see_31 {w : World} {f : Nat} {cs : List Value} (h : Sees Tryz.prog w f 31 cs) : ∃ g : Nat, ∃ x_Kind : Int, ∃ x_C_Head_Kind : Int, ∃ x_C_Head_N : Int, ∃ x_C_Head_S : ByteArray, ∃ x_C_Head_LP : Option Addr, ∃ x_C_Head_LN : Nat, ∃ x_C_Head_LC : Nat, ∃ x_C_GoalsP : Option Addr, ∃ x_C_GoalsN : Nat, ∃ x_C_GoalsC : Nat, ∃ x_C_Vars : Int, ∃ x_CodeP : Option Addr, ∃ x_CodeN : Nat, ∃ x_CodeC : Nat, ∃ x_Flag : Bool, ∃ x_N : Int, ∃ x_Key_Kind : Int, ∃ x_Key_S : ByteArray, ∃ x_Key_N : Int, ∃ x_Gen : Int, cs = [.int .i64 x_Kind, .int .i64 x_C_Head_Kind, .int .i64 x_C_Head_N, .string x_C_Head_S, .slice x_C_Head_LP x_C_Head_LN x_C_Head_LC, .slice x_C_GoalsP x_C_GoalsN x_C_GoalsC, .int .i64 x_C_Vars, .slice x_CodeP x_CodeN x_CodeC, .bool x_Flag, .int .i64 x_N, .int .i64 x_Key_Kind, .string x_Key_S, .int .i64 x_Key_N, .int .i64 x_Gen] ∧ (Lit.int .i64 x_Kind).wf = true ∧ (Lit.int .i64 x_C_Head_Kind).wf = true ∧ (Lit.int .i64 x_C_Head_N).wf = true ∧ x_C_Head_S.size ≤ maxLen ∧ (∃ g, Sees Tryz.prog w g 22 [.slice x_C_Head_LP x_C_Head_LN x_C_Head_LC]) ∧ (∃ g, Sees Tryz.prog w g 25 [.slice x_C_GoalsP x_C_GoalsN x_C_GoalsC]) ∧ (Lit.int .i64 x_C_Vars).wf = true ∧ (∃ g, Sees Tryz.prog w g 28 [.slice x_CodeP x_CodeN x_CodeC]) ∧ (Lit.int .i64 x_N).wf = true ∧ (Lit.int .i64 x_Key_Kind).wf = true ∧ x_Key_S.size ≤ maxLen ∧ (Lit.int .i64 x_Key_N).wf = true ∧ (Lit.int .i64 x_Gen).wf = true := by
  obtain ⟨g, rfl, hl, hf⟩ := see_struct (fs := _) (by rfl) (sz := 14) (by kernel_rfl) h
  match cs, hl with
  | [c0, c1, c2, c3, c4, c5, c6, c7, c8, c9, c10, c11, c12, c13], _ =>
    have h0 : Sees Tryz.prog w g 3 [c0] := hf 0 _ rfl
    obtain ⟨x_Kind, e0, k0⟩ := see_int (by rfl) h0
    simp only [List.cons.injEq, and_true] at e0
    obtain rfl := e0
    have h1 : Sees Tryz.prog w g 27 [c1, c2, c3, c4, c5, c6] := hf 1 _ rfl
    obtain ⟨g1, x_C_Head_Kind, x_C_Head_N, x_C_Head_S, x_C_Head_LP, x_C_Head_LN, x_C_Head_LC, x_C_GoalsP, x_C_GoalsN, x_C_GoalsC, x_C_Vars, e1, k1_0, k1_1, k1_2, k1_3, k1_4, k1_5⟩ := see_27 h1
    simp only [List.cons.injEq, and_true] at e1
    obtain ⟨rfl, rfl, rfl, rfl, rfl, rfl⟩ := e1
    have h2 : Sees Tryz.prog w g 28 [c7] := hf 2 _ rfl
    obtain ⟨x_CodeP, x_CodeN, x_CodeC, cs2, _, _, e2, _⟩ := see_slice (by rfl) (sz := 5) (by kernel_rfl) h2
    simp only [List.cons.injEq, and_true] at e2
    obtain rfl := e2
    have h3 : Sees Tryz.prog w g 4 [c8] := hf 3 _ rfl
    obtain ⟨x_Flag, e3⟩ := see_bool (by rfl) h3
    simp only [List.cons.injEq, and_true] at e3
    obtain rfl := e3
    have h4 : Sees Tryz.prog w g 3 [c9] := hf 4 _ rfl
    obtain ⟨x_N, e4, k4⟩ := see_int (by rfl) h4
    simp only [List.cons.injEq, and_true] at e4
    obtain rfl := e4
    have h5 : Sees Tryz.prog w g 30 [c10, c11, c12] := hf 5 _ rfl
    obtain ⟨g5, x_Key_Kind, x_Key_S, x_Key_N, e5, k5_0, k5_1, k5_2⟩ := see_30 h5
    simp only [List.cons.injEq, and_true] at e5
    obtain ⟨rfl, rfl, rfl⟩ := e5
    have h6 : Sees Tryz.prog w g 3 [c13] := hf 6 _ rfl
    obtain ⟨x_Gen, e6, k6⟩ := see_int (by rfl) h6
    simp only [List.cons.injEq, and_true] at e6
    obtain rfl := e6
    exact ⟨g, x_Kind, x_C_Head_Kind, x_C_Head_N, x_C_Head_S, x_C_Head_LP, x_C_Head_LN, x_C_Head_LC, x_C_GoalsP, x_C_GoalsN, x_C_GoalsC, x_C_Vars, x_CodeP, x_CodeN, x_CodeC, x_Flag, x_N, x_Key_Kind, x_Key_S, x_Key_N, x_Gen, rfl, k0, k1_0, k1_1, k1_2, k1_3, k1_4, k1_5, ⟨_, h2⟩, k4, k5_0, k5_1, k5_2, k6⟩

/-- elenchuslaw19.Op -/
theorem see_32 {w : World} {f : Nat} {cs : List Value} (h : Sees Tryz.prog w f 32 cs) : ∃ g : Nat, ∃ x_Kind : Int, ∃ x_C_Head_Kind : Int, ∃ x_C_Head_N : Int, ∃ x_C_Head_S : ByteArray, ∃ x_C_Head_LP : Option Addr, ∃ x_C_Head_LN : Nat, ∃ x_C_Head_LC : Nat, ∃ x_C_GoalsP : Option Addr, ∃ x_C_GoalsN : Nat, ∃ x_C_GoalsC : Nat, ∃ x_C_Vars : Int, ∃ x_CodeP : Option Addr, ∃ x_CodeN : Nat, ∃ x_CodeC : Nat, ∃ x_Flag : Bool, ∃ x_N : Int, ∃ x_Key_Kind : Int, ∃ x_Key_S : ByteArray, ∃ x_Key_N : Int, ∃ x_Gen : Int, cs = [.int .i64 x_Kind, .int .i64 x_C_Head_Kind, .int .i64 x_C_Head_N, .string x_C_Head_S, .slice x_C_Head_LP x_C_Head_LN x_C_Head_LC, .slice x_C_GoalsP x_C_GoalsN x_C_GoalsC, .int .i64 x_C_Vars, .slice x_CodeP x_CodeN x_CodeC, .bool x_Flag, .int .i64 x_N, .int .i64 x_Key_Kind, .string x_Key_S, .int .i64 x_Key_N, .int .i64 x_Gen] ∧ (Lit.int .i64 x_Kind).wf = true ∧ (Lit.int .i64 x_C_Head_Kind).wf = true ∧ (Lit.int .i64 x_C_Head_N).wf = true ∧ x_C_Head_S.size ≤ maxLen ∧ (∃ g, Sees Tryz.prog w g 22 [.slice x_C_Head_LP x_C_Head_LN x_C_Head_LC]) ∧ (∃ g, Sees Tryz.prog w g 25 [.slice x_C_GoalsP x_C_GoalsN x_C_GoalsC]) ∧ (Lit.int .i64 x_C_Vars).wf = true ∧ (∃ g, Sees Tryz.prog w g 28 [.slice x_CodeP x_CodeN x_CodeC]) ∧ (Lit.int .i64 x_N).wf = true ∧ (Lit.int .i64 x_Key_Kind).wf = true ∧ x_Key_S.size ≤ maxLen ∧ (Lit.int .i64 x_Key_N).wf = true ∧ (Lit.int .i64 x_Gen).wf = true := by
  obtain ⟨g, rfl, hl, hf⟩ := see_struct (fs := _) (by rfl) (sz := 14) (by kernel_rfl) h
  match cs, hl with
  | [c0, c1, c2, c3, c4, c5, c6, c7, c8, c9, c10, c11, c12, c13], _ =>
    have h0 : Sees Tryz.prog w g 3 [c0] := hf 0 _ rfl
    obtain ⟨x_Kind, e0, k0⟩ := see_int (by rfl) h0
    simp only [List.cons.injEq, and_true] at e0
    obtain rfl := e0
    have h1 : Sees Tryz.prog w g 27 [c1, c2, c3, c4, c5, c6] := hf 1 _ rfl
    obtain ⟨g1, x_C_Head_Kind, x_C_Head_N, x_C_Head_S, x_C_Head_LP, x_C_Head_LN, x_C_Head_LC, x_C_GoalsP, x_C_GoalsN, x_C_GoalsC, x_C_Vars, e1, k1_0, k1_1, k1_2, k1_3, k1_4, k1_5⟩ := see_27 h1
    simp only [List.cons.injEq, and_true] at e1
    obtain ⟨rfl, rfl, rfl, rfl, rfl, rfl⟩ := e1
    have h2 : Sees Tryz.prog w g 28 [c7] := hf 2 _ rfl
    obtain ⟨x_CodeP, x_CodeN, x_CodeC, cs2, _, _, e2, _⟩ := see_slice (by rfl) (sz := 5) (by kernel_rfl) h2
    simp only [List.cons.injEq, and_true] at e2
    obtain rfl := e2
    have h3 : Sees Tryz.prog w g 4 [c8] := hf 3 _ rfl
    obtain ⟨x_Flag, e3⟩ := see_bool (by rfl) h3
    simp only [List.cons.injEq, and_true] at e3
    obtain rfl := e3
    have h4 : Sees Tryz.prog w g 3 [c9] := hf 4 _ rfl
    obtain ⟨x_N, e4, k4⟩ := see_int (by rfl) h4
    simp only [List.cons.injEq, and_true] at e4
    obtain rfl := e4
    have h5 : Sees Tryz.prog w g 30 [c10, c11, c12] := hf 5 _ rfl
    obtain ⟨g5, x_Key_Kind, x_Key_S, x_Key_N, e5, k5_0, k5_1, k5_2⟩ := see_30 h5
    simp only [List.cons.injEq, and_true] at e5
    obtain ⟨rfl, rfl, rfl⟩ := e5
    have h6 : Sees Tryz.prog w g 3 [c13] := hf 6 _ rfl
    obtain ⟨x_Gen, e6, k6⟩ := see_int (by rfl) h6
    simp only [List.cons.injEq, and_true] at e6
    obtain rfl := e6
    exact ⟨g, x_Kind, x_C_Head_Kind, x_C_Head_N, x_C_Head_S, x_C_Head_LP, x_C_Head_LN, x_C_Head_LC, x_C_GoalsP, x_C_GoalsN, x_C_GoalsC, x_C_Vars, x_CodeP, x_CodeN, x_CodeC, x_Flag, x_N, x_Key_Kind, x_Key_S, x_Key_N, x_Gen, rfl, k0, k1_0, k1_1, k1_2, k1_3, k1_4, k1_5, ⟨_, h2⟩, k4, k5_0, k5_1, k5_2, k6⟩

/-- struct  Op int S string N int V int A int  -/
theorem see_44 {w : World} {f : Nat} {cs : List Value} (h : Sees Tryz.prog w f 44 cs) : ∃ g : Nat, ∃ x_Op : Int, ∃ x_S : ByteArray, ∃ x_N : Int, ∃ x_V : Int, ∃ x_A : Int, cs = [.int .i64 x_Op, .string x_S, .int .i64 x_N, .int .i64 x_V, .int .i64 x_A] ∧ (Lit.int .i64 x_Op).wf = true ∧ x_S.size ≤ maxLen ∧ (Lit.int .i64 x_N).wf = true ∧ (Lit.int .i64 x_V).wf = true ∧ (Lit.int .i64 x_A).wf = true := by
  obtain ⟨g, rfl, hl, hf⟩ := see_struct (fs := _) (by rfl) (sz := 5) (by kernel_rfl) h
  match cs, hl with
  | [c0, c1, c2, c3, c4], _ =>
    have h0 : Sees Tryz.prog w g 3 [c0] := hf 0 _ rfl
    obtain ⟨x_Op, e0, k0⟩ := see_int (by rfl) h0
    simp only [List.cons.injEq, and_true] at e0
    obtain rfl := e0
    have h1 : Sees Tryz.prog w g 9 [c1] := hf 1 _ rfl
    obtain ⟨x_S, e1, k1⟩ := see_string (by rfl) h1
    simp only [List.cons.injEq, and_true] at e1
    obtain rfl := e1
    have h2 : Sees Tryz.prog w g 3 [c2] := hf 2 _ rfl
    obtain ⟨x_N, e2, k2⟩ := see_int (by rfl) h2
    simp only [List.cons.injEq, and_true] at e2
    obtain rfl := e2
    have h3 : Sees Tryz.prog w g 3 [c3] := hf 3 _ rfl
    obtain ⟨x_V, e3, k3⟩ := see_int (by rfl) h3
    simp only [List.cons.injEq, and_true] at e3
    obtain rfl := e3
    have h4 : Sees Tryz.prog w g 3 [c4] := hf 4 _ rfl
    obtain ⟨x_A, e4, k4⟩ := see_int (by rfl) h4
    simp only [List.cons.injEq, and_true] at e4
    obtain rfl := e4
    exact ⟨g, x_Op, x_S, x_N, x_V, x_A, rfl, k0, k1, k2, k3, k4⟩

/-- api.Instr -/
theorem see_45 {w : World} {f : Nat} {cs : List Value} (h : Sees Tryz.prog w f 45 cs) : ∃ g : Nat, ∃ x_Op : Int, ∃ x_S : ByteArray, ∃ x_N : Int, ∃ x_V : Int, ∃ x_A : Int, cs = [.int .i64 x_Op, .string x_S, .int .i64 x_N, .int .i64 x_V, .int .i64 x_A] ∧ (Lit.int .i64 x_Op).wf = true ∧ x_S.size ≤ maxLen ∧ (Lit.int .i64 x_N).wf = true ∧ (Lit.int .i64 x_V).wf = true ∧ (Lit.int .i64 x_A).wf = true := by
  obtain ⟨g, rfl, hl, hf⟩ := see_struct (fs := _) (by rfl) (sz := 5) (by kernel_rfl) h
  match cs, hl with
  | [c0, c1, c2, c3, c4], _ =>
    have h0 : Sees Tryz.prog w g 3 [c0] := hf 0 _ rfl
    obtain ⟨x_Op, e0, k0⟩ := see_int (by rfl) h0
    simp only [List.cons.injEq, and_true] at e0
    obtain rfl := e0
    have h1 : Sees Tryz.prog w g 9 [c1] := hf 1 _ rfl
    obtain ⟨x_S, e1, k1⟩ := see_string (by rfl) h1
    simp only [List.cons.injEq, and_true] at e1
    obtain rfl := e1
    have h2 : Sees Tryz.prog w g 3 [c2] := hf 2 _ rfl
    obtain ⟨x_N, e2, k2⟩ := see_int (by rfl) h2
    simp only [List.cons.injEq, and_true] at e2
    obtain rfl := e2
    have h3 : Sees Tryz.prog w g 3 [c3] := hf 3 _ rfl
    obtain ⟨x_V, e3, k3⟩ := see_int (by rfl) h3
    simp only [List.cons.injEq, and_true] at e3
    obtain rfl := e3
    have h4 : Sees Tryz.prog w g 3 [c4] := hf 4 _ rfl
    obtain ⟨x_A, e4, k4⟩ := see_int (by rfl) h4
    simp only [List.cons.injEq, and_true] at e4
    obtain rfl := e4
    exact ⟨g, x_Op, x_S, x_N, x_V, x_A, rfl, k0, k1, k2, k3, k4⟩

/-- struct  name string arity int  -/
theorem see_60 {w : World} {f : Nat} {cs : List Value} (h : Sees Tryz.prog w f 60 cs) : ∃ g : Nat, ∃ x_name : ByteArray, ∃ x_arity : Int, cs = [.string x_name, .int .i64 x_arity] ∧ x_name.size ≤ maxLen ∧ (Lit.int .i64 x_arity).wf = true := by
  obtain ⟨g, rfl, hl, hf⟩ := see_struct (fs := _) (by rfl) (sz := 2) (by kernel_rfl) h
  match cs, hl with
  | [c0, c1], _ =>
    have h0 : Sees Tryz.prog w g 9 [c0] := hf 0 _ rfl
    obtain ⟨x_name, e0, k0⟩ := see_string (by rfl) h0
    simp only [List.cons.injEq, and_true] at e0
    obtain rfl := e0
    have h1 : Sees Tryz.prog w g 3 [c1] := hf 1 _ rfl
    obtain ⟨x_arity, e1, k1⟩ := see_int (by rfl) h1
    simp only [List.cons.injEq, and_true] at e1
    obtain rfl := e1
    exact ⟨g, x_name, x_arity, rfl, k0, k1⟩

/-- base.pair -/
theorem see_61 {w : World} {f : Nat} {cs : List Value} (h : Sees Tryz.prog w f 61 cs) : ∃ g : Nat, ∃ x_name : ByteArray, ∃ x_arity : Int, cs = [.string x_name, .int .i64 x_arity] ∧ x_name.size ≤ maxLen ∧ (Lit.int .i64 x_arity).wf = true := by
  obtain ⟨g, rfl, hl, hf⟩ := see_struct (fs := _) (by rfl) (sz := 2) (by kernel_rfl) h
  match cs, hl with
  | [c0, c1], _ =>
    have h0 : Sees Tryz.prog w g 9 [c0] := hf 0 _ rfl
    obtain ⟨x_name, e0, k0⟩ := see_string (by rfl) h0
    simp only [List.cons.injEq, and_true] at e0
    obtain rfl := e0
    have h1 : Sees Tryz.prog w g 3 [c1] := hf 1 _ rfl
    obtain ⟨x_arity, e1, k1⟩ := see_int (by rfl) h1
    simp only [List.cons.injEq, and_true] at e1
    obtain rfl := e1
    exact ⟨g, x_name, x_arity, rfl, k0, k1⟩

/-- struct  c api.Clause code []api.Instr born int dead int is b -/
theorem see_75 {w : World} {f : Nat} {cs : List Value} (h : Sees Tryz.prog w f 75 cs) : ∃ g : Nat, ∃ x_c_Head_Kind : Int, ∃ x_c_Head_N : Int, ∃ x_c_Head_S : ByteArray, ∃ x_c_Head_LP : Option Addr, ∃ x_c_Head_LN : Nat, ∃ x_c_Head_LC : Nat, ∃ x_c_GoalsP : Option Addr, ∃ x_c_GoalsN : Nat, ∃ x_c_GoalsC : Nat, ∃ x_c_Vars : Int, ∃ x_codeP : Option Addr, ∃ x_codeN : Nat, ∃ x_codeC : Nat, ∃ x_born : Int, ∃ x_dead : Int, ∃ x_is : Bool, cs = [.int .i64 x_c_Head_Kind, .int .i64 x_c_Head_N, .string x_c_Head_S, .slice x_c_Head_LP x_c_Head_LN x_c_Head_LC, .slice x_c_GoalsP x_c_GoalsN x_c_GoalsC, .int .i64 x_c_Vars, .slice x_codeP x_codeN x_codeC, .int .i64 x_born, .int .i64 x_dead, .bool x_is] ∧ (Lit.int .i64 x_c_Head_Kind).wf = true ∧ (Lit.int .i64 x_c_Head_N).wf = true ∧ x_c_Head_S.size ≤ maxLen ∧ (∃ g, Sees Tryz.prog w g 22 [.slice x_c_Head_LP x_c_Head_LN x_c_Head_LC]) ∧ (∃ g, Sees Tryz.prog w g 25 [.slice x_c_GoalsP x_c_GoalsN x_c_GoalsC]) ∧ (Lit.int .i64 x_c_Vars).wf = true ∧ (∃ g, Sees Tryz.prog w g 28 [.slice x_codeP x_codeN x_codeC]) ∧ (Lit.int .i64 x_born).wf = true ∧ (Lit.int .i64 x_dead).wf = true := by
  obtain ⟨g, rfl, hl, hf⟩ := see_struct (fs := _) (by rfl) (sz := 10) (by kernel_rfl) h
  match cs, hl with
  | [c0, c1, c2, c3, c4, c5, c6, c7, c8, c9], _ =>
    have h0 : Sees Tryz.prog w g 27 [c0, c1, c2, c3, c4, c5] := hf 0 _ rfl
    obtain ⟨g0, x_c_Head_Kind, x_c_Head_N, x_c_Head_S, x_c_Head_LP, x_c_Head_LN, x_c_Head_LC, x_c_GoalsP, x_c_GoalsN, x_c_GoalsC, x_c_Vars, e0, k0_0, k0_1, k0_2, k0_3, k0_4, k0_5⟩ := see_27 h0
    simp only [List.cons.injEq, and_true] at e0
    obtain ⟨rfl, rfl, rfl, rfl, rfl, rfl⟩ := e0
    have h1 : Sees Tryz.prog w g 28 [c6] := hf 1 _ rfl
    obtain ⟨x_codeP, x_codeN, x_codeC, cs1, _, _, e1, _⟩ := see_slice (by rfl) (sz := 5) (by kernel_rfl) h1
    simp only [List.cons.injEq, and_true] at e1
    obtain rfl := e1
    have h2 : Sees Tryz.prog w g 3 [c7] := hf 2 _ rfl
    obtain ⟨x_born, e2, k2⟩ := see_int (by rfl) h2
    simp only [List.cons.injEq, and_true] at e2
    obtain rfl := e2
    have h3 : Sees Tryz.prog w g 3 [c8] := hf 3 _ rfl
    obtain ⟨x_dead, e3, k3⟩ := see_int (by rfl) h3
    simp only [List.cons.injEq, and_true] at e3
    obtain rfl := e3
    have h4 : Sees Tryz.prog w g 4 [c9] := hf 4 _ rfl
    obtain ⟨x_is, e4⟩ := see_bool (by rfl) h4
    simp only [List.cons.injEq, and_true] at e4
    obtain rfl := e4
    exact ⟨g, x_c_Head_Kind, x_c_Head_N, x_c_Head_S, x_c_Head_LP, x_c_Head_LN, x_c_Head_LC, x_c_GoalsP, x_c_GoalsN, x_c_GoalsC, x_c_Vars, x_codeP, x_codeN, x_codeC, x_born, x_dead, x_is, rfl, k0_0, k0_1, k0_2, k0_3, k0_4, k0_5, ⟨_, h1⟩, k2, k3⟩

/-- base.slot -/
theorem see_76 {w : World} {f : Nat} {cs : List Value} (h : Sees Tryz.prog w f 76 cs) : ∃ g : Nat, ∃ x_c_Head_Kind : Int, ∃ x_c_Head_N : Int, ∃ x_c_Head_S : ByteArray, ∃ x_c_Head_LP : Option Addr, ∃ x_c_Head_LN : Nat, ∃ x_c_Head_LC : Nat, ∃ x_c_GoalsP : Option Addr, ∃ x_c_GoalsN : Nat, ∃ x_c_GoalsC : Nat, ∃ x_c_Vars : Int, ∃ x_codeP : Option Addr, ∃ x_codeN : Nat, ∃ x_codeC : Nat, ∃ x_born : Int, ∃ x_dead : Int, ∃ x_is : Bool, cs = [.int .i64 x_c_Head_Kind, .int .i64 x_c_Head_N, .string x_c_Head_S, .slice x_c_Head_LP x_c_Head_LN x_c_Head_LC, .slice x_c_GoalsP x_c_GoalsN x_c_GoalsC, .int .i64 x_c_Vars, .slice x_codeP x_codeN x_codeC, .int .i64 x_born, .int .i64 x_dead, .bool x_is] ∧ (Lit.int .i64 x_c_Head_Kind).wf = true ∧ (Lit.int .i64 x_c_Head_N).wf = true ∧ x_c_Head_S.size ≤ maxLen ∧ (∃ g, Sees Tryz.prog w g 22 [.slice x_c_Head_LP x_c_Head_LN x_c_Head_LC]) ∧ (∃ g, Sees Tryz.prog w g 25 [.slice x_c_GoalsP x_c_GoalsN x_c_GoalsC]) ∧ (Lit.int .i64 x_c_Vars).wf = true ∧ (∃ g, Sees Tryz.prog w g 28 [.slice x_codeP x_codeN x_codeC]) ∧ (Lit.int .i64 x_born).wf = true ∧ (Lit.int .i64 x_dead).wf = true := by
  obtain ⟨g, rfl, hl, hf⟩ := see_struct (fs := _) (by rfl) (sz := 10) (by kernel_rfl) h
  match cs, hl with
  | [c0, c1, c2, c3, c4, c5, c6, c7, c8, c9], _ =>
    have h0 : Sees Tryz.prog w g 27 [c0, c1, c2, c3, c4, c5] := hf 0 _ rfl
    obtain ⟨g0, x_c_Head_Kind, x_c_Head_N, x_c_Head_S, x_c_Head_LP, x_c_Head_LN, x_c_Head_LC, x_c_GoalsP, x_c_GoalsN, x_c_GoalsC, x_c_Vars, e0, k0_0, k0_1, k0_2, k0_3, k0_4, k0_5⟩ := see_27 h0
    simp only [List.cons.injEq, and_true] at e0
    obtain ⟨rfl, rfl, rfl, rfl, rfl, rfl⟩ := e0
    have h1 : Sees Tryz.prog w g 28 [c6] := hf 1 _ rfl
    obtain ⟨x_codeP, x_codeN, x_codeC, cs1, _, _, e1, _⟩ := see_slice (by rfl) (sz := 5) (by kernel_rfl) h1
    simp only [List.cons.injEq, and_true] at e1
    obtain rfl := e1
    have h2 : Sees Tryz.prog w g 3 [c7] := hf 2 _ rfl
    obtain ⟨x_born, e2, k2⟩ := see_int (by rfl) h2
    simp only [List.cons.injEq, and_true] at e2
    obtain rfl := e2
    have h3 : Sees Tryz.prog w g 3 [c8] := hf 3 _ rfl
    obtain ⟨x_dead, e3, k3⟩ := see_int (by rfl) h3
    simp only [List.cons.injEq, and_true] at e3
    obtain rfl := e3
    have h4 : Sees Tryz.prog w g 4 [c9] := hf 4 _ rfl
    obtain ⟨x_is, e4⟩ := see_bool (by rfl) h4
    simp only [List.cons.injEq, and_true] at e4
    obtain rfl := e4
    exact ⟨g, x_c_Head_Kind, x_c_Head_N, x_c_Head_S, x_c_Head_LP, x_c_Head_LN, x_c_Head_LC, x_c_GoalsP, x_c_GoalsN, x_c_GoalsC, x_c_Vars, x_codeP, x_codeN, x_codeC, x_born, x_dead, x_is, rfl, k0_0, k0_1, k0_2, k0_3, k0_4, k0_5, ⟨_, h1⟩, k2, k3⟩

/-- struct  Name string Arity int Clauses int  -/
theorem see_85 {w : World} {f : Nat} {cs : List Value} (h : Sees Tryz.prog w f 85 cs) : ∃ g : Nat, ∃ x_Name : ByteArray, ∃ x_Arity : Int, ∃ x_Clauses : Int, cs = [.string x_Name, .int .i64 x_Arity, .int .i64 x_Clauses] ∧ x_Name.size ≤ maxLen ∧ (Lit.int .i64 x_Arity).wf = true ∧ (Lit.int .i64 x_Clauses).wf = true := by
  obtain ⟨g, rfl, hl, hf⟩ := see_struct (fs := _) (by rfl) (sz := 3) (by kernel_rfl) h
  match cs, hl with
  | [c0, c1, c2], _ =>
    have h0 : Sees Tryz.prog w g 9 [c0] := hf 0 _ rfl
    obtain ⟨x_Name, e0, k0⟩ := see_string (by rfl) h0
    simp only [List.cons.injEq, and_true] at e0
    obtain rfl := e0
    have h1 : Sees Tryz.prog w g 3 [c1] := hf 1 _ rfl
    obtain ⟨x_Arity, e1, k1⟩ := see_int (by rfl) h1
    simp only [List.cons.injEq, and_true] at e1
    obtain rfl := e1
    have h2 : Sees Tryz.prog w g 3 [c2] := hf 2 _ rfl
    obtain ⟨x_Clauses, e2, k2⟩ := see_int (by rfl) h2
    simp only [List.cons.injEq, and_true] at e2
    obtain rfl := e2
    exact ⟨g, x_Name, x_Arity, x_Clauses, rfl, k0, k1, k2⟩

/-- api.Pred -/
theorem see_86 {w : World} {f : Nat} {cs : List Value} (h : Sees Tryz.prog w f 86 cs) : ∃ g : Nat, ∃ x_Name : ByteArray, ∃ x_Arity : Int, ∃ x_Clauses : Int, cs = [.string x_Name, .int .i64 x_Arity, .int .i64 x_Clauses] ∧ x_Name.size ≤ maxLen ∧ (Lit.int .i64 x_Arity).wf = true ∧ (Lit.int .i64 x_Clauses).wf = true := by
  obtain ⟨g, rfl, hl, hf⟩ := see_struct (fs := _) (by rfl) (sz := 3) (by kernel_rfl) h
  match cs, hl with
  | [c0, c1, c2], _ =>
    have h0 : Sees Tryz.prog w g 9 [c0] := hf 0 _ rfl
    obtain ⟨x_Name, e0, k0⟩ := see_string (by rfl) h0
    simp only [List.cons.injEq, and_true] at e0
    obtain rfl := e0
    have h1 : Sees Tryz.prog w g 3 [c1] := hf 1 _ rfl
    obtain ⟨x_Arity, e1, k1⟩ := see_int (by rfl) h1
    simp only [List.cons.injEq, and_true] at e1
    obtain rfl := e1
    have h2 : Sees Tryz.prog w g 3 [c2] := hf 2 _ rfl
    obtain ⟨x_Clauses, e2, k2⟩ := see_int (by rfl) h2
    simp only [List.cons.injEq, and_true] at e2
    obtain rfl := e2
    exact ⟨g, x_Name, x_Arity, x_Clauses, rfl, k0, k1, k2⟩

/-- struct  key api.Key rank int  -/
theorem see_100 {w : World} {f : Nat} {cs : List Value} (h : Sees Tryz.prog w f 100 cs) : ∃ g : Nat, ∃ x_key_Kind : Int, ∃ x_key_S : ByteArray, ∃ x_key_N : Int, ∃ x_rank : Int, cs = [.int .i64 x_key_Kind, .string x_key_S, .int .i64 x_key_N, .int .i64 x_rank] ∧ (Lit.int .i64 x_key_Kind).wf = true ∧ x_key_S.size ≤ maxLen ∧ (Lit.int .i64 x_key_N).wf = true ∧ (Lit.int .i64 x_rank).wf = true := by
  obtain ⟨g, rfl, hl, hf⟩ := see_struct (fs := _) (by rfl) (sz := 4) (by kernel_rfl) h
  match cs, hl with
  | [c0, c1, c2, c3], _ =>
    have h0 : Sees Tryz.prog w g 30 [c0, c1, c2] := hf 0 _ rfl
    obtain ⟨g0, x_key_Kind, x_key_S, x_key_N, e0, k0_0, k0_1, k0_2⟩ := see_30 h0
    simp only [List.cons.injEq, and_true] at e0
    obtain ⟨rfl, rfl, rfl⟩ := e0
    have h1 : Sees Tryz.prog w g 3 [c3] := hf 1 _ rfl
    obtain ⟨x_rank, e1, k1⟩ := see_int (by rfl) h1
    simp only [List.cons.injEq, and_true] at e1
    obtain rfl := e1
    exact ⟨g, x_key_Kind, x_key_S, x_key_N, x_rank, rfl, k0_0, k0_1, k0_2, k1⟩

/-- index.spot -/
theorem see_101 {w : World} {f : Nat} {cs : List Value} (h : Sees Tryz.prog w f 101 cs) : ∃ g : Nat, ∃ x_key_Kind : Int, ∃ x_key_S : ByteArray, ∃ x_key_N : Int, ∃ x_rank : Int, cs = [.int .i64 x_key_Kind, .string x_key_S, .int .i64 x_key_N, .int .i64 x_rank] ∧ (Lit.int .i64 x_key_Kind).wf = true ∧ x_key_S.size ≤ maxLen ∧ (Lit.int .i64 x_key_N).wf = true ∧ (Lit.int .i64 x_rank).wf = true := by
  obtain ⟨g, rfl, hl, hf⟩ := see_struct (fs := _) (by rfl) (sz := 4) (by kernel_rfl) h
  match cs, hl with
  | [c0, c1, c2, c3], _ =>
    have h0 : Sees Tryz.prog w g 30 [c0, c1, c2] := hf 0 _ rfl
    obtain ⟨g0, x_key_Kind, x_key_S, x_key_N, e0, k0_0, k0_1, k0_2⟩ := see_30 h0
    simp only [List.cons.injEq, and_true] at e0
    obtain ⟨rfl, rfl, rfl⟩ := e0
    have h1 : Sees Tryz.prog w g 3 [c3] := hf 1 _ rfl
    obtain ⟨x_rank, e1, k1⟩ := see_int (by rfl) h1
    simp only [List.cons.injEq, and_true] at e1
    obtain rfl := e1
    exact ⟨g, x_key_Kind, x_key_S, x_key_N, x_rank, rfl, k0_0, k0_1, k0_2, k1⟩

/-- struct  rank int id int  -/
theorem see_104 {w : World} {f : Nat} {cs : List Value} (h : Sees Tryz.prog w f 104 cs) : ∃ g : Nat, ∃ x_rank : Int, ∃ x_id : Int, cs = [.int .i64 x_rank, .int .i64 x_id] ∧ (Lit.int .i64 x_rank).wf = true ∧ (Lit.int .i64 x_id).wf = true := by
  obtain ⟨g, rfl, hl, hf⟩ := see_struct (fs := _) (by rfl) (sz := 2) (by kernel_rfl) h
  match cs, hl with
  | [c0, c1], _ =>
    have h0 : Sees Tryz.prog w g 3 [c0] := hf 0 _ rfl
    obtain ⟨x_rank, e0, k0⟩ := see_int (by rfl) h0
    simp only [List.cons.injEq, and_true] at e0
    obtain rfl := e0
    have h1 : Sees Tryz.prog w g 3 [c1] := hf 1 _ rfl
    obtain ⟨x_id, e1, k1⟩ := see_int (by rfl) h1
    simp only [List.cons.injEq, and_true] at e1
    obtain rfl := e1
    exact ⟨g, x_rank, x_id, rfl, k0, k1⟩

/-- index.entry -/
theorem see_105 {w : World} {f : Nat} {cs : List Value} (h : Sees Tryz.prog w f 105 cs) : ∃ g : Nat, ∃ x_rank : Int, ∃ x_id : Int, cs = [.int .i64 x_rank, .int .i64 x_id] ∧ (Lit.int .i64 x_rank).wf = true ∧ (Lit.int .i64 x_id).wf = true := by
  obtain ⟨g, rfl, hl, hf⟩ := see_struct (fs := _) (by rfl) (sz := 2) (by kernel_rfl) h
  match cs, hl with
  | [c0, c1], _ =>
    have h0 : Sees Tryz.prog w g 3 [c0] := hf 0 _ rfl
    obtain ⟨x_rank, e0, k0⟩ := see_int (by rfl) h0
    simp only [List.cons.injEq, and_true] at e0
    obtain rfl := e0
    have h1 : Sees Tryz.prog w g 3 [c1] := hf 1 _ rfl
    obtain ⟨x_id, e1, k1⟩ := see_int (by rfl) h1
    simp only [List.cons.injEq, and_true] at e1
    obtain rfl := e1
    exact ⟨g, x_rank, x_id, rfl, k0, k1⟩

/-- struct  Kind int Term api.Term  -/
theorem see_108 {w : World} {f : Nat} {cs : List Value} (h : Sees Tryz.prog w f 108 cs) : ∃ g : Nat, ∃ x_Kind : Int, ∃ x_Term_Kind : Int, ∃ x_Term_N : Int, ∃ x_Term_S : ByteArray, ∃ x_Term_LP : Option Addr, ∃ x_Term_LN : Nat, ∃ x_Term_LC : Nat, cs = [.int .i64 x_Kind, .int .i64 x_Term_Kind, .int .i64 x_Term_N, .string x_Term_S, .slice x_Term_LP x_Term_LN x_Term_LC] ∧ (Lit.int .i64 x_Kind).wf = true ∧ (Lit.int .i64 x_Term_Kind).wf = true ∧ (Lit.int .i64 x_Term_N).wf = true ∧ x_Term_S.size ≤ maxLen ∧ (∃ g, Sees Tryz.prog w g 22 [.slice x_Term_LP x_Term_LN x_Term_LC]) := by
  obtain ⟨g, rfl, hl, hf⟩ := see_struct (fs := _) (by rfl) (sz := 5) (by kernel_rfl) h
  match cs, hl with
  | [c0, c1, c2, c3, c4], _ =>
    have h0 : Sees Tryz.prog w g 3 [c0] := hf 0 _ rfl
    obtain ⟨x_Kind, e0, k0⟩ := see_int (by rfl) h0
    simp only [List.cons.injEq, and_true] at e0
    obtain rfl := e0
    have h1 : Sees Tryz.prog w g 24 [c1, c2, c3, c4] := hf 1 _ rfl
    obtain ⟨g1, x_Term_Kind, x_Term_N, x_Term_S, x_Term_LP, x_Term_LN, x_Term_LC, e1, k1_0, k1_1, k1_2, k1_3⟩ := see_24 h1
    simp only [List.cons.injEq, and_true] at e1
    obtain ⟨rfl, rfl, rfl, rfl⟩ := e1
    exact ⟨g, x_Kind, x_Term_Kind, x_Term_N, x_Term_S, x_Term_LP, x_Term_LN, x_Term_LC, rfl, k0, k1_0, k1_1, k1_2, k1_3⟩

/-- api.Goal -/
theorem see_109 {w : World} {f : Nat} {cs : List Value} (h : Sees Tryz.prog w f 109 cs) : ∃ g : Nat, ∃ x_Kind : Int, ∃ x_Term_Kind : Int, ∃ x_Term_N : Int, ∃ x_Term_S : ByteArray, ∃ x_Term_LP : Option Addr, ∃ x_Term_LN : Nat, ∃ x_Term_LC : Nat, cs = [.int .i64 x_Kind, .int .i64 x_Term_Kind, .int .i64 x_Term_N, .string x_Term_S, .slice x_Term_LP x_Term_LN x_Term_LC] ∧ (Lit.int .i64 x_Kind).wf = true ∧ (Lit.int .i64 x_Term_Kind).wf = true ∧ (Lit.int .i64 x_Term_N).wf = true ∧ x_Term_S.size ≤ maxLen ∧ (∃ g, Sees Tryz.prog w g 22 [.slice x_Term_LP x_Term_LN x_Term_LC]) := by
  obtain ⟨g, rfl, hl, hf⟩ := see_struct (fs := _) (by rfl) (sz := 5) (by kernel_rfl) h
  match cs, hl with
  | [c0, c1, c2, c3, c4], _ =>
    have h0 : Sees Tryz.prog w g 3 [c0] := hf 0 _ rfl
    obtain ⟨x_Kind, e0, k0⟩ := see_int (by rfl) h0
    simp only [List.cons.injEq, and_true] at e0
    obtain rfl := e0
    have h1 : Sees Tryz.prog w g 24 [c1, c2, c3, c4] := hf 1 _ rfl
    obtain ⟨g1, x_Term_Kind, x_Term_N, x_Term_S, x_Term_LP, x_Term_LN, x_Term_LC, e1, k1_0, k1_1, k1_2, k1_3⟩ := see_24 h1
    simp only [List.cons.injEq, and_true] at e1
    obtain ⟨rfl, rfl, rfl, rfl⟩ := e1
    exact ⟨g, x_Kind, x_Term_Kind, x_Term_N, x_Term_S, x_Term_LP, x_Term_LN, x_Term_LC, rfl, k0, k1_0, k1_1, k1_2, k1_3⟩

/-- struct  parts int depth int bad bool  -/
theorem see_145 {w : World} {f : Nat} {cs : List Value} (h : Sees Tryz.prog w f 145 cs) : ∃ g : Nat, ∃ x_parts : Int, ∃ x_depth : Int, ∃ x_bad : Bool, cs = [.int .i64 x_parts, .int .i64 x_depth, .bool x_bad] ∧ (Lit.int .i64 x_parts).wf = true ∧ (Lit.int .i64 x_depth).wf = true := by
  obtain ⟨g, rfl, hl, hf⟩ := see_struct (fs := _) (by rfl) (sz := 3) (by kernel_rfl) h
  match cs, hl with
  | [c0, c1, c2], _ =>
    have h0 : Sees Tryz.prog w g 3 [c0] := hf 0 _ rfl
    obtain ⟨x_parts, e0, k0⟩ := see_int (by rfl) h0
    simp only [List.cons.injEq, and_true] at e0
    obtain rfl := e0
    have h1 : Sees Tryz.prog w g 3 [c1] := hf 1 _ rfl
    obtain ⟨x_depth, e1, k1⟩ := see_int (by rfl) h1
    simp only [List.cons.injEq, and_true] at e1
    obtain rfl := e1
    have h2 : Sees Tryz.prog w g 4 [c2] := hf 2 _ rfl
    obtain ⟨x_bad, e2⟩ := see_bool (by rfl) h2
    simp only [List.cons.injEq, and_true] at e2
    obtain rfl := e2
    exact ⟨g, x_parts, x_depth, x_bad, rfl, k0, k1⟩

/-- term.count -/
theorem see_146 {w : World} {f : Nat} {cs : List Value} (h : Sees Tryz.prog w f 146 cs) : ∃ g : Nat, ∃ x_parts : Int, ∃ x_depth : Int, ∃ x_bad : Bool, cs = [.int .i64 x_parts, .int .i64 x_depth, .bool x_bad] ∧ (Lit.int .i64 x_parts).wf = true ∧ (Lit.int .i64 x_depth).wf = true := by
  obtain ⟨g, rfl, hl, hf⟩ := see_struct (fs := _) (by rfl) (sz := 3) (by kernel_rfl) h
  match cs, hl with
  | [c0, c1, c2], _ =>
    have h0 : Sees Tryz.prog w g 3 [c0] := hf 0 _ rfl
    obtain ⟨x_parts, e0, k0⟩ := see_int (by rfl) h0
    simp only [List.cons.injEq, and_true] at e0
    obtain rfl := e0
    have h1 : Sees Tryz.prog w g 3 [c1] := hf 1 _ rfl
    obtain ⟨x_depth, e1, k1⟩ := see_int (by rfl) h1
    simp only [List.cons.injEq, and_true] at e1
    obtain rfl := e1
    have h2 : Sees Tryz.prog w g 4 [c2] := hf 2 _ rfl
    obtain ⟨x_bad, e2⟩ := see_bool (by rfl) h2
    simp only [List.cons.injEq, and_true] at e2
    obtain rfl := e2
    exact ⟨g, x_parts, x_depth, x_bad, rfl, k0, k1⟩

end Go.Proofs.YtlndgaijekihiaaGreat
