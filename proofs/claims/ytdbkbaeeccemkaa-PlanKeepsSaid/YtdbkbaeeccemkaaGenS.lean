/- What the structs that come in are made of. Printed by a program. -/
import Derived.Test.YtdbkbaeeccemkaaOwn6
import Derived.Test.YtdbkbaeeccemkaaProg
set_option maxRecDepth 100000
set_option linter.unusedVariables false
namespace Go.Proofs.Ytdbkbaeeccemkaa
open Go Go.D Go.Proofs

/-- struct  x int64 y int signed bool code abi.BoundsErrorCode  -/
theorem see_7 {w : World} {f : Nat} {cs : List Value} (h : Sees Try.prog w f 7 cs) : ∃ g : Nat, ∃ x_x : Int, ∃ x_y : Int, ∃ x_signed : Bool, ∃ x_code : Int, cs = [.int .i64 x_x, .int .i64 x_y, .bool x_signed, .int .u8 x_code] ∧ (Lit.int .i64 x_x).wf = true ∧ (Lit.int .i64 x_y).wf = true ∧ (Lit.int .u8 x_code).wf = true := by
  obtain ⟨g, rfl, hl, hf⟩ := see_struct (fs := _) (by rfl) (sz := 4) (by kernel_rfl) h
  match cs, hl with
  | [c0, c1, c2, c3], _ =>
    have h0 : Sees Try.prog w g 2 [c0] := hf 0 _ rfl
    obtain ⟨x_x, e0, k0⟩ := see_int (by rfl) h0
    simp only [List.cons.injEq, and_true] at e0
    obtain rfl := e0
    have h1 : Sees Try.prog w g 3 [c1] := hf 1 _ rfl
    obtain ⟨x_y, e1, k1⟩ := see_int (by rfl) h1
    simp only [List.cons.injEq, and_true] at e1
    obtain rfl := e1
    have h2 : Sees Try.prog w g 4 [c2] := hf 2 _ rfl
    obtain ⟨x_signed, e2⟩ := see_bool (by rfl) h2
    simp only [List.cons.injEq, and_true] at e2
    obtain rfl := e2
    have h3 : Sees Try.prog w g 6 [c3] := hf 3 _ rfl
    obtain ⟨x_code, e3, k3⟩ := see_int (by rfl) h3
    simp only [List.cons.injEq, and_true] at e3
    obtain rfl := e3
    exact ⟨g, x_x, x_y, x_signed, x_code, rfl, k0, k1, k3⟩

/-- runtime.boundsError -/
theorem see_8 {w : World} {f : Nat} {cs : List Value} (h : Sees Try.prog w f 8 cs) : ∃ g : Nat, ∃ x_x : Int, ∃ x_y : Int, ∃ x_signed : Bool, ∃ x_code : Int, cs = [.int .i64 x_x, .int .i64 x_y, .bool x_signed, .int .u8 x_code] ∧ (Lit.int .i64 x_x).wf = true ∧ (Lit.int .i64 x_y).wf = true ∧ (Lit.int .u8 x_code).wf = true := by
  obtain ⟨g, rfl, hl, hf⟩ := see_struct (fs := _) (by rfl) (sz := 4) (by kernel_rfl) h
  match cs, hl with
  | [c0, c1, c2, c3], _ =>
    have h0 : Sees Try.prog w g 2 [c0] := hf 0 _ rfl
    obtain ⟨x_x, e0, k0⟩ := see_int (by rfl) h0
    simp only [List.cons.injEq, and_true] at e0
    obtain rfl := e0
    have h1 : Sees Try.prog w g 3 [c1] := hf 1 _ rfl
    obtain ⟨x_y, e1, k1⟩ := see_int (by rfl) h1
    simp only [List.cons.injEq, and_true] at e1
    obtain rfl := e1
    have h2 : Sees Try.prog w g 4 [c2] := hf 2 _ rfl
    obtain ⟨x_signed, e2⟩ := see_bool (by rfl) h2
    simp only [List.cons.injEq, and_true] at e2
    obtain rfl := e2
    have h3 : Sees Try.prog w g 6 [c3] := hf 3 _ rfl
    obtain ⟨x_code, e3, k3⟩ := see_int (by rfl) h3
    simp only [List.cons.injEq, and_true] at e3
    obtain rfl := e3
    exact ⟨g, x_x, x_y, x_signed, x_code, rfl, k0, k1, k3⟩

/-- struct  msg string addr uintptr  -/
theorem see_13 {w : World} {f : Nat} {cs : List Value} (h : Sees Try.prog w f 13 cs) : ∃ g : Nat, ∃ x_msg : ByteArray, ∃ x_addr : Int, cs = [.string x_msg, .int .u64 x_addr] ∧ x_msg.size ≤ maxLen ∧ (Lit.int .u64 x_addr).wf = true := by
  obtain ⟨g, rfl, hl, hf⟩ := see_struct (fs := _) (by rfl) (sz := 2) (by kernel_rfl) h
  match cs, hl with
  | [c0, c1], _ =>
    have h0 : Sees Try.prog w g 9 [c0] := hf 0 _ rfl
    obtain ⟨x_msg, e0, k0⟩ := see_string (by rfl) h0
    simp only [List.cons.injEq, and_true] at e0
    obtain rfl := e0
    have h1 : Sees Try.prog w g 12 [c1] := hf 1 _ rfl
    obtain ⟨x_addr, e1, k1⟩ := see_int (by rfl) h1
    simp only [List.cons.injEq, and_true] at e1
    obtain rfl := e1
    exact ⟨g, x_msg, x_addr, rfl, k0, k1⟩

/-- runtime.errorAddressString -/
theorem see_14 {w : World} {f : Nat} {cs : List Value} (h : Sees Try.prog w f 14 cs) : ∃ g : Nat, ∃ x_msg : ByteArray, ∃ x_addr : Int, cs = [.string x_msg, .int .u64 x_addr] ∧ x_msg.size ≤ maxLen ∧ (Lit.int .u64 x_addr).wf = true := by
  obtain ⟨g, rfl, hl, hf⟩ := see_struct (fs := _) (by rfl) (sz := 2) (by kernel_rfl) h
  match cs, hl with
  | [c0, c1], _ =>
    have h0 : Sees Try.prog w g 9 [c0] := hf 0 _ rfl
    obtain ⟨x_msg, e0, k0⟩ := see_string (by rfl) h0
    simp only [List.cons.injEq, and_true] at e0
    obtain rfl := e0
    have h1 : Sees Try.prog w g 12 [c1] := hf 1 _ rfl
    obtain ⟨x_addr, e1, k1⟩ := see_int (by rfl) h1
    simp only [List.cons.injEq, and_true] at e1
    obtain rfl := e1
    exact ⟨g, x_msg, x_addr, rfl, k0, k1⟩

/-- struct  Kind int N int S string L []api.Term  -/
theorem see_23 {w : World} {f : Nat} {cs : List Value} (h : Sees Try.prog w f 23 cs) : ∃ g : Nat, ∃ x_Kind : Int, ∃ x_N : Int, ∃ x_S : ByteArray, ∃ x_LP : Option Addr, ∃ x_LN : Nat, ∃ x_LC : Nat, cs = [.int .i64 x_Kind, .int .i64 x_N, .string x_S, .slice x_LP x_LN x_LC] ∧ (Lit.int .i64 x_Kind).wf = true ∧ (Lit.int .i64 x_N).wf = true ∧ x_S.size ≤ maxLen ∧ (∃ g, Sees Try.prog w g 22 [.slice x_LP x_LN x_LC]) := by
  obtain ⟨g, rfl, hl, hf⟩ := see_struct (fs := _) (by rfl) (sz := 4) (by kernel_rfl) h
  match cs, hl with
  | [c0, c1, c2, c3], _ =>
    have h0 : Sees Try.prog w g 3 [c0] := hf 0 _ rfl
    obtain ⟨x_Kind, e0, k0⟩ := see_int (by rfl) h0
    simp only [List.cons.injEq, and_true] at e0
    obtain rfl := e0
    have h1 : Sees Try.prog w g 3 [c1] := hf 1 _ rfl
    obtain ⟨x_N, e1, k1⟩ := see_int (by rfl) h1
    simp only [List.cons.injEq, and_true] at e1
    obtain rfl := e1
    have h2 : Sees Try.prog w g 9 [c2] := hf 2 _ rfl
    obtain ⟨x_S, e2, k2⟩ := see_string (by rfl) h2
    simp only [List.cons.injEq, and_true] at e2
    obtain rfl := e2
    have h3 : Sees Try.prog w g 22 [c3] := hf 3 _ rfl
    obtain ⟨x_LP, x_LN, x_LC, cs3, _, _, e3, _⟩ := see_slice (by rfl) (sz := 4) (by kernel_rfl) h3
    simp only [List.cons.injEq, and_true] at e3
    obtain rfl := e3
    exact ⟨g, x_Kind, x_N, x_S, x_LP, x_LN, x_LC, rfl, k0, k1, k2, ⟨_, h3⟩⟩

/-- api.Term -/
theorem see_24 {w : World} {f : Nat} {cs : List Value} (h : Sees Try.prog w f 24 cs) : ∃ g : Nat, ∃ x_Kind : Int, ∃ x_N : Int, ∃ x_S : ByteArray, ∃ x_LP : Option Addr, ∃ x_LN : Nat, ∃ x_LC : Nat, cs = [.int .i64 x_Kind, .int .i64 x_N, .string x_S, .slice x_LP x_LN x_LC] ∧ (Lit.int .i64 x_Kind).wf = true ∧ (Lit.int .i64 x_N).wf = true ∧ x_S.size ≤ maxLen ∧ (∃ g, Sees Try.prog w g 22 [.slice x_LP x_LN x_LC]) := by
  obtain ⟨g, rfl, hl, hf⟩ := see_struct (fs := _) (by rfl) (sz := 4) (by kernel_rfl) h
  match cs, hl with
  | [c0, c1, c2, c3], _ =>
    have h0 : Sees Try.prog w g 3 [c0] := hf 0 _ rfl
    obtain ⟨x_Kind, e0, k0⟩ := see_int (by rfl) h0
    simp only [List.cons.injEq, and_true] at e0
    obtain rfl := e0
    have h1 : Sees Try.prog w g 3 [c1] := hf 1 _ rfl
    obtain ⟨x_N, e1, k1⟩ := see_int (by rfl) h1
    simp only [List.cons.injEq, and_true] at e1
    obtain rfl := e1
    have h2 : Sees Try.prog w g 9 [c2] := hf 2 _ rfl
    obtain ⟨x_S, e2, k2⟩ := see_string (by rfl) h2
    simp only [List.cons.injEq, and_true] at e2
    obtain rfl := e2
    have h3 : Sees Try.prog w g 22 [c3] := hf 3 _ rfl
    obtain ⟨x_LP, x_LN, x_LC, cs3, _, _, e3, _⟩ := see_slice (by rfl) (sz := 4) (by kernel_rfl) h3
    simp only [List.cons.injEq, and_true] at e3
    obtain rfl := e3
    exact ⟨g, x_Kind, x_N, x_S, x_LP, x_LN, x_LC, rfl, k0, k1, k2, ⟨_, h3⟩⟩

/-- struct  Head api.Term Goals []api.Goal Vars int  -/
theorem see_26 {w : World} {f : Nat} {cs : List Value} (h : Sees Try.prog w f 26 cs) : ∃ g : Nat, ∃ x_Head_Kind : Int, ∃ x_Head_N : Int, ∃ x_Head_S : ByteArray, ∃ x_Head_LP : Option Addr, ∃ x_Head_LN : Nat, ∃ x_Head_LC : Nat, ∃ x_GoalsP : Option Addr, ∃ x_GoalsN : Nat, ∃ x_GoalsC : Nat, ∃ x_Vars : Int, cs = [.int .i64 x_Head_Kind, .int .i64 x_Head_N, .string x_Head_S, .slice x_Head_LP x_Head_LN x_Head_LC, .slice x_GoalsP x_GoalsN x_GoalsC, .int .i64 x_Vars] ∧ (Lit.int .i64 x_Head_Kind).wf = true ∧ (Lit.int .i64 x_Head_N).wf = true ∧ x_Head_S.size ≤ maxLen ∧ (∃ g, Sees Try.prog w g 22 [.slice x_Head_LP x_Head_LN x_Head_LC]) ∧ (∃ g, Sees Try.prog w g 25 [.slice x_GoalsP x_GoalsN x_GoalsC]) ∧ (Lit.int .i64 x_Vars).wf = true := by
  obtain ⟨g, rfl, hl, hf⟩ := see_struct (fs := _) (by rfl) (sz := 6) (by kernel_rfl) h
  match cs, hl with
  | [c0, c1, c2, c3, c4, c5], _ =>
    have h0 : Sees Try.prog w g 24 [c0, c1, c2, c3] := hf 0 _ rfl
    obtain ⟨g0, x_Head_Kind, x_Head_N, x_Head_S, x_Head_LP, x_Head_LN, x_Head_LC, e0, k0_0, k0_1, k0_2, k0_3⟩ := see_24 h0
    simp only [List.cons.injEq, and_true] at e0
    obtain ⟨rfl, rfl, rfl, rfl⟩ := e0
    have h1 : Sees Try.prog w g 25 [c4] := hf 1 _ rfl
    obtain ⟨x_GoalsP, x_GoalsN, x_GoalsC, cs1, _, _, e1, _⟩ := see_slice (by rfl) (sz := 5) (by kernel_rfl) h1
    simp only [List.cons.injEq, and_true] at e1
    obtain rfl := e1
    have h2 : Sees Try.prog w g 3 [c5] := hf 2 _ rfl
    obtain ⟨x_Vars, e2, k2⟩ := see_int (by rfl) h2
    simp only [List.cons.injEq, and_true] at e2
    obtain rfl := e2
    exact ⟨g, x_Head_Kind, x_Head_N, x_Head_S, x_Head_LP, x_Head_LN, x_Head_LC, x_GoalsP, x_GoalsN, x_GoalsC, x_Vars, rfl, k0_0, k0_1, k0_2, k0_3, ⟨_, h1⟩, k2⟩

/-- api.Clause -/
theorem see_27 {w : World} {f : Nat} {cs : List Value} (h : Sees Try.prog w f 27 cs) : ∃ g : Nat, ∃ x_Head_Kind : Int, ∃ x_Head_N : Int, ∃ x_Head_S : ByteArray, ∃ x_Head_LP : Option Addr, ∃ x_Head_LN : Nat, ∃ x_Head_LC : Nat, ∃ x_GoalsP : Option Addr, ∃ x_GoalsN : Nat, ∃ x_GoalsC : Nat, ∃ x_Vars : Int, cs = [.int .i64 x_Head_Kind, .int .i64 x_Head_N, .string x_Head_S, .slice x_Head_LP x_Head_LN x_Head_LC, .slice x_GoalsP x_GoalsN x_GoalsC, .int .i64 x_Vars] ∧ (Lit.int .i64 x_Head_Kind).wf = true ∧ (Lit.int .i64 x_Head_N).wf = true ∧ x_Head_S.size ≤ maxLen ∧ (∃ g, Sees Try.prog w g 22 [.slice x_Head_LP x_Head_LN x_Head_LC]) ∧ (∃ g, Sees Try.prog w g 25 [.slice x_GoalsP x_GoalsN x_GoalsC]) ∧ (Lit.int .i64 x_Vars).wf = true := by
  obtain ⟨g, rfl, hl, hf⟩ := see_struct (fs := _) (by rfl) (sz := 6) (by kernel_rfl) h
  match cs, hl with
  | [c0, c1, c2, c3, c4, c5], _ =>
    have h0 : Sees Try.prog w g 24 [c0, c1, c2, c3] := hf 0 _ rfl
    obtain ⟨g0, x_Head_Kind, x_Head_N, x_Head_S, x_Head_LP, x_Head_LN, x_Head_LC, e0, k0_0, k0_1, k0_2, k0_3⟩ := see_24 h0
    simp only [List.cons.injEq, and_true] at e0
    obtain ⟨rfl, rfl, rfl, rfl⟩ := e0
    have h1 : Sees Try.prog w g 25 [c4] := hf 1 _ rfl
    obtain ⟨x_GoalsP, x_GoalsN, x_GoalsC, cs1, _, _, e1, _⟩ := see_slice (by rfl) (sz := 5) (by kernel_rfl) h1
    simp only [List.cons.injEq, and_true] at e1
    obtain rfl := e1
    have h2 : Sees Try.prog w g 3 [c5] := hf 2 _ rfl
    obtain ⟨x_Vars, e2, k2⟩ := see_int (by rfl) h2
    simp only [List.cons.injEq, and_true] at e2
    obtain rfl := e2
    exact ⟨g, x_Head_Kind, x_Head_N, x_Head_S, x_Head_LP, x_Head_LN, x_Head_LC, x_GoalsP, x_GoalsN, x_GoalsC, x_Vars, rfl, k0_0, k0_1, k0_2, k0_3, ⟨_, h1⟩, k2⟩

/-- struct  Env bool Slots []int Level int Live []int  -/
theorem see_31 {w : World} {f : Nat} {cs : List Value} (h : Sees Try.prog w f 31 cs) : ∃ g : Nat, ∃ x_Env : Bool, ∃ x_SlotsP : Option Addr, ∃ x_SlotsN : Nat, ∃ x_SlotsC : Nat, ∃ x_Level : Int, ∃ x_LiveP : Option Addr, ∃ x_LiveN : Nat, ∃ x_LiveC : Nat, cs = [.bool x_Env, .slice x_SlotsP x_SlotsN x_SlotsC, .int .i64 x_Level, .slice x_LiveP x_LiveN x_LiveC] ∧ (∃ g, Sees Try.prog w g 30 [.slice x_SlotsP x_SlotsN x_SlotsC]) ∧ (Lit.int .i64 x_Level).wf = true ∧ (∃ g, Sees Try.prog w g 30 [.slice x_LiveP x_LiveN x_LiveC]) := by
  obtain ⟨g, rfl, hl, hf⟩ := see_struct (fs := _) (by rfl) (sz := 4) (by kernel_rfl) h
  match cs, hl with
  | [c0, c1, c2, c3], _ =>
    have h0 : Sees Try.prog w g 4 [c0] := hf 0 _ rfl
    obtain ⟨x_Env, e0⟩ := see_bool (by rfl) h0
    simp only [List.cons.injEq, and_true] at e0
    obtain rfl := e0
    have h1 : Sees Try.prog w g 30 [c1] := hf 1 _ rfl
    obtain ⟨x_SlotsP, x_SlotsN, x_SlotsC, cs1, _, _, e1, _⟩ := see_slice (by rfl) (sz := 1) (by kernel_rfl) h1
    simp only [List.cons.injEq, and_true] at e1
    obtain rfl := e1
    have h2 : Sees Try.prog w g 3 [c2] := hf 2 _ rfl
    obtain ⟨x_Level, e2, k2⟩ := see_int (by rfl) h2
    simp only [List.cons.injEq, and_true] at e2
    obtain rfl := e2
    have h3 : Sees Try.prog w g 30 [c3] := hf 3 _ rfl
    obtain ⟨x_LiveP, x_LiveN, x_LiveC, cs3, _, _, e3, _⟩ := see_slice (by rfl) (sz := 1) (by kernel_rfl) h3
    simp only [List.cons.injEq, and_true] at e3
    obtain rfl := e3
    exact ⟨g, x_Env, x_SlotsP, x_SlotsN, x_SlotsC, x_Level, x_LiveP, x_LiveN, x_LiveC, rfl, ⟨_, h1⟩, k2, ⟨_, h3⟩⟩

/-- api.Plan -/
theorem see_32 {w : World} {f : Nat} {cs : List Value} (h : Sees Try.prog w f 32 cs) : ∃ g : Nat, ∃ x_Env : Bool, ∃ x_SlotsP : Option Addr, ∃ x_SlotsN : Nat, ∃ x_SlotsC : Nat, ∃ x_Level : Int, ∃ x_LiveP : Option Addr, ∃ x_LiveN : Nat, ∃ x_LiveC : Nat, cs = [.bool x_Env, .slice x_SlotsP x_SlotsN x_SlotsC, .int .i64 x_Level, .slice x_LiveP x_LiveN x_LiveC] ∧ (∃ g, Sees Try.prog w g 30 [.slice x_SlotsP x_SlotsN x_SlotsC]) ∧ (Lit.int .i64 x_Level).wf = true ∧ (∃ g, Sees Try.prog w g 30 [.slice x_LiveP x_LiveN x_LiveC]) := by
  obtain ⟨g, rfl, hl, hf⟩ := see_struct (fs := _) (by rfl) (sz := 4) (by kernel_rfl) h
  match cs, hl with
  | [c0, c1, c2, c3], _ =>
    have h0 : Sees Try.prog w g 4 [c0] := hf 0 _ rfl
    obtain ⟨x_Env, e0⟩ := see_bool (by rfl) h0
    simp only [List.cons.injEq, and_true] at e0
    obtain rfl := e0
    have h1 : Sees Try.prog w g 30 [c1] := hf 1 _ rfl
    obtain ⟨x_SlotsP, x_SlotsN, x_SlotsC, cs1, _, _, e1, _⟩ := see_slice (by rfl) (sz := 1) (by kernel_rfl) h1
    simp only [List.cons.injEq, and_true] at e1
    obtain rfl := e1
    have h2 : Sees Try.prog w g 3 [c2] := hf 2 _ rfl
    obtain ⟨x_Level, e2, k2⟩ := see_int (by rfl) h2
    simp only [List.cons.injEq, and_true] at e2
    obtain rfl := e2
    have h3 : Sees Try.prog w g 30 [c3] := hf 3 _ rfl
    obtain ⟨x_LiveP, x_LiveN, x_LiveC, cs3, _, _, e3, _⟩ := see_slice (by rfl) (sz := 1) (by kernel_rfl) h3
    simp only [List.cons.injEq, and_true] at e3
    obtain rfl := e3
    exact ⟨g, x_Env, x_SlotsP, x_SlotsN, x_SlotsC, x_Level, x_LiveP, x_LiveN, x_LiveC, rfl, ⟨_, h1⟩, k2, ⟨_, h3⟩⟩

/-- struct  Kind int Term api.Term  -/
theorem see_37 {w : World} {f : Nat} {cs : List Value} (h : Sees Try.prog w f 37 cs) : ∃ g : Nat, ∃ x_Kind : Int, ∃ x_Term_Kind : Int, ∃ x_Term_N : Int, ∃ x_Term_S : ByteArray, ∃ x_Term_LP : Option Addr, ∃ x_Term_LN : Nat, ∃ x_Term_LC : Nat, cs = [.int .i64 x_Kind, .int .i64 x_Term_Kind, .int .i64 x_Term_N, .string x_Term_S, .slice x_Term_LP x_Term_LN x_Term_LC] ∧ (Lit.int .i64 x_Kind).wf = true ∧ (Lit.int .i64 x_Term_Kind).wf = true ∧ (Lit.int .i64 x_Term_N).wf = true ∧ x_Term_S.size ≤ maxLen ∧ (∃ g, Sees Try.prog w g 22 [.slice x_Term_LP x_Term_LN x_Term_LC]) := by
  obtain ⟨g, rfl, hl, hf⟩ := see_struct (fs := _) (by rfl) (sz := 5) (by kernel_rfl) h
  match cs, hl with
  | [c0, c1, c2, c3, c4], _ =>
    have h0 : Sees Try.prog w g 3 [c0] := hf 0 _ rfl
    obtain ⟨x_Kind, e0, k0⟩ := see_int (by rfl) h0
    simp only [List.cons.injEq, and_true] at e0
    obtain rfl := e0
    have h1 : Sees Try.prog w g 24 [c1, c2, c3, c4] := hf 1 _ rfl
    obtain ⟨g1, x_Term_Kind, x_Term_N, x_Term_S, x_Term_LP, x_Term_LN, x_Term_LC, e1, k1_0, k1_1, k1_2, k1_3⟩ := see_24 h1
    simp only [List.cons.injEq, and_true] at e1
    obtain ⟨rfl, rfl, rfl, rfl⟩ := e1
    exact ⟨g, x_Kind, x_Term_Kind, x_Term_N, x_Term_S, x_Term_LP, x_Term_LN, x_Term_LC, rfl, k0, k1_0, k1_1, k1_2, k1_3⟩

/-- api.Goal -/
theorem see_38 {w : World} {f : Nat} {cs : List Value} (h : Sees Try.prog w f 38 cs) : ∃ g : Nat, ∃ x_Kind : Int, ∃ x_Term_Kind : Int, ∃ x_Term_N : Int, ∃ x_Term_S : ByteArray, ∃ x_Term_LP : Option Addr, ∃ x_Term_LN : Nat, ∃ x_Term_LC : Nat, cs = [.int .i64 x_Kind, .int .i64 x_Term_Kind, .int .i64 x_Term_N, .string x_Term_S, .slice x_Term_LP x_Term_LN x_Term_LC] ∧ (Lit.int .i64 x_Kind).wf = true ∧ (Lit.int .i64 x_Term_Kind).wf = true ∧ (Lit.int .i64 x_Term_N).wf = true ∧ x_Term_S.size ≤ maxLen ∧ (∃ g, Sees Try.prog w g 22 [.slice x_Term_LP x_Term_LN x_Term_LC]) := by
  obtain ⟨g, rfl, hl, hf⟩ := see_struct (fs := _) (by rfl) (sz := 5) (by kernel_rfl) h
  match cs, hl with
  | [c0, c1, c2, c3, c4], _ =>
    have h0 : Sees Try.prog w g 3 [c0] := hf 0 _ rfl
    obtain ⟨x_Kind, e0, k0⟩ := see_int (by rfl) h0
    simp only [List.cons.injEq, and_true] at e0
    obtain rfl := e0
    have h1 : Sees Try.prog w g 24 [c1, c2, c3, c4] := hf 1 _ rfl
    obtain ⟨g1, x_Term_Kind, x_Term_N, x_Term_S, x_Term_LP, x_Term_LN, x_Term_LC, e1, k1_0, k1_1, k1_2, k1_3⟩ := see_24 h1
    simp only [List.cons.injEq, and_true] at e1
    obtain ⟨rfl, rfl, rfl, rfl⟩ := e1
    exact ⟨g, x_Kind, x_Term_Kind, x_Term_N, x_Term_S, x_Term_LP, x_Term_LN, x_Term_LC, rfl, k0, k1_0, k1_1, k1_2, k1_3⟩

/-- struct  n int first int last int  -/
theorem see_57 {w : World} {f : Nat} {cs : List Value} (h : Sees Try.prog w f 57 cs) : ∃ g : Nat, ∃ x_n : Int, ∃ x_first : Int, ∃ x_last : Int, cs = [.int .i64 x_n, .int .i64 x_first, .int .i64 x_last] ∧ (Lit.int .i64 x_n).wf = true ∧ (Lit.int .i64 x_first).wf = true ∧ (Lit.int .i64 x_last).wf = true := by
  obtain ⟨g, rfl, hl, hf⟩ := see_struct (fs := _) (by rfl) (sz := 3) (by kernel_rfl) h
  match cs, hl with
  | [c0, c1, c2], _ =>
    have h0 : Sees Try.prog w g 3 [c0] := hf 0 _ rfl
    obtain ⟨x_n, e0, k0⟩ := see_int (by rfl) h0
    simp only [List.cons.injEq, and_true] at e0
    obtain rfl := e0
    have h1 : Sees Try.prog w g 3 [c1] := hf 1 _ rfl
    obtain ⟨x_first, e1, k1⟩ := see_int (by rfl) h1
    simp only [List.cons.injEq, and_true] at e1
    obtain rfl := e1
    have h2 : Sees Try.prog w g 3 [c2] := hf 2 _ rfl
    obtain ⟨x_last, e2, k2⟩ := see_int (by rfl) h2
    simp only [List.cons.injEq, and_true] at e2
    obtain rfl := e2
    exact ⟨g, x_n, x_first, x_last, rfl, k0, k1, k2⟩

/-- plan.span -/
theorem see_58 {w : World} {f : Nat} {cs : List Value} (h : Sees Try.prog w f 58 cs) : ∃ g : Nat, ∃ x_n : Int, ∃ x_first : Int, ∃ x_last : Int, cs = [.int .i64 x_n, .int .i64 x_first, .int .i64 x_last] ∧ (Lit.int .i64 x_n).wf = true ∧ (Lit.int .i64 x_first).wf = true ∧ (Lit.int .i64 x_last).wf = true := by
  obtain ⟨g, rfl, hl, hf⟩ := see_struct (fs := _) (by rfl) (sz := 3) (by kernel_rfl) h
  match cs, hl with
  | [c0, c1, c2], _ =>
    have h0 : Sees Try.prog w g 3 [c0] := hf 0 _ rfl
    obtain ⟨x_n, e0, k0⟩ := see_int (by rfl) h0
    simp only [List.cons.injEq, and_true] at e0
    obtain rfl := e0
    have h1 : Sees Try.prog w g 3 [c1] := hf 1 _ rfl
    obtain ⟨x_first, e1, k1⟩ := see_int (by rfl) h1
    simp only [List.cons.injEq, and_true] at e1
    obtain rfl := e1
    have h2 : Sees Try.prog w g 3 [c2] := hf 2 _ rfl
    obtain ⟨x_last, e2, k2⟩ := see_int (by rfl) h2
    simp only [List.cons.injEq, and_true] at e2
    obtain rfl := e2
    exact ⟨g, x_n, x_first, x_last, rfl, k0, k1, k2⟩

/-- struct  parts int depth int bad bool  -/
theorem see_83 {w : World} {f : Nat} {cs : List Value} (h : Sees Try.prog w f 83 cs) : ∃ g : Nat, ∃ x_parts : Int, ∃ x_depth : Int, ∃ x_bad : Bool, cs = [.int .i64 x_parts, .int .i64 x_depth, .bool x_bad] ∧ (Lit.int .i64 x_parts).wf = true ∧ (Lit.int .i64 x_depth).wf = true := by
  obtain ⟨g, rfl, hl, hf⟩ := see_struct (fs := _) (by rfl) (sz := 3) (by kernel_rfl) h
  match cs, hl with
  | [c0, c1, c2], _ =>
    have h0 : Sees Try.prog w g 3 [c0] := hf 0 _ rfl
    obtain ⟨x_parts, e0, k0⟩ := see_int (by rfl) h0
    simp only [List.cons.injEq, and_true] at e0
    obtain rfl := e0
    have h1 : Sees Try.prog w g 3 [c1] := hf 1 _ rfl
    obtain ⟨x_depth, e1, k1⟩ := see_int (by rfl) h1
    simp only [List.cons.injEq, and_true] at e1
    obtain rfl := e1
    have h2 : Sees Try.prog w g 4 [c2] := hf 2 _ rfl
    obtain ⟨x_bad, e2⟩ := see_bool (by rfl) h2
    simp only [List.cons.injEq, and_true] at e2
    obtain rfl := e2
    exact ⟨g, x_parts, x_depth, x_bad, rfl, k0, k1⟩

/-- term.count -/
theorem see_84 {w : World} {f : Nat} {cs : List Value} (h : Sees Try.prog w f 84 cs) : ∃ g : Nat, ∃ x_parts : Int, ∃ x_depth : Int, ∃ x_bad : Bool, cs = [.int .i64 x_parts, .int .i64 x_depth, .bool x_bad] ∧ (Lit.int .i64 x_parts).wf = true ∧ (Lit.int .i64 x_depth).wf = true := by
  obtain ⟨g, rfl, hl, hf⟩ := see_struct (fs := _) (by rfl) (sz := 3) (by kernel_rfl) h
  match cs, hl with
  | [c0, c1, c2], _ =>
    have h0 : Sees Try.prog w g 3 [c0] := hf 0 _ rfl
    obtain ⟨x_parts, e0, k0⟩ := see_int (by rfl) h0
    simp only [List.cons.injEq, and_true] at e0
    obtain rfl := e0
    have h1 : Sees Try.prog w g 3 [c1] := hf 1 _ rfl
    obtain ⟨x_depth, e1, k1⟩ := see_int (by rfl) h1
    simp only [List.cons.injEq, and_true] at e1
    obtain rfl := e1
    have h2 : Sees Try.prog w g 4 [c2] := hf 2 _ rfl
    obtain ⟨x_bad, e2⟩ := see_bool (by rfl) h2
    simp only [List.cons.injEq, and_true] at e2
    obtain rfl := e2
    exact ⟨g, x_parts, x_depth, x_bad, rfl, k0, k1⟩

end Go.Proofs.Ytdbkbaeeccemkaa
