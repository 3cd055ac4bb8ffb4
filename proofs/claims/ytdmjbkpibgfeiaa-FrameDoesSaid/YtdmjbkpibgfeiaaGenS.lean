/- What the structs that come in are made of. Printed by a program. -/
import Derived.Test.YtdmjbkpibgfeiaaOwn6
import Derived.Test.YtdmjbkpibgfeiaaProg
set_option maxRecDepth 100000
set_option linter.unusedVariables false
namespace Go.Proofs.Ytdmjbkpibgfeiaa
open Go Go.D Go.Proofs

/-- struct  x int64 y int signed bool code abi.BoundsErrorCode  -/
theorem see_7 {w : World} {f : Nat} {cs : List Value} (h : Sees Try.prog w f 7 cs) : ∃ g : Nat, ∃ x_x : Int, ∃ x_y : Int, ∃ x_signed : Bool, ∃ x_code : Int, cs = [.int .i64 x_x, .int .i64 x_y, .bool x_signed, .int .u8 x_code] ∧ (Lit.int .i64 x_x).wf = true ∧ (Lit.int .i64 x_y).wf = true ∧ (Lit.int .u8 x_code).wf = true := by
  obtain ⟨g, rfl, hl, hf⟩ := see_struct (fs := _) (by rfl) (sz := 4) (by kernel_rfl) h
  match cs, hl with
  | [c0, c1, c2, c3], _ =>
    have h0 : Sees Try.prog w g 2 [c0] := hf 0 _ rfl
    obtain ⟨x_x, e0, k0⟩ := see_int (by rfl) h0
    simp only [List.cons.injEq, and_true] at e0
    obtain rfl := e0
    have h1 : Sees Try.prog w g 3 [c1] := hf 1 _ rfl
    obtain ⟨x_y, e1, k1⟩ := see_int (by rfl) h1
    simp only [List.cons.injEq, and_true] at e1
    obtain rfl := e1
    have h2 : Sees Try.prog w g 4 [c2] := hf 2 _ rfl
    obtain ⟨x_signed, e2⟩ := see_bool (by rfl) h2
    simp only [List.cons.injEq, and_true] at e2
    obtain rfl := e2
    have h3 : Sees Try.prog w g 6 [c3] := hf 3 _ rfl
    obtain ⟨x_code, e3, k3⟩ := see_int (by rfl) h3
    simp only [List.cons.injEq, and_true] at e3
    obtain rfl := e3
    exact ⟨g, x_x, x_y, x_signed, x_code, rfl, k0, k1, k3⟩

/-- runtime.boundsError -/
theorem see_8 {w : World} {f : Nat} {cs : List Value} (h : Sees Try.prog w f 8 cs) : ∃ g : Nat, ∃ x_x : Int, ∃ x_y : Int, ∃ x_signed : Bool, ∃ x_code : Int, cs = [.int .i64 x_x, .int .i64 x_y, .bool x_signed, .int .u8 x_code] ∧ (Lit.int .i64 x_x).wf = true ∧ (Lit.int .i64 x_y).wf = true ∧ (Lit.int .u8 x_code).wf = true := by
  obtain ⟨g, rfl, hl, hf⟩ := see_struct (fs := _) (by rfl) (sz := 4) (by kernel_rfl) h
  match cs, hl with
  | [c0, c1, c2, c3], _ =>
    have h0 : Sees Try.prog w g 2 [c0] := hf 0 _ rfl
    obtain ⟨x_x, e0, k0⟩ := see_int (by rfl) h0
    simp only [List.cons.injEq, and_true] at e0
    obtain rfl := e0
    have h1 : Sees Try.prog w g 3 [c1] := hf 1 _ rfl
    obtain ⟨x_y, e1, k1⟩ := see_int (by rfl) h1
    simp only [List.cons.injEq, and_true] at e1
    obtain rfl := e1
    have h2 : Sees Try.prog w g 4 [c2] := hf 2 _ rfl
    obtain ⟨x_signed, e2⟩ := see_bool (by rfl) h2
    simp only [List.cons.injEq, and_true] at e2
    obtain rfl := e2
    have h3 : Sees Try.prog w g 6 [c3] := hf 3 _ rfl
    obtain ⟨x_code, e3, k3⟩ := see_int (by rfl) h3
    simp only [List.cons.injEq, and_true] at e3
    obtain rfl := e3
    exact ⟨g, x_x, x_y, x_signed, x_code, rfl, k0, k1, k3⟩

/-- struct  msg string addr uintptr  -/
theorem see_13 {w : World} {f : Nat} {cs : List Value} (h : Sees Try.prog w f 13 cs) : ∃ g : Nat, ∃ x_msg : ByteArray, ∃ x_addr : Int, cs = [.string x_msg, .int .u64 x_addr] ∧ x_msg.size ≤ maxLen ∧ (Lit.int .u64 x_addr).wf = true := by
  obtain ⟨g, rfl, hl, hf⟩ := see_struct (fs := _) (by rfl) (sz := 2) (by kernel_rfl) h
  match cs, hl with
  | [c0, c1], _ =>
    have h0 : Sees Try.prog w g 9 [c0] := hf 0 _ rfl
    obtain ⟨x_msg, e0, k0⟩ := see_string (by rfl) h0
    simp only [List.cons.injEq, and_true] at e0
    obtain rfl := e0
    have h1 : Sees Try.prog w g 12 [c1] := hf 1 _ rfl
    obtain ⟨x_addr, e1, k1⟩ := see_int (by rfl) h1
    simp only [List.cons.injEq, and_true] at e1
    obtain rfl := e1
    exact ⟨g, x_msg, x_addr, rfl, k0, k1⟩

/-- runtime.errorAddressString -/
theorem see_14 {w : World} {f : Nat} {cs : List Value} (h : Sees Try.prog w f 14 cs) : ∃ g : Nat, ∃ x_msg : ByteArray, ∃ x_addr : Int, cs = [.string x_msg, .int .u64 x_addr] ∧ x_msg.size ≤ maxLen ∧ (Lit.int .u64 x_addr).wf = true := by
  obtain ⟨g, rfl, hl, hf⟩ := see_struct (fs := _) (by rfl) (sz := 2) (by kernel_rfl) h
  match cs, hl with
  | [c0, c1], _ =>
    have h0 : Sees Try.prog w g 9 [c0] := hf 0 _ rfl
    obtain ⟨x_msg, e0, k0⟩ := see_string (by rfl) h0
    simp only [List.cons.injEq, and_true] at e0
    obtain rfl := e0
    have h1 : Sees Try.prog w g 12 [c1] := hf 1 _ rfl
    obtain ⟨x_addr, e1, k1⟩ := see_int (by rfl) h1
    simp only [List.cons.injEq, and_true] at e1
    obtain rfl := e1
    exact ⟨g, x_msg, x_addr, rfl, k0, k1⟩

/-- struct  Clause int At int  -/
theorem see_30 {w : World} {f : Nat} {cs : List Value} (h : Sees Try.prog w f 30 cs) : ∃ g : Nat, ∃ x_Clause : Int, ∃ x_At : Int, cs = [.int .i64 x_Clause, .int .i64 x_At] ∧ (Lit.int .i64 x_Clause).wf = true ∧ (Lit.int .i64 x_At).wf = true := by
  obtain ⟨g, rfl, hl, hf⟩ := see_struct (fs := _) (by rfl) (sz := 2) (by kernel_rfl) h
  match cs, hl with
  | [c0, c1], _ =>
    have h0 : Sees Try.prog w g 3 [c0] := hf 0 _ rfl
    obtain ⟨x_Clause, e0, k0⟩ := see_int (by rfl) h0
    simp only [List.cons.injEq, and_true] at e0
    obtain rfl := e0
    have h1 : Sees Try.prog w g 3 [c1] := hf 1 _ rfl
    obtain ⟨x_At, e1, k1⟩ := see_int (by rfl) h1
    simp only [List.cons.injEq, and_true] at e1
    obtain rfl := e1
    exact ⟨g, x_Clause, x_At, rfl, k0, k1⟩

/-- api.Addr -/
theorem see_31 {w : World} {f : Nat} {cs : List Value} (h : Sees Try.prog w f 31 cs) : ∃ g : Nat, ∃ x_Clause : Int, ∃ x_At : Int, cs = [.int .i64 x_Clause, .int .i64 x_At] ∧ (Lit.int .i64 x_Clause).wf = true ∧ (Lit.int .i64 x_At).wf = true := by
  obtain ⟨g, rfl, hl, hf⟩ := see_struct (fs := _) (by rfl) (sz := 2) (by kernel_rfl) h
  match cs, hl with
  | [c0, c1], _ =>
    have h0 : Sees Try.prog w g 3 [c0] := hf 0 _ rfl
    obtain ⟨x_Clause, e0, k0⟩ := see_int (by rfl) h0
    simp only [List.cons.injEq, and_true] at e0
    obtain rfl := e0
    have h1 : Sees Try.prog w g 3 [c1] := hf 1 _ rfl
    obtain ⟨x_At, e1, k1⟩ := see_int (by rfl) h1
    simp only [List.cons.injEq, and_true] at e1
    obtain rfl := e1
    exact ⟨g, x_Clause, x_At, rfl, k0, k1⟩

/-- struct  Kind int Args []uint64 Cont api.Addr Generation int  -/
theorem see_33 {w : World} {f : Nat} {cs : List Value} (h : Sees Try.prog w f 33 cs) : ∃ g : Nat, ∃ x_Kind : Int, ∃ x_ArgsP : Option Addr, ∃ x_ArgsN : Nat, ∃ x_ArgsC : Nat, ∃ x_Cont_Clause : Int, ∃ x_Cont_At : Int, ∃ x_Generation : Int, ∃ x_Next : Int, ∃ x_Finds : Int, ∃ x_Env : Int, ∃ x_Top : Int, cs = [.int .i64 x_Kind, .slice x_ArgsP x_ArgsN x_ArgsC, .int .i64 x_Cont_Clause, .int .i64 x_Cont_At, .int .i64 x_Generation, .int .i64 x_Next, .int .i64 x_Finds, .int .i64 x_Env, .int .i64 x_Top] ∧ (Lit.int .i64 x_Kind).wf = true ∧ (∃ g, Sees Try.prog w g 32 [.slice x_ArgsP x_ArgsN x_ArgsC]) ∧ (Lit.int .i64 x_Cont_Clause).wf = true ∧ (Lit.int .i64 x_Cont_At).wf = true ∧ (Lit.int .i64 x_Generation).wf = true ∧ (Lit.int .i64 x_Next).wf = true ∧ (Lit.int .i64 x_Finds).wf = true ∧ (Lit.int .i64 x_Env).wf = true ∧ (Lit.int .i64 x_Top).wf = true := by
  obtain ⟨g, rfl, hl, hf⟩ := see_struct (fs := _) (by rfl) (sz := 9) (by kernel_rfl) h
  match cs, hl with
  | [c0, c1, c2, c3, c4, c5, c6, c7, c8], _ =>
    have h0 : Sees Try.prog w g 3 [c0] := hf 0 _ rfl
    obtain ⟨x_Kind, e0, k0⟩ := see_int (by rfl) h0
    simp only [List.cons.injEq, and_true] at e0
    obtain rfl := e0
    have h1 : Sees Try.prog w g 32 [c1] := hf 1 _ rfl
    obtain ⟨x_ArgsP, x_ArgsN, x_ArgsC, cs1, _, _, e1, _⟩ := see_slice (by rfl) (sz := 1) (by kernel_rfl) h1
    simp only [List.cons.injEq, and_true] at e1
    obtain rfl := e1
    have h2 : Sees Try.prog w g 31 [c2, c3] := hf 2 _ rfl
    obtain ⟨g2, x_Cont_Clause, x_Cont_At, e2, k2_0, k2_1⟩ := see_31 h2
    simp only [List.cons.injEq, and_true] at e2
    obtain ⟨rfl, rfl⟩ := e2
    have h3 : Sees Try.prog w g 3 [c4] := hf 3 _ rfl
    obtain ⟨x_Generation, e3, k3⟩ := see_int (by rfl) h3
    simp only [List.cons.injEq, and_true] at e3
    obtain rfl := e3
    have h4 : Sees Try.prog w g 3 [c5] := hf 4 _ rfl
    obtain ⟨x_Next, e4, k4⟩ := see_int (by rfl) h4
    simp only [List.cons.injEq, and_true] at e4
    obtain rfl := e4
    have h5 : Sees Try.prog w g 3 [c6] := hf 5 _ rfl
    obtain ⟨x_Finds, e5, k5⟩ := see_int (by rfl) h5
    simp only [List.cons.injEq, and_true] at e5
    obtain rfl := e5
    have h6 : Sees Try.prog w g 3 [c7] := hf 6 _ rfl
    obtain ⟨x_Env, e6, k6⟩ := see_int (by rfl) h6
    simp only [List.cons.injEq, and_true] at e6
    obtain rfl := e6
    have h7 : Sees Try.prog w g 3 [c8] := hf 7 _ rfl
    obtain ⟨x_Top, e7, k7⟩ := see_int (by rfl) h7
    simp only [List.cons.injEq, and_true] at e7
    obtain rfl := e7
    exact ⟨g, x_Kind, x_ArgsP, x_ArgsN, x_ArgsC, x_Cont_Clause, x_Cont_At, x_Generation, x_Next, x_Finds, x_Env, x_Top, rfl, k0, ⟨_, h1⟩, k2_0, k2_1, k3, k4, k5, k6, k7⟩

/-- api.Choice -/
theorem see_34 {w : World} {f : Nat} {cs : List Value} (h : Sees Try.prog w f 34 cs) : ∃ g : Nat, ∃ x_Kind : Int, ∃ x_ArgsP : Option Addr, ∃ x_ArgsN : Nat, ∃ x_ArgsC : Nat, ∃ x_Cont_Clause : Int, ∃ x_Cont_At : Int, ∃ x_Generation : Int, ∃ x_Next : Int, ∃ x_Finds : Int, ∃ x_Env : Int, ∃ x_Top : Int, cs = [.int .i64 x_Kind, .slice x_ArgsP x_ArgsN x_ArgsC, .int .i64 x_Cont_Clause, .int .i64 x_Cont_At, .int .i64 x_Generation, .int .i64 x_Next, .int .i64 x_Finds, .int .i64 x_Env, .int .i64 x_Top] ∧ (Lit.int .i64 x_Kind).wf = true ∧ (∃ g, Sees Try.prog w g 32 [.slice x_ArgsP x_ArgsN x_ArgsC]) ∧ (Lit.int .i64 x_Cont_Clause).wf = true ∧ (Lit.int .i64 x_Cont_At).wf = true ∧ (Lit.int .i64 x_Generation).wf = true ∧ (Lit.int .i64 x_Next).wf = true ∧ (Lit.int .i64 x_Finds).wf = true ∧ (Lit.int .i64 x_Env).wf = true ∧ (Lit.int .i64 x_Top).wf = true := by
  obtain ⟨g, rfl, hl, hf⟩ := see_struct (fs := _) (by rfl) (sz := 9) (by kernel_rfl) h
  match cs, hl with
  | [c0, c1, c2, c3, c4, c5, c6, c7, c8], _ =>
    have h0 : Sees Try.prog w g 3 [c0] := hf 0 _ rfl
    obtain ⟨x_Kind, e0, k0⟩ := see_int (by rfl) h0
    simp only [List.cons.injEq, and_true] at e0
    obtain rfl := e0
    have h1 : Sees Try.prog w g 32 [c1] := hf 1 _ rfl
    obtain ⟨x_ArgsP, x_ArgsN, x_ArgsC, cs1, _, _, e1, _⟩ := see_slice (by rfl) (sz := 1) (by kernel_rfl) h1
    simp only [List.cons.injEq, and_true] at e1
    obtain rfl := e1
    have h2 : Sees Try.prog w g 31 [c2, c3] := hf 2 _ rfl
    obtain ⟨g2, x_Cont_Clause, x_Cont_At, e2, k2_0, k2_1⟩ := see_31 h2
    simp only [List.cons.injEq, and_true] at e2
    obtain ⟨rfl, rfl⟩ := e2
    have h3 : Sees Try.prog w g 3 [c4] := hf 3 _ rfl
    obtain ⟨x_Generation, e3, k3⟩ := see_int (by rfl) h3
    simp only [List.cons.injEq, and_true] at e3
    obtain rfl := e3
    have h4 : Sees Try.prog w g 3 [c5] := hf 4 _ rfl
    obtain ⟨x_Next, e4, k4⟩ := see_int (by rfl) h4
    simp only [List.cons.injEq, and_true] at e4
    obtain rfl := e4
    have h5 : Sees Try.prog w g 3 [c6] := hf 5 _ rfl
    obtain ⟨x_Finds, e5, k5⟩ := see_int (by rfl) h5
    simp only [List.cons.injEq, and_true] at e5
    obtain rfl := e5
    have h6 : Sees Try.prog w g 3 [c7] := hf 6 _ rfl
    obtain ⟨x_Env, e6, k6⟩ := see_int (by rfl) h6
    simp only [List.cons.injEq, and_true] at e6
    obtain rfl := e6
    have h7 : Sees Try.prog w g 3 [c8] := hf 7 _ rfl
    obtain ⟨x_Top, e7, k7⟩ := see_int (by rfl) h7
    simp only [List.cons.injEq, and_true] at e7
    obtain rfl := e7
    exact ⟨g, x_Kind, x_ArgsP, x_ArgsN, x_ArgsC, x_Cont_Clause, x_Cont_At, x_Generation, x_Next, x_Finds, x_Env, x_Top, rfl, k0, ⟨_, h1⟩, k2_0, k2_1, k3, k4, k5, k6, k7⟩

/-- struct  Kind int N int W uint64 Cont api.Addr Choice api.Cho -/
theorem see_35 {w : World} {f : Nat} {cs : List Value} (h : Sees Try.prog w f 35 cs) : ∃ g : Nat, ∃ x_Kind : Int, ∃ x_N : Int, ∃ x_W : Int, ∃ x_Cont_Clause : Int, ∃ x_Cont_At : Int, ∃ x_Choice_Kind : Int, ∃ x_Choice_ArgsP : Option Addr, ∃ x_Choice_ArgsN : Nat, ∃ x_Choice_ArgsC : Nat, ∃ x_Choice_Cont_Clause : Int, ∃ x_Choice_Cont_At : Int, ∃ x_Choice_Generation : Int, ∃ x_Choice_Next : Int, ∃ x_Choice_Finds : Int, ∃ x_Choice_Env : Int, ∃ x_Choice_Top : Int, cs = [.int .i64 x_Kind, .int .i64 x_N, .int .u64 x_W, .int .i64 x_Cont_Clause, .int .i64 x_Cont_At, .int .i64 x_Choice_Kind, .slice x_Choice_ArgsP x_Choice_ArgsN x_Choice_ArgsC, .int .i64 x_Choice_Cont_Clause, .int .i64 x_Choice_Cont_At, .int .i64 x_Choice_Generation, .int .i64 x_Choice_Next, .int .i64 x_Choice_Finds, .int .i64 x_Choice_Env, .int .i64 x_Choice_Top] ∧ (Lit.int .i64 x_Kind).wf = true ∧ (Lit.int .i64 x_N).wf = true ∧ (Lit.int .u64 x_W).wf = true ∧ (Lit.int .i64 x_Cont_Clause).wf = true ∧ (Lit.int .i64 x_Cont_At).wf = true ∧ (Lit.int .i64 x_Choice_Kind).wf = true ∧ (∃ g, Sees Try.prog w g 32 [.slice x_Choice_ArgsP x_Choice_ArgsN x_Choice_ArgsC]) ∧ (Lit.int .i64 x_Choice_Cont_Clause).wf = true ∧ (Lit.int .i64 x_Choice_Cont_At).wf = true ∧ (Lit.int .i64 x_Choice_Generation).wf = true ∧ (Lit.int .i64 x_Choice_Next).wf = true ∧ (Lit.int .i64 x_Choice_Finds).wf = true ∧ (Lit.int .i64 x_Choice_Env).wf = true ∧ (Lit.int .i64 x_Choice_Top).wf = true := by
  obtain ⟨g, rfl, hl, hf⟩ := see_struct (fs := _) (by rfl) (sz := 14) (by kernel_rfl) h
  match cs, hl with
  | [c0, c1, c2, c3, c4, c5, c6, c7, c8, c9, c10, c11, c12, c13], _ =>
    have h0 : Sees Try.prog w g 3 [c0] := hf 0 _ rfl
    obtain ⟨x_Kind, e0, k0⟩ := see_int (by rfl) h0
    simp only [List.cons.injEq, and_true] at e0
    obtain rfl := e0
    have h1 : Sees Try.prog w g 3 [c1] := hf 1 _ rfl
    obtain ⟨x_N, e1, k1⟩ := see_int (by rfl) h1
    simp only [List.cons.injEq, and_true] at e1
    obtain rfl := e1
    have h2 : Sees Try.prog w g 29 [c2] := hf 2 _ rfl
    obtain ⟨x_W, e2, k2⟩ := see_int (by rfl) h2
    simp only [List.cons.injEq, and_true] at e2
    obtain rfl := e2
    have h3 : Sees Try.prog w g 31 [c3, c4] := hf 3 _ rfl
    obtain ⟨g3, x_Cont_Clause, x_Cont_At, e3, k3_0, k3_1⟩ := see_31 h3
    simp only [List.cons.injEq, and_true] at e3
    obtain ⟨rfl, rfl⟩ := e3
    have h4 : Sees Try.prog w g 34 [c5, c6, c7, c8, c9, c10, c11, c12, c13] := hf 4 _ rfl
    obtain ⟨g4, x_Choice_Kind, x_Choice_ArgsP, x_Choice_ArgsN, x_Choice_ArgsC, x_Choice_Cont_Clause, x_Choice_Cont_At, x_Choice_Generation, x_Choice_Next, x_Choice_Finds, x_Choice_Env, x_Choice_Top, e4, k4_0, k4_1, k4_2, k4_3, k4_4, k4_5, k4_6, k4_7, k4_8⟩ := see_34 h4
    simp only [List.cons.injEq, and_true] at e4
    obtain ⟨rfl, rfl, rfl, rfl, rfl, rfl, rfl, rfl, rfl⟩ := e4
    exact ⟨g, x_Kind, x_N, x_W, x_Cont_Clause, x_Cont_At, x_Choice_Kind, x_Choice_ArgsP, x_Choice_ArgsN, x_Choice_ArgsC, x_Choice_Cont_Clause, x_Choice_Cont_At, x_Choice_Generation, x_Choice_Next, x_Choice_Finds, x_Choice_Env, x_Choice_Top, rfl, k0, k1, k2, k3_0, k3_1, k4_0, k4_1, k4_2, k4_3, k4_4, k4_5, k4_6, k4_7, k4_8⟩

/-- elenchuslaw22.Op -/
theorem see_36 {w : World} {f : Nat} {cs : List Value} (h : Sees Try.prog w f 36 cs) : ∃ g : Nat, ∃ x_Kind : Int, ∃ x_N : Int, ∃ x_W : Int, ∃ x_Cont_Clause : Int, ∃ x_Cont_At : Int, ∃ x_Choice_Kind : Int, ∃ x_Choice_ArgsP : Option Addr, ∃ x_Choice_ArgsN : Nat, ∃ x_Choice_ArgsC : Nat, ∃ x_Choice_Cont_Clause : Int, ∃ x_Choice_Cont_At : Int, ∃ x_Choice_Generation : Int, ∃ x_Choice_Next : Int, ∃ x_Choice_Finds : Int, ∃ x_Choice_Env : Int, ∃ x_Choice_Top : Int, cs = [.int .i64 x_Kind, .int .i64 x_N, .int .u64 x_W, .int .i64 x_Cont_Clause, .int .i64 x_Cont_At, .int .i64 x_Choice_Kind, .slice x_Choice_ArgsP x_Choice_ArgsN x_Choice_ArgsC, .int .i64 x_Choice_Cont_Clause, .int .i64 x_Choice_Cont_At, .int .i64 x_Choice_Generation, .int .i64 x_Choice_Next, .int .i64 x_Choice_Finds, .int .i64 x_Choice_Env, .int .i64 x_Choice_Top] ∧ (Lit.int .i64 x_Kind).wf = true ∧ (Lit.int .i64 x_N).wf = true ∧ (Lit.int .u64 x_W).wf = true ∧ (Lit.int .i64 x_Cont_Clause).wf = true ∧ (Lit.int .i64 x_Cont_At).wf = true ∧ (Lit.int .i64 x_Choice_Kind).wf = true ∧ (∃ g, Sees Try.prog w g 32 [.slice x_Choice_ArgsP x_Choice_ArgsN x_Choice_ArgsC]) ∧ (Lit.int .i64 x_Choice_Cont_Clause).wf = true ∧ (Lit.int .i64 x_Choice_Cont_At).wf = true ∧ (Lit.int .i64 x_Choice_Generation).wf = true ∧ (Lit.int .i64 x_Choice_Next).wf = true ∧ (Lit.int .i64 x_Choice_Finds).wf = true ∧ (Lit.int .i64 x_Choice_Env).wf = true ∧ (Lit.int .i64 x_Choice_Top).wf = true := by
  obtain ⟨g, rfl, hl, hf⟩ := see_struct (fs := _) (by rfl) (sz := 14) (by kernel_rfl) h
  match cs, hl with
  | [c0, c1, c2, c3, c4, c5, c6, c7, c8, c9, c10, c11, c12, c13], _ =>
    have h0 : Sees Try.prog w g 3 [c0] := hf 0 _ rfl
    obtain ⟨x_Kind, e0, k0⟩ := see_int (by rfl) h0
    simp only [List.cons.injEq, and_true] at e0
    obtain rfl := e0
    have h1 : Sees Try.prog w g 3 [c1] := hf 1 _ rfl
    obtain ⟨x_N, e1, k1⟩ := see_int (by rfl) h1
    simp only [List.cons.injEq, and_true] at e1
    obtain rfl := e1
    have h2 : Sees Try.prog w g 29 [c2] := hf 2 _ rfl
    obtain ⟨x_W, e2, k2⟩ := see_int (by rfl) h2
    simp only [List.cons.injEq, and_true] at e2
    obtain rfl := e2
    have h3 : Sees Try.prog w g 31 [c3, c4] := hf 3 _ rfl
    obtain ⟨g3, x_Cont_Clause, x_Cont_At, e3, k3_0, k3_1⟩ := see_31 h3
    simp only [List.cons.injEq, and_true] at e3
    obtain ⟨rfl, rfl⟩ := e3
    have h4 : Sees Try.prog w g 34 [c5, c6, c7, c8, c9, c10, c11, c12, c13] := hf 4 _ rfl
    obtain ⟨g4, x_Choice_Kind, x_Choice_ArgsP, x_Choice_ArgsN, x_Choice_ArgsC, x_Choice_Cont_Clause, x_Choice_Cont_At, x_Choice_Generation, x_Choice_Next, x_Choice_Finds, x_Choice_Env, x_Choice_Top, e4, k4_0, k4_1, k4_2, k4_3, k4_4, k4_5, k4_6, k4_7, k4_8⟩ := see_34 h4
    simp only [List.cons.injEq, and_true] at e4
    obtain ⟨rfl, rfl, rfl, rfl, rfl, rfl, rfl, rfl, rfl⟩ := e4
    exact ⟨g, x_Kind, x_N, x_W, x_Cont_Clause, x_Cont_At, x_Choice_Kind, x_Choice_ArgsP, x_Choice_ArgsN, x_Choice_ArgsC, x_Choice_Cont_Clause, x_Choice_Cont_At, x_Choice_Generation, x_Choice_Next, x_Choice_Finds, x_Choice_Env, x_Choice_Top, rfl, k0, k1, k2, k3_0, k3_1, k4_0, k4_1, k4_2, k4_3, k4_4, k4_5, k4_6, k4_7, k4_8⟩

/-- struct  Base int Slots []uint64 Cont api.Addr  -/
theorem see_76 {w : World} {f : Nat} {cs : List Value} (h : Sees Try.prog w f 76 cs) : ∃ g : Nat, ∃ x_Base : Int, ∃ x_SlotsP : Option Addr, ∃ x_SlotsN : Nat, ∃ x_SlotsC : Nat, ∃ x_Cont_Clause : Int, ∃ x_Cont_At : Int, cs = [.int .i64 x_Base, .slice x_SlotsP x_SlotsN x_SlotsC, .int .i64 x_Cont_Clause, .int .i64 x_Cont_At] ∧ (Lit.int .i64 x_Base).wf = true ∧ (∃ g, Sees Try.prog w g 32 [.slice x_SlotsP x_SlotsN x_SlotsC]) ∧ (Lit.int .i64 x_Cont_Clause).wf = true ∧ (Lit.int .i64 x_Cont_At).wf = true := by
  obtain ⟨g, rfl, hl, hf⟩ := see_struct (fs := _) (by rfl) (sz := 4) (by kernel_rfl) h
  match cs, hl with
  | [c0, c1, c2, c3], _ =>
    have h0 : Sees Try.prog w g 3 [c0] := hf 0 _ rfl
    obtain ⟨x_Base, e0, k0⟩ := see_int (by rfl) h0
    simp only [List.cons.injEq, and_true] at e0
    obtain rfl := e0
    have h1 : Sees Try.prog w g 32 [c1] := hf 1 _ rfl
    obtain ⟨x_SlotsP, x_SlotsN, x_SlotsC, cs1, _, _, e1, _⟩ := see_slice (by rfl) (sz := 1) (by kernel_rfl) h1
    simp only [List.cons.injEq, and_true] at e1
    obtain rfl := e1
    have h2 : Sees Try.prog w g 31 [c2, c3] := hf 2 _ rfl
    obtain ⟨g2, x_Cont_Clause, x_Cont_At, e2, k2_0, k2_1⟩ := see_31 h2
    simp only [List.cons.injEq, and_true] at e2
    obtain ⟨rfl, rfl⟩ := e2
    exact ⟨g, x_Base, x_SlotsP, x_SlotsN, x_SlotsC, x_Cont_Clause, x_Cont_At, rfl, k0, ⟨_, h1⟩, k2_0, k2_1⟩

/-- api.Frame -/
theorem see_77 {w : World} {f : Nat} {cs : List Value} (h : Sees Try.prog w f 77 cs) : ∃ g : Nat, ∃ x_Base : Int, ∃ x_SlotsP : Option Addr, ∃ x_SlotsN : Nat, ∃ x_SlotsC : Nat, ∃ x_Cont_Clause : Int, ∃ x_Cont_At : Int, cs = [.int .i64 x_Base, .slice x_SlotsP x_SlotsN x_SlotsC, .int .i64 x_Cont_Clause, .int .i64 x_Cont_At] ∧ (Lit.int .i64 x_Base).wf = true ∧ (∃ g, Sees Try.prog w g 32 [.slice x_SlotsP x_SlotsN x_SlotsC]) ∧ (Lit.int .i64 x_Cont_Clause).wf = true ∧ (Lit.int .i64 x_Cont_At).wf = true := by
  obtain ⟨g, rfl, hl, hf⟩ := see_struct (fs := _) (by rfl) (sz := 4) (by kernel_rfl) h
  match cs, hl with
  | [c0, c1, c2, c3], _ =>
    have h0 : Sees Try.prog w g 3 [c0] := hf 0 _ rfl
    obtain ⟨x_Base, e0, k0⟩ := see_int (by rfl) h0
    simp only [List.cons.injEq, and_true] at e0
    obtain rfl := e0
    have h1 : Sees Try.prog w g 32 [c1] := hf 1 _ rfl
    obtain ⟨x_SlotsP, x_SlotsN, x_SlotsC, cs1, _, _, e1, _⟩ := see_slice (by rfl) (sz := 1) (by kernel_rfl) h1
    simp only [List.cons.injEq, and_true] at e1
    obtain rfl := e1
    have h2 : Sees Try.prog w g 31 [c2, c3] := hf 2 _ rfl
    obtain ⟨g2, x_Cont_Clause, x_Cont_At, e2, k2_0, k2_1⟩ := see_31 h2
    simp only [List.cons.injEq, and_true] at e2
    obtain ⟨rfl, rfl⟩ := e2
    exact ⟨g, x_Base, x_SlotsP, x_SlotsN, x_SlotsC, x_Cont_Clause, x_Cont_At, rfl, k0, ⟨_, h1⟩, k2_0, k2_1⟩

/-- struct  E []elenchusref22.Env Cur int C []elenchusref22.Choi -/
theorem see_87 {w : World} {f : Nat} {cs : List Value} (h : Sees Try.prog w f 87 cs) : ∃ g : Nat, ∃ x_EP : Option Addr, ∃ x_EN : Nat, ∃ x_EC : Nat, ∃ x_Cur : Int, ∃ x_CP : Option Addr, ∃ x_CN : Nat, ∃ x_CC : Nat, ∃ x_Words : Int, ∃ x_Choices : Int, cs = [.slice x_EP x_EN x_EC, .int .i64 x_Cur, .slice x_CP x_CN x_CC, .int .i64 x_Words, .int .i64 x_Choices] ∧ (∃ g, Sees Try.prog w g 85 [.slice x_EP x_EN x_EC]) ∧ (Lit.int .i64 x_Cur).wf = true ∧ (∃ g, Sees Try.prog w g 86 [.slice x_CP x_CN x_CC]) ∧ (Lit.int .i64 x_Words).wf = true ∧ (Lit.int .i64 x_Choices).wf = true := by
  obtain ⟨g, rfl, hl, hf⟩ := see_struct (fs := _) (by rfl) (sz := 5) (by kernel_rfl) h
  match cs, hl with
  | [c0, c1, c2, c3, c4], _ =>
    have h0 : Sees Try.prog w g 85 [c0] := hf 0 _ rfl
    obtain ⟨x_EP, x_EN, x_EC, cs0, _, _, e0, _⟩ := see_slice (by rfl) (sz := 5) (by kernel_rfl) h0
    simp only [List.cons.injEq, and_true] at e0
    obtain rfl := e0
    have h1 : Sees Try.prog w g 3 [c1] := hf 1 _ rfl
    obtain ⟨x_Cur, e1, k1⟩ := see_int (by rfl) h1
    simp only [List.cons.injEq, and_true] at e1
    obtain rfl := e1
    have h2 : Sees Try.prog w g 86 [c2] := hf 2 _ rfl
    obtain ⟨x_CP, x_CN, x_CC, cs2, _, _, e2, _⟩ := see_slice (by rfl) (sz := 10) (by kernel_rfl) h2
    simp only [List.cons.injEq, and_true] at e2
    obtain rfl := e2
    have h3 : Sees Try.prog w g 3 [c3] := hf 3 _ rfl
    obtain ⟨x_Words, e3, k3⟩ := see_int (by rfl) h3
    simp only [List.cons.injEq, and_true] at e3
    obtain rfl := e3
    have h4 : Sees Try.prog w g 3 [c4] := hf 4 _ rfl
    obtain ⟨x_Choices, e4, k4⟩ := see_int (by rfl) h4
    simp only [List.cons.injEq, and_true] at e4
    obtain rfl := e4
    exact ⟨g, x_EP, x_EN, x_EC, x_Cur, x_CP, x_CN, x_CC, x_Words, x_Choices, rfl, ⟨_, h0⟩, k1, ⟨_, h2⟩, k3, k4⟩

/-- elenchusref22.Stack -/
theorem see_88 {w : World} {f : Nat} {cs : List Value} (h : Sees Try.prog w f 88 cs) : ∃ g : Nat, ∃ x_EP : Option Addr, ∃ x_EN : Nat, ∃ x_EC : Nat, ∃ x_Cur : Int, ∃ x_CP : Option Addr, ∃ x_CN : Nat, ∃ x_CC : Nat, ∃ x_Words : Int, ∃ x_Choices : Int, cs = [.slice x_EP x_EN x_EC, .int .i64 x_Cur, .slice x_CP x_CN x_CC, .int .i64 x_Words, .int .i64 x_Choices] ∧ (∃ g, Sees Try.prog w g 85 [.slice x_EP x_EN x_EC]) ∧ (Lit.int .i64 x_Cur).wf = true ∧ (∃ g, Sees Try.prog w g 86 [.slice x_CP x_CN x_CC]) ∧ (Lit.int .i64 x_Words).wf = true ∧ (Lit.int .i64 x_Choices).wf = true := by
  obtain ⟨g, rfl, hl, hf⟩ := see_struct (fs := _) (by rfl) (sz := 5) (by kernel_rfl) h
  match cs, hl with
  | [c0, c1, c2, c3, c4], _ =>
    have h0 : Sees Try.prog w g 85 [c0] := hf 0 _ rfl
    obtain ⟨x_EP, x_EN, x_EC, cs0, _, _, e0, _⟩ := see_slice (by rfl) (sz := 5) (by kernel_rfl) h0
    simp only [List.cons.injEq, and_true] at e0
    obtain rfl := e0
    have h1 : Sees Try.prog w g 3 [c1] := hf 1 _ rfl
    obtain ⟨x_Cur, e1, k1⟩ := see_int (by rfl) h1
    simp only [List.cons.injEq, and_true] at e1
    obtain rfl := e1
    have h2 : Sees Try.prog w g 86 [c2] := hf 2 _ rfl
    obtain ⟨x_CP, x_CN, x_CC, cs2, _, _, e2, _⟩ := see_slice (by rfl) (sz := 10) (by kernel_rfl) h2
    simp only [List.cons.injEq, and_true] at e2
    obtain rfl := e2
    have h3 : Sees Try.prog w g 3 [c3] := hf 3 _ rfl
    obtain ⟨x_Words, e3, k3⟩ := see_int (by rfl) h3
    simp only [List.cons.injEq, and_true] at e3
    obtain rfl := e3
    have h4 : Sees Try.prog w g 3 [c4] := hf 4 _ rfl
    obtain ⟨x_Choices, e4, k4⟩ := see_int (by rfl) h4
    simp only [List.cons.injEq, and_true] at e4
    obtain rfl := e4
    exact ⟨g, x_EP, x_EN, x_EC, x_Cur, x_CP, x_CN, x_CC, x_Words, x_Choices, rfl, ⟨_, h0⟩, k1, ⟨_, h2⟩, k3, k4⟩

/-- struct  w uint64  -/
theorem see_90 {w : World} {f : Nat} {cs : List Value} (h : Sees Try.prog w f 90 cs) : ∃ g : Nat, ∃ x_w : Int, cs = [.int .u64 x_w] ∧ (Lit.int .u64 x_w).wf = true := by
  obtain ⟨g, rfl, hl, hf⟩ := see_struct (fs := _) (by rfl) (sz := 1) (by kernel_rfl) h
  match cs, hl with
  | [c0], _ =>
    have h0 : Sees Try.prog w g 29 [c0] := hf 0 _ rfl
    obtain ⟨x_w, e0, k0⟩ := see_int (by rfl) h0
    simp only [List.cons.injEq, and_true] at e0
    obtain rfl := e0
    exact ⟨g, x_w, rfl, k0⟩

/-- elenchuslaw22.changer -/
theorem see_91 {w : World} {f : Nat} {cs : List Value} (h : Sees Try.prog w f 91 cs) : ∃ g : Nat, ∃ x_w : Int, cs = [.int .u64 x_w] ∧ (Lit.int .u64 x_w).wf = true := by
  obtain ⟨g, rfl, hl, hf⟩ := see_struct (fs := _) (by rfl) (sz := 1) (by kernel_rfl) h
  match cs, hl with
  | [c0], _ =>
    have h0 : Sees Try.prog w g 29 [c0] := hf 0 _ rfl
    obtain ⟨x_w, e0, k0⟩ := see_int (by rfl) h0
    simp only [List.cons.injEq, and_true] at e0
    obtain rfl := e0
    exact ⟨g, x_w, rfl, k0⟩

/-- struct  Base int Prev int Y []uint64 Cont api.Addr  -/
theorem see_93 {w : World} {f : Nat} {cs : List Value} (h : Sees Try.prog w f 93 cs) : ∃ g : Nat, ∃ x_Base : Int, ∃ x_Prev : Int, ∃ x_YP : Option Addr, ∃ x_YN : Nat, ∃ x_YC : Nat, ∃ x_Cont_Clause : Int, ∃ x_Cont_At : Int, cs = [.int .i64 x_Base, .int .i64 x_Prev, .slice x_YP x_YN x_YC, .int .i64 x_Cont_Clause, .int .i64 x_Cont_At] ∧ (Lit.int .i64 x_Base).wf = true ∧ (Lit.int .i64 x_Prev).wf = true ∧ (∃ g, Sees Try.prog w g 32 [.slice x_YP x_YN x_YC]) ∧ (Lit.int .i64 x_Cont_Clause).wf = true ∧ (Lit.int .i64 x_Cont_At).wf = true := by
  obtain ⟨g, rfl, hl, hf⟩ := see_struct (fs := _) (by rfl) (sz := 5) (by kernel_rfl) h
  match cs, hl with
  | [c0, c1, c2, c3, c4], _ =>
    have h0 : Sees Try.prog w g 3 [c0] := hf 0 _ rfl
    obtain ⟨x_Base, e0, k0⟩ := see_int (by rfl) h0
    simp only [List.cons.injEq, and_true] at e0
    obtain rfl := e0
    have h1 : Sees Try.prog w g 3 [c1] := hf 1 _ rfl
    obtain ⟨x_Prev, e1, k1⟩ := see_int (by rfl) h1
    simp only [List.cons.injEq, and_true] at e1
    obtain rfl := e1
    have h2 : Sees Try.prog w g 32 [c2] := hf 2 _ rfl
    obtain ⟨x_YP, x_YN, x_YC, cs2, _, _, e2, _⟩ := see_slice (by rfl) (sz := 1) (by kernel_rfl) h2
    simp only [List.cons.injEq, and_true] at e2
    obtain rfl := e2
    have h3 : Sees Try.prog w g 31 [c3, c4] := hf 3 _ rfl
    obtain ⟨g3, x_Cont_Clause, x_Cont_At, e3, k3_0, k3_1⟩ := see_31 h3
    simp only [List.cons.injEq, and_true] at e3
    obtain ⟨rfl, rfl⟩ := e3
    exact ⟨g, x_Base, x_Prev, x_YP, x_YN, x_YC, x_Cont_Clause, x_Cont_At, rfl, k0, k1, ⟨_, h2⟩, k3_0, k3_1⟩

/-- elenchusref22.Env -/
theorem see_94 {w : World} {f : Nat} {cs : List Value} (h : Sees Try.prog w f 94 cs) : ∃ g : Nat, ∃ x_Base : Int, ∃ x_Prev : Int, ∃ x_YP : Option Addr, ∃ x_YN : Nat, ∃ x_YC : Nat, ∃ x_Cont_Clause : Int, ∃ x_Cont_At : Int, cs = [.int .i64 x_Base, .int .i64 x_Prev, .slice x_YP x_YN x_YC, .int .i64 x_Cont_Clause, .int .i64 x_Cont_At] ∧ (Lit.int .i64 x_Base).wf = true ∧ (Lit.int .i64 x_Prev).wf = true ∧ (∃ g, Sees Try.prog w g 32 [.slice x_YP x_YN x_YC]) ∧ (Lit.int .i64 x_Cont_Clause).wf = true ∧ (Lit.int .i64 x_Cont_At).wf = true := by
  obtain ⟨g, rfl, hl, hf⟩ := see_struct (fs := _) (by rfl) (sz := 5) (by kernel_rfl) h
  match cs, hl with
  | [c0, c1, c2, c3, c4], _ =>
    have h0 : Sees Try.prog w g 3 [c0] := hf 0 _ rfl
    obtain ⟨x_Base, e0, k0⟩ := see_int (by rfl) h0
    simp only [List.cons.injEq, and_true] at e0
    obtain rfl := e0
    have h1 : Sees Try.prog w g 3 [c1] := hf 1 _ rfl
    obtain ⟨x_Prev, e1, k1⟩ := see_int (by rfl) h1
    simp only [List.cons.injEq, and_true] at e1
    obtain rfl := e1
    have h2 : Sees Try.prog w g 32 [c2] := hf 2 _ rfl
    obtain ⟨x_YP, x_YN, x_YC, cs2, _, _, e2, _⟩ := see_slice (by rfl) (sz := 1) (by kernel_rfl) h2
    simp only [List.cons.injEq, and_true] at e2
    obtain rfl := e2
    have h3 : Sees Try.prog w g 31 [c3, c4] := hf 3 _ rfl
    obtain ⟨g3, x_Cont_Clause, x_Cont_At, e3, k3_0, k3_1⟩ := see_31 h3
    simp only [List.cons.injEq, and_true] at e3
    obtain ⟨rfl, rfl⟩ := e3
    exact ⟨g, x_Base, x_Prev, x_YP, x_YN, x_YC, x_Cont_Clause, x_Cont_At, rfl, k0, k1, ⟨_, h2⟩, k3_0, k3_1⟩

/-- struct  C api.Choice Env int  -/
theorem see_96 {w : World} {f : Nat} {cs : List Value} (h : Sees Try.prog w f 96 cs) : ∃ g : Nat, ∃ x_C_Kind : Int, ∃ x_C_ArgsP : Option Addr, ∃ x_C_ArgsN : Nat, ∃ x_C_ArgsC : Nat, ∃ x_C_Cont_Clause : Int, ∃ x_C_Cont_At : Int, ∃ x_C_Generation : Int, ∃ x_C_Next : Int, ∃ x_C_Finds : Int, ∃ x_C_Env : Int, ∃ x_C_Top : Int, ∃ x_Env : Int, cs = [.int .i64 x_C_Kind, .slice x_C_ArgsP x_C_ArgsN x_C_ArgsC, .int .i64 x_C_Cont_Clause, .int .i64 x_C_Cont_At, .int .i64 x_C_Generation, .int .i64 x_C_Next, .int .i64 x_C_Finds, .int .i64 x_C_Env, .int .i64 x_C_Top, .int .i64 x_Env] ∧ (Lit.int .i64 x_C_Kind).wf = true ∧ (∃ g, Sees Try.prog w g 32 [.slice x_C_ArgsP x_C_ArgsN x_C_ArgsC]) ∧ (Lit.int .i64 x_C_Cont_Clause).wf = true ∧ (Lit.int .i64 x_C_Cont_At).wf = true ∧ (Lit.int .i64 x_C_Generation).wf = true ∧ (Lit.int .i64 x_C_Next).wf = true ∧ (Lit.int .i64 x_C_Finds).wf = true ∧ (Lit.int .i64 x_C_Env).wf = true ∧ (Lit.int .i64 x_C_Top).wf = true ∧ (Lit.int .i64 x_Env).wf = true := by
  obtain ⟨g, rfl, hl, hf⟩ := see_struct (fs := _) (by rfl) (sz := 10) (by kernel_rfl) h
  match cs, hl with
  | [c0, c1, c2, c3, c4, c5, c6, c7, c8, c9], _ =>
    have h0 : Sees Try.prog w g 34 [c0, c1, c2, c3, c4, c5, c6, c7, c8] := hf 0 _ rfl
    obtain ⟨g0, x_C_Kind, x_C_ArgsP, x_C_ArgsN, x_C_ArgsC, x_C_Cont_Clause, x_C_Cont_At, x_C_Generation, x_C_Next, x_C_Finds, x_C_Env, x_C_Top, e0, k0_0, k0_1, k0_2, k0_3, k0_4, k0_5, k0_6, k0_7, k0_8⟩ := see_34 h0
    simp only [List.cons.injEq, and_true] at e0
    obtain ⟨rfl, rfl, rfl, rfl, rfl, rfl, rfl, rfl, rfl⟩ := e0
    have h1 : Sees Try.prog w g 3 [c9] := hf 1 _ rfl
    obtain ⟨x_Env, e1, k1⟩ := see_int (by rfl) h1
    simp only [List.cons.injEq, and_true] at e1
    obtain rfl := e1
    exact ⟨g, x_C_Kind, x_C_ArgsP, x_C_ArgsN, x_C_ArgsC, x_C_Cont_Clause, x_C_Cont_At, x_C_Generation, x_C_Next, x_C_Finds, x_C_Env, x_C_Top, x_Env, rfl, k0_0, k0_1, k0_2, k0_3, k0_4, k0_5, k0_6, k0_7, k0_8, k1⟩

/-- elenchusref22.Choice -/
theorem see_97 {w : World} {f : Nat} {cs : List Value} (h : Sees Try.prog w f 97 cs) : ∃ g : Nat, ∃ x_C_Kind : Int, ∃ x_C_ArgsP : Option Addr, ∃ x_C_ArgsN : Nat, ∃ x_C_ArgsC : Nat, ∃ x_C_Cont_Clause : Int, ∃ x_C_Cont_At : Int, ∃ x_C_Generation : Int, ∃ x_C_Next : Int, ∃ x_C_Finds : Int, ∃ x_C_Env : Int, ∃ x_C_Top : Int, ∃ x_Env : Int, cs = [.int .i64 x_C_Kind, .slice x_C_ArgsP x_C_ArgsN x_C_ArgsC, .int .i64 x_C_Cont_Clause, .int .i64 x_C_Cont_At, .int .i64 x_C_Generation, .int .i64 x_C_Next, .int .i64 x_C_Finds, .int .i64 x_C_Env, .int .i64 x_C_Top, .int .i64 x_Env] ∧ (Lit.int .i64 x_C_Kind).wf = true ∧ (∃ g, Sees Try.prog w g 32 [.slice x_C_ArgsP x_C_ArgsN x_C_ArgsC]) ∧ (Lit.int .i64 x_C_Cont_Clause).wf = true ∧ (Lit.int .i64 x_C_Cont_At).wf = true ∧ (Lit.int .i64 x_C_Generation).wf = true ∧ (Lit.int .i64 x_C_Next).wf = true ∧ (Lit.int .i64 x_C_Finds).wf = true ∧ (Lit.int .i64 x_C_Env).wf = true ∧ (Lit.int .i64 x_C_Top).wf = true ∧ (Lit.int .i64 x_Env).wf = true := by
  obtain ⟨g, rfl, hl, hf⟩ := see_struct (fs := _) (by rfl) (sz := 10) (by kernel_rfl) h
  match cs, hl with
  | [c0, c1, c2, c3, c4, c5, c6, c7, c8, c9], _ =>
    have h0 : Sees Try.prog w g 34 [c0, c1, c2, c3, c4, c5, c6, c7, c8] := hf 0 _ rfl
    obtain ⟨g0, x_C_Kind, x_C_ArgsP, x_C_ArgsN, x_C_ArgsC, x_C_Cont_Clause, x_C_Cont_At, x_C_Generation, x_C_Next, x_C_Finds, x_C_Env, x_C_Top, e0, k0_0, k0_1, k0_2, k0_3, k0_4, k0_5, k0_6, k0_7, k0_8⟩ := see_34 h0
    simp only [List.cons.injEq, and_true] at e0
    obtain ⟨rfl, rfl, rfl, rfl, rfl, rfl, rfl, rfl, rfl⟩ := e0
    have h1 : Sees Try.prog w g 3 [c9] := hf 1 _ rfl
    obtain ⟨x_Env, e1, k1⟩ := see_int (by rfl) h1
    simp only [List.cons.injEq, and_true] at e1
    obtain rfl := e1
    exact ⟨g, x_C_Kind, x_C_ArgsP, x_C_ArgsN, x_C_ArgsC, x_C_Cont_Clause, x_C_Cont_At, x_C_Generation, x_C_Next, x_C_Finds, x_C_Env, x_C_Top, x_Env, rfl, k0_0, k0_1, k0_2, k0_3, k0_4, k0_5, k0_6, k0_7, k0_8, k1⟩

/-- struct  l []uint64 limit int most int  -/
theorem see_98 {w : World} {f : Nat} {cs : List Value} (h : Sees Try.prog w f 98 cs) : ∃ g : Nat, ∃ x_lP : Option Addr, ∃ x_lN : Nat, ∃ x_lC : Nat, ∃ x_limit : Int, ∃ x_most : Int, cs = [.slice x_lP x_lN x_lC, .int .i64 x_limit, .int .i64 x_most] ∧ (∃ g, Sees Try.prog w g 32 [.slice x_lP x_lN x_lC]) ∧ (Lit.int .i64 x_limit).wf = true ∧ (Lit.int .i64 x_most).wf = true := by
  obtain ⟨g, rfl, hl, hf⟩ := see_struct (fs := _) (by rfl) (sz := 3) (by kernel_rfl) h
  match cs, hl with
  | [c0, c1, c2], _ =>
    have h0 : Sees Try.prog w g 32 [c0] := hf 0 _ rfl
    obtain ⟨x_lP, x_lN, x_lC, cs0, _, _, e0, _⟩ := see_slice (by rfl) (sz := 1) (by kernel_rfl) h0
    simp only [List.cons.injEq, and_true] at e0
    obtain rfl := e0
    have h1 : Sees Try.prog w g 3 [c1] := hf 1 _ rfl
    obtain ⟨x_limit, e1, k1⟩ := see_int (by rfl) h1
    simp only [List.cons.injEq, and_true] at e1
    obtain rfl := e1
    have h2 : Sees Try.prog w g 3 [c2] := hf 2 _ rfl
    obtain ⟨x_most, e2, k2⟩ := see_int (by rfl) h2
    simp only [List.cons.injEq, and_true] at e2
    obtain rfl := e2
    exact ⟨g, x_lP, x_lN, x_lC, x_limit, x_most, rfl, ⟨_, h0⟩, k1, k2⟩

/-- room.Room -/
theorem see_99 {w : World} {f : Nat} {cs : List Value} (h : Sees Try.prog w f 99 cs) : ∃ g : Nat, ∃ x_lP : Option Addr, ∃ x_lN : Nat, ∃ x_lC : Nat, ∃ x_limit : Int, ∃ x_most : Int, cs = [.slice x_lP x_lN x_lC, .int .i64 x_limit, .int .i64 x_most] ∧ (∃ g, Sees Try.prog w g 32 [.slice x_lP x_lN x_lC]) ∧ (Lit.int .i64 x_limit).wf = true ∧ (Lit.int .i64 x_most).wf = true := by
  obtain ⟨g, rfl, hl, hf⟩ := see_struct (fs := _) (by rfl) (sz := 3) (by kernel_rfl) h
  match cs, hl with
  | [c0, c1, c2], _ =>
    have h0 : Sees Try.prog w g 32 [c0] := hf 0 _ rfl
    obtain ⟨x_lP, x_lN, x_lC, cs0, _, _, e0, _⟩ := see_slice (by rfl) (sz := 1) (by kernel_rfl) h0
    simp only [List.cons.injEq, and_true] at e0
    obtain rfl := e0
    have h1 : Sees Try.prog w g 3 [c1] := hf 1 _ rfl
    obtain ⟨x_limit, e1, k1⟩ := see_int (by rfl) h1
    simp only [List.cons.injEq, and_true] at e1
    obtain rfl := e1
    have h2 : Sees Try.prog w g 3 [c2] := hf 2 _ rfl
    obtain ⟨x_most, e2, k2⟩ := see_int (by rfl) h2
    simp only [List.cons.injEq, and_true] at e2
    obtain rfl := e2
    exact ⟨g, x_lP, x_lN, x_lC, x_limit, x_most, rfl, ⟨_, h0⟩, k1, k2⟩

end Go.Proofs.Ytdmjbkpibgfeiaa
