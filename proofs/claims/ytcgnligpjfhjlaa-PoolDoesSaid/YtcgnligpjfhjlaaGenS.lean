/- What the structs that come in are made of. Printed by a program. -/
import Derived.Test.YtcgnligpjfhjlaaOwn6
import Derived.Test.YtcgnligpjfhjlaaProg
set_option maxRecDepth 100000
set_option linter.unusedVariables false
namespace Go.Proofs.Ytcgnligpjfhjlaa
open Go Go.D Go.Proofs

/-- struct  x int64 y int signed bool code abi.BoundsErrorCode  -/
theorem see_7 {w : World} {f : Nat} {cs : List Value} (h : Sees Try.prog w f 7 cs) : ∃ g : Nat, ∃ x_x : Int, ∃ x_y : Int, ∃ x_signed : Bool, ∃ x_code : Int, cs = [.int .i64 x_x, .int .i64 x_y, .bool x_signed, .int .u8 x_code] ∧ (Lit.int .i64 x_x).wf = true ∧ (Lit.int .i64 x_y).wf = true ∧ (Lit.int .u8 x_code).wf = true := by
  obtain ⟨g, rfl, hl, hf⟩ := see_struct (fs := _) (by rfl) (sz := 4) (by kernel_rfl) h
  match cs, hl with
  | [c0, c1, c2, c3], _ =>
    have h0 : Sees Try.prog w g 2 [c0] := hf 0 _ rfl
    obtain ⟨x_x, e0, k0⟩ := see_int (by rfl) h0
    simp only [List.cons.injEq, and_true] at e0
    obtain rfl := e0
    have h1 : Sees Try.prog w g 3 [c1] := hf 1 _ rfl
    obtain ⟨x_y, e1, k1⟩ := see_int (by rfl) h1
    simp only [List.cons.injEq, and_true] at e1
    obtain rfl := e1
    have h2 : Sees Try.prog w g 4 [c2] := hf 2 _ rfl
    obtain ⟨x_signed, e2⟩ := see_bool (by rfl) h2
    simp only [List.cons.injEq, and_true] at e2
    obtain rfl := e2
    have h3 : Sees Try.prog w g 6 [c3] := hf 3 _ rfl
    obtain ⟨x_code, e3, k3⟩ := see_int (by rfl) h3
    simp only [List.cons.injEq, and_true] at e3
    obtain rfl := e3
    exact ⟨g, x_x, x_y, x_signed, x_code, rfl, k0, k1, k3⟩

/-- runtime.boundsError -/
theorem see_8 {w : World} {f : Nat} {cs : List Value} (h : Sees Try.prog w f 8 cs) : ∃ g : Nat, ∃ x_x : Int, ∃ x_y : Int, ∃ x_signed : Bool, ∃ x_code : Int, cs = [.int .i64 x_x, .int .i64 x_y, .bool x_signed, .int .u8 x_code] ∧ (Lit.int .i64 x_x).wf = true ∧ (Lit.int .i64 x_y).wf = true ∧ (Lit.int .u8 x_code).wf = true := by
  obtain ⟨g, rfl, hl, hf⟩ := see_struct (fs := _) (by rfl) (sz := 4) (by kernel_rfl) h
  match cs, hl with
  | [c0, c1, c2, c3], _ =>
    have h0 : Sees Try.prog w g 2 [c0] := hf 0 _ rfl
    obtain ⟨x_x, e0, k0⟩ := see_int (by rfl) h0
    simp only [List.cons.injEq, and_true] at e0
    obtain rfl := e0
    have h1 : Sees Try.prog w g 3 [c1] := hf 1 _ rfl
    obtain ⟨x_y, e1, k1⟩ := see_int (by rfl) h1
    simp only [List.cons.injEq, and_true] at e1
    obtain rfl := e1
    have h2 : Sees Try.prog w g 4 [c2] := hf 2 _ rfl
    obtain ⟨x_signed, e2⟩ := see_bool (by rfl) h2
    simp only [List.cons.injEq, and_true] at e2
    obtain rfl := e2
    have h3 : Sees Try.prog w g 6 [c3] := hf 3 _ rfl
    obtain ⟨x_code, e3, k3⟩ := see_int (by rfl) h3
    simp only [List.cons.injEq, and_true] at e3
    obtain rfl := e3
    exact ⟨g, x_x, x_y, x_signed, x_code, rfl, k0, k1, k3⟩

/-- struct  msg string addr uintptr  -/
theorem see_13 {w : World} {f : Nat} {cs : List Value} (h : Sees Try.prog w f 13 cs) : ∃ g : Nat, ∃ x_msg : ByteArray, ∃ x_addr : Int, cs = [.string x_msg, .int .u64 x_addr] ∧ x_msg.size ≤ maxLen ∧ (Lit.int .u64 x_addr).wf = true := by
  obtain ⟨g, rfl, hl, hf⟩ := see_struct (fs := _) (by rfl) (sz := 2) (by kernel_rfl) h
  match cs, hl with
  | [c0, c1], _ =>
    have h0 : Sees Try.prog w g 9 [c0] := hf 0 _ rfl
    obtain ⟨x_msg, e0, k0⟩ := see_string (by rfl) h0
    simp only [List.cons.injEq, and_true] at e0
    obtain rfl := e0
    have h1 : Sees Try.prog w g 12 [c1] := hf 1 _ rfl
    obtain ⟨x_addr, e1, k1⟩ := see_int (by rfl) h1
    simp only [List.cons.injEq, and_true] at e1
    obtain rfl := e1
    exact ⟨g, x_msg, x_addr, rfl, k0, k1⟩

/-- runtime.errorAddressString -/
theorem see_14 {w : World} {f : Nat} {cs : List Value} (h : Sees Try.prog w f 14 cs) : ∃ g : Nat, ∃ x_msg : ByteArray, ∃ x_addr : Int, cs = [.string x_msg, .int .u64 x_addr] ∧ x_msg.size ≤ maxLen ∧ (Lit.int .u64 x_addr).wf = true := by
  obtain ⟨g, rfl, hl, hf⟩ := see_struct (fs := _) (by rfl) (sz := 2) (by kernel_rfl) h
  match cs, hl with
  | [c0, c1], _ =>
    have h0 : Sees Try.prog w g 9 [c0] := hf 0 _ rfl
    obtain ⟨x_msg, e0, k0⟩ := see_string (by rfl) h0
    simp only [List.cons.injEq, and_true] at e0
    obtain rfl := e0
    have h1 : Sees Try.prog w g 12 [c1] := hf 1 _ rfl
    obtain ⟨x_addr, e1, k1⟩ := see_int (by rfl) h1
    simp only [List.cons.injEq, and_true] at e1
    obtain rfl := e1
    exact ⟨g, x_msg, x_addr, rfl, k0, k1⟩

/-- struct  Kind int At int N int  -/
theorem see_29 {w : World} {f : Nat} {cs : List Value} (h : Sees Try.prog w f 29 cs) : ∃ g : Nat, ∃ x_Kind : Int, ∃ x_At : Int, ∃ x_N : Int, cs = [.int .i64 x_Kind, .int .i64 x_At, .int .i64 x_N] ∧ (Lit.int .i64 x_Kind).wf = true ∧ (Lit.int .i64 x_At).wf = true ∧ (Lit.int .i64 x_N).wf = true := by
  obtain ⟨g, rfl, hl, hf⟩ := see_struct (fs := _) (by rfl) (sz := 3) (by kernel_rfl) h
  match cs, hl with
  | [c0, c1, c2], _ =>
    have h0 : Sees Try.prog w g 3 [c0] := hf 0 _ rfl
    obtain ⟨x_Kind, e0, k0⟩ := see_int (by rfl) h0
    simp only [List.cons.injEq, and_true] at e0
    obtain rfl := e0
    have h1 : Sees Try.prog w g 3 [c1] := hf 1 _ rfl
    obtain ⟨x_At, e1, k1⟩ := see_int (by rfl) h1
    simp only [List.cons.injEq, and_true] at e1
    obtain rfl := e1
    have h2 : Sees Try.prog w g 3 [c2] := hf 2 _ rfl
    obtain ⟨x_N, e2, k2⟩ := see_int (by rfl) h2
    simp only [List.cons.injEq, and_true] at e2
    obtain rfl := e2
    exact ⟨g, x_Kind, x_At, x_N, rfl, k0, k1, k2⟩

/-- elenchuslaw03.Op -/
theorem see_30 {w : World} {f : Nat} {cs : List Value} (h : Sees Try.prog w f 30 cs) : ∃ g : Nat, ∃ x_Kind : Int, ∃ x_At : Int, ∃ x_N : Int, cs = [.int .i64 x_Kind, .int .i64 x_At, .int .i64 x_N] ∧ (Lit.int .i64 x_Kind).wf = true ∧ (Lit.int .i64 x_At).wf = true ∧ (Lit.int .i64 x_N).wf = true := by
  obtain ⟨g, rfl, hl, hf⟩ := see_struct (fs := _) (by rfl) (sz := 3) (by kernel_rfl) h
  match cs, hl with
  | [c0, c1, c2], _ =>
    have h0 : Sees Try.prog w g 3 [c0] := hf 0 _ rfl
    obtain ⟨x_Kind, e0, k0⟩ := see_int (by rfl) h0
    simp only [List.cons.injEq, and_true] at e0
    obtain rfl := e0
    have h1 : Sees Try.prog w g 3 [c1] := hf 1 _ rfl
    obtain ⟨x_At, e1, k1⟩ := see_int (by rfl) h1
    simp only [List.cons.injEq, and_true] at e1
    obtain rfl := e1
    have h2 : Sees Try.prog w g 3 [c2] := hf 2 _ rfl
    obtain ⟨x_N, e2, k2⟩ := see_int (by rfl) h2
    simp only [List.cons.injEq, and_true] at e2
    obtain rfl := e2
    exact ⟨g, x_Kind, x_At, x_N, rfl, k0, k1, k2⟩

/-- struct  start int runs []api.Row  -/
theorem see_52 {w : World} {f : Nat} {cs : List Value} (h : Sees Try.prog w f 52 cs) : ∃ g : Nat, ∃ x_start : Int, ∃ x_runsP : Option Addr, ∃ x_runsN : Nat, ∃ x_runsC : Nat, cs = [.int .i64 x_start, .slice x_runsP x_runsN x_runsC] ∧ (Lit.int .i64 x_start).wf = true ∧ (∃ g, Sees Try.prog w g 40 [.slice x_runsP x_runsN x_runsC]) := by
  obtain ⟨g, rfl, hl, hf⟩ := see_struct (fs := _) (by rfl) (sz := 2) (by kernel_rfl) h
  match cs, hl with
  | [c0, c1], _ =>
    have h0 : Sees Try.prog w g 3 [c0] := hf 0 _ rfl
    obtain ⟨x_start, e0, k0⟩ := see_int (by rfl) h0
    simp only [List.cons.injEq, and_true] at e0
    obtain rfl := e0
    have h1 : Sees Try.prog w g 40 [c1] := hf 1 _ rfl
    obtain ⟨x_runsP, x_runsN, x_runsC, cs1, _, _, e1, _⟩ := see_slice (by rfl) (sz := 2) (by kernel_rfl) h1
    simp only [List.cons.injEq, and_true] at e1
    obtain rfl := e1
    exact ⟨g, x_start, x_runsP, x_runsN, x_runsC, rfl, k0, ⟨_, h1⟩⟩

/-- pool.segment -/
theorem see_53 {w : World} {f : Nat} {cs : List Value} (h : Sees Try.prog w f 53 cs) : ∃ g : Nat, ∃ x_start : Int, ∃ x_runsP : Option Addr, ∃ x_runsN : Nat, ∃ x_runsC : Nat, cs = [.int .i64 x_start, .slice x_runsP x_runsN x_runsC] ∧ (Lit.int .i64 x_start).wf = true ∧ (∃ g, Sees Try.prog w g 40 [.slice x_runsP x_runsN x_runsC]) := by
  obtain ⟨g, rfl, hl, hf⟩ := see_struct (fs := _) (by rfl) (sz := 2) (by kernel_rfl) h
  match cs, hl with
  | [c0, c1], _ =>
    have h0 : Sees Try.prog w g 3 [c0] := hf 0 _ rfl
    obtain ⟨x_start, e0, k0⟩ := see_int (by rfl) h0
    simp only [List.cons.injEq, and_true] at e0
    obtain rfl := e0
    have h1 : Sees Try.prog w g 40 [c1] := hf 1 _ rfl
    obtain ⟨x_runsP, x_runsN, x_runsC, cs1, _, _, e1, _⟩ := see_slice (by rfl) (sz := 2) (by kernel_rfl) h1
    simp only [List.cons.injEq, and_true] at e1
    obtain rfl := e1
    exact ⟨g, x_start, x_runsP, x_runsN, x_runsC, rfl, k0, ⟨_, h1⟩⟩

/-- struct  l []pool.segment top int limit int  -/
theorem see_55 {w : World} {f : Nat} {cs : List Value} (h : Sees Try.prog w f 55 cs) : ∃ g : Nat, ∃ x_lP : Option Addr, ∃ x_lN : Nat, ∃ x_lC : Nat, ∃ x_top : Int, ∃ x_limit : Int, cs = [.slice x_lP x_lN x_lC, .int .i64 x_top, .int .i64 x_limit] ∧ (∃ g, Sees Try.prog w g 54 [.slice x_lP x_lN x_lC]) ∧ (Lit.int .i64 x_top).wf = true ∧ (Lit.int .i64 x_limit).wf = true := by
  obtain ⟨g, rfl, hl, hf⟩ := see_struct (fs := _) (by rfl) (sz := 3) (by kernel_rfl) h
  match cs, hl with
  | [c0, c1, c2], _ =>
    have h0 : Sees Try.prog w g 54 [c0] := hf 0 _ rfl
    obtain ⟨x_lP, x_lN, x_lC, cs0, _, _, e0, _⟩ := see_slice (by rfl) (sz := 2) (by kernel_rfl) h0
    simp only [List.cons.injEq, and_true] at e0
    obtain rfl := e0
    have h1 : Sees Try.prog w g 3 [c1] := hf 1 _ rfl
    obtain ⟨x_top, e1, k1⟩ := see_int (by rfl) h1
    simp only [List.cons.injEq, and_true] at e1
    obtain rfl := e1
    have h2 : Sees Try.prog w g 3 [c2] := hf 2 _ rfl
    obtain ⟨x_limit, e2, k2⟩ := see_int (by rfl) h2
    simp only [List.cons.injEq, and_true] at e2
    obtain rfl := e2
    exact ⟨g, x_lP, x_lN, x_lC, x_top, x_limit, rfl, ⟨_, h0⟩, k1, k2⟩

/-- pool.Pool -/
theorem see_56 {w : World} {f : Nat} {cs : List Value} (h : Sees Try.prog w f 56 cs) : ∃ g : Nat, ∃ x_lP : Option Addr, ∃ x_lN : Nat, ∃ x_lC : Nat, ∃ x_top : Int, ∃ x_limit : Int, cs = [.slice x_lP x_lN x_lC, .int .i64 x_top, .int .i64 x_limit] ∧ (∃ g, Sees Try.prog w g 54 [.slice x_lP x_lN x_lC]) ∧ (Lit.int .i64 x_top).wf = true ∧ (Lit.int .i64 x_limit).wf = true := by
  obtain ⟨g, rfl, hl, hf⟩ := see_struct (fs := _) (by rfl) (sz := 3) (by kernel_rfl) h
  match cs, hl with
  | [c0, c1, c2], _ =>
    have h0 : Sees Try.prog w g 54 [c0] := hf 0 _ rfl
    obtain ⟨x_lP, x_lN, x_lC, cs0, _, _, e0, _⟩ := see_slice (by rfl) (sz := 2) (by kernel_rfl) h0
    simp only [List.cons.injEq, and_true] at e0
    obtain rfl := e0
    have h1 : Sees Try.prog w g 3 [c1] := hf 1 _ rfl
    obtain ⟨x_top, e1, k1⟩ := see_int (by rfl) h1
    simp only [List.cons.injEq, and_true] at e1
    obtain rfl := e1
    have h2 : Sees Try.prog w g 3 [c2] := hf 2 _ rfl
    obtain ⟨x_limit, e2, k2⟩ := see_int (by rfl) h2
    simp only [List.cons.injEq, and_true] at e2
    obtain rfl := e2
    exact ⟨g, x_lP, x_lN, x_lC, x_top, x_limit, rfl, ⟨_, h0⟩, k1, k2⟩

/-- struct  At int Len int  -/
theorem see_57 {w : World} {f : Nat} {cs : List Value} (h : Sees Try.prog w f 57 cs) : ∃ g : Nat, ∃ x_At : Int, ∃ x_Len : Int, cs = [.int .i64 x_At, .int .i64 x_Len] ∧ (Lit.int .i64 x_At).wf = true ∧ (Lit.int .i64 x_Len).wf = true := by
  obtain ⟨g, rfl, hl, hf⟩ := see_struct (fs := _) (by rfl) (sz := 2) (by kernel_rfl) h
  match cs, hl with
  | [c0, c1], _ =>
    have h0 : Sees Try.prog w g 3 [c0] := hf 0 _ rfl
    obtain ⟨x_At, e0, k0⟩ := see_int (by rfl) h0
    simp only [List.cons.injEq, and_true] at e0
    obtain rfl := e0
    have h1 : Sees Try.prog w g 3 [c1] := hf 1 _ rfl
    obtain ⟨x_Len, e1, k1⟩ := see_int (by rfl) h1
    simp only [List.cons.injEq, and_true] at e1
    obtain rfl := e1
    exact ⟨g, x_At, x_Len, rfl, k0, k1⟩

/-- api.Row -/
theorem see_58 {w : World} {f : Nat} {cs : List Value} (h : Sees Try.prog w f 58 cs) : ∃ g : Nat, ∃ x_At : Int, ∃ x_Len : Int, cs = [.int .i64 x_At, .int .i64 x_Len] ∧ (Lit.int .i64 x_At).wf = true ∧ (Lit.int .i64 x_Len).wf = true := by
  obtain ⟨g, rfl, hl, hf⟩ := see_struct (fs := _) (by rfl) (sz := 2) (by kernel_rfl) h
  match cs, hl with
  | [c0, c1], _ =>
    have h0 : Sees Try.prog w g 3 [c0] := hf 0 _ rfl
    obtain ⟨x_At, e0, k0⟩ := see_int (by rfl) h0
    simp only [List.cons.injEq, and_true] at e0
    obtain rfl := e0
    have h1 : Sees Try.prog w g 3 [c1] := hf 1 _ rfl
    obtain ⟨x_Len, e1, k1⟩ := see_int (by rfl) h1
    simp only [List.cons.injEq, and_true] at e1
    obtain rfl := e1
    exact ⟨g, x_At, x_Len, rfl, k0, k1⟩

/-- struct  F []bool Starts []int Limit int  -/
theorem see_69 {w : World} {f : Nat} {cs : List Value} (h : Sees Try.prog w f 69 cs) : ∃ g : Nat, ∃ x_FP : Option Addr, ∃ x_FN : Nat, ∃ x_FC : Nat, ∃ x_StartsP : Option Addr, ∃ x_StartsN : Nat, ∃ x_StartsC : Nat, ∃ x_Limit : Int, cs = [.slice x_FP x_FN x_FC, .slice x_StartsP x_StartsN x_StartsC, .int .i64 x_Limit] ∧ (∃ g, Sees Try.prog w g 68 [.slice x_FP x_FN x_FC]) ∧ (∃ g, Sees Try.prog w g 33 [.slice x_StartsP x_StartsN x_StartsC]) ∧ (Lit.int .i64 x_Limit).wf = true := by
  obtain ⟨g, rfl, hl, hf⟩ := see_struct (fs := _) (by rfl) (sz := 3) (by kernel_rfl) h
  match cs, hl with
  | [c0, c1, c2], _ =>
    have h0 : Sees Try.prog w g 68 [c0] := hf 0 _ rfl
    obtain ⟨x_FP, x_FN, x_FC, cs0, _, _, e0, _⟩ := see_slice (by rfl) (sz := 1) (by kernel_rfl) h0
    simp only [List.cons.injEq, and_true] at e0
    obtain rfl := e0
    have h1 : Sees Try.prog w g 33 [c1] := hf 1 _ rfl
    obtain ⟨x_StartsP, x_StartsN, x_StartsC, cs1, _, _, e1, _⟩ := see_slice (by rfl) (sz := 1) (by kernel_rfl) h1
    simp only [List.cons.injEq, and_true] at e1
    obtain rfl := e1
    have h2 : Sees Try.prog w g 3 [c2] := hf 2 _ rfl
    obtain ⟨x_Limit, e2, k2⟩ := see_int (by rfl) h2
    simp only [List.cons.injEq, and_true] at e2
    obtain rfl := e2
    exact ⟨g, x_FP, x_FN, x_FC, x_StartsP, x_StartsN, x_StartsC, x_Limit, rfl, ⟨_, h0⟩, ⟨_, h1⟩, k2⟩

/-- elenchusref03.Pool -/
theorem see_70 {w : World} {f : Nat} {cs : List Value} (h : Sees Try.prog w f 70 cs) : ∃ g : Nat, ∃ x_FP : Option Addr, ∃ x_FN : Nat, ∃ x_FC : Nat, ∃ x_StartsP : Option Addr, ∃ x_StartsN : Nat, ∃ x_StartsC : Nat, ∃ x_Limit : Int, cs = [.slice x_FP x_FN x_FC, .slice x_StartsP x_StartsN x_StartsC, .int .i64 x_Limit] ∧ (∃ g, Sees Try.prog w g 68 [.slice x_FP x_FN x_FC]) ∧ (∃ g, Sees Try.prog w g 33 [.slice x_StartsP x_StartsN x_StartsC]) ∧ (Lit.int .i64 x_Limit).wf = true := by
  obtain ⟨g, rfl, hl, hf⟩ := see_struct (fs := _) (by rfl) (sz := 3) (by kernel_rfl) h
  match cs, hl with
  | [c0, c1, c2], _ =>
    have h0 : Sees Try.prog w g 68 [c0] := hf 0 _ rfl
    obtain ⟨x_FP, x_FN, x_FC, cs0, _, _, e0, _⟩ := see_slice (by rfl) (sz := 1) (by kernel_rfl) h0
    simp only [List.cons.injEq, and_true] at e0
    obtain rfl := e0
    have h1 : Sees Try.prog w g 33 [c1] := hf 1 _ rfl
    obtain ⟨x_StartsP, x_StartsN, x_StartsC, cs1, _, _, e1, _⟩ := see_slice (by rfl) (sz := 1) (by kernel_rfl) h1
    simp only [List.cons.injEq, and_true] at e1
    obtain rfl := e1
    have h2 : Sees Try.prog w g 3 [c2] := hf 2 _ rfl
    obtain ⟨x_Limit, e2, k2⟩ := see_int (by rfl) h2
    simp only [List.cons.injEq, and_true] at e2
    obtain rfl := e2
    exact ⟨g, x_FP, x_FN, x_FC, x_StartsP, x_StartsN, x_StartsC, x_Limit, rfl, ⟨_, h0⟩, ⟨_, h1⟩, k2⟩

/-- struct  n int asked []int  -/
theorem see_78 {w : World} {f : Nat} {cs : List Value} (h : Sees Try.prog w f 78 cs) : ∃ g : Nat, ∃ x_n : Int, ∃ x_askedP : Option Addr, ∃ x_askedN : Nat, ∃ x_askedC : Nat, cs = [.int .i64 x_n, .slice x_askedP x_askedN x_askedC] ∧ (Lit.int .i64 x_n).wf = true ∧ (∃ g, Sees Try.prog w g 33 [.slice x_askedP x_askedN x_askedC]) := by
  obtain ⟨g, rfl, hl, hf⟩ := see_struct (fs := _) (by rfl) (sz := 2) (by kernel_rfl) h
  match cs, hl with
  | [c0, c1], _ =>
    have h0 : Sees Try.prog w g 3 [c0] := hf 0 _ rfl
    obtain ⟨x_n, e0, k0⟩ := see_int (by rfl) h0
    simp only [List.cons.injEq, and_true] at e0
    obtain rfl := e0
    have h1 : Sees Try.prog w g 33 [c1] := hf 1 _ rfl
    obtain ⟨x_askedP, x_askedN, x_askedC, cs1, _, _, e1, _⟩ := see_slice (by rfl) (sz := 1) (by kernel_rfl) h1
    simp only [List.cons.injEq, and_true] at e1
    obtain rfl := e1
    exact ⟨g, x_n, x_askedP, x_askedN, x_askedC, rfl, k0, ⟨_, h1⟩⟩

/-- elenchuslaw03.sweeper -/
theorem see_79 {w : World} {f : Nat} {cs : List Value} (h : Sees Try.prog w f 79 cs) : ∃ g : Nat, ∃ x_n : Int, ∃ x_askedP : Option Addr, ∃ x_askedN : Nat, ∃ x_askedC : Nat, cs = [.int .i64 x_n, .slice x_askedP x_askedN x_askedC] ∧ (Lit.int .i64 x_n).wf = true ∧ (∃ g, Sees Try.prog w g 33 [.slice x_askedP x_askedN x_askedC]) := by
  obtain ⟨g, rfl, hl, hf⟩ := see_struct (fs := _) (by rfl) (sz := 2) (by kernel_rfl) h
  match cs, hl with
  | [c0, c1], _ =>
    have h0 : Sees Try.prog w g 3 [c0] := hf 0 _ rfl
    obtain ⟨x_n, e0, k0⟩ := see_int (by rfl) h0
    simp only [List.cons.injEq, and_true] at e0
    obtain rfl := e0
    have h1 : Sees Try.prog w g 33 [c1] := hf 1 _ rfl
    obtain ⟨x_askedP, x_askedN, x_askedC, cs1, _, _, e1, _⟩ := see_slice (by rfl) (sz := 1) (by kernel_rfl) h1
    simp only [List.cons.injEq, and_true] at e1
    obtain rfl := e1
    exact ⟨g, x_n, x_askedP, x_askedN, x_askedC, rfl, k0, ⟨_, h1⟩⟩

end Go.Proofs.Ytcgnligpjfhjlaa
