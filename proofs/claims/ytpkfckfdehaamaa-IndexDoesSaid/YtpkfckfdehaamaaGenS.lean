/- What the structs that come in are made of. Printed by a program. -/
import Derived.Test.YtpkfckfdehaamaaOwn6
import Derived.Test.YtpkfckfdehaamaaProg
set_option maxRecDepth 100000
set_option linter.unusedVariables false
namespace Go.Proofs.Ytpkfckfdehaamaa
open Go Go.D Go.Proofs

/-- struct  x int64 y int signed bool code abi.BoundsErrorCode  -/
theorem see_7 {w : World} {f : Nat} {cs : List Value} (h : Sees Try.prog w f 7 cs) : ∃ g : Nat, ∃ x_x : Int, ∃ x_y : Int, ∃ x_signed : Bool, ∃ x_code : Int, cs = [.int .i64 x_x, .int .i64 x_y, .bool x_signed, .int .u8 x_code] ∧ (Lit.int .i64 x_x).wf = true ∧ (Lit.int .i64 x_y).wf = true ∧ (Lit.int .u8 x_code).wf = true := by
  obtain ⟨g, rfl, hl, hf⟩ := see_struct (fs := _) (by rfl) (sz := 4) (by kernel_rfl) h
  match cs, hl with
  | [c0, c1, c2, c3], _ =>
    have h0 : Sees Try.prog w g 2 [c0] := hf 0 _ rfl
    obtain ⟨x_x, e0, k0⟩ := see_int (by rfl) h0
    simp only [List.cons.injEq, and_true] at e0
    obtain rfl := e0
    have h1 : Sees Try.prog w g 3 [c1] := hf 1 _ rfl
    obtain ⟨x_y, e1, k1⟩ := see_int (by rfl) h1
    simp only [List.cons.injEq, and_true] at e1
    obtain rfl := e1
    have h2 : Sees Try.prog w g 4 [c2] := hf 2 _ rfl
    obtain ⟨x_signed, e2⟩ := see_bool (by rfl) h2
    simp only [List.cons.injEq, and_true] at e2
    obtain rfl := e2
    have h3 : Sees Try.prog w g 6 [c3] := hf 3 _ rfl
    obtain ⟨x_code, e3, k3⟩ := see_int (by rfl) h3
    simp only [List.cons.injEq, and_true] at e3
    obtain rfl := e3
    exact ⟨g, x_x, x_y, x_signed, x_code, rfl, k0, k1, k3⟩

/-- runtime.boundsError -/
theorem see_8 {w : World} {f : Nat} {cs : List Value} (h : Sees Try.prog w f 8 cs) : ∃ g : Nat, ∃ x_x : Int, ∃ x_y : Int, ∃ x_signed : Bool, ∃ x_code : Int, cs = [.int .i64 x_x, .int .i64 x_y, .bool x_signed, .int .u8 x_code] ∧ (Lit.int .i64 x_x).wf = true ∧ (Lit.int .i64 x_y).wf = true ∧ (Lit.int .u8 x_code).wf = true := by
  obtain ⟨g, rfl, hl, hf⟩ := see_struct (fs := _) (by rfl) (sz := 4) (by kernel_rfl) h
  match cs, hl with
  | [c0, c1, c2, c3], _ =>
    have h0 : Sees Try.prog w g 2 [c0] := hf 0 _ rfl
    obtain ⟨x_x, e0, k0⟩ := see_int (by rfl) h0
    simp only [List.cons.injEq, and_true] at e0
    obtain rfl := e0
    have h1 : Sees Try.prog w g 3 [c1] := hf 1 _ rfl
    obtain ⟨x_y, e1, k1⟩ := see_int (by rfl) h1
    simp only [List.cons.injEq, and_true] at e1
    obtain rfl := e1
    have h2 : Sees Try.prog w g 4 [c2] := hf 2 _ rfl
    obtain ⟨x_signed, e2⟩ := see_bool (by rfl) h2
    simp only [List.cons.injEq, and_true] at e2
    obtain rfl := e2
    have h3 : Sees Try.prog w g 6 [c3] := hf 3 _ rfl
    obtain ⟨x_code, e3, k3⟩ := see_int (by rfl) h3
    simp only [List.cons.injEq, and_true] at e3
    obtain rfl := e3
    exact ⟨g, x_x, x_y, x_signed, x_code, rfl, k0, k1, k3⟩

/-- struct  msg string addr uintptr  -/
theorem see_13 {w : World} {f : Nat} {cs : List Value} (h : Sees Try.prog w f 13 cs) : ∃ g : Nat, ∃ x_msg : ByteArray, ∃ x_addr : Int, cs = [.string x_msg, .int .u64 x_addr] ∧ x_msg.size ≤ maxLen ∧ (Lit.int .u64 x_addr).wf = true := by
  obtain ⟨g, rfl, hl, hf⟩ := see_struct (fs := _) (by rfl) (sz := 2) (by kernel_rfl) h
  match cs, hl with
  | [c0, c1], _ =>
    have h0 : Sees Try.prog w g 9 [c0] := hf 0 _ rfl
    obtain ⟨x_msg, e0, k0⟩ := see_string (by rfl) h0
    simp only [List.cons.injEq, and_true] at e0
    obtain rfl := e0
    have h1 : Sees Try.prog w g 12 [c1] := hf 1 _ rfl
    obtain ⟨x_addr, e1, k1⟩ := see_int (by rfl) h1
    simp only [List.cons.injEq, and_true] at e1
    obtain rfl := e1
    exact ⟨g, x_msg, x_addr, rfl, k0, k1⟩

/-- runtime.errorAddressString -/
theorem see_14 {w : World} {f : Nat} {cs : List Value} (h : Sees Try.prog w f 14 cs) : ∃ g : Nat, ∃ x_msg : ByteArray, ∃ x_addr : Int, cs = [.string x_msg, .int .u64 x_addr] ∧ x_msg.size ≤ maxLen ∧ (Lit.int .u64 x_addr).wf = true := by
  obtain ⟨g, rfl, hl, hf⟩ := see_struct (fs := _) (by rfl) (sz := 2) (by kernel_rfl) h
  match cs, hl with
  | [c0, c1], _ =>
    have h0 : Sees Try.prog w g 9 [c0] := hf 0 _ rfl
    obtain ⟨x_msg, e0, k0⟩ := see_string (by rfl) h0
    simp only [List.cons.injEq, and_true] at e0
    obtain rfl := e0
    have h1 : Sees Try.prog w g 12 [c1] := hf 1 _ rfl
    obtain ⟨x_addr, e1, k1⟩ := see_int (by rfl) h1
    simp only [List.cons.injEq, and_true] at e1
    obtain rfl := e1
    exact ⟨g, x_msg, x_addr, rfl, k0, k1⟩

/-- struct  Kind int N int S string L []api.Term  -/
theorem see_23 {w : World} {f : Nat} {cs : List Value} (h : Sees Try.prog w f 23 cs) : ∃ g : Nat, ∃ x_Kind : Int, ∃ x_N : Int, ∃ x_S : ByteArray, ∃ x_LP : Option Addr, ∃ x_LN : Nat, ∃ x_LC : Nat, cs = [.int .i64 x_Kind, .int .i64 x_N, .string x_S, .slice x_LP x_LN x_LC] ∧ (Lit.int .i64 x_Kind).wf = true ∧ (Lit.int .i64 x_N).wf = true ∧ x_S.size ≤ maxLen ∧ (∃ g, Sees Try.prog w g 22 [.slice x_LP x_LN x_LC]) := by
  obtain ⟨g, rfl, hl, hf⟩ := see_struct (fs := _) (by rfl) (sz := 4) (by kernel_rfl) h
  match cs, hl with
  | [c0, c1, c2, c3], _ =>
    have h0 : Sees Try.prog w g 3 [c0] := hf 0 _ rfl
    obtain ⟨x_Kind, e0, k0⟩ := see_int (by rfl) h0
    simp only [List.cons.injEq, and_true] at e0
    obtain rfl := e0
    have h1 : Sees Try.prog w g 3 [c1] := hf 1 _ rfl
    obtain ⟨x_N, e1, k1⟩ := see_int (by rfl) h1
    simp only [List.cons.injEq, and_true] at e1
    obtain rfl := e1
    have h2 : Sees Try.prog w g 9 [c2] := hf 2 _ rfl
    obtain ⟨x_S, e2, k2⟩ := see_string (by rfl) h2
    simp only [List.cons.injEq, and_true] at e2
    obtain rfl := e2
    have h3 : Sees Try.prog w g 22 [c3] := hf 3 _ rfl
    obtain ⟨x_LP, x_LN, x_LC, cs3, _, _, e3, _⟩ := see_slice (by rfl) (sz := 4) (by kernel_rfl) h3
    simp only [List.cons.injEq, and_true] at e3
    obtain rfl := e3
    exact ⟨g, x_Kind, x_N, x_S, x_LP, x_LN, x_LC, rfl, k0, k1, k2, ⟨_, h3⟩⟩

/-- api.Term -/
theorem see_24 {w : World} {f : Nat} {cs : List Value} (h : Sees Try.prog w f 24 cs) : ∃ g : Nat, ∃ x_Kind : Int, ∃ x_N : Int, ∃ x_S : ByteArray, ∃ x_LP : Option Addr, ∃ x_LN : Nat, ∃ x_LC : Nat, cs = [.int .i64 x_Kind, .int .i64 x_N, .string x_S, .slice x_LP x_LN x_LC] ∧ (Lit.int .i64 x_Kind).wf = true ∧ (Lit.int .i64 x_N).wf = true ∧ x_S.size ≤ maxLen ∧ (∃ g, Sees Try.prog w g 22 [.slice x_LP x_LN x_LC]) := by
  obtain ⟨g, rfl, hl, hf⟩ := see_struct (fs := _) (by rfl) (sz := 4) (by kernel_rfl) h
  match cs, hl with
  | [c0, c1, c2, c3], _ =>
    have h0 : Sees Try.prog w g 3 [c0] := hf 0 _ rfl
    obtain ⟨x_Kind, e0, k0⟩ := see_int (by rfl) h0
    simp only [List.cons.injEq, and_true] at e0
    obtain rfl := e0
    have h1 : Sees Try.prog w g 3 [c1] := hf 1 _ rfl
    obtain ⟨x_N, e1, k1⟩ := see_int (by rfl) h1
    simp only [List.cons.injEq, and_true] at e1
    obtain rfl := e1
    have h2 : Sees Try.prog w g 9 [c2] := hf 2 _ rfl
    obtain ⟨x_S, e2, k2⟩ := see_string (by rfl) h2
    simp only [List.cons.injEq, and_true] at e2
    obtain rfl := e2
    have h3 : Sees Try.prog w g 22 [c3] := hf 3 _ rfl
    obtain ⟨x_LP, x_LN, x_LC, cs3, _, _, e3, _⟩ := see_slice (by rfl) (sz := 4) (by kernel_rfl) h3
    simp only [List.cons.injEq, and_true] at e3
    obtain rfl := e3
    exact ⟨g, x_Kind, x_N, x_S, x_LP, x_LN, x_LC, rfl, k0, k1, k2, ⟨_, h3⟩⟩

/-- struct  Kind int S string N int  -/
theorem see_25 {w : World} {f : Nat} {cs : List Value} (h : Sees Try.prog w f 25 cs) : ∃ g : Nat, ∃ x_Kind : Int, ∃ x_S : ByteArray, ∃ x_N : Int, cs = [.int .i64 x_Kind, .string x_S, .int .i64 x_N] ∧ (Lit.int .i64 x_Kind).wf = true ∧ x_S.size ≤ maxLen ∧ (Lit.int .i64 x_N).wf = true := by
  obtain ⟨g, rfl, hl, hf⟩ := see_struct (fs := _) (by rfl) (sz := 3) (by kernel_rfl) h
  match cs, hl with
  | [c0, c1, c2], _ =>
    have h0 : Sees Try.prog w g 3 [c0] := hf 0 _ rfl
    obtain ⟨x_Kind, e0, k0⟩ := see_int (by rfl) h0
    simp only [List.cons.injEq, and_true] at e0
    obtain rfl := e0
    have h1 : Sees Try.prog w g 9 [c1] := hf 1 _ rfl
    obtain ⟨x_S, e1, k1⟩ := see_string (by rfl) h1
    simp only [List.cons.injEq, and_true] at e1
    obtain rfl := e1
    have h2 : Sees Try.prog w g 3 [c2] := hf 2 _ rfl
    obtain ⟨x_N, e2, k2⟩ := see_int (by rfl) h2
    simp only [List.cons.injEq, and_true] at e2
    obtain rfl := e2
    exact ⟨g, x_Kind, x_S, x_N, rfl, k0, k1, k2⟩

/-- api.Key -/
theorem see_26 {w : World} {f : Nat} {cs : List Value} (h : Sees Try.prog w f 26 cs) : ∃ g : Nat, ∃ x_Kind : Int, ∃ x_S : ByteArray, ∃ x_N : Int, cs = [.int .i64 x_Kind, .string x_S, .int .i64 x_N] ∧ (Lit.int .i64 x_Kind).wf = true ∧ x_S.size ≤ maxLen ∧ (Lit.int .i64 x_N).wf = true := by
  obtain ⟨g, rfl, hl, hf⟩ := see_struct (fs := _) (by rfl) (sz := 3) (by kernel_rfl) h
  match cs, hl with
  | [c0, c1, c2], _ =>
    have h0 : Sees Try.prog w g 3 [c0] := hf 0 _ rfl
    obtain ⟨x_Kind, e0, k0⟩ := see_int (by rfl) h0
    simp only [List.cons.injEq, and_true] at e0
    obtain rfl := e0
    have h1 : Sees Try.prog w g 9 [c1] := hf 1 _ rfl
    obtain ⟨x_S, e1, k1⟩ := see_string (by rfl) h1
    simp only [List.cons.injEq, and_true] at e1
    obtain rfl := e1
    have h2 : Sees Try.prog w g 3 [c2] := hf 2 _ rfl
    obtain ⟨x_N, e2, k2⟩ := see_int (by rfl) h2
    simp only [List.cons.injEq, and_true] at e2
    obtain rfl := e2
    exact ⟨g, x_Kind, x_S, x_N, rfl, k0, k1, k2⟩

/-- struct  L []elenchusref18.Entry  -/
theorem see_36 {w : World} {f : Nat} {cs : List Value} (h : Sees Try.prog w f 36 cs) : ∃ g : Nat, ∃ x_LP : Option Addr, ∃ x_LN : Nat, ∃ x_LC : Nat, cs = [.slice x_LP x_LN x_LC] ∧ (∃ g, Sees Try.prog w g 35 [.slice x_LP x_LN x_LC]) := by
  obtain ⟨g, rfl, hl, hf⟩ := see_struct (fs := _) (by rfl) (sz := 1) (by kernel_rfl) h
  match cs, hl with
  | [c0], _ =>
    have h0 : Sees Try.prog w g 35 [c0] := hf 0 _ rfl
    obtain ⟨x_LP, x_LN, x_LC, cs0, _, _, e0, _⟩ := see_slice (by rfl) (sz := 4) (by kernel_rfl) h0
    simp only [List.cons.injEq, and_true] at e0
    obtain rfl := e0
    exact ⟨g, x_LP, x_LN, x_LC, rfl, ⟨_, h0⟩⟩

/-- elenchusref18.Table -/
theorem see_37 {w : World} {f : Nat} {cs : List Value} (h : Sees Try.prog w f 37 cs) : ∃ g : Nat, ∃ x_LP : Option Addr, ∃ x_LN : Nat, ∃ x_LC : Nat, cs = [.slice x_LP x_LN x_LC] ∧ (∃ g, Sees Try.prog w g 35 [.slice x_LP x_LN x_LC]) := by
  obtain ⟨g, rfl, hl, hf⟩ := see_struct (fs := _) (by rfl) (sz := 1) (by kernel_rfl) h
  match cs, hl with
  | [c0], _ =>
    have h0 : Sees Try.prog w g 35 [c0] := hf 0 _ rfl
    obtain ⟨x_LP, x_LN, x_LC, cs0, _, _, e0, _⟩ := see_slice (by rfl) (sz := 4) (by kernel_rfl) h0
    simp only [List.cons.injEq, and_true] at e0
    obtain rfl := e0
    exact ⟨g, x_LP, x_LN, x_LC, rfl, ⟨_, h0⟩⟩

/-- struct  Kind int Id int Key api.Key Front bool  -/
theorem see_39 {w : World} {f : Nat} {cs : List Value} (h : Sees Try.prog w f 39 cs) : ∃ g : Nat, ∃ x_Kind : Int, ∃ x_Id : Int, ∃ x_Key_Kind : Int, ∃ x_Key_S : ByteArray, ∃ x_Key_N : Int, ∃ x_Front : Bool, cs = [.int .i64 x_Kind, .int .i64 x_Id, .int .i64 x_Key_Kind, .string x_Key_S, .int .i64 x_Key_N, .bool x_Front] ∧ (Lit.int .i64 x_Kind).wf = true ∧ (Lit.int .i64 x_Id).wf = true ∧ (Lit.int .i64 x_Key_Kind).wf = true ∧ x_Key_S.size ≤ maxLen ∧ (Lit.int .i64 x_Key_N).wf = true := by
  obtain ⟨g, rfl, hl, hf⟩ := see_struct (fs := _) (by rfl) (sz := 6) (by kernel_rfl) h
  match cs, hl with
  | [c0, c1, c2, c3, c4, c5], _ =>
    have h0 : Sees Try.prog w g 3 [c0] := hf 0 _ rfl
    obtain ⟨x_Kind, e0, k0⟩ := see_int (by rfl) h0
    simp only [List.cons.injEq, and_true] at e0
    obtain rfl := e0
    have h1 : Sees Try.prog w g 3 [c1] := hf 1 _ rfl
    obtain ⟨x_Id, e1, k1⟩ := see_int (by rfl) h1
    simp only [List.cons.injEq, and_true] at e1
    obtain rfl := e1
    have h2 : Sees Try.prog w g 26 [c2, c3, c4] := hf 2 _ rfl
    obtain ⟨g2, x_Key_Kind, x_Key_S, x_Key_N, e2, k2_0, k2_1, k2_2⟩ := see_26 h2
    simp only [List.cons.injEq, and_true] at e2
    obtain ⟨rfl, rfl, rfl⟩ := e2
    have h3 : Sees Try.prog w g 4 [c5] := hf 3 _ rfl
    obtain ⟨x_Front, e3⟩ := see_bool (by rfl) h3
    simp only [List.cons.injEq, and_true] at e3
    obtain rfl := e3
    exact ⟨g, x_Kind, x_Id, x_Key_Kind, x_Key_S, x_Key_N, x_Front, rfl, k0, k1, k2_0, k2_1, k2_2⟩

/-- elenchuslaw18.Op -/
theorem see_40 {w : World} {f : Nat} {cs : List Value} (h : Sees Try.prog w f 40 cs) : ∃ g : Nat, ∃ x_Kind : Int, ∃ x_Id : Int, ∃ x_Key_Kind : Int, ∃ x_Key_S : ByteArray, ∃ x_Key_N : Int, ∃ x_Front : Bool, cs = [.int .i64 x_Kind, .int .i64 x_Id, .int .i64 x_Key_Kind, .string x_Key_S, .int .i64 x_Key_N, .bool x_Front] ∧ (Lit.int .i64 x_Kind).wf = true ∧ (Lit.int .i64 x_Id).wf = true ∧ (Lit.int .i64 x_Key_Kind).wf = true ∧ x_Key_S.size ≤ maxLen ∧ (Lit.int .i64 x_Key_N).wf = true := by
  obtain ⟨g, rfl, hl, hf⟩ := see_struct (fs := _) (by rfl) (sz := 6) (by kernel_rfl) h
  match cs, hl with
  | [c0, c1, c2, c3, c4, c5], _ =>
    have h0 : Sees Try.prog w g 3 [c0] := hf 0 _ rfl
    obtain ⟨x_Kind, e0, k0⟩ := see_int (by rfl) h0
    simp only [List.cons.injEq, and_true] at e0
    obtain rfl := e0
    have h1 : Sees Try.prog w g 3 [c1] := hf 1 _ rfl
    obtain ⟨x_Id, e1, k1⟩ := see_int (by rfl) h1
    simp only [List.cons.injEq, and_true] at e1
    obtain rfl := e1
    have h2 : Sees Try.prog w g 26 [c2, c3, c4] := hf 2 _ rfl
    obtain ⟨g2, x_Key_Kind, x_Key_S, x_Key_N, e2, k2_0, k2_1, k2_2⟩ := see_26 h2
    simp only [List.cons.injEq, and_true] at e2
    obtain ⟨rfl, rfl, rfl⟩ := e2
    have h3 : Sees Try.prog w g 4 [c5] := hf 3 _ rfl
    obtain ⟨x_Front, e3⟩ := see_bool (by rfl) h3
    simp only [List.cons.injEq, and_true] at e3
    obtain rfl := e3
    exact ⟨g, x_Kind, x_Id, x_Key_Kind, x_Key_S, x_Key_N, x_Front, rfl, k0, k1, k2_0, k2_1, k2_2⟩

/-- struct  Id int Key api.Key  -/
theorem see_61 {w : World} {f : Nat} {cs : List Value} (h : Sees Try.prog w f 61 cs) : ∃ g : Nat, ∃ x_Id : Int, ∃ x_Key_Kind : Int, ∃ x_Key_S : ByteArray, ∃ x_Key_N : Int, cs = [.int .i64 x_Id, .int .i64 x_Key_Kind, .string x_Key_S, .int .i64 x_Key_N] ∧ (Lit.int .i64 x_Id).wf = true ∧ (Lit.int .i64 x_Key_Kind).wf = true ∧ x_Key_S.size ≤ maxLen ∧ (Lit.int .i64 x_Key_N).wf = true := by
  obtain ⟨g, rfl, hl, hf⟩ := see_struct (fs := _) (by rfl) (sz := 4) (by kernel_rfl) h
  match cs, hl with
  | [c0, c1, c2, c3], _ =>
    have h0 : Sees Try.prog w g 3 [c0] := hf 0 _ rfl
    obtain ⟨x_Id, e0, k0⟩ := see_int (by rfl) h0
    simp only [List.cons.injEq, and_true] at e0
    obtain rfl := e0
    have h1 : Sees Try.prog w g 26 [c1, c2, c3] := hf 1 _ rfl
    obtain ⟨g1, x_Key_Kind, x_Key_S, x_Key_N, e1, k1_0, k1_1, k1_2⟩ := see_26 h1
    simp only [List.cons.injEq, and_true] at e1
    obtain ⟨rfl, rfl, rfl⟩ := e1
    exact ⟨g, x_Id, x_Key_Kind, x_Key_S, x_Key_N, rfl, k0, k1_0, k1_1, k1_2⟩

/-- elenchusref18.Entry -/
theorem see_62 {w : World} {f : Nat} {cs : List Value} (h : Sees Try.prog w f 62 cs) : ∃ g : Nat, ∃ x_Id : Int, ∃ x_Key_Kind : Int, ∃ x_Key_S : ByteArray, ∃ x_Key_N : Int, cs = [.int .i64 x_Id, .int .i64 x_Key_Kind, .string x_Key_S, .int .i64 x_Key_N] ∧ (Lit.int .i64 x_Id).wf = true ∧ (Lit.int .i64 x_Key_Kind).wf = true ∧ x_Key_S.size ≤ maxLen ∧ (Lit.int .i64 x_Key_N).wf = true := by
  obtain ⟨g, rfl, hl, hf⟩ := see_struct (fs := _) (by rfl) (sz := 4) (by kernel_rfl) h
  match cs, hl with
  | [c0, c1, c2, c3], _ =>
    have h0 : Sees Try.prog w g 3 [c0] := hf 0 _ rfl
    obtain ⟨x_Id, e0, k0⟩ := see_int (by rfl) h0
    simp only [List.cons.injEq, and_true] at e0
    obtain rfl := e0
    have h1 : Sees Try.prog w g 26 [c1, c2, c3] := hf 1 _ rfl
    obtain ⟨g1, x_Key_Kind, x_Key_S, x_Key_N, e1, k1_0, k1_1, k1_2⟩ := see_26 h1
    simp only [List.cons.injEq, and_true] at e1
    obtain ⟨rfl, rfl, rfl⟩ := e1
    exact ⟨g, x_Id, x_Key_Kind, x_Key_S, x_Key_N, rfl, k0, k1_0, k1_1, k1_2⟩

/-- struct  key api.Key rank int  -/
theorem see_63 {w : World} {f : Nat} {cs : List Value} (h : Sees Try.prog w f 63 cs) : ∃ g : Nat, ∃ x_key_Kind : Int, ∃ x_key_S : ByteArray, ∃ x_key_N : Int, ∃ x_rank : Int, cs = [.int .i64 x_key_Kind, .string x_key_S, .int .i64 x_key_N, .int .i64 x_rank] ∧ (Lit.int .i64 x_key_Kind).wf = true ∧ x_key_S.size ≤ maxLen ∧ (Lit.int .i64 x_key_N).wf = true ∧ (Lit.int .i64 x_rank).wf = true := by
  obtain ⟨g, rfl, hl, hf⟩ := see_struct (fs := _) (by rfl) (sz := 4) (by kernel_rfl) h
  match cs, hl with
  | [c0, c1, c2, c3], _ =>
    have h0 : Sees Try.prog w g 26 [c0, c1, c2] := hf 0 _ rfl
    obtain ⟨g0, x_key_Kind, x_key_S, x_key_N, e0, k0_0, k0_1, k0_2⟩ := see_26 h0
    simp only [List.cons.injEq, and_true] at e0
    obtain ⟨rfl, rfl, rfl⟩ := e0
    have h1 : Sees Try.prog w g 3 [c3] := hf 1 _ rfl
    obtain ⟨x_rank, e1, k1⟩ := see_int (by rfl) h1
    simp only [List.cons.injEq, and_true] at e1
    obtain rfl := e1
    exact ⟨g, x_key_Kind, x_key_S, x_key_N, x_rank, rfl, k0_0, k0_1, k0_2, k1⟩

/-- index.spot -/
theorem see_64 {w : World} {f : Nat} {cs : List Value} (h : Sees Try.prog w f 64 cs) : ∃ g : Nat, ∃ x_key_Kind : Int, ∃ x_key_S : ByteArray, ∃ x_key_N : Int, ∃ x_rank : Int, cs = [.int .i64 x_key_Kind, .string x_key_S, .int .i64 x_key_N, .int .i64 x_rank] ∧ (Lit.int .i64 x_key_Kind).wf = true ∧ x_key_S.size ≤ maxLen ∧ (Lit.int .i64 x_key_N).wf = true ∧ (Lit.int .i64 x_rank).wf = true := by
  obtain ⟨g, rfl, hl, hf⟩ := see_struct (fs := _) (by rfl) (sz := 4) (by kernel_rfl) h
  match cs, hl with
  | [c0, c1, c2, c3], _ =>
    have h0 : Sees Try.prog w g 26 [c0, c1, c2] := hf 0 _ rfl
    obtain ⟨g0, x_key_Kind, x_key_S, x_key_N, e0, k0_0, k0_1, k0_2⟩ := see_26 h0
    simp only [List.cons.injEq, and_true] at e0
    obtain ⟨rfl, rfl, rfl⟩ := e0
    have h1 : Sees Try.prog w g 3 [c3] := hf 1 _ rfl
    obtain ⟨x_rank, e1, k1⟩ := see_int (by rfl) h1
    simp only [List.cons.injEq, and_true] at e1
    obtain rfl := e1
    exact ⟨g, x_key_Kind, x_key_S, x_key_N, x_rank, rfl, k0_0, k0_1, k0_2, k1⟩

/-- struct  rank int id int  -/
theorem see_68 {w : World} {f : Nat} {cs : List Value} (h : Sees Try.prog w f 68 cs) : ∃ g : Nat, ∃ x_rank : Int, ∃ x_id : Int, cs = [.int .i64 x_rank, .int .i64 x_id] ∧ (Lit.int .i64 x_rank).wf = true ∧ (Lit.int .i64 x_id).wf = true := by
  obtain ⟨g, rfl, hl, hf⟩ := see_struct (fs := _) (by rfl) (sz := 2) (by kernel_rfl) h
  match cs, hl with
  | [c0, c1], _ =>
    have h0 : Sees Try.prog w g 3 [c0] := hf 0 _ rfl
    obtain ⟨x_rank, e0, k0⟩ := see_int (by rfl) h0
    simp only [List.cons.injEq, and_true] at e0
    obtain rfl := e0
    have h1 : Sees Try.prog w g 3 [c1] := hf 1 _ rfl
    obtain ⟨x_id, e1, k1⟩ := see_int (by rfl) h1
    simp only [List.cons.injEq, and_true] at e1
    obtain rfl := e1
    exact ⟨g, x_rank, x_id, rfl, k0, k1⟩

/-- index.entry -/
theorem see_69 {w : World} {f : Nat} {cs : List Value} (h : Sees Try.prog w f 69 cs) : ∃ g : Nat, ∃ x_rank : Int, ∃ x_id : Int, cs = [.int .i64 x_rank, .int .i64 x_id] ∧ (Lit.int .i64 x_rank).wf = true ∧ (Lit.int .i64 x_id).wf = true := by
  obtain ⟨g, rfl, hl, hf⟩ := see_struct (fs := _) (by rfl) (sz := 2) (by kernel_rfl) h
  match cs, hl with
  | [c0, c1], _ =>
    have h0 : Sees Try.prog w g 3 [c0] := hf 0 _ rfl
    obtain ⟨x_rank, e0, k0⟩ := see_int (by rfl) h0
    simp only [List.cons.injEq, and_true] at e0
    obtain rfl := e0
    have h1 : Sees Try.prog w g 3 [c1] := hf 1 _ rfl
    obtain ⟨x_id, e1, k1⟩ := see_int (by rfl) h1
    simp only [List.cons.injEq, and_true] at e1
    obtain rfl := e1
    exact ⟨g, x_rank, x_id, rfl, k0, k1⟩

end Go.Proofs.Ytpkfckfdehaamaa
