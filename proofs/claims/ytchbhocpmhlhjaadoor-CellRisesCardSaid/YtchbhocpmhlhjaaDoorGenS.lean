/- What the structs that come in are made of. Printed by a program. -/
import Derived.Test.YtchbhocpmhlhjaaDoorOwn6
import Derived.Test.YtchbhocpmhlhjaaDoorProg
set_option maxRecDepth 100000
set_option linter.unusedVariables false
namespace Go.Proofs.YtchbhocpmhlhjaaDoor
open Go Go.D Go.Proofs

/-- struct  x int64 y int signed bool code abi.BoundsErrorCode  -/
theorem see_7 {w : World} {f : Nat} {cs : List Value} (h : Sees Tryd.prog w f 7 cs) : ∃ g : Nat, ∃ x_x : Int, ∃ x_y : Int, ∃ x_signed : Bool, ∃ x_code : Int, cs = [.int .i64 x_x, .int .i64 x_y, .bool x_signed, .int .u8 x_code] ∧ (Lit.int .i64 x_x).wf = true ∧ (Lit.int .i64 x_y).wf = true ∧ (Lit.int .u8 x_code).wf = true := by
  obtain ⟨g, rfl, hl, hf⟩ := see_struct (fs := _) (by rfl) (sz := 4) (by kernel_rfl) h
  match cs, hl with
  | [c0, c1, c2, c3], _ =>
    have h0 : Sees Tryd.prog w g 2 [c0] := hf 0 _ rfl
    obtain ⟨x_x, e0, k0⟩ := see_int (by rfl) h0
    simp only [List.cons.injEq, and_true] at e0
    obtain rfl := e0
    have h1 : Sees Tryd.prog w g 3 [c1] := hf 1 _ rfl
    obtain ⟨x_y, e1, k1⟩ := see_int (by rfl) h1
    simp only [List.cons.injEq, and_true] at e1
    obtain rfl := e1
    have h2 : Sees Tryd.prog w g 4 [c2] := hf 2 _ rfl
    obtain ⟨x_signed, e2⟩ := see_bool (by rfl) h2
    simp only [List.cons.injEq, and_true] at e2
    obtain rfl := e2
    have h3 : Sees Tryd.prog w g 6 [c3] := hf 3 _ rfl
    obtain ⟨x_code, e3, k3⟩ := see_int (by rfl) h3
    simp only [List.cons.injEq, and_true] at e3
    obtain rfl := e3
    exact ⟨g, x_x, x_y, x_signed, x_code, rfl, k0, k1, k3⟩

/-- runtime.boundsError -/
theorem see_8 {w : World} {f : Nat} {cs : List Value} (h : Sees Tryd.prog w f 8 cs) : ∃ g : Nat, ∃ x_x : Int, ∃ x_y : Int, ∃ x_signed : Bool, ∃ x_code : Int, cs = [.int .i64 x_x, .int .i64 x_y, .bool x_signed, .int .u8 x_code] ∧ (Lit.int .i64 x_x).wf = true ∧ (Lit.int .i64 x_y).wf = true ∧ (Lit.int .u8 x_code).wf = true := by
  obtain ⟨g, rfl, hl, hf⟩ := see_struct (fs := _) (by rfl) (sz := 4) (by kernel_rfl) h
  match cs, hl with
  | [c0, c1, c2, c3], _ =>
    have h0 : Sees Tryd.prog w g 2 [c0] := hf 0 _ rfl
    obtain ⟨x_x, e0, k0⟩ := see_int (by rfl) h0
    simp only [List.cons.injEq, and_true] at e0
    obtain rfl := e0
    have h1 : Sees Tryd.prog w g 3 [c1] := hf 1 _ rfl
    obtain ⟨x_y, e1, k1⟩ := see_int (by rfl) h1
    simp only [List.cons.injEq, and_true] at e1
    obtain rfl := e1
    have h2 : Sees Tryd.prog w g 4 [c2] := hf 2 _ rfl
    obtain ⟨x_signed, e2⟩ := see_bool (by rfl) h2
    simp only [List.cons.injEq, and_true] at e2
    obtain rfl := e2
    have h3 : Sees Tryd.prog w g 6 [c3] := hf 3 _ rfl
    obtain ⟨x_code, e3, k3⟩ := see_int (by rfl) h3
    simp only [List.cons.injEq, and_true] at e3
    obtain rfl := e3
    exact ⟨g, x_x, x_y, x_signed, x_code, rfl, k0, k1, k3⟩

/-- struct  msg string addr uintptr  -/
theorem see_13 {w : World} {f : Nat} {cs : List Value} (h : Sees Tryd.prog w f 13 cs) : ∃ g : Nat, ∃ x_msg : ByteArray, ∃ x_addr : Int, cs = [.string x_msg, .int .u64 x_addr] ∧ x_msg.size ≤ maxLen ∧ (Lit.int .u64 x_addr).wf = true := by
  obtain ⟨g, rfl, hl, hf⟩ := see_struct (fs := _) (by rfl) (sz := 2) (by kernel_rfl) h
  match cs, hl with
  | [c0, c1], _ =>
    have h0 : Sees Tryd.prog w g 9 [c0] := hf 0 _ rfl
    obtain ⟨x_msg, e0, k0⟩ := see_string (by rfl) h0
    simp only [List.cons.injEq, and_true] at e0
    obtain rfl := e0
    have h1 : Sees Tryd.prog w g 12 [c1] := hf 1 _ rfl
    obtain ⟨x_addr, e1, k1⟩ := see_int (by rfl) h1
    simp only [List.cons.injEq, and_true] at e1
    obtain rfl := e1
    exact ⟨g, x_msg, x_addr, rfl, k0, k1⟩

/-- runtime.errorAddressString -/
theorem see_14 {w : World} {f : Nat} {cs : List Value} (h : Sees Tryd.prog w f 14 cs) : ∃ g : Nat, ∃ x_msg : ByteArray, ∃ x_addr : Int, cs = [.string x_msg, .int .u64 x_addr] ∧ x_msg.size ≤ maxLen ∧ (Lit.int .u64 x_addr).wf = true := by
  obtain ⟨g, rfl, hl, hf⟩ := see_struct (fs := _) (by rfl) (sz := 2) (by kernel_rfl) h
  match cs, hl with
  | [c0, c1], _ =>
    have h0 : Sees Tryd.prog w g 9 [c0] := hf 0 _ rfl
    obtain ⟨x_msg, e0, k0⟩ := see_string (by rfl) h0
    simp only [List.cons.injEq, and_true] at e0
    obtain rfl := e0
    have h1 : Sees Tryd.prog w g 12 [c1] := hf 1 _ rfl
    obtain ⟨x_addr, e1, k1⟩ := see_int (by rfl) h1
    simp only [List.cons.injEq, and_true] at e1
    obtain rfl := e1
    exact ⟨g, x_msg, x_addr, rfl, k0, k1⟩

/-- struct  s string  -/
theorem see_82 {w : World} {f : Nat} {cs : List Value} (h : Sees Tryd.prog w f 82 cs) : ∃ g : Nat, ∃ x_s : ByteArray, cs = [.string x_s] ∧ x_s.size ≤ maxLen := by
  obtain ⟨g, rfl, hl, hf⟩ := see_struct (fs := _) (by rfl) (sz := 1) (by kernel_rfl) h
  match cs, hl with
  | [c0], _ =>
    have h0 : Sees Tryd.prog w g 9 [c0] := hf 0 _ rfl
    obtain ⟨x_s, e0, k0⟩ := see_string (by rfl) h0
    simp only [List.cons.injEq, and_true] at e0
    obtain rfl := e0
    exact ⟨g, x_s, rfl, k0⟩

/-- errors.errorString -/
theorem see_83 {w : World} {f : Nat} {cs : List Value} (h : Sees Tryd.prog w f 83 cs) : ∃ g : Nat, ∃ x_s : ByteArray, cs = [.string x_s] ∧ x_s.size ≤ maxLen := by
  obtain ⟨g, rfl, hl, hf⟩ := see_struct (fs := _) (by rfl) (sz := 1) (by kernel_rfl) h
  match cs, hl with
  | [c0], _ =>
    have h0 : Sees Tryd.prog w g 9 [c0] := hf 0 _ rfl
    obtain ⟨x_s, e0, k0⟩ := see_string (by rfl) h0
    simp only [List.cons.injEq, and_true] at e0
    obtain rfl := e0
    exact ⟨g, x_s, rfl, k0⟩

end Go.Proofs.YtchbhocpmhlhjaaDoor
