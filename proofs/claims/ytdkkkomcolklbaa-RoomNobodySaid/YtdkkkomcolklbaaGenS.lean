/- What the structs that come in are made of. Printed by a program. -/
import Derived.Test.YtdkkkomcolklbaaOwn6
import Derived.Test.YtdkkkomcolklbaaProg
set_option maxRecDepth 100000
set_option linter.unusedVariables false
namespace Go.Proofs.Ytdkkkomcolklbaa
open Go Go.D Go.Proofs

/-- struct  x int64 y int signed bool code abi.BoundsErrorCode  -/
theorem see_7 {w : World} {f : Nat} {cs : List Value} (h : Sees Try.prog w f 7 cs) : ∃ g : Nat, ∃ x_x : Int, ∃ x_y : Int, ∃ x_signed : Bool, ∃ x_code : Int, cs = [.int .i64 x_x, .int .i64 x_y, .bool x_signed, .int .u8 x_code] ∧ (Lit.int .i64 x_x).wf = true ∧ (Lit.int .i64 x_y).wf = true ∧ (Lit.int .u8 x_code).wf = true := by
  obtain ⟨g, rfl, hl, hf⟩ := see_struct (fs := _) (by rfl) (sz := 4) (by kernel_rfl) h
  match cs, hl with
  | [c0, c1, c2, c3], _ =>
    have h0 : Sees Try.prog w g 2 [c0] := hf 0 _ rfl
    obtain ⟨x_x, e0, k0⟩ := see_int (by rfl) h0
    simp only [List.cons.injEq, and_true] at e0
    obtain rfl := e0
    have h1 : Sees Try.prog w g 3 [c1] := hf 1 _ rfl
    obtain ⟨x_y, e1, k1⟩ := see_int (by rfl) h1
    simp only [List.cons.injEq, and_true] at e1
    obtain rfl := e1
    have h2 : Sees Try.prog w g 4 [c2] := hf 2 _ rfl
    obtain ⟨x_signed, e2⟩ := see_bool (by rfl) h2
    simp only [List.cons.injEq, and_true] at e2
    obtain rfl := e2
    have h3 : Sees Try.prog w g 6 [c3] := hf 3 _ rfl
    obtain ⟨x_code, e3, k3⟩ := see_int (by rfl) h3
    simp only [List.cons.injEq, and_true] at e3
    obtain rfl := e3
    exact ⟨g, x_x, x_y, x_signed, x_code, rfl, k0, k1, k3⟩

/-- runtime.boundsError -/
theorem see_8 {w : World} {f : Nat} {cs : List Value} (h : Sees Try.prog w f 8 cs) : ∃ g : Nat, ∃ x_x : Int, ∃ x_y : Int, ∃ x_signed : Bool, ∃ x_code : Int, cs = [.int .i64 x_x, .int .i64 x_y, .bool x_signed, .int .u8 x_code] ∧ (Lit.int .i64 x_x).wf = true ∧ (Lit.int .i64 x_y).wf = true ∧ (Lit.int .u8 x_code).wf = true := by
  obtain ⟨g, rfl, hl, hf⟩ := see_struct (fs := _) (by rfl) (sz := 4) (by kernel_rfl) h
  match cs, hl with
  | [c0, c1, c2, c3], _ =>
    have h0 : Sees Try.prog w g 2 [c0] := hf 0 _ rfl
    obtain ⟨x_x, e0, k0⟩ := see_int (by rfl) h0
    simp only [List.cons.injEq, and_true] at e0
    obtain rfl := e0
    have h1 : Sees Try.prog w g 3 [c1] := hf 1 _ rfl
    obtain ⟨x_y, e1, k1⟩ := see_int (by rfl) h1
    simp only [List.cons.injEq, and_true] at e1
    obtain rfl := e1
    have h2 : Sees Try.prog w g 4 [c2] := hf 2 _ rfl
    obtain ⟨x_signed, e2⟩ := see_bool (by rfl) h2
    simp only [List.cons.injEq, and_true] at e2
    obtain rfl := e2
    have h3 : Sees Try.prog w g 6 [c3] := hf 3 _ rfl
    obtain ⟨x_code, e3, k3⟩ := see_int (by rfl) h3
    simp only [List.cons.injEq, and_true] at e3
    obtain rfl := e3
    exact ⟨g, x_x, x_y, x_signed, x_code, rfl, k0, k1, k3⟩

/-- struct  msg string addr uintptr  -/
theorem see_13 {w : World} {f : Nat} {cs : List Value} (h : Sees Try.prog w f 13 cs) : ∃ g : Nat, ∃ x_msg : ByteArray, ∃ x_addr : Int, cs = [.string x_msg, .int .u64 x_addr] ∧ x_msg.size ≤ maxLen ∧ (Lit.int .u64 x_addr).wf = true := by
  obtain ⟨g, rfl, hl, hf⟩ := see_struct (fs := _) (by rfl) (sz := 2) (by kernel_rfl) h
  match cs, hl with
  | [c0, c1], _ =>
    have h0 : Sees Try.prog w g 9 [c0] := hf 0 _ rfl
    obtain ⟨x_msg, e0, k0⟩ := see_string (by rfl) h0
    simp only [List.cons.injEq, and_true] at e0
    obtain rfl := e0
    have h1 : Sees Try.prog w g 12 [c1] := hf 1 _ rfl
    obtain ⟨x_addr, e1, k1⟩ := see_int (by rfl) h1
    simp only [List.cons.injEq, and_true] at e1
    obtain rfl := e1
    exact ⟨g, x_msg, x_addr, rfl, k0, k1⟩

/-- runtime.errorAddressString -/
theorem see_14 {w : World} {f : Nat} {cs : List Value} (h : Sees Try.prog w f 14 cs) : ∃ g : Nat, ∃ x_msg : ByteArray, ∃ x_addr : Int, cs = [.string x_msg, .int .u64 x_addr] ∧ x_msg.size ≤ maxLen ∧ (Lit.int .u64 x_addr).wf = true := by
  obtain ⟨g, rfl, hl, hf⟩ := see_struct (fs := _) (by rfl) (sz := 2) (by kernel_rfl) h
  match cs, hl with
  | [c0, c1], _ =>
    have h0 : Sees Try.prog w g 9 [c0] := hf 0 _ rfl
    obtain ⟨x_msg, e0, k0⟩ := see_string (by rfl) h0
    simp only [List.cons.injEq, and_true] at e0
    obtain rfl := e0
    have h1 : Sees Try.prog w g 12 [c1] := hf 1 _ rfl
    obtain ⟨x_addr, e1, k1⟩ := see_int (by rfl) h1
    simp only [List.cons.injEq, and_true] at e1
    obtain rfl := e1
    exact ⟨g, x_msg, x_addr, rfl, k0, k1⟩

/-- struct  Kind int N int W uint64  -/
theorem see_39 {w : World} {f : Nat} {cs : List Value} (h : Sees Try.prog w f 39 cs) : ∃ g : Nat, ∃ x_Kind : Int, ∃ x_N : Int, ∃ x_W : Int, cs = [.int .i64 x_Kind, .int .i64 x_N, .int .u64 x_W] ∧ (Lit.int .i64 x_Kind).wf = true ∧ (Lit.int .i64 x_N).wf = true ∧ (Lit.int .u64 x_W).wf = true := by
  obtain ⟨g, rfl, hl, hf⟩ := see_struct (fs := _) (by rfl) (sz := 3) (by kernel_rfl) h
  match cs, hl with
  | [c0, c1, c2], _ =>
    have h0 : Sees Try.prog w g 3 [c0] := hf 0 _ rfl
    obtain ⟨x_Kind, e0, k0⟩ := see_int (by rfl) h0
    simp only [List.cons.injEq, and_true] at e0
    obtain rfl := e0
    have h1 : Sees Try.prog w g 3 [c1] := hf 1 _ rfl
    obtain ⟨x_N, e1, k1⟩ := see_int (by rfl) h1
    simp only [List.cons.injEq, and_true] at e1
    obtain rfl := e1
    have h2 : Sees Try.prog w g 29 [c2] := hf 2 _ rfl
    obtain ⟨x_W, e2, k2⟩ := see_int (by rfl) h2
    simp only [List.cons.injEq, and_true] at e2
    obtain rfl := e2
    exact ⟨g, x_Kind, x_N, x_W, rfl, k0, k1, k2⟩

/-- elenchuslaw02.Op -/
theorem see_40 {w : World} {f : Nat} {cs : List Value} (h : Sees Try.prog w f 40 cs) : ∃ g : Nat, ∃ x_Kind : Int, ∃ x_N : Int, ∃ x_W : Int, cs = [.int .i64 x_Kind, .int .i64 x_N, .int .u64 x_W] ∧ (Lit.int .i64 x_Kind).wf = true ∧ (Lit.int .i64 x_N).wf = true ∧ (Lit.int .u64 x_W).wf = true := by
  obtain ⟨g, rfl, hl, hf⟩ := see_struct (fs := _) (by rfl) (sz := 3) (by kernel_rfl) h
  match cs, hl with
  | [c0, c1, c2], _ =>
    have h0 : Sees Try.prog w g 3 [c0] := hf 0 _ rfl
    obtain ⟨x_Kind, e0, k0⟩ := see_int (by rfl) h0
    simp only [List.cons.injEq, and_true] at e0
    obtain rfl := e0
    have h1 : Sees Try.prog w g 3 [c1] := hf 1 _ rfl
    obtain ⟨x_N, e1, k1⟩ := see_int (by rfl) h1
    simp only [List.cons.injEq, and_true] at e1
    obtain rfl := e1
    have h2 : Sees Try.prog w g 29 [c2] := hf 2 _ rfl
    obtain ⟨x_W, e2, k2⟩ := see_int (by rfl) h2
    simp only [List.cons.injEq, and_true] at e2
    obtain rfl := e2
    exact ⟨g, x_Kind, x_N, x_W, rfl, k0, k1, k2⟩

/-- struct  L []uint64 Limit int Most int  -/
theorem see_41 {w : World} {f : Nat} {cs : List Value} (h : Sees Try.prog w f 41 cs) : ∃ g : Nat, ∃ x_LP : Option Addr, ∃ x_LN : Nat, ∃ x_LC : Nat, ∃ x_Limit : Int, ∃ x_Most : Int, cs = [.slice x_LP x_LN x_LC, .int .i64 x_Limit, .int .i64 x_Most] ∧ (∃ g, Sees Try.prog w g 22 [.slice x_LP x_LN x_LC]) ∧ (Lit.int .i64 x_Limit).wf = true ∧ (Lit.int .i64 x_Most).wf = true := by
  obtain ⟨g, rfl, hl, hf⟩ := see_struct (fs := _) (by rfl) (sz := 3) (by kernel_rfl) h
  match cs, hl with
  | [c0, c1, c2], _ =>
    have h0 : Sees Try.prog w g 22 [c0] := hf 0 _ rfl
    obtain ⟨x_LP, x_LN, x_LC, cs0, _, _, e0, _⟩ := see_slice (by rfl) (sz := 1) (by kernel_rfl) h0
    simp only [List.cons.injEq, and_true] at e0
    obtain rfl := e0
    have h1 : Sees Try.prog w g 3 [c1] := hf 1 _ rfl
    obtain ⟨x_Limit, e1, k1⟩ := see_int (by rfl) h1
    simp only [List.cons.injEq, and_true] at e1
    obtain rfl := e1
    have h2 : Sees Try.prog w g 3 [c2] := hf 2 _ rfl
    obtain ⟨x_Most, e2, k2⟩ := see_int (by rfl) h2
    simp only [List.cons.injEq, and_true] at e2
    obtain rfl := e2
    exact ⟨g, x_LP, x_LN, x_LC, x_Limit, x_Most, rfl, ⟨_, h0⟩, k1, k2⟩

/-- elenchusref02.Room -/
theorem see_42 {w : World} {f : Nat} {cs : List Value} (h : Sees Try.prog w f 42 cs) : ∃ g : Nat, ∃ x_LP : Option Addr, ∃ x_LN : Nat, ∃ x_LC : Nat, ∃ x_Limit : Int, ∃ x_Most : Int, cs = [.slice x_LP x_LN x_LC, .int .i64 x_Limit, .int .i64 x_Most] ∧ (∃ g, Sees Try.prog w g 22 [.slice x_LP x_LN x_LC]) ∧ (Lit.int .i64 x_Limit).wf = true ∧ (Lit.int .i64 x_Most).wf = true := by
  obtain ⟨g, rfl, hl, hf⟩ := see_struct (fs := _) (by rfl) (sz := 3) (by kernel_rfl) h
  match cs, hl with
  | [c0, c1, c2], _ =>
    have h0 : Sees Try.prog w g 22 [c0] := hf 0 _ rfl
    obtain ⟨x_LP, x_LN, x_LC, cs0, _, _, e0, _⟩ := see_slice (by rfl) (sz := 1) (by kernel_rfl) h0
    simp only [List.cons.injEq, and_true] at e0
    obtain rfl := e0
    have h1 : Sees Try.prog w g 3 [c1] := hf 1 _ rfl
    obtain ⟨x_Limit, e1, k1⟩ := see_int (by rfl) h1
    simp only [List.cons.injEq, and_true] at e1
    obtain rfl := e1
    have h2 : Sees Try.prog w g 3 [c2] := hf 2 _ rfl
    obtain ⟨x_Most, e2, k2⟩ := see_int (by rfl) h2
    simp only [List.cons.injEq, and_true] at e2
    obtain rfl := e2
    exact ⟨g, x_LP, x_LN, x_LC, x_Limit, x_Most, rfl, ⟨_, h0⟩, k1, k2⟩

/-- struct  l []uint64 limit int most int  -/
theorem see_52 {w : World} {f : Nat} {cs : List Value} (h : Sees Try.prog w f 52 cs) : ∃ g : Nat, ∃ x_lP : Option Addr, ∃ x_lN : Nat, ∃ x_lC : Nat, ∃ x_limit : Int, ∃ x_most : Int, cs = [.slice x_lP x_lN x_lC, .int .i64 x_limit, .int .i64 x_most] ∧ (∃ g, Sees Try.prog w g 22 [.slice x_lP x_lN x_lC]) ∧ (Lit.int .i64 x_limit).wf = true ∧ (Lit.int .i64 x_most).wf = true := by
  obtain ⟨g, rfl, hl, hf⟩ := see_struct (fs := _) (by rfl) (sz := 3) (by kernel_rfl) h
  match cs, hl with
  | [c0, c1, c2], _ =>
    have h0 : Sees Try.prog w g 22 [c0] := hf 0 _ rfl
    obtain ⟨x_lP, x_lN, x_lC, cs0, _, _, e0, _⟩ := see_slice (by rfl) (sz := 1) (by kernel_rfl) h0
    simp only [List.cons.injEq, and_true] at e0
    obtain rfl := e0
    have h1 : Sees Try.prog w g 3 [c1] := hf 1 _ rfl
    obtain ⟨x_limit, e1, k1⟩ := see_int (by rfl) h1
    simp only [List.cons.injEq, and_true] at e1
    obtain rfl := e1
    have h2 : Sees Try.prog w g 3 [c2] := hf 2 _ rfl
    obtain ⟨x_most, e2, k2⟩ := see_int (by rfl) h2
    simp only [List.cons.injEq, and_true] at e2
    obtain rfl := e2
    exact ⟨g, x_lP, x_lN, x_lC, x_limit, x_most, rfl, ⟨_, h0⟩, k1, k2⟩

/-- room.Room -/
theorem see_53 {w : World} {f : Nat} {cs : List Value} (h : Sees Try.prog w f 53 cs) : ∃ g : Nat, ∃ x_lP : Option Addr, ∃ x_lN : Nat, ∃ x_lC : Nat, ∃ x_limit : Int, ∃ x_most : Int, cs = [.slice x_lP x_lN x_lC, .int .i64 x_limit, .int .i64 x_most] ∧ (∃ g, Sees Try.prog w g 22 [.slice x_lP x_lN x_lC]) ∧ (Lit.int .i64 x_limit).wf = true ∧ (Lit.int .i64 x_most).wf = true := by
  obtain ⟨g, rfl, hl, hf⟩ := see_struct (fs := _) (by rfl) (sz := 3) (by kernel_rfl) h
  match cs, hl with
  | [c0, c1, c2], _ =>
    have h0 : Sees Try.prog w g 22 [c0] := hf 0 _ rfl
    obtain ⟨x_lP, x_lN, x_lC, cs0, _, _, e0, _⟩ := see_slice (by rfl) (sz := 1) (by kernel_rfl) h0
    simp only [List.cons.injEq, and_true] at e0
    obtain rfl := e0
    have h1 : Sees Try.prog w g 3 [c1] := hf 1 _ rfl
    obtain ⟨x_limit, e1, k1⟩ := see_int (by rfl) h1
    simp only [List.cons.injEq, and_true] at e1
    obtain rfl := e1
    have h2 : Sees Try.prog w g 3 [c2] := hf 2 _ rfl
    obtain ⟨x_most, e2, k2⟩ := see_int (by rfl) h2
    simp only [List.cons.injEq, and_true] at e2
    obtain rfl := e2
    exact ⟨g, x_lP, x_lN, x_lC, x_limit, x_most, rfl, ⟨_, h0⟩, k1, k2⟩

/-- struct  n uint64 asked []uint64 next int ok bool  -/
theorem see_59 {w : World} {f : Nat} {cs : List Value} (h : Sees Try.prog w f 59 cs) : ∃ g : Nat, ∃ x_n : Int, ∃ x_askedP : Option Addr, ∃ x_askedN : Nat, ∃ x_askedC : Nat, ∃ x_next : Int, ∃ x_ok : Bool, cs = [.int .u64 x_n, .slice x_askedP x_askedN x_askedC, .int .i64 x_next, .bool x_ok] ∧ (Lit.int .u64 x_n).wf = true ∧ (∃ g, Sees Try.prog w g 22 [.slice x_askedP x_askedN x_askedC]) ∧ (Lit.int .i64 x_next).wf = true := by
  obtain ⟨g, rfl, hl, hf⟩ := see_struct (fs := _) (by rfl) (sz := 4) (by kernel_rfl) h
  match cs, hl with
  | [c0, c1, c2, c3], _ =>
    have h0 : Sees Try.prog w g 29 [c0] := hf 0 _ rfl
    obtain ⟨x_n, e0, k0⟩ := see_int (by rfl) h0
    simp only [List.cons.injEq, and_true] at e0
    obtain rfl := e0
    have h1 : Sees Try.prog w g 22 [c1] := hf 1 _ rfl
    obtain ⟨x_askedP, x_askedN, x_askedC, cs1, _, _, e1, _⟩ := see_slice (by rfl) (sz := 1) (by kernel_rfl) h1
    simp only [List.cons.injEq, and_true] at e1
    obtain rfl := e1
    have h2 : Sees Try.prog w g 3 [c2] := hf 2 _ rfl
    obtain ⟨x_next, e2, k2⟩ := see_int (by rfl) h2
    simp only [List.cons.injEq, and_true] at e2
    obtain rfl := e2
    have h3 : Sees Try.prog w g 4 [c3] := hf 3 _ rfl
    obtain ⟨x_ok, e3⟩ := see_bool (by rfl) h3
    simp only [List.cons.injEq, and_true] at e3
    obtain rfl := e3
    exact ⟨g, x_n, x_askedP, x_askedN, x_askedC, x_next, x_ok, rfl, k0, ⟨_, h1⟩, k2⟩

/-- elenchuslaw02.keeper -/
theorem see_60 {w : World} {f : Nat} {cs : List Value} (h : Sees Try.prog w f 60 cs) : ∃ g : Nat, ∃ x_n : Int, ∃ x_askedP : Option Addr, ∃ x_askedN : Nat, ∃ x_askedC : Nat, ∃ x_next : Int, ∃ x_ok : Bool, cs = [.int .u64 x_n, .slice x_askedP x_askedN x_askedC, .int .i64 x_next, .bool x_ok] ∧ (Lit.int .u64 x_n).wf = true ∧ (∃ g, Sees Try.prog w g 22 [.slice x_askedP x_askedN x_askedC]) ∧ (Lit.int .i64 x_next).wf = true := by
  obtain ⟨g, rfl, hl, hf⟩ := see_struct (fs := _) (by rfl) (sz := 4) (by kernel_rfl) h
  match cs, hl with
  | [c0, c1, c2, c3], _ =>
    have h0 : Sees Try.prog w g 29 [c0] := hf 0 _ rfl
    obtain ⟨x_n, e0, k0⟩ := see_int (by rfl) h0
    simp only [List.cons.injEq, and_true] at e0
    obtain rfl := e0
    have h1 : Sees Try.prog w g 22 [c1] := hf 1 _ rfl
    obtain ⟨x_askedP, x_askedN, x_askedC, cs1, _, _, e1, _⟩ := see_slice (by rfl) (sz := 1) (by kernel_rfl) h1
    simp only [List.cons.injEq, and_true] at e1
    obtain rfl := e1
    have h2 : Sees Try.prog w g 3 [c2] := hf 2 _ rfl
    obtain ⟨x_next, e2, k2⟩ := see_int (by rfl) h2
    simp only [List.cons.injEq, and_true] at e2
    obtain rfl := e2
    have h3 : Sees Try.prog w g 4 [c3] := hf 3 _ rfl
    obtain ⟨x_ok, e3⟩ := see_bool (by rfl) h3
    simp only [List.cons.injEq, and_true] at e3
    obtain rfl := e3
    exact ⟨g, x_n, x_askedP, x_askedN, x_askedC, x_next, x_ok, rfl, k0, ⟨_, h1⟩, k2⟩

end Go.Proofs.Ytdkkkomcolklbaa
