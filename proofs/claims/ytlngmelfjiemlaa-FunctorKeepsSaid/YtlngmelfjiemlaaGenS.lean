/- What the structs that come in are made of. Printed by a program. -/
import Derived.Test.YtlngmelfjiemlaaOwn6
import Derived.Test.YtlngmelfjiemlaaProg
set_option maxRecDepth 100000
set_option linter.unusedVariables false
namespace Go.Proofs.Ytlngmelfjiemlaa
open Go Go.D Go.Proofs

/-- struct  x int64 y int signed bool code abi.BoundsErrorCode  -/
theorem see_7 {w : World} {f : Nat} {cs : List Value} (h : Sees Try.prog w f 7 cs) : ∃ g : Nat, ∃ x_x : Int, ∃ x_y : Int, ∃ x_signed : Bool, ∃ x_code : Int, cs = [.int .i64 x_x, .int .i64 x_y, .bool x_signed, .int .u8 x_code] ∧ (Lit.int .i64 x_x).wf = true ∧ (Lit.int .i64 x_y).wf = true ∧ (Lit.int .u8 x_code).wf = true := by
  obtain ⟨g, rfl, hl, hf⟩ := see_struct (fs := _) (by rfl) (sz := 4) (by kernel_rfl) h
  match cs, hl with
  | [c0, c1, c2, c3], _ =>
    have h0 : Sees Try.prog w g 2 [c0] := hf 0 _ rfl
    obtain ⟨x_x, e0, k0⟩ := see_int (by rfl) h0
    simp only [List.cons.injEq, and_true] at e0
    obtain rfl := e0
    have h1 : Sees Try.prog w g 3 [c1] := hf 1 _ rfl
    obtain ⟨x_y, e1, k1⟩ := see_int (by rfl) h1
    simp only [List.cons.injEq, and_true] at e1
    obtain rfl := e1
    have h2 : Sees Try.prog w g 4 [c2] := hf 2 _ rfl
    obtain ⟨x_signed, e2⟩ := see_bool (by rfl) h2
    simp only [List.cons.injEq, and_true] at e2
    obtain rfl := e2
    have h3 : Sees Try.prog w g 6 [c3] := hf 3 _ rfl
    obtain ⟨x_code, e3, k3⟩ := see_int (by rfl) h3
    simp only [List.cons.injEq, and_true] at e3
    obtain rfl := e3
    exact ⟨g, x_x, x_y, x_signed, x_code, rfl, k0, k1, k3⟩

/-- runtime.boundsError -/
theorem see_8 {w : World} {f : Nat} {cs : List Value} (h : Sees Try.prog w f 8 cs) : ∃ g : Nat, ∃ x_x : Int, ∃ x_y : Int, ∃ x_signed : Bool, ∃ x_code : Int, cs = [.int .i64 x_x, .int .i64 x_y, .bool x_signed, .int .u8 x_code] ∧ (Lit.int .i64 x_x).wf = true ∧ (Lit.int .i64 x_y).wf = true ∧ (Lit.int .u8 x_code).wf = true := by
  obtain ⟨g, rfl, hl, hf⟩ := see_struct (fs := _) (by rfl) (sz := 4) (by kernel_rfl) h
  match cs, hl with
  | [c0, c1, c2, c3], _ =>
    have h0 : Sees Try.prog w g 2 [c0] := hf 0 _ rfl
    obtain ⟨x_x, e0, k0⟩ := see_int (by rfl) h0
    simp only [List.cons.injEq, and_true] at e0
    obtain rfl := e0
    have h1 : Sees Try.prog w g 3 [c1] := hf 1 _ rfl
    obtain ⟨x_y, e1, k1⟩ := see_int (by rfl) h1
    simp only [List.cons.injEq, and_true] at e1
    obtain rfl := e1
    have h2 : Sees Try.prog w g 4 [c2] := hf 2 _ rfl
    obtain ⟨x_signed, e2⟩ := see_bool (by rfl) h2
    simp only [List.cons.injEq, and_true] at e2
    obtain rfl := e2
    have h3 : Sees Try.prog w g 6 [c3] := hf 3 _ rfl
    obtain ⟨x_code, e3, k3⟩ := see_int (by rfl) h3
    simp only [List.cons.injEq, and_true] at e3
    obtain rfl := e3
    exact ⟨g, x_x, x_y, x_signed, x_code, rfl, k0, k1, k3⟩

/-- struct  msg string addr uintptr  -/
theorem see_13 {w : World} {f : Nat} {cs : List Value} (h : Sees Try.prog w f 13 cs) : ∃ g : Nat, ∃ x_msg : ByteArray, ∃ x_addr : Int, cs = [.string x_msg, .int .u64 x_addr] ∧ x_msg.size ≤ maxLen ∧ (Lit.int .u64 x_addr).wf = true := by
  obtain ⟨g, rfl, hl, hf⟩ := see_struct (fs := _) (by rfl) (sz := 2) (by kernel_rfl) h
  match cs, hl with
  | [c0, c1], _ =>
    have h0 : Sees Try.prog w g 9 [c0] := hf 0 _ rfl
    obtain ⟨x_msg, e0, k0⟩ := see_string (by rfl) h0
    simp only [List.cons.injEq, and_true] at e0
    obtain rfl := e0
    have h1 : Sees Try.prog w g 12 [c1] := hf 1 _ rfl
    obtain ⟨x_addr, e1, k1⟩ := see_int (by rfl) h1
    simp only [List.cons.injEq, and_true] at e1
    obtain rfl := e1
    exact ⟨g, x_msg, x_addr, rfl, k0, k1⟩

/-- runtime.errorAddressString -/
theorem see_14 {w : World} {f : Nat} {cs : List Value} (h : Sees Try.prog w f 14 cs) : ∃ g : Nat, ∃ x_msg : ByteArray, ∃ x_addr : Int, cs = [.string x_msg, .int .u64 x_addr] ∧ x_msg.size ≤ maxLen ∧ (Lit.int .u64 x_addr).wf = true := by
  obtain ⟨g, rfl, hl, hf⟩ := see_struct (fs := _) (by rfl) (sz := 2) (by kernel_rfl) h
  match cs, hl with
  | [c0, c1], _ =>
    have h0 : Sees Try.prog w g 9 [c0] := hf 0 _ rfl
    obtain ⟨x_msg, e0, k0⟩ := see_string (by rfl) h0
    simp only [List.cons.injEq, and_true] at e0
    obtain rfl := e0
    have h1 : Sees Try.prog w g 12 [c1] := hf 1 _ rfl
    obtain ⟨x_addr, e1, k1⟩ := see_int (by rfl) h1
    simp only [List.cons.injEq, and_true] at e1
    obtain rfl := e1
    exact ⟨g, x_msg, x_addr, rfl, k0, k1⟩

/-- struct  Kind int Name string N int  -/
theorem see_22 {w : World} {f : Nat} {cs : List Value} (h : Sees Try.prog w f 22 cs) : ∃ g : Nat, ∃ x_Kind : Int, ∃ x_Name : ByteArray, ∃ x_N : Int, cs = [.int .i64 x_Kind, .string x_Name, .int .i64 x_N] ∧ (Lit.int .i64 x_Kind).wf = true ∧ x_Name.size ≤ maxLen ∧ (Lit.int .i64 x_N).wf = true := by
  obtain ⟨g, rfl, hl, hf⟩ := see_struct (fs := _) (by rfl) (sz := 3) (by kernel_rfl) h
  match cs, hl with
  | [c0, c1, c2], _ =>
    have h0 : Sees Try.prog w g 3 [c0] := hf 0 _ rfl
    obtain ⟨x_Kind, e0, k0⟩ := see_int (by rfl) h0
    simp only [List.cons.injEq, and_true] at e0
    obtain rfl := e0
    have h1 : Sees Try.prog w g 9 [c1] := hf 1 _ rfl
    obtain ⟨x_Name, e1, k1⟩ := see_string (by rfl) h1
    simp only [List.cons.injEq, and_true] at e1
    obtain rfl := e1
    have h2 : Sees Try.prog w g 3 [c2] := hf 2 _ rfl
    obtain ⟨x_N, e2, k2⟩ := see_int (by rfl) h2
    simp only [List.cons.injEq, and_true] at e2
    obtain rfl := e2
    exact ⟨g, x_Kind, x_Name, x_N, rfl, k0, k1, k2⟩

/-- elenchuslaw05.Op -/
theorem see_23 {w : World} {f : Nat} {cs : List Value} (h : Sees Try.prog w f 23 cs) : ∃ g : Nat, ∃ x_Kind : Int, ∃ x_Name : ByteArray, ∃ x_N : Int, cs = [.int .i64 x_Kind, .string x_Name, .int .i64 x_N] ∧ (Lit.int .i64 x_Kind).wf = true ∧ x_Name.size ≤ maxLen ∧ (Lit.int .i64 x_N).wf = true := by
  obtain ⟨g, rfl, hl, hf⟩ := see_struct (fs := _) (by rfl) (sz := 3) (by kernel_rfl) h
  match cs, hl with
  | [c0, c1, c2], _ =>
    have h0 : Sees Try.prog w g 3 [c0] := hf 0 _ rfl
    obtain ⟨x_Kind, e0, k0⟩ := see_int (by rfl) h0
    simp only [List.cons.injEq, and_true] at e0
    obtain rfl := e0
    have h1 : Sees Try.prog w g 9 [c1] := hf 1 _ rfl
    obtain ⟨x_Name, e1, k1⟩ := see_string (by rfl) h1
    simp only [List.cons.injEq, and_true] at e1
    obtain rfl := e1
    have h2 : Sees Try.prog w g 3 [c2] := hf 2 _ rfl
    obtain ⟨x_N, e2, k2⟩ := see_int (by rfl) h2
    simp only [List.cons.injEq, and_true] at e2
    obtain rfl := e2
    exact ⟨g, x_Kind, x_Name, x_N, rfl, k0, k1, k2⟩

/-- struct  name int arity int  -/
theorem see_59 {w : World} {f : Nat} {cs : List Value} (h : Sees Try.prog w f 59 cs) : ∃ g : Nat, ∃ x_name : Int, ∃ x_arity : Int, cs = [.int .i64 x_name, .int .i64 x_arity] ∧ (Lit.int .i64 x_name).wf = true ∧ (Lit.int .i64 x_arity).wf = true := by
  obtain ⟨g, rfl, hl, hf⟩ := see_struct (fs := _) (by rfl) (sz := 2) (by kernel_rfl) h
  match cs, hl with
  | [c0, c1], _ =>
    have h0 : Sees Try.prog w g 3 [c0] := hf 0 _ rfl
    obtain ⟨x_name, e0, k0⟩ := see_int (by rfl) h0
    simp only [List.cons.injEq, and_true] at e0
    obtain rfl := e0
    have h1 : Sees Try.prog w g 3 [c1] := hf 1 _ rfl
    obtain ⟨x_arity, e1, k1⟩ := see_int (by rfl) h1
    simp only [List.cons.injEq, and_true] at e1
    obtain rfl := e1
    exact ⟨g, x_name, x_arity, rfl, k0, k1⟩

/-- functor.pair -/
theorem see_60 {w : World} {f : Nat} {cs : List Value} (h : Sees Try.prog w f 60 cs) : ∃ g : Nat, ∃ x_name : Int, ∃ x_arity : Int, cs = [.int .i64 x_name, .int .i64 x_arity] ∧ (Lit.int .i64 x_name).wf = true ∧ (Lit.int .i64 x_arity).wf = true := by
  obtain ⟨g, rfl, hl, hf⟩ := see_struct (fs := _) (by rfl) (sz := 2) (by kernel_rfl) h
  match cs, hl with
  | [c0, c1], _ =>
    have h0 : Sees Try.prog w g 3 [c0] := hf 0 _ rfl
    obtain ⟨x_name, e0, k0⟩ := see_int (by rfl) h0
    simp only [List.cons.injEq, and_true] at e0
    obtain rfl := e0
    have h1 : Sees Try.prog w g 3 [c1] := hf 1 _ rfl
    obtain ⟨x_arity, e1, k1⟩ := see_int (by rfl) h1
    simp only [List.cons.injEq, and_true] at e1
    obtain rfl := e1
    exact ⟨g, x_name, x_arity, rfl, k0, k1⟩

/-- struct  f functor.pair is bool mark bool  -/
theorem see_63 {w : World} {f : Nat} {cs : List Value} (h : Sees Try.prog w f 63 cs) : ∃ g : Nat, ∃ x_f_name : Int, ∃ x_f_arity : Int, ∃ x_is : Bool, ∃ x_mark : Bool, cs = [.int .i64 x_f_name, .int .i64 x_f_arity, .bool x_is, .bool x_mark] ∧ (Lit.int .i64 x_f_name).wf = true ∧ (Lit.int .i64 x_f_arity).wf = true := by
  obtain ⟨g, rfl, hl, hf⟩ := see_struct (fs := _) (by rfl) (sz := 4) (by kernel_rfl) h
  match cs, hl with
  | [c0, c1, c2, c3], _ =>
    have h0 : Sees Try.prog w g 60 [c0, c1] := hf 0 _ rfl
    obtain ⟨g0, x_f_name, x_f_arity, e0, k0_0, k0_1⟩ := see_60 h0
    simp only [List.cons.injEq, and_true] at e0
    obtain ⟨rfl, rfl⟩ := e0
    have h1 : Sees Try.prog w g 4 [c2] := hf 1 _ rfl
    obtain ⟨x_is, e1⟩ := see_bool (by rfl) h1
    simp only [List.cons.injEq, and_true] at e1
    obtain rfl := e1
    have h2 : Sees Try.prog w g 4 [c3] := hf 2 _ rfl
    obtain ⟨x_mark, e2⟩ := see_bool (by rfl) h2
    simp only [List.cons.injEq, and_true] at e2
    obtain rfl := e2
    exact ⟨g, x_f_name, x_f_arity, x_is, x_mark, rfl, k0_0, k0_1⟩

/-- functor.slot -/
theorem see_64 {w : World} {f : Nat} {cs : List Value} (h : Sees Try.prog w f 64 cs) : ∃ g : Nat, ∃ x_f_name : Int, ∃ x_f_arity : Int, ∃ x_is : Bool, ∃ x_mark : Bool, cs = [.int .i64 x_f_name, .int .i64 x_f_arity, .bool x_is, .bool x_mark] ∧ (Lit.int .i64 x_f_name).wf = true ∧ (Lit.int .i64 x_f_arity).wf = true := by
  obtain ⟨g, rfl, hl, hf⟩ := see_struct (fs := _) (by rfl) (sz := 4) (by kernel_rfl) h
  match cs, hl with
  | [c0, c1, c2, c3], _ =>
    have h0 : Sees Try.prog w g 60 [c0, c1] := hf 0 _ rfl
    obtain ⟨g0, x_f_name, x_f_arity, e0, k0_0, k0_1⟩ := see_60 h0
    simp only [List.cons.injEq, and_true] at e0
    obtain ⟨rfl, rfl⟩ := e0
    have h1 : Sees Try.prog w g 4 [c2] := hf 1 _ rfl
    obtain ⟨x_is, e1⟩ := see_bool (by rfl) h1
    simp only [List.cons.injEq, and_true] at e1
    obtain rfl := e1
    have h2 : Sees Try.prog w g 4 [c3] := hf 2 _ rfl
    obtain ⟨x_mark, e2⟩ := see_bool (by rfl) h2
    simp only [List.cons.injEq, and_true] at e2
    obtain rfl := e2
    exact ⟨g, x_f_name, x_f_arity, x_is, x_mark, rfl, k0_0, k0_1⟩

/-- struct  state int32 sema uint32  -/
theorem see_77 {w : World} {f : Nat} {cs : List Value} (h : Sees Try.prog w f 77 cs) : ∃ g : Nat, ∃ x_state : Int, ∃ x_sema : Int, cs = [.int .i32 x_state, .int .u32 x_sema] ∧ (Lit.int .i32 x_state).wf = true ∧ (Lit.int .u32 x_sema).wf = true := by
  obtain ⟨g, rfl, hl, hf⟩ := see_struct (fs := _) (by rfl) (sz := 2) (by kernel_rfl) h
  match cs, hl with
  | [c0, c1], _ =>
    have h0 : Sees Try.prog w g 21 [c0] := hf 0 _ rfl
    obtain ⟨x_state, e0, k0⟩ := see_int (by rfl) h0
    simp only [List.cons.injEq, and_true] at e0
    obtain rfl := e0
    have h1 : Sees Try.prog w g 74 [c1] := hf 1 _ rfl
    obtain ⟨x_sema, e1, k1⟩ := see_int (by rfl) h1
    simp only [List.cons.injEq, and_true] at e1
    obtain rfl := e1
    exact ⟨g, x_state, x_sema, rfl, k0, k1⟩

/-- sync.Mutex -/
theorem see_78 {w : World} {f : Nat} {cs : List Value} (h : Sees Try.prog w f 78 cs) : ∃ g : Nat, ∃ x_state : Int, ∃ x_sema : Int, cs = [.int .i32 x_state, .int .u32 x_sema] ∧ (Lit.int .i32 x_state).wf = true ∧ (Lit.int .u32 x_sema).wf = true := by
  obtain ⟨g, rfl, hl, hf⟩ := see_struct (fs := _) (by rfl) (sz := 2) (by kernel_rfl) h
  match cs, hl with
  | [c0, c1], _ =>
    have h0 : Sees Try.prog w g 21 [c0] := hf 0 _ rfl
    obtain ⟨x_state, e0, k0⟩ := see_int (by rfl) h0
    simp only [List.cons.injEq, and_true] at e0
    obtain rfl := e0
    have h1 : Sees Try.prog w g 74 [c1] := hf 1 _ rfl
    obtain ⟨x_sema, e1, k1⟩ := see_int (by rfl) h1
    simp only [List.cons.injEq, and_true] at e1
    obtain rfl := e1
    exact ⟨g, x_state, x_sema, rfl, k0, k1⟩

/-- struct  name string is bool mark bool  -/
theorem see_91 {w : World} {f : Nat} {cs : List Value} (h : Sees Try.prog w f 91 cs) : ∃ g : Nat, ∃ x_name : ByteArray, ∃ x_is : Bool, ∃ x_mark : Bool, cs = [.string x_name, .bool x_is, .bool x_mark] ∧ x_name.size ≤ maxLen := by
  obtain ⟨g, rfl, hl, hf⟩ := see_struct (fs := _) (by rfl) (sz := 3) (by kernel_rfl) h
  match cs, hl with
  | [c0, c1, c2], _ =>
    have h0 : Sees Try.prog w g 9 [c0] := hf 0 _ rfl
    obtain ⟨x_name, e0, k0⟩ := see_string (by rfl) h0
    simp only [List.cons.injEq, and_true] at e0
    obtain rfl := e0
    have h1 : Sees Try.prog w g 4 [c1] := hf 1 _ rfl
    obtain ⟨x_is, e1⟩ := see_bool (by rfl) h1
    simp only [List.cons.injEq, and_true] at e1
    obtain rfl := e1
    have h2 : Sees Try.prog w g 4 [c2] := hf 2 _ rfl
    obtain ⟨x_mark, e2⟩ := see_bool (by rfl) h2
    simp only [List.cons.injEq, and_true] at e2
    obtain rfl := e2
    exact ⟨g, x_name, x_is, x_mark, rfl, k0⟩

/-- atom.slot -/
theorem see_92 {w : World} {f : Nat} {cs : List Value} (h : Sees Try.prog w f 92 cs) : ∃ g : Nat, ∃ x_name : ByteArray, ∃ x_is : Bool, ∃ x_mark : Bool, cs = [.string x_name, .bool x_is, .bool x_mark] ∧ x_name.size ≤ maxLen := by
  obtain ⟨g, rfl, hl, hf⟩ := see_struct (fs := _) (by rfl) (sz := 3) (by kernel_rfl) h
  match cs, hl with
  | [c0, c1, c2], _ =>
    have h0 : Sees Try.prog w g 9 [c0] := hf 0 _ rfl
    obtain ⟨x_name, e0, k0⟩ := see_string (by rfl) h0
    simp only [List.cons.injEq, and_true] at e0
    obtain rfl := e0
    have h1 : Sees Try.prog w g 4 [c1] := hf 1 _ rfl
    obtain ⟨x_is, e1⟩ := see_bool (by rfl) h1
    simp only [List.cons.injEq, and_true] at e1
    obtain rfl := e1
    have h2 : Sees Try.prog w g 4 [c2] := hf 2 _ rfl
    obtain ⟨x_mark, e2⟩ := see_bool (by rfl) h2
    simp only [List.cons.injEq, and_true] at e2
    obtain rfl := e2
    exact ⟨g, x_name, x_is, x_mark, rfl, k0⟩

/-- struct  L []elenchusref04.Slot Limit int Made int  -/
theorem see_94 {w : World} {f : Nat} {cs : List Value} (h : Sees Try.prog w f 94 cs) : ∃ g : Nat, ∃ x_LP : Option Addr, ∃ x_LN : Nat, ∃ x_LC : Nat, ∃ x_Limit : Int, ∃ x_Made : Int, cs = [.slice x_LP x_LN x_LC, .int .i64 x_Limit, .int .i64 x_Made] ∧ (∃ g, Sees Try.prog w g 93 [.slice x_LP x_LN x_LC]) ∧ (Lit.int .i64 x_Limit).wf = true ∧ (Lit.int .i64 x_Made).wf = true := by
  obtain ⟨g, rfl, hl, hf⟩ := see_struct (fs := _) (by rfl) (sz := 3) (by kernel_rfl) h
  match cs, hl with
  | [c0, c1, c2], _ =>
    have h0 : Sees Try.prog w g 93 [c0] := hf 0 _ rfl
    obtain ⟨x_LP, x_LN, x_LC, cs0, _, _, e0, _⟩ := see_slice (by rfl) (sz := 3) (by kernel_rfl) h0
    simp only [List.cons.injEq, and_true] at e0
    obtain rfl := e0
    have h1 : Sees Try.prog w g 3 [c1] := hf 1 _ rfl
    obtain ⟨x_Limit, e1, k1⟩ := see_int (by rfl) h1
    simp only [List.cons.injEq, and_true] at e1
    obtain rfl := e1
    have h2 : Sees Try.prog w g 3 [c2] := hf 2 _ rfl
    obtain ⟨x_Made, e2, k2⟩ := see_int (by rfl) h2
    simp only [List.cons.injEq, and_true] at e2
    obtain rfl := e2
    exact ⟨g, x_LP, x_LN, x_LC, x_Limit, x_Made, rfl, ⟨_, h0⟩, k1, k2⟩

/-- elenchusref04.Table -/
theorem see_95 {w : World} {f : Nat} {cs : List Value} (h : Sees Try.prog w f 95 cs) : ∃ g : Nat, ∃ x_LP : Option Addr, ∃ x_LN : Nat, ∃ x_LC : Nat, ∃ x_Limit : Int, ∃ x_Made : Int, cs = [.slice x_LP x_LN x_LC, .int .i64 x_Limit, .int .i64 x_Made] ∧ (∃ g, Sees Try.prog w g 93 [.slice x_LP x_LN x_LC]) ∧ (Lit.int .i64 x_Limit).wf = true ∧ (Lit.int .i64 x_Made).wf = true := by
  obtain ⟨g, rfl, hl, hf⟩ := see_struct (fs := _) (by rfl) (sz := 3) (by kernel_rfl) h
  match cs, hl with
  | [c0, c1, c2], _ =>
    have h0 : Sees Try.prog w g 93 [c0] := hf 0 _ rfl
    obtain ⟨x_LP, x_LN, x_LC, cs0, _, _, e0, _⟩ := see_slice (by rfl) (sz := 3) (by kernel_rfl) h0
    simp only [List.cons.injEq, and_true] at e0
    obtain rfl := e0
    have h1 : Sees Try.prog w g 3 [c1] := hf 1 _ rfl
    obtain ⟨x_Limit, e1, k1⟩ := see_int (by rfl) h1
    simp only [List.cons.injEq, and_true] at e1
    obtain rfl := e1
    have h2 : Sees Try.prog w g 3 [c2] := hf 2 _ rfl
    obtain ⟨x_Made, e2, k2⟩ := see_int (by rfl) h2
    simp only [List.cons.injEq, and_true] at e2
    obtain rfl := e2
    exact ⟨g, x_LP, x_LN, x_LC, x_Limit, x_Made, rfl, ⟨_, h0⟩, k1, k2⟩

/-- struct  Name string Is bool Mark bool  -/
theorem see_96 {w : World} {f : Nat} {cs : List Value} (h : Sees Try.prog w f 96 cs) : ∃ g : Nat, ∃ x_Name : ByteArray, ∃ x_Is : Bool, ∃ x_Mark : Bool, cs = [.string x_Name, .bool x_Is, .bool x_Mark] ∧ x_Name.size ≤ maxLen := by
  obtain ⟨g, rfl, hl, hf⟩ := see_struct (fs := _) (by rfl) (sz := 3) (by kernel_rfl) h
  match cs, hl with
  | [c0, c1, c2], _ =>
    have h0 : Sees Try.prog w g 9 [c0] := hf 0 _ rfl
    obtain ⟨x_Name, e0, k0⟩ := see_string (by rfl) h0
    simp only [List.cons.injEq, and_true] at e0
    obtain rfl := e0
    have h1 : Sees Try.prog w g 4 [c1] := hf 1 _ rfl
    obtain ⟨x_Is, e1⟩ := see_bool (by rfl) h1
    simp only [List.cons.injEq, and_true] at e1
    obtain rfl := e1
    have h2 : Sees Try.prog w g 4 [c2] := hf 2 _ rfl
    obtain ⟨x_Mark, e2⟩ := see_bool (by rfl) h2
    simp only [List.cons.injEq, and_true] at e2
    obtain rfl := e2
    exact ⟨g, x_Name, x_Is, x_Mark, rfl, k0⟩

/-- elenchusref04.Slot -/
theorem see_97 {w : World} {f : Nat} {cs : List Value} (h : Sees Try.prog w f 97 cs) : ∃ g : Nat, ∃ x_Name : ByteArray, ∃ x_Is : Bool, ∃ x_Mark : Bool, cs = [.string x_Name, .bool x_Is, .bool x_Mark] ∧ x_Name.size ≤ maxLen := by
  obtain ⟨g, rfl, hl, hf⟩ := see_struct (fs := _) (by rfl) (sz := 3) (by kernel_rfl) h
  match cs, hl with
  | [c0, c1, c2], _ =>
    have h0 : Sees Try.prog w g 9 [c0] := hf 0 _ rfl
    obtain ⟨x_Name, e0, k0⟩ := see_string (by rfl) h0
    simp only [List.cons.injEq, and_true] at e0
    obtain rfl := e0
    have h1 : Sees Try.prog w g 4 [c1] := hf 1 _ rfl
    obtain ⟨x_Is, e1⟩ := see_bool (by rfl) h1
    simp only [List.cons.injEq, and_true] at e1
    obtain rfl := e1
    have h2 : Sees Try.prog w g 4 [c2] := hf 2 _ rfl
    obtain ⟨x_Mark, e2⟩ := see_bool (by rfl) h2
    simp only [List.cons.injEq, and_true] at e2
    obtain rfl := e2
    exact ⟨g, x_Name, x_Is, x_Mark, rfl, k0⟩

/-- struct  Name int Arity int Is bool Mark bool  -/
theorem see_100 {w : World} {f : Nat} {cs : List Value} (h : Sees Try.prog w f 100 cs) : ∃ g : Nat, ∃ x_Name : Int, ∃ x_Arity : Int, ∃ x_Is : Bool, ∃ x_Mark : Bool, cs = [.int .i64 x_Name, .int .i64 x_Arity, .bool x_Is, .bool x_Mark] ∧ (Lit.int .i64 x_Name).wf = true ∧ (Lit.int .i64 x_Arity).wf = true := by
  obtain ⟨g, rfl, hl, hf⟩ := see_struct (fs := _) (by rfl) (sz := 4) (by kernel_rfl) h
  match cs, hl with
  | [c0, c1, c2, c3], _ =>
    have h0 : Sees Try.prog w g 3 [c0] := hf 0 _ rfl
    obtain ⟨x_Name, e0, k0⟩ := see_int (by rfl) h0
    simp only [List.cons.injEq, and_true] at e0
    obtain rfl := e0
    have h1 : Sees Try.prog w g 3 [c1] := hf 1 _ rfl
    obtain ⟨x_Arity, e1, k1⟩ := see_int (by rfl) h1
    simp only [List.cons.injEq, and_true] at e1
    obtain rfl := e1
    have h2 : Sees Try.prog w g 4 [c2] := hf 2 _ rfl
    obtain ⟨x_Is, e2⟩ := see_bool (by rfl) h2
    simp only [List.cons.injEq, and_true] at e2
    obtain rfl := e2
    have h3 : Sees Try.prog w g 4 [c3] := hf 3 _ rfl
    obtain ⟨x_Mark, e3⟩ := see_bool (by rfl) h3
    simp only [List.cons.injEq, and_true] at e3
    obtain rfl := e3
    exact ⟨g, x_Name, x_Arity, x_Is, x_Mark, rfl, k0, k1⟩

/-- elenchusref05.Slot -/
theorem see_101 {w : World} {f : Nat} {cs : List Value} (h : Sees Try.prog w f 101 cs) : ∃ g : Nat, ∃ x_Name : Int, ∃ x_Arity : Int, ∃ x_Is : Bool, ∃ x_Mark : Bool, cs = [.int .i64 x_Name, .int .i64 x_Arity, .bool x_Is, .bool x_Mark] ∧ (Lit.int .i64 x_Name).wf = true ∧ (Lit.int .i64 x_Arity).wf = true := by
  obtain ⟨g, rfl, hl, hf⟩ := see_struct (fs := _) (by rfl) (sz := 4) (by kernel_rfl) h
  match cs, hl with
  | [c0, c1, c2, c3], _ =>
    have h0 : Sees Try.prog w g 3 [c0] := hf 0 _ rfl
    obtain ⟨x_Name, e0, k0⟩ := see_int (by rfl) h0
    simp only [List.cons.injEq, and_true] at e0
    obtain rfl := e0
    have h1 : Sees Try.prog w g 3 [c1] := hf 1 _ rfl
    obtain ⟨x_Arity, e1, k1⟩ := see_int (by rfl) h1
    simp only [List.cons.injEq, and_true] at e1
    obtain rfl := e1
    have h2 : Sees Try.prog w g 4 [c2] := hf 2 _ rfl
    obtain ⟨x_Is, e2⟩ := see_bool (by rfl) h2
    simp only [List.cons.injEq, and_true] at e2
    obtain rfl := e2
    have h3 : Sees Try.prog w g 4 [c3] := hf 3 _ rfl
    obtain ⟨x_Mark, e3⟩ := see_bool (by rfl) h3
    simp only [List.cons.injEq, and_true] at e3
    obtain rfl := e3
    exact ⟨g, x_Name, x_Arity, x_Is, x_Mark, rfl, k0, k1⟩

end Go.Proofs.Ytlngmelfjiemlaa
