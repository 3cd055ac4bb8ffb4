/- What the structs that come in are made of. Printed by a program. -/
import Derived.Test.YtggbmakfifllnaaDoorOwn6
import Derived.Test.YtggbmakfifllnaaDoorProg
set_option maxRecDepth 100000
set_option linter.unusedVariables false
namespace Go.Proofs.YtggbmakfifllnaaDoor
open Go Go.D Go.Proofs

/-- struct  x int64 y int signed bool code abi.BoundsErrorCode  -/
theorem see_7 {w : World} {f : Nat} {cs : List Value} (h : Sees Tryd.prog w f 7 cs) : ∃ g : Nat, ∃ x_x : Int, ∃ x_y : Int, ∃ x_signed : Bool, ∃ x_code : Int, cs = [.int .i64 x_x, .int .i64 x_y, .bool x_signed, .int .u8 x_code] ∧ (Lit.int .i64 x_x).wf = true ∧ (Lit.int .i64 x_y).wf = true ∧ (Lit.int .u8 x_code).wf = true := by
  obtain ⟨g, rfl, hl, hf⟩ := see_struct (fs := _) (by rfl) (sz := 4) (by kernel_rfl) h
  match cs, hl with
  | [c0, c1, c2, c3], _ =>
    have h0 : Sees Tryd.prog w g 2 [c0] := hf 0 _ rfl
    obtain ⟨x_x, e0, k0⟩ := see_int (by rfl) h0
    simp only [List.cons.injEq, and_true] at e0
    obtain rfl := e0
    have h1 : Sees Tryd.prog w g 3 [c1] := hf 1 _ rfl
    obtain ⟨x_y, e1, k1⟩ := see_int (by rfl) h1
    simp only [List.cons.injEq, and_true] at e1
    obtain rfl := e1
    have h2 : Sees Tryd.prog w g 4 [c2] := hf 2 _ rfl
    obtain ⟨x_signed, e2⟩ := see_bool (by rfl) h2
    simp only [List.cons.injEq, and_true] at e2
    obtain rfl := e2
    have h3 : Sees Tryd.prog w g 6 [c3] := hf 3 _ rfl
    obtain ⟨x_code, e3, k3⟩ := see_int (by rfl) h3
    simp only [List.cons.injEq, and_true] at e3
    obtain rfl := e3
    exact ⟨g, x_x, x_y, x_signed, x_code, rfl, k0, k1, k3⟩

/-- runtime.boundsError -/
theorem see_8 {w : World} {f : Nat} {cs : List Value} (h : Sees Tryd.prog w f 8 cs) : ∃ g : Nat, ∃ x_x : Int, ∃ x_y : Int, ∃ x_signed : Bool, ∃ x_code : Int, cs = [.int .i64 x_x, .int .i64 x_y, .bool x_signed, .int .u8 x_code] ∧ (Lit.int .i64 x_x).wf = true ∧ (Lit.int .i64 x_y).wf = true ∧ (Lit.int .u8 x_code).wf = true := by
  obtain ⟨g, rfl, hl, hf⟩ := see_struct (fs := _) (by rfl) (sz := 4) (by kernel_rfl) h
  match cs, hl with
  | [c0, c1, c2, c3], _ =>
    have h0 : Sees Tryd.prog w g 2 [c0] := hf 0 _ rfl
    obtain ⟨x_x, e0, k0⟩ := see_int (by rfl) h0
    simp only [List.cons.injEq, and_true] at e0
    obtain rfl := e0
    have h1 : Sees Tryd.prog w g 3 [c1] := hf 1 _ rfl
    obtain ⟨x_y, e1, k1⟩ := see_int (by rfl) h1
    simp only [List.cons.injEq, and_true] at e1
    obtain rfl := e1
    have h2 : Sees Tryd.prog w g 4 [c2] := hf 2 _ rfl
    obtain ⟨x_signed, e2⟩ := see_bool (by rfl) h2
    simp only [List.cons.injEq, and_true] at e2
    obtain rfl := e2
    have h3 : Sees Tryd.prog w g 6 [c3] := hf 3 _ rfl
    obtain ⟨x_code, e3, k3⟩ := see_int (by rfl) h3
    simp only [List.cons.injEq, and_true] at e3
    obtain rfl := e3
    exact ⟨g, x_x, x_y, x_signed, x_code, rfl, k0, k1, k3⟩

/-- struct  msg string addr uintptr  -/
theorem see_13 {w : World} {f : Nat} {cs : List Value} (h : Sees Tryd.prog w f 13 cs) : ∃ g : Nat, ∃ x_msg : ByteArray, ∃ x_addr : Int, cs = [.string x_msg, .int .u64 x_addr] ∧ x_msg.size ≤ maxLen ∧ (Lit.int .u64 x_addr).wf = true := by
  obtain ⟨g, rfl, hl, hf⟩ := see_struct (fs := _) (by rfl) (sz := 2) (by kernel_rfl) h
  match cs, hl with
  | [c0, c1], _ =>
    have h0 : Sees Tryd.prog w g 9 [c0] := hf 0 _ rfl
    obtain ⟨x_msg, e0, k0⟩ := see_string (by rfl) h0
    simp only [List.cons.injEq, and_true] at e0
    obtain rfl := e0
    have h1 : Sees Tryd.prog w g 12 [c1] := hf 1 _ rfl
    obtain ⟨x_addr, e1, k1⟩ := see_int (by rfl) h1
    simp only [List.cons.injEq, and_true] at e1
    obtain rfl := e1
    exact ⟨g, x_msg, x_addr, rfl, k0, k1⟩

/-- runtime.errorAddressString -/
theorem see_14 {w : World} {f : Nat} {cs : List Value} (h : Sees Tryd.prog w f 14 cs) : ∃ g : Nat, ∃ x_msg : ByteArray, ∃ x_addr : Int, cs = [.string x_msg, .int .u64 x_addr] ∧ x_msg.size ≤ maxLen ∧ (Lit.int .u64 x_addr).wf = true := by
  obtain ⟨g, rfl, hl, hf⟩ := see_struct (fs := _) (by rfl) (sz := 2) (by kernel_rfl) h
  match cs, hl with
  | [c0, c1], _ =>
    have h0 : Sees Tryd.prog w g 9 [c0] := hf 0 _ rfl
    obtain ⟨x_msg, e0, k0⟩ := see_string (by rfl) h0
    simp only [List.cons.injEq, and_true] at e0
    obtain rfl := e0
    have h1 : Sees Tryd.prog w g 12 [c1] := hf 1 _ rfl
    obtain ⟨x_addr, e1, k1⟩ := see_int (by rfl) h1
    simp only [List.cons.injEq, and_true] at e1
    obtain rfl := e1
    exact ⟨g, x_msg, x_addr, rfl, k0, k1⟩

/-- struct  Cells int Trail int Words int Choices int Clauses in -/
theorem see_22 {w : World} {f : Nat} {cs : List Value} (h : Sees Tryd.prog w f 22 cs) : ∃ g : Nat, ∃ x_Cells : Int, ∃ x_Trail : Int, ∃ x_Words : Int, ∃ x_Choices : Int, ∃ x_Clauses : Int, cs = [.int .i64 x_Cells, .int .i64 x_Trail, .int .i64 x_Words, .int .i64 x_Choices, .int .i64 x_Clauses] ∧ (Lit.int .i64 x_Cells).wf = true ∧ (Lit.int .i64 x_Trail).wf = true ∧ (Lit.int .i64 x_Words).wf = true ∧ (Lit.int .i64 x_Choices).wf = true ∧ (Lit.int .i64 x_Clauses).wf = true := by
  obtain ⟨g, rfl, hl, hf⟩ := see_struct (fs := _) (by rfl) (sz := 5) (by kernel_rfl) h
  match cs, hl with
  | [c0, c1, c2, c3, c4], _ =>
    have h0 : Sees Tryd.prog w g 3 [c0] := hf 0 _ rfl
    obtain ⟨x_Cells, e0, k0⟩ := see_int (by rfl) h0
    simp only [List.cons.injEq, and_true] at e0
    obtain rfl := e0
    have h1 : Sees Tryd.prog w g 3 [c1] := hf 1 _ rfl
    obtain ⟨x_Trail, e1, k1⟩ := see_int (by rfl) h1
    simp only [List.cons.injEq, and_true] at e1
    obtain rfl := e1
    have h2 : Sees Tryd.prog w g 3 [c2] := hf 2 _ rfl
    obtain ⟨x_Words, e2, k2⟩ := see_int (by rfl) h2
    simp only [List.cons.injEq, and_true] at e2
    obtain rfl := e2
    have h3 : Sees Tryd.prog w g 3 [c3] := hf 3 _ rfl
    obtain ⟨x_Choices, e3, k3⟩ := see_int (by rfl) h3
    simp only [List.cons.injEq, and_true] at e3
    obtain rfl := e3
    have h4 : Sees Tryd.prog w g 3 [c4] := hf 4 _ rfl
    obtain ⟨x_Clauses, e4, k4⟩ := see_int (by rfl) h4
    simp only [List.cons.injEq, and_true] at e4
    obtain rfl := e4
    exact ⟨g, x_Cells, x_Trail, x_Words, x_Choices, x_Clauses, rfl, k0, k1, k2, k3, k4⟩

/-- api.Caps -/
theorem see_23 {w : World} {f : Nat} {cs : List Value} (h : Sees Tryd.prog w f 23 cs) : ∃ g : Nat, ∃ x_Cells : Int, ∃ x_Trail : Int, ∃ x_Words : Int, ∃ x_Choices : Int, ∃ x_Clauses : Int, cs = [.int .i64 x_Cells, .int .i64 x_Trail, .int .i64 x_Words, .int .i64 x_Choices, .int .i64 x_Clauses] ∧ (Lit.int .i64 x_Cells).wf = true ∧ (Lit.int .i64 x_Trail).wf = true ∧ (Lit.int .i64 x_Words).wf = true ∧ (Lit.int .i64 x_Choices).wf = true ∧ (Lit.int .i64 x_Clauses).wf = true := by
  obtain ⟨g, rfl, hl, hf⟩ := see_struct (fs := _) (by rfl) (sz := 5) (by kernel_rfl) h
  match cs, hl with
  | [c0, c1, c2, c3, c4], _ =>
    have h0 : Sees Tryd.prog w g 3 [c0] := hf 0 _ rfl
    obtain ⟨x_Cells, e0, k0⟩ := see_int (by rfl) h0
    simp only [List.cons.injEq, and_true] at e0
    obtain rfl := e0
    have h1 : Sees Tryd.prog w g 3 [c1] := hf 1 _ rfl
    obtain ⟨x_Trail, e1, k1⟩ := see_int (by rfl) h1
    simp only [List.cons.injEq, and_true] at e1
    obtain rfl := e1
    have h2 : Sees Tryd.prog w g 3 [c2] := hf 2 _ rfl
    obtain ⟨x_Words, e2, k2⟩ := see_int (by rfl) h2
    simp only [List.cons.injEq, and_true] at e2
    obtain rfl := e2
    have h3 : Sees Tryd.prog w g 3 [c3] := hf 3 _ rfl
    obtain ⟨x_Choices, e3, k3⟩ := see_int (by rfl) h3
    simp only [List.cons.injEq, and_true] at e3
    obtain rfl := e3
    have h4 : Sees Tryd.prog w g 3 [c4] := hf 4 _ rfl
    obtain ⟨x_Clauses, e4, k4⟩ := see_int (by rfl) h4
    simp only [List.cons.injEq, and_true] at e4
    obtain rfl := e4
    exact ⟨g, x_Cells, x_Trail, x_Words, x_Choices, x_Clauses, rfl, k0, k1, k2, k3, k4⟩

/-- struct  Program string Query string Caps api.Caps Steps int  -/
theorem see_25 {w : World} {f : Nat} {cs : List Value} (h : Sees Tryd.prog w f 25 cs) : ∃ g : Nat, ∃ x_Program : ByteArray, ∃ x_Query : ByteArray, ∃ x_Caps_Cells : Int, ∃ x_Caps_Trail : Int, ∃ x_Caps_Words : Int, ∃ x_Caps_Choices : Int, ∃ x_Caps_Clauses : Int, ∃ x_Steps : Int, ∃ x_CollectP : Option Addr, ∃ x_CollectN : Nat, ∃ x_CollectC : Nat, cs = [.string x_Program, .string x_Query, .int .i64 x_Caps_Cells, .int .i64 x_Caps_Trail, .int .i64 x_Caps_Words, .int .i64 x_Caps_Choices, .int .i64 x_Caps_Clauses, .int .i64 x_Steps, .slice x_CollectP x_CollectN x_CollectC] ∧ x_Program.size ≤ maxLen ∧ x_Query.size ≤ maxLen ∧ (Lit.int .i64 x_Caps_Cells).wf = true ∧ (Lit.int .i64 x_Caps_Trail).wf = true ∧ (Lit.int .i64 x_Caps_Words).wf = true ∧ (Lit.int .i64 x_Caps_Choices).wf = true ∧ (Lit.int .i64 x_Caps_Clauses).wf = true ∧ (Lit.int .i64 x_Steps).wf = true ∧ (∃ g, Sees Tryd.prog w g 24 [.slice x_CollectP x_CollectN x_CollectC]) := by
  obtain ⟨g, rfl, hl, hf⟩ := see_struct (fs := _) (by rfl) (sz := 9) (by kernel_rfl) h
  match cs, hl with
  | [c0, c1, c2, c3, c4, c5, c6, c7, c8], _ =>
    have h0 : Sees Tryd.prog w g 9 [c0] := hf 0 _ rfl
    obtain ⟨x_Program, e0, k0⟩ := see_string (by rfl) h0
    simp only [List.cons.injEq, and_true] at e0
    obtain rfl := e0
    have h1 : Sees Tryd.prog w g 9 [c1] := hf 1 _ rfl
    obtain ⟨x_Query, e1, k1⟩ := see_string (by rfl) h1
    simp only [List.cons.injEq, and_true] at e1
    obtain rfl := e1
    have h2 : Sees Tryd.prog w g 23 [c2, c3, c4, c5, c6] := hf 2 _ rfl
    obtain ⟨g2, x_Caps_Cells, x_Caps_Trail, x_Caps_Words, x_Caps_Choices, x_Caps_Clauses, e2, k2_0, k2_1, k2_2, k2_3, k2_4⟩ := see_23 h2
    simp only [List.cons.injEq, and_true] at e2
    obtain ⟨rfl, rfl, rfl, rfl, rfl⟩ := e2
    have h3 : Sees Tryd.prog w g 3 [c7] := hf 3 _ rfl
    obtain ⟨x_Steps, e3, k3⟩ := see_int (by rfl) h3
    simp only [List.cons.injEq, and_true] at e3
    obtain rfl := e3
    have h4 : Sees Tryd.prog w g 24 [c8] := hf 4 _ rfl
    obtain ⟨x_CollectP, x_CollectN, x_CollectC, cs4, _, _, e4, _⟩ := see_slice (by rfl) (sz := 1) (by kernel_rfl) h4
    simp only [List.cons.injEq, and_true] at e4
    obtain rfl := e4
    exact ⟨g, x_Program, x_Query, x_Caps_Cells, x_Caps_Trail, x_Caps_Words, x_Caps_Choices, x_Caps_Clauses, x_Steps, x_CollectP, x_CollectN, x_CollectC, rfl, k0, k1, k2_0, k2_1, k2_2, k2_3, k2_4, k3, ⟨_, h4⟩⟩

/-- api.Script -/
theorem see_26 {w : World} {f : Nat} {cs : List Value} (h : Sees Tryd.prog w f 26 cs) : ∃ g : Nat, ∃ x_Program : ByteArray, ∃ x_Query : ByteArray, ∃ x_Caps_Cells : Int, ∃ x_Caps_Trail : Int, ∃ x_Caps_Words : Int, ∃ x_Caps_Choices : Int, ∃ x_Caps_Clauses : Int, ∃ x_Steps : Int, ∃ x_CollectP : Option Addr, ∃ x_CollectN : Nat, ∃ x_CollectC : Nat, cs = [.string x_Program, .string x_Query, .int .i64 x_Caps_Cells, .int .i64 x_Caps_Trail, .int .i64 x_Caps_Words, .int .i64 x_Caps_Choices, .int .i64 x_Caps_Clauses, .int .i64 x_Steps, .slice x_CollectP x_CollectN x_CollectC] ∧ x_Program.size ≤ maxLen ∧ x_Query.size ≤ maxLen ∧ (Lit.int .i64 x_Caps_Cells).wf = true ∧ (Lit.int .i64 x_Caps_Trail).wf = true ∧ (Lit.int .i64 x_Caps_Words).wf = true ∧ (Lit.int .i64 x_Caps_Choices).wf = true ∧ (Lit.int .i64 x_Caps_Clauses).wf = true ∧ (Lit.int .i64 x_Steps).wf = true ∧ (∃ g, Sees Tryd.prog w g 24 [.slice x_CollectP x_CollectN x_CollectC]) := by
  obtain ⟨g, rfl, hl, hf⟩ := see_struct (fs := _) (by rfl) (sz := 9) (by kernel_rfl) h
  match cs, hl with
  | [c0, c1, c2, c3, c4, c5, c6, c7, c8], _ =>
    have h0 : Sees Tryd.prog w g 9 [c0] := hf 0 _ rfl
    obtain ⟨x_Program, e0, k0⟩ := see_string (by rfl) h0
    simp only [List.cons.injEq, and_true] at e0
    obtain rfl := e0
    have h1 : Sees Tryd.prog w g 9 [c1] := hf 1 _ rfl
    obtain ⟨x_Query, e1, k1⟩ := see_string (by rfl) h1
    simp only [List.cons.injEq, and_true] at e1
    obtain rfl := e1
    have h2 : Sees Tryd.prog w g 23 [c2, c3, c4, c5, c6] := hf 2 _ rfl
    obtain ⟨g2, x_Caps_Cells, x_Caps_Trail, x_Caps_Words, x_Caps_Choices, x_Caps_Clauses, e2, k2_0, k2_1, k2_2, k2_3, k2_4⟩ := see_23 h2
    simp only [List.cons.injEq, and_true] at e2
    obtain ⟨rfl, rfl, rfl, rfl, rfl⟩ := e2
    have h3 : Sees Tryd.prog w g 3 [c7] := hf 3 _ rfl
    obtain ⟨x_Steps, e3, k3⟩ := see_int (by rfl) h3
    simp only [List.cons.injEq, and_true] at e3
    obtain rfl := e3
    have h4 : Sees Tryd.prog w g 24 [c8] := hf 4 _ rfl
    obtain ⟨x_CollectP, x_CollectN, x_CollectC, cs4, _, _, e4, _⟩ := see_slice (by rfl) (sz := 1) (by kernel_rfl) h4
    simp only [List.cons.injEq, and_true] at e4
    obtain rfl := e4
    exact ⟨g, x_Program, x_Query, x_Caps_Cells, x_Caps_Trail, x_Caps_Words, x_Caps_Choices, x_Caps_Clauses, x_Steps, x_CollectP, x_CollectN, x_CollectC, rfl, k0, k1, k2_0, k2_1, k2_2, k2_3, k2_4, k3, ⟨_, h4⟩⟩

/-- struct  Tag int Events []api.Event Steps int Wrong api.Errno -/
theorem see_42 {w : World} {f : Nat} {cs : List Value} (h : Sees Tryd.prog w f 42 cs) : ∃ g : Nat, ∃ x_Tag : Int, ∃ x_EventsP : Option Addr, ∃ x_EventsN : Nat, ∃ x_EventsC : Nat, ∃ x_Steps : Int, ∃ x_Wrong : Int, ∃ x_Part : Int, ∃ x_At : Int, cs = [.int .i64 x_Tag, .slice x_EventsP x_EventsN x_EventsC, .int .i64 x_Steps, .int .i64 x_Wrong, .int .i64 x_Part, .int .i64 x_At] ∧ (Lit.int .i64 x_Tag).wf = true ∧ (∃ g, Sees Tryd.prog w g 41 [.slice x_EventsP x_EventsN x_EventsC]) ∧ (Lit.int .i64 x_Steps).wf = true ∧ (Lit.int .i64 x_Wrong).wf = true ∧ (Lit.int .i64 x_Part).wf = true ∧ (Lit.int .i64 x_At).wf = true := by
  obtain ⟨g, rfl, hl, hf⟩ := see_struct (fs := _) (by rfl) (sz := 6) (by kernel_rfl) h
  match cs, hl with
  | [c0, c1, c2, c3, c4, c5], _ =>
    have h0 : Sees Tryd.prog w g 3 [c0] := hf 0 _ rfl
    obtain ⟨x_Tag, e0, k0⟩ := see_int (by rfl) h0
    simp only [List.cons.injEq, and_true] at e0
    obtain rfl := e0
    have h1 : Sees Tryd.prog w g 41 [c1] := hf 1 _ rfl
    obtain ⟨x_EventsP, x_EventsN, x_EventsC, cs1, _, _, e1, _⟩ := see_slice (by rfl) (sz := 2) (by kernel_rfl) h1
    simp only [List.cons.injEq, and_true] at e1
    obtain rfl := e1
    have h2 : Sees Tryd.prog w g 3 [c2] := hf 2 _ rfl
    obtain ⟨x_Steps, e2, k2⟩ := see_int (by rfl) h2
    simp only [List.cons.injEq, and_true] at e2
    obtain rfl := e2
    have h3 : Sees Tryd.prog w g 29 [c3] := hf 3 _ rfl
    obtain ⟨x_Wrong, e3, k3⟩ := see_int (by rfl) h3
    simp only [List.cons.injEq, and_true] at e3
    obtain rfl := e3
    have h4 : Sees Tryd.prog w g 3 [c4] := hf 4 _ rfl
    obtain ⟨x_Part, e4, k4⟩ := see_int (by rfl) h4
    simp only [List.cons.injEq, and_true] at e4
    obtain rfl := e4
    have h5 : Sees Tryd.prog w g 3 [c5] := hf 5 _ rfl
    obtain ⟨x_At, e5, k5⟩ := see_int (by rfl) h5
    simp only [List.cons.injEq, and_true] at e5
    obtain rfl := e5
    exact ⟨g, x_Tag, x_EventsP, x_EventsN, x_EventsC, x_Steps, x_Wrong, x_Part, x_At, rfl, k0, ⟨_, h1⟩, k2, k3, k4, k5⟩

/-- api.Run -/
theorem see_43 {w : World} {f : Nat} {cs : List Value} (h : Sees Tryd.prog w f 43 cs) : ∃ g : Nat, ∃ x_Tag : Int, ∃ x_EventsP : Option Addr, ∃ x_EventsN : Nat, ∃ x_EventsC : Nat, ∃ x_Steps : Int, ∃ x_Wrong : Int, ∃ x_Part : Int, ∃ x_At : Int, cs = [.int .i64 x_Tag, .slice x_EventsP x_EventsN x_EventsC, .int .i64 x_Steps, .int .i64 x_Wrong, .int .i64 x_Part, .int .i64 x_At] ∧ (Lit.int .i64 x_Tag).wf = true ∧ (∃ g, Sees Tryd.prog w g 41 [.slice x_EventsP x_EventsN x_EventsC]) ∧ (Lit.int .i64 x_Steps).wf = true ∧ (Lit.int .i64 x_Wrong).wf = true ∧ (Lit.int .i64 x_Part).wf = true ∧ (Lit.int .i64 x_At).wf = true := by
  obtain ⟨g, rfl, hl, hf⟩ := see_struct (fs := _) (by rfl) (sz := 6) (by kernel_rfl) h
  match cs, hl with
  | [c0, c1, c2, c3, c4, c5], _ =>
    have h0 : Sees Tryd.prog w g 3 [c0] := hf 0 _ rfl
    obtain ⟨x_Tag, e0, k0⟩ := see_int (by rfl) h0
    simp only [List.cons.injEq, and_true] at e0
    obtain rfl := e0
    have h1 : Sees Tryd.prog w g 41 [c1] := hf 1 _ rfl
    obtain ⟨x_EventsP, x_EventsN, x_EventsC, cs1, _, _, e1, _⟩ := see_slice (by rfl) (sz := 2) (by kernel_rfl) h1
    simp only [List.cons.injEq, and_true] at e1
    obtain rfl := e1
    have h2 : Sees Tryd.prog w g 3 [c2] := hf 2 _ rfl
    obtain ⟨x_Steps, e2, k2⟩ := see_int (by rfl) h2
    simp only [List.cons.injEq, and_true] at e2
    obtain rfl := e2
    have h3 : Sees Tryd.prog w g 29 [c3] := hf 3 _ rfl
    obtain ⟨x_Wrong, e3, k3⟩ := see_int (by rfl) h3
    simp only [List.cons.injEq, and_true] at e3
    obtain rfl := e3
    have h4 : Sees Tryd.prog w g 3 [c4] := hf 4 _ rfl
    obtain ⟨x_Part, e4, k4⟩ := see_int (by rfl) h4
    simp only [List.cons.injEq, and_true] at e4
    obtain rfl := e4
    have h5 : Sees Tryd.prog w g 3 [c5] := hf 5 _ rfl
    obtain ⟨x_At, e5, k5⟩ := see_int (by rfl) h5
    simp only [List.cons.injEq, and_true] at e5
    obtain rfl := e5
    exact ⟨g, x_Tag, x_EventsP, x_EventsN, x_EventsC, x_Steps, x_Wrong, x_Part, x_At, rfl, k0, ⟨_, h1⟩, k2, k3, k4, k5⟩

/-- struct  Kind int Text string  -/
theorem see_44 {w : World} {f : Nat} {cs : List Value} (h : Sees Tryd.prog w f 44 cs) : ∃ g : Nat, ∃ x_Kind : Int, ∃ x_Text : ByteArray, cs = [.int .i64 x_Kind, .string x_Text] ∧ (Lit.int .i64 x_Kind).wf = true ∧ x_Text.size ≤ maxLen := by
  obtain ⟨g, rfl, hl, hf⟩ := see_struct (fs := _) (by rfl) (sz := 2) (by kernel_rfl) h
  match cs, hl with
  | [c0, c1], _ =>
    have h0 : Sees Tryd.prog w g 3 [c0] := hf 0 _ rfl
    obtain ⟨x_Kind, e0, k0⟩ := see_int (by rfl) h0
    simp only [List.cons.injEq, and_true] at e0
    obtain rfl := e0
    have h1 : Sees Tryd.prog w g 9 [c1] := hf 1 _ rfl
    obtain ⟨x_Text, e1, k1⟩ := see_string (by rfl) h1
    simp only [List.cons.injEq, and_true] at e1
    obtain rfl := e1
    exact ⟨g, x_Kind, x_Text, rfl, k0, k1⟩

/-- api.Event -/
theorem see_45 {w : World} {f : Nat} {cs : List Value} (h : Sees Tryd.prog w f 45 cs) : ∃ g : Nat, ∃ x_Kind : Int, ∃ x_Text : ByteArray, cs = [.int .i64 x_Kind, .string x_Text] ∧ (Lit.int .i64 x_Kind).wf = true ∧ x_Text.size ≤ maxLen := by
  obtain ⟨g, rfl, hl, hf⟩ := see_struct (fs := _) (by rfl) (sz := 2) (by kernel_rfl) h
  match cs, hl with
  | [c0, c1], _ =>
    have h0 : Sees Tryd.prog w g 3 [c0] := hf 0 _ rfl
    obtain ⟨x_Kind, e0, k0⟩ := see_int (by rfl) h0
    simp only [List.cons.injEq, and_true] at e0
    obtain rfl := e0
    have h1 : Sees Tryd.prog w g 9 [c1] := hf 1 _ rfl
    obtain ⟨x_Text, e1, k1⟩ := see_string (by rfl) h1
    simp only [List.cons.injEq, and_true] at e1
    obtain rfl := e1
    exact ⟨g, x_Kind, x_Text, rfl, k0, k1⟩

/-- struct  b []uint8 bad bool  -/
theorem see_56 {w : World} {f : Nat} {cs : List Value} (h : Sees Tryd.prog w f 56 cs) : ∃ g : Nat, ∃ x_bP : Option Addr, ∃ x_bN : Nat, ∃ x_bC : Nat, ∃ x_bad : Bool, cs = [.slice x_bP x_bN x_bC, .bool x_bad] ∧ (∃ g, Sees Tryd.prog w g 28 [.slice x_bP x_bN x_bC]) := by
  obtain ⟨g, rfl, hl, hf⟩ := see_struct (fs := _) (by rfl) (sz := 2) (by kernel_rfl) h
  match cs, hl with
  | [c0, c1], _ =>
    have h0 : Sees Tryd.prog w g 28 [c0] := hf 0 _ rfl
    obtain ⟨x_bP, x_bN, x_bC, cs0, _, _, e0, _⟩ := see_slice (by rfl) (sz := 1) (by kernel_rfl) h0
    simp only [List.cons.injEq, and_true] at e0
    obtain rfl := e0
    have h1 : Sees Tryd.prog w g 4 [c1] := hf 1 _ rfl
    obtain ⟨x_bad, e1⟩ := see_bool (by rfl) h1
    simp only [List.cons.injEq, and_true] at e1
    obtain rfl := e1
    exact ⟨g, x_bP, x_bN, x_bC, x_bad, rfl, ⟨_, h0⟩⟩

/-- script.writer -/
theorem see_57 {w : World} {f : Nat} {cs : List Value} (h : Sees Tryd.prog w f 57 cs) : ∃ g : Nat, ∃ x_bP : Option Addr, ∃ x_bN : Nat, ∃ x_bC : Nat, ∃ x_bad : Bool, cs = [.slice x_bP x_bN x_bC, .bool x_bad] ∧ (∃ g, Sees Tryd.prog w g 28 [.slice x_bP x_bN x_bC]) := by
  obtain ⟨g, rfl, hl, hf⟩ := see_struct (fs := _) (by rfl) (sz := 2) (by kernel_rfl) h
  match cs, hl with
  | [c0, c1], _ =>
    have h0 : Sees Tryd.prog w g 28 [c0] := hf 0 _ rfl
    obtain ⟨x_bP, x_bN, x_bC, cs0, _, _, e0, _⟩ := see_slice (by rfl) (sz := 1) (by kernel_rfl) h0
    simp only [List.cons.injEq, and_true] at e0
    obtain rfl := e0
    have h1 : Sees Tryd.prog w g 4 [c1] := hf 1 _ rfl
    obtain ⟨x_bad, e1⟩ := see_bool (by rfl) h1
    simp only [List.cons.injEq, and_true] at e1
    obtain rfl := e1
    exact ⟨g, x_bP, x_bN, x_bC, x_bad, rfl, ⟨_, h0⟩⟩

/-- script.reader -/
theorem see_64 {w : World} {f : Nat} {cs : List Value} (h : Sees Tryd.prog w f 64 cs) : ∃ g : Nat, ∃ x_bP : Option Addr, ∃ x_bN : Nat, ∃ x_bC : Nat, ∃ x_bad : Bool, cs = [.slice x_bP x_bN x_bC, .bool x_bad] ∧ (∃ g, Sees Tryd.prog w g 28 [.slice x_bP x_bN x_bC]) := by
  obtain ⟨g, rfl, hl, hf⟩ := see_struct (fs := _) (by rfl) (sz := 2) (by kernel_rfl) h
  match cs, hl with
  | [c0, c1], _ =>
    have h0 : Sees Tryd.prog w g 28 [c0] := hf 0 _ rfl
    obtain ⟨x_bP, x_bN, x_bC, cs0, _, _, e0, _⟩ := see_slice (by rfl) (sz := 1) (by kernel_rfl) h0
    simp only [List.cons.injEq, and_true] at e0
    obtain rfl := e0
    have h1 : Sees Tryd.prog w g 4 [c1] := hf 1 _ rfl
    obtain ⟨x_bad, e1⟩ := see_bool (by rfl) h1
    simp only [List.cons.injEq, and_true] at e1
    obtain rfl := e1
    exact ⟨g, x_bP, x_bN, x_bC, x_bad, rfl, ⟨_, h0⟩⟩

/-- struct  b []uint8 bad bool  -/
theorem see_71 {w : World} {f : Nat} {cs : List Value} (h : Sees Tryd.prog w f 71 cs) : ∃ g : Nat, ∃ x_bP : Option Addr, ∃ x_bN : Nat, ∃ x_bC : Nat, ∃ x_bad : Bool, cs = [.slice x_bP x_bN x_bC, .bool x_bad] ∧ (∃ g, Sees Tryd.prog w g 28 [.slice x_bP x_bN x_bC]) := by
  obtain ⟨g, rfl, hl, hf⟩ := see_struct (fs := _) (by rfl) (sz := 2) (by kernel_rfl) h
  match cs, hl with
  | [c0, c1], _ =>
    have h0 : Sees Tryd.prog w g 28 [c0] := hf 0 _ rfl
    obtain ⟨x_bP, x_bN, x_bC, cs0, _, _, e0, _⟩ := see_slice (by rfl) (sz := 1) (by kernel_rfl) h0
    simp only [List.cons.injEq, and_true] at e0
    obtain rfl := e0
    have h1 : Sees Tryd.prog w g 4 [c1] := hf 1 _ rfl
    obtain ⟨x_bad, e1⟩ := see_bool (by rfl) h1
    simp only [List.cons.injEq, and_true] at e1
    obtain rfl := e1
    exact ⟨g, x_bP, x_bN, x_bC, x_bad, rfl, ⟨_, h0⟩⟩

/-- elenchusref27.reader -/
theorem see_72 {w : World} {f : Nat} {cs : List Value} (h : Sees Tryd.prog w f 72 cs) : ∃ g : Nat, ∃ x_bP : Option Addr, ∃ x_bN : Nat, ∃ x_bC : Nat, ∃ x_bad : Bool, cs = [.slice x_bP x_bN x_bC, .bool x_bad] ∧ (∃ g, Sees Tryd.prog w g 28 [.slice x_bP x_bN x_bC]) := by
  obtain ⟨g, rfl, hl, hf⟩ := see_struct (fs := _) (by rfl) (sz := 2) (by kernel_rfl) h
  match cs, hl with
  | [c0, c1], _ =>
    have h0 : Sees Tryd.prog w g 28 [c0] := hf 0 _ rfl
    obtain ⟨x_bP, x_bN, x_bC, cs0, _, _, e0, _⟩ := see_slice (by rfl) (sz := 1) (by kernel_rfl) h0
    simp only [List.cons.injEq, and_true] at e0
    obtain rfl := e0
    have h1 : Sees Tryd.prog w g 4 [c1] := hf 1 _ rfl
    obtain ⟨x_bad, e1⟩ := see_bool (by rfl) h1
    simp only [List.cons.injEq, and_true] at e1
    obtain rfl := e1
    exact ⟨g, x_bP, x_bN, x_bC, x_bad, rfl, ⟨_, h0⟩⟩

end Go.Proofs.YtggbmakfifllnaaDoor
