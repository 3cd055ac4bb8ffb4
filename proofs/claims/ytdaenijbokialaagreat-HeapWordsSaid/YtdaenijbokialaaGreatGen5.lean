/- The formulas of this seat's functions, held against the loaded program by the kernel. Printed by a program. -/
import Derived.Test.YtdaenijbokialaaGreatGenC
set_option maxRecDepth 100000
set_option linter.unusedVariables false
namespace Go.Proofs.YtdaenijbokialaaGreat
open Go Go.D Go.Proofs

def F_heap_Heap_Atom (hx : Option Addr) (namex : ByteArray) (w : World) (R : Int → Int → World → Prop) : Prop :=
  C_heap_Heap_made hx w fun t9 w1 =>
  If (!t9)
  (R (0 : Int) (6 : Int) w1)
  (NN hx fun a =>
  ∃ atoms : Option Addr, w1.cell? (a.add 2) = some (.pointer atoms) ∧
  C_atom_Table_Intern atoms namex w1 fun t170 t171 w1_1 =>
  If (t171 != (0 : Int))
  (R (0 : Int) t171 w1_1)
  (C_heap_word (3 : Int) t170 w1_1 fun t24 w1_2 =>
  R t24 (0 : Int) w1_2))

def G_heap_Heap_Atom : Gen where
  loop := lookL []
  plan := fun _ => none

theorem loops_heap_Heap_Atom : LoopOk Tryz.prog Tryz.f51.ntmps G_heap_Heap_Atom (codeOf Tryz.f51) := loopOk_none fun _ => rfl

theorem C_heap_Heap_Atom.of {hx : Option Addr} {namex : ByteArray} {w : World} {R : Int → Int → World → Prop} (h : F_heap_Heap_Atom hx namex w R) : C_heap_Heap_Atom hx namex w R := ofS5 (Fm := F_heap_Heap_Atom hx namex w) Tryz.func51 (by kernel_rfl) loops_heap_Heap_Atom rfl (fun _ => by kernel_rfl) h

def F_heap_Heap_Int (hx : Option Addr) (n : Int) (w : World) (R : Int → Int → World → Prop) : Prop :=
  C_heap_Heap_made hx w fun t8 w1 =>
  If (!t8)
  (R (0 : Int) (6 : Int) w1)
  (If (decide (n < (-9007199254740991)))
  (R (0 : Int) (1 : Int) w1)
  (If (decide (n > (9007199254740991 : Int)))
  (R (0 : Int) (1 : Int) w1)
  (C_heap_word (4 : Int) n w1 fun t18 w1_1 =>
  R t18 (0 : Int) w1_1)))

def G_heap_Heap_Int : Gen where
  loop := lookL []
  plan := fun _ => none

theorem loops_heap_Heap_Int : LoopOk Tryz.prog Tryz.f52.ntmps G_heap_Heap_Int (codeOf Tryz.f52) := loopOk_none fun _ => rfl

theorem C_heap_Heap_Int.of {hx : Option Addr} {n : Int} {w : World} {R : Int → Int → World → Prop} (h : F_heap_Heap_Int hx n w R) : C_heap_Heap_Int hx n w R := ofS5 (Fm := F_heap_Heap_Int hx n w) Tryz.func52 (by kernel_rfl) loops_heap_Heap_Int rfl (fun _ => by kernel_rfl) h

def F_heap_Heap_Trail (hx : Option Addr) (w : World) (R : Option Addr → World → Prop) : Prop :=
  C_heap_Heap_made hx w fun t4 w1 =>
  If (!t4)
  (R none w1)
  (NN hx fun a =>
  ∃ trail : Option Addr, w1.cell? (a.add 1) = some (.pointer trail) ∧
  R trail w1)

def G_heap_Heap_Trail : Gen where
  loop := lookL []
  plan := fun _ => none

theorem loops_heap_Heap_Trail : LoopOk Tryz.prog Tryz.f54.ntmps G_heap_Heap_Trail (codeOf Tryz.f54) := loopOk_none fun _ => rfl

theorem C_heap_Heap_Trail.of {hx : Option Addr} {w : World} {R : Option Addr → World → Prop} (h : F_heap_Heap_Trail hx w R) : C_heap_Heap_Trail hx w R := ofS13 (Fm := F_heap_Heap_Trail hx w) Tryz.func54 (by kernel_rfl) loops_heap_Heap_Trail rfl (fun _ => by kernel_rfl) h

def F_heap_Heap_Atoms (hx : Option Addr) (w : World) (R : Option Addr → World → Prop) : Prop :=
  C_heap_Heap_made hx w fun t4 w1 =>
  If (!t4)
  (R none w1)
  (NN hx fun a =>
  ∃ atoms : Option Addr, w1.cell? (a.add 2) = some (.pointer atoms) ∧
  R atoms w1)

def G_heap_Heap_Atoms : Gen where
  loop := lookL []
  plan := fun _ => none

theorem loops_heap_Heap_Atoms : LoopOk Tryz.prog Tryz.f55.ntmps G_heap_Heap_Atoms (codeOf Tryz.f55) := loopOk_none fun _ => rfl

theorem C_heap_Heap_Atoms.of {hx : Option Addr} {w : World} {R : Option Addr → World → Prop} (h : F_heap_Heap_Atoms hx w R) : C_heap_Heap_Atoms hx w R := ofS13 (Fm := F_heap_Heap_Atoms hx w) Tryz.func55 (by kernel_rfl) loops_heap_Heap_Atoms rfl (fun _ => by kernel_rfl) h

def F_heap_Heap_Functors (hx : Option Addr) (w : World) (R : Option Addr → World → Prop) : Prop :=
  C_heap_Heap_made hx w fun t4 w1 =>
  If (!t4)
  (R none w1)
  (NN hx fun a =>
  ∃ funs : Option Addr, w1.cell? (a.add 3) = some (.pointer funs) ∧
  R funs w1)

def G_heap_Heap_Functors : Gen where
  loop := lookL []
  plan := fun _ => none

theorem loops_heap_Heap_Functors : LoopOk Tryz.prog Tryz.f56.ntmps G_heap_Heap_Functors (codeOf Tryz.f56) := loopOk_none fun _ => rfl

theorem C_heap_Heap_Functors.of {hx : Option Addr} {w : World} {R : Option Addr → World → Prop} (h : F_heap_Heap_Functors hx w R) : C_heap_Heap_Functors hx w R := ofS13 (Fm := F_heap_Heap_Functors hx w) Tryz.func56 (by kernel_rfl) loops_heap_Heap_Functors rfl (fun _ => by kernel_rfl) h

end Go.Proofs.YtdaenijbokialaaGreat
