/- Small rules that take a formula's words apart. -/
import Derived.Test.YtchbhocpmhlhjaaDoorOwn2
set_option linter.unusedSimpArgs false
set_option linter.unusedVariables false
namespace Go.D

theorem ifT {b : Bool} {A B : Prop} (h : b = true) (k : A) : If b A B := by subst h; rw [If_true]; exact k
theorem ifF {b : Bool} {A B : Prop} (h : b = false) (k : B) : If b A B := by subst h; rw [If_false]; exact k
theorem ifC {b : Bool} {A B : Prop} (h : b = true → A) (k : b = false → B) : If b A B := ⟨h, k⟩

theorem exS {p : Option Addr} {n c : Nat} {Q : Option Addr → Nat → Nat → Prop} : (∃ a b d, some (Value.slice p n c) = some (.slice a b d) ∧ Q a b d) = Q p n c := by
  apply propext; constructor
  · rintro ⟨a, b, d, h, q⟩; cases h; exact q
  · intro q; exact ⟨p, n, c, rfl, q⟩
theorem exI {k : IntKind} {v : Int} {Q : Int → Prop} : (∃ x, some (Value.int k v) = some (.int k x) ∧ Q x) = Q v := by
  apply propext; constructor
  · rintro ⟨a, h, q⟩; cases h; exact q
  · intro q; exact ⟨v, rfl, q⟩
theorem exB {v : Bool} {Q : Bool → Prop} : (∃ x, some (Value.bool v) = some (.bool x) ∧ Q x) = Q v := by
  apply propext; constructor
  · rintro ⟨a, h, q⟩; cases h; exact q
  · intro q; exact ⟨v, rfl, q⟩
theorem exP {v : Option Addr} {Q : Option Addr → Prop} : (∃ x, some (Value.pointer v) = some (.pointer x) ∧ Q x) = Q v := by
  apply propext; constructor
  · rintro ⟨a, h, q⟩; cases h; exact q
  · intro q; exact ⟨v, rfl, q⟩
theorem exM {v : Option Nat} {Q : Option Nat → Prop} : (∃ x, some (Value.map v) = some (.map x) ∧ Q x) = Q v := by
  apply propext; constructor
  · rintro ⟨a, h, q⟩; cases h; exact q
  · intro q; exact ⟨v, rfl, q⟩
theorem exStr {v : ByteArray} {Q : ByteArray → Prop} : (∃ x, some (Value.string v) = some (.string x) ∧ Q x) = Q v := by
  apply propext; constructor
  · rintro ⟨a, h, q⟩; cases h; exact q
  · intro q; exact ⟨v, rfl, q⟩
theorem exV {v : Value} {Q : Value → Prop} : (∃ x, some v = some x ∧ Q x) = Q v := by
  apply propext; constructor
  · rintro ⟨a, h, q⟩; cases h; exact q
  · intro q; exact ⟨v, rfl, q⟩

theorem a0 {α : Type} {a : α} {l : List α} : (a :: l).toArray[0]? = some a := by simp
theorem a1 {α : Type} {a b : α} {l : List α} : (a :: b :: l).toArray[1]? = some b := by simp
theorem a2 {α : Type} {a b c : α} {l : List α} : (a :: b :: c :: l).toArray[2]? = some c := by simp
theorem a3 {α : Type} {a b c d : α} {l : List α} : (a :: b :: c :: d :: l).toArray[3]? = some d := by simp
theorem a4 {α : Type} {a b c d e : α} {l : List α} : (a :: b :: c :: d :: e :: l).toArray[4]? = some e := by simp
theorem a5 {α : Type} {a b c d e f : α} {l : List α} : (a :: b :: c :: d :: e :: f :: l).toArray[5]? = some f := by simp
theorem a6 {α : Type} {a b c d e f g : α} {l : List α} : (a :: b :: c :: d :: e :: f :: g :: l).toArray[6]? = some g := by simp
theorem a7 {α : Type} {a b c d e f g h : α} {l : List α} : (a :: b :: c :: d :: e :: f :: g :: h :: l).toArray[7]? = some h := by simp
theorem a8 {α : Type} {x0 x1 x2 x3 x4 x5 x6 x7 x8 : α} {l : List α} : (x0 :: x1 :: x2 :: x3 :: x4 :: x5 :: x6 :: x7 :: x8 :: l).toArray[8]? = some x8 := by simp
theorem a9 {α : Type} {x0 x1 x2 x3 x4 x5 x6 x7 x8 x9 : α} {l : List α} : (x0 :: x1 :: x2 :: x3 :: x4 :: x5 :: x6 :: x7 :: x8 :: x9 :: l).toArray[9]? = some x9 := by simp
theorem a10 {α : Type} {x0 x1 x2 x3 x4 x5 x6 x7 x8 x9 x10 : α} {l : List α} : (x0 :: x1 :: x2 :: x3 :: x4 :: x5 :: x6 :: x7 :: x8 :: x9 :: x10 :: l).toArray[10]? = some x10 := by simp
theorem a11 {α : Type} {x0 x1 x2 x3 x4 x5 x6 x7 x8 x9 x10 x11 : α} {l : List α} : (x0 :: x1 :: x2 :: x3 :: x4 :: x5 :: x6 :: x7 :: x8 :: x9 :: x10 :: x11 :: l).toArray[11]? = some x11 := by simp
theorem a12 {α : Type} {x0 x1 x2 x3 x4 x5 x6 x7 x8 x9 x10 x11 x12 : α} {l : List α} : (x0 :: x1 :: x2 :: x3 :: x4 :: x5 :: x6 :: x7 :: x8 :: x9 :: x10 :: x11 :: x12 :: l).toArray[12]? = some x12 := by simp
theorem a13 {α : Type} {x0 x1 x2 x3 x4 x5 x6 x7 x8 x9 x10 x11 x12 x13 : α} {l : List α} : (x0 :: x1 :: x2 :: x3 :: x4 :: x5 :: x6 :: x7 :: x8 :: x9 :: x10 :: x11 :: x12 :: x13 :: l).toArray[13]? = some x13 := by simp

/-- A store, the turns gathered. -/
theorem St_acc {w0 w : World} {b o : Nat} {arr : Array Value} {v : Value} {K : World → Prop} (U : Upd [b] w0 w) (h : Blk w b arr) (ho : o < arr.size) (hv : v.oneCell' = true)
    (hK : ∀ w', Upd [b] w0 w' → Blk w' b (arr.setIfInBounds o v) → K w') : St w ⟨b, o, none⟩ v K :=
  St_rule h ho hv fun w' u hb => hK w' (U.both u) hb

theorem maxI_eq (x y : Int) : maxI x y = max x y := by unfold maxI; split <;> omega

/-- Wrapping nothing. -/
theorem i64id {x : Int} (h0 : -2 ^ 63 ≤ x) (h1 : x < 2 ^ 63) : IntKind.i64.wrap x = x := by
  by_cases h : 0 ≤ x
  · have hf : (x % 2 ^ 64 ≥ 2 ^ (64 - 1)) = False := by apply eq_false; omega
    simp only [IntKind.wrap, IntKind.bits, IntKind.signed, hf]
    simp; omega
  · have hf : (x % 2 ^ 64 ≥ 2 ^ (64 - 1)) = True := by apply eq_true; omega
    simp only [IntKind.wrap, IntKind.bits, IntKind.signed, hf]
    simp; omega

theorem fill_one {z v : Value} (hv : v.cells = #[v]) : Instr.fill (fun i => some (i * 1, 1)) ((Array.range (1 * 1)).map ((#[z] : Array Value)[· % (#[z] : Array Value).size]!)) [(0, v)] = some ([v] : List Value).toArray := by
  simp [Instr.fill, hv, Array.range]
  apply Array.ext
  · simp
  · intro i h1 h2
    simp at h2
    subst h2
    simp

end Go.D
