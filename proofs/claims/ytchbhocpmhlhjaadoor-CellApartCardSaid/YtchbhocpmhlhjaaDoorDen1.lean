/- A computable reading of the model's code as predicate transformers, and its soundness: the base of all walks of this claim. -/
import Derived.Orders
import Derived.Laws.World
import Derived.Laws.StructEq
import Derived.KernelRfl
namespace Go.D

/-! ## Shapes of values -/

inductive Lf where
  | int (k : IntKind) | bool | str | ptr | slice | map | any
  deriving Inhabited

inductive Comp where
  | leaf (l : Lf)
  | agg (ls : List Lf)
  deriving Inhabited

inductive Sh where
  | comp (c : Comp)
  | tup (cs : List Comp)
  deriving Inhabited

def Lf.ex : Lf → (Value → Prop) → Prop
  | .int k, K => ∃ n : Int, K (.int k n)
  | .bool, K => ∃ b : Bool, K (.bool b)
  | .str, K => ∃ s : ByteArray, K (.string s)
  | .ptr, K => ∃ p : Option Addr, K (.pointer p)
  | .slice, K => ∃ (p : Option Addr) (n c : Nat), K (.slice p n c)
  | .map, K => ∃ r : Option Nat, K (.map r)
  | .any, K => ∃ v : Value, K v

def exLs : List Lf → (List Value → Prop) → Prop
  | [], K => K []
  | l :: ls, K => l.ex fun v => exLs ls fun vs => K (v :: vs)

def Comp.ex : Comp → (Value → Prop) → Prop
  | .leaf l, K => l.ex K
  | .agg ls, K => exLs ls fun vs => K (.agg vs.toArray)

def exCs : List Comp → (List Value → Prop) → Prop
  | [], K => K []
  | c :: cs, K => c.ex fun v => exCs cs fun vs => K (v :: vs)

def Sh.ex : Sh → (Value → Prop) → Prop
  | .comp c, K => c.ex K
  | .tup cs, K => exCs cs fun vs => K (.tuple vs.toArray)

theorem Lf.ex_sound {l : Lf} {K : Value → Prop} (h : l.ex K) : ∃ v, K v := by
  cases l <;> simp only [Lf.ex] at h <;> first
    | exact h
    | (obtain ⟨a, b, c, h⟩ := h; exact ⟨_, h⟩)
    | (obtain ⟨a, h⟩ := h; exact ⟨_, h⟩)

theorem exLs_sound : ∀ {ls : List Lf} {K : List Value → Prop}, exLs ls K → ∃ vs, vs.length = ls.length ∧ K vs
  | [], K, h => ⟨[], rfl, h⟩
  | l :: ls, K, h => by
    obtain ⟨v, h⟩ := Lf.ex_sound h
    obtain ⟨vs, hl, h⟩ := exLs_sound h
    exact ⟨v :: vs, by simp [hl], h⟩

theorem Comp.ex_sound {c : Comp} {K : Value → Prop} (h : c.ex K) : ∃ v, K v := by
  cases c with
  | leaf l => exact Lf.ex_sound h
  | agg ls => obtain ⟨vs, _, h⟩ := exLs_sound h; exact ⟨_, h⟩

theorem exCs_sound : ∀ {cs : List Comp} {K : List Value → Prop}, exCs cs K → ∃ vs, K vs
  | [], K, h => ⟨[], h⟩
  | c :: cs, K, h => by
    obtain ⟨v, h⟩ := Comp.ex_sound h
    obtain ⟨vs, h⟩ := exCs_sound h
    exact ⟨v :: vs, h⟩

theorem Sh.ex_sound {s : Sh} {K : Value → Prop} (h : s.ex K) : ∃ v, K v := by
  cases s with
  | comp c => exact Comp.ex_sound h
  | tup cs => obtain ⟨vs, h⟩ := exCs_sound h; exact ⟨_, h⟩

/-! ## Types' shapes -/
section
variable (P : Program)

def isAggT (t : TypeId) : Bool :=
  match P.underlying t with
  | some (.struct _) => true
  | some (.array _ _) => true
  | _ => false

def leaves : Nat → TypeId → List Lf
  | 0, _ => [.any]
  | d + 1, t =>
    match P.underlying t with
    | some .bool => [.bool]
    | some (.int k) => [.int k]
    | some .string => [.str]
    | some (.pointer _) => [.ptr]
    | some (.slice _) => [.slice]
    | some (.map _ _) => [.map]
    | some (.struct fs) => (fs.toList.map fun f => leaves d f.type).flatten
    | some (.array n e) => (List.replicate n (leaves d e)).flatten
    | _ => [.any]

def compOf (t : TypeId) : Comp :=
  match isAggT P t with
  | true => .agg (leaves P 9 t)
  | false => match leaves P 9 t with
    | [l] => .leaf l
    | _ => .leaf .any

def shOf (t : TypeId) : Sh :=
  match P.underlying t with
  | some (.tuple ts) => .tup (ts.toList.map (compOf P))
  | _ => .comp (compOf P t)
end

/-! ## Combinators of the formulas -/

def onV (o : Option Value) (K : Value → Prop) : Prop :=
  match o with
  | some v => K v
  | none => False

def If (b : Bool) (A B : Prop) : Prop := (b = true → A) ∧ (b = false → B)

theorem If_true {A B : Prop} : If true A B = A := by simp [If]
theorem If_false {A B : Prop} : If false A B = B := by simp [If]

def NN (p : Option Addr) (K : Addr → Prop) : Prop := ∃ a, p = some a ∧ K a

theorem NN_some {a : Addr} {K : Addr → Prop} : NN (some a) K = K a := by simp [NN]

def New (w : World) (o : Obj) (K : Nat → World → Prop) : Prop := K w.heap.size { w with heap := w.heap.push o }

def St (w : World) (a : Addr) (v : Value) (K : World → Prop) : Prop :=
  v.oneCell' = true ∧ (∃ old, w.cell? a = some old) ∧ w.frozen? a = false ∧ K (w.setCell a v)

def StL (w : World) (a : Addr) : List Value → Nat → (World → Prop) → Prop
  | [], _, K => K w
  | v :: vs, i, K => St w (a.add i) v fun w1 => StL w1 a vs (i + 1) K

def Run {α : Type} (P : Program) (s : Sem α) (w : World) (K : α → World → Prop) : Prop :=
  match s.run P w with
  | .ok v w' => K v w'
  | .halt _ _ => False

def Draw (w : World) (K : World → Prop) : Prop := ∀ d, K { w with drawn := d }

def ldCells (w : World) (a : Addr) : List Lf → Nat → (List Value → Prop) → Prop
  | [], _, K => K []
  | l :: ls, i, K => l.ex fun v => w.cell? (a.add i) = some v ∧ ldCells w a ls (i + 1) fun vs => K (v :: vs)

def Ld (P : Program) (w : World) (t : TypeId) (a : Addr) (K : Value → Prop) : Prop :=
  match compOf P t with
  | .leaf l => match P.underlying t with
    | some _ => l.ex fun v => w.cell? a = some v ∧ K v
    | none => False
  | .agg ls => match Nat.beq ls.length (P.cellsOf t) with
    | true => ldCells w a ls 0 fun vs => K (.agg vs.toArray)
    | false => False

/-! ## Environments -/

structure Entry where
  tmp : Nat
  val : Value
  kn : Option Bool

abbrev Env := List Entry

def find : Env → Nat → Option Entry
  | [], _ => none
  | x :: r, t => match Nat.beq x.tmp t with
    | true => some x
    | false => find r t

def getV (e : Env) (t : Nat) : Option Value := match find e t with | some x => some x.val | none => none
def getK (e : Env) (t : Nat) : Option Bool := match find e t with | some x => x.kn | none => none

def ev (e : Env) : Operand → Option Value
  | .tmp t => getV e t
  | .const v => some v
  | .global g => some (.pointer (some ⟨g, 0, none⟩))
  | .func f => some (.func (.func f) #[] #[])

def evK (e : Env) : Operand → Option Bool
  | .tmp t => getK e t
  | .const (.bool b) => some b
  | _ => none

def evs (e : Env) : List Operand → (List Value → Prop) → Prop
  | [], K => K []
  | x :: xs, K => onV (ev e x) fun v => evs e xs fun vs => K (v :: vs)

/-- What an environment knows of the operands. -/
structure Agree (ρ : Operand → Value) (e : Env) : Prop where
  val : ∀ x v, ev e x = some v → ρ x = v
  kn : ∀ x b, evK e x = some b → ρ x = .bool b

theorem evs_sound {ρ : Operand → Value} {e : Env} (h : Agree ρ e) : ∀ {xs : List Operand} {K : List Value → Prop}, evs e xs K → K (xs.map ρ)
  | [], _, hk => hk
  | x :: xs, K, hk => by
    unfold evs onV at hk
    split at hk
    · rename_i v hv
      have := evs_sound h hk
      rw [List.map_cons, h.val _ _ hv]; exact this
    · exact hk.elim

/-! ## Arithmetic -/

def kindEq : IntKind → IntKind → Bool
  | .i8, .i8 | .i16, .i16 | .i32, .i32 | .i64, .i64 | .u8, .u8 | .u16, .u16 | .u32, .u32 | .u64, .u64 => true
  | _, _ => false

theorem kindEq_eq {a b : IntKind} (h : kindEq a b = true) : a = b := by cases a <;> cases b <;> first | rfl | simp [kindEq] at h

def andI (k : IntKind) (a b : Int) : Int := k.wrap (BitVec.ofInt k.bits a &&& BitVec.ofInt k.bits b).toNat
def orI (k : IntKind) (a b : Int) : Int := k.wrap (BitVec.ofInt k.bits a ||| BitVec.ofInt k.bits b).toNat
def xorI (k : IntKind) (a b : Int) : Int := k.wrap (BitVec.ofInt k.bits a ^^^ BitVec.ofInt k.bits b).toNat
def andNotI (k : IntKind) (a b : Int) : Int := k.wrap (BitVec.ofInt k.bits a &&& ~~~BitVec.ofInt k.bits b).toNat
def shlI (k : IntKind) (a b : Int) : Int := k.wrap (a * 2 ^ (min b.toNat k.bits))
def shrI (k : IntKind) (a b : Int) : Int := a.fdiv (2 ^ (min b.toNat k.bits))

/-- Operands of one kind. -/
def same (k k' : IntKind) (A : Prop) : Prop := match kindEq k k' with | true => A | false => False

def leafEq : Value → Value → Option Bool
  | .int k a, .int k' b => match kindEq k k' with | true => some (a == b) | false => none
  | .bool a, .bool b => some (a == b)
  | .string a, .string b => some (a == b)
  | _, _ => none

/-- Two rows of leaves, one by one. -/
def rowEq : List Value → List Value → Option Bool
  | [], [] => some true
  | x :: xs, y :: ys => match leafEq x y, rowEq xs ys with
    | some a, some b => some (a && b)
    | _, _ => none
  | _, _ => none

def binD (P : Program) (op : BinOp) (t : TypeId) (x y : Value) (K : Value → Prop) : Prop :=
  match x, y with
  | .int k a, .int k' b =>
    match op with
    | .add => same k k' (K (.int k (k.wrap (a + b))))
    | .sub => same k k' (K (.int k (k.wrap (a - b))))
    | .mul => same k k' (K (.int k (k.wrap (a * b))))
    | .quo => same k k' (b ≠ 0 ∧ K (.int k (k.wrap (a.tdiv b))))
    | .rem => same k k' (b ≠ 0 ∧ K (.int k (a.tmod b)))
    | .and => same k k' (K (.int k (andI k a b)))
    | .or => same k k' (K (.int k (orI k a b)))
    | .xor => same k k' (K (.int k (xorI k a b)))
    | .andNot => same k k' (K (.int k (andNotI k a b)))
    | .shl => 0 ≤ b ∧ K (.int k (shlI k a b))
    | .shr => 0 ≤ b ∧ K (.int k (shrI k a b))
    | .eql => same k k' (K (.bool (a == b)))
    | .neq => same k k' (K (.bool (a != b)))
    | .lss => same k k' (K (.bool (decide (a < b))))
    | .leq => same k k' (K (.bool (decide (a ≤ b))))
    | .gtr => same k k' (K (.bool (decide (a > b))))
    | .geq => same k k' (K (.bool (decide (a ≥ b))))
  | .string a, .string b =>
    match op with
    | .add => ((a.size + b.size : Nat) : Int) ≤ IntKind.i64.max ∧ K (.string (a ++ b))
    | .eql => K (.bool (a.toList == b.toList))
    | .neq => K (.bool (!(a.toList == b.toList)))
    | .lss => K (.bool (Op.bytesLess a.toList b.toList))
    | .leq => K (.bool (Op.bytesLess a.toList b.toList || a.toList == b.toList))
    | .gtr => K (.bool (!(Op.bytesLess a.toList b.toList || a.toList == b.toList)))
    | .geq => K (.bool (!(Op.bytesLess a.toList b.toList)))
    | _ => False
  | .bool a, .bool b =>
    match P.underlying t with
    | some .bool => match op with
      | .eql => K (.bool (a == b))
      | .neq => K (.bool (!(a == b)))
      | _ => False
    | _ => False
  | .pointer p, .pointer none =>
    match P.underlying t with
    | some (.pointer _) => match op with
      | .eql => K (.bool p.isNone)
      | .neq => K (.bool (!p.isNone))
      | _ => False
    | _ => False
  | .slice p _ _, .slice none _ _ =>
    match P.underlying t with
    | some (.slice _) => match op with
      | .eql => K (.bool p.isNone)
      | .neq => K (.bool (!p.isNone))
      | _ => False
    | _ => False
  | .map r, .map none =>
    match P.underlying t with
    | some (.map _ _) => match op with
      | .eql => K (.bool r.isNone)
      | .neq => K (.bool (!r.isNone))
      | _ => False
    | _ => False
  | .agg _, .agg _ =>
    match P.eqGuardType P.depth t with
    | true => False
    | false => match op with
      | .eql => ∃ b, (∀ w, (Op.equal t x y).run P w = .ok b w) ∧ K (.bool b)
      | .neq => ∃ b, (∀ w, (Op.equal t x y).run P w = .ok b w) ∧ K (.bool (!b))
      | _ => False
  | _, _ => False

/-- A value of an interface's type. -/
def isIf (v : Value) : Prop := v = .nilIface ∨ ∃ (t : TypeId) (u : Value), v = .iface t u

def isNilV : Value → Bool
  | .nilIface => true
  | _ => false

/-- Against the literal nil. -/
def nilD (P : Program) (op : BinOp) (t : TypeId) (v : Value) (K : Value → Prop) : Prop :=
  match P.underlying t with
  | some (.interface _) => isIf v ∧ match op with
    | .eql => K (.bool (isNilV v))
    | .neq => K (.bool (!isNilV v))
    | _ => False
  | _ => False

def unD (op : UnOp) (x : Value) (K : Value → Prop) : Prop :=
  match op, x with
  | .not, .bool b => K (.bool (!b))
  | .neg, .int k n => K (.int k (k.wrap (0 - n)))
  | .xor, .int k n => K (.int k (xorI k (match k.signed with | true => -1 | false => k.max) n))
  | _, _ => False

def convD (P : Program) (src dst : TypeId) (x : Value) (K : Value → Prop) : Prop :=
  match P.underlying src, P.underlying dst, x with
  | some _, some (.int k), .int _ n => K (.int k (k.wrap n))
  | some .string, some .string, .string s => K (.string s)
  | _, _, _ => False

/-- A slice's start, moved on. -/
def adv (p : Option Addr) (c l size : Nat) : Option Addr := if c = l then p else p.map (·.add (l * size))

def sliceD (P : Program) (t : TypeId) (x : Value) (lo hi : Option Value) (K : Value → Prop) : Prop :=
  match P.underlying t, x with
  | some (.slice el), .slice p n c =>
    match (P.info? el).isSome with
    | true => match lo, hi with
      | none, none => K (.slice p n c)
      | none, some (.int _ h) => 0 ≤ h ∧ h ≤ (c : Int) ∧ K (.slice p h.toNat c)
      | some (.int _ l), none => 0 ≤ l ∧ l ≤ (n : Int) ∧ K (.slice (adv p c l.toNat (P.cellsOf el)) (n - l.toNat) (c - l.toNat))
      | some (.int _ l), some (.int _ h) => 0 ≤ l ∧ l ≤ h ∧ h ≤ (c : Int) ∧ K (.slice (adv p c l.toNat (P.cellsOf el)) (h.toNat - l.toNat) (c - l.toNat))
      | _, _ => False
    | false => False
  | some .string, .string s =>
    match lo, hi with
    | none, none => K (.string (s.extract 0 s.size))
    | none, some (.int _ h) => 0 ≤ h ∧ h ≤ (s.size : Int) ∧ K (.string (s.extract 0 h.toNat))
    | some (.int _ l), none => 0 ≤ l ∧ l ≤ (s.size : Int) ∧ K (.string (s.extract l.toNat s.size))
    | some (.int _ l), some (.int _ h) => 0 ≤ l ∧ l ≤ h ∧ h ≤ (s.size : Int) ∧ K (.string (s.extract l.toNat h.toNat))
    | _, _ => False
  | _, _ => False

/-- A slice, its capacity cut too. -/
def slice3D (P : Program) (t : TypeId) (x : Value) (lo hi : Option Value) (m : Value) (K : Value → Prop) : Prop :=
  match P.underlying t, x with
  | some (.slice el), .slice p _ c =>
    match (P.info? el).isSome with
    | true => match lo, hi, m with
      | none, some (.int _ h), .int _ m => 0 ≤ h ∧ h ≤ m ∧ m ≤ (c : Int) ∧ K (.slice p h.toNat m.toNat)
      | some (.int _ l), some (.int _ h), .int _ m => 0 ≤ l ∧ l ≤ h ∧ h ≤ m ∧ m ≤ (c : Int) ∧ K (.slice (adv p m.toNat l.toNat (P.cellsOf el)) (h.toNat - l.toNat) (m.toNat - l.toNat))
      | _, _, _ => False
    | false => False
  | _, _ => False

def evO (e : Env) (o : Option Operand) (K : Option Value → Prop) : Prop :=
  match o with
  | none => K none
  | some x => onV (ev e x) fun v => K (some v)

def evParts (e : Env) : List (Nat × Operand) → (List (Nat × Value) → Prop) → Prop
  | [], K => K []
  | (i, x) :: xs, K => onV (ev e x) fun v => evParts e xs fun vs => K ((i, v) :: vs)

theorem evParts_sound {ρ : Operand → Value} {e : Env} (h : Agree ρ e) : ∀ {xs : List (Nat × Operand)} {K : List (Nat × Value) → Prop}, evParts e xs K → K (xs.map fun x => (x.1, ρ x.2))
  | [], _, hk => hk
  | (i, x) :: xs, K, hk => by
    unfold evParts onV at hk
    split at hk
    · rename_i v hv
      have := evParts_sound h hk
      rw [List.map_cons, h.val _ _ hv]; exact this
    · exact hk.elim

/-- The cells of a struct or an array value that is built. -/
def fillD (place : Nat → Option (Nat × Nat)) (cells : Array Value) (parts : List (Nat × Value)) (K : Array Value → Prop) : Prop :=
  match Instr.fill place cells parts with
  | some cs => K cs
  | none => False

def zeroCellsD (P : Program) (t : TypeId) (K : Array Value → Prop) : Prop :=
  match P.info? t with
  | some i => match i.zero with
    | some v => K v.cells
    | none => False
  | none => False

/-- The type is one of the program's. -/
def known (P : Program) (t : TypeId) (A : Prop) : Prop := match P.info? t with
  | some _ => A
  | none => False

def buildD (P : Program) (t : TypeId) (parts : List (Nat × Value)) (K : Value → Prop) : Prop :=
  zeroCellsD P t fun zero =>
    match P.underlying t with
    | some (.struct fs) => match fs.all (fun f => (P.info? f.type).isSome) with
      | true => fillD (fun i => (fs[i]?).map fun f => (f.offset, P.cellsOf f.type)) zero parts fun cs => K (.agg cs)
      | false => False
    | some (.array _ el) => known P el (fillD (fun i => some (i * P.cellsOf el, P.cellsOf el)) zero parts fun cs => K (.agg cs))
    | _ => False

def fieldD (P : Program) (t : TypeId) (x : Value) (f : Nat) (K : Value → Prop) : Prop :=
  match P.underlying t, x with
  | some (.struct fs), .agg cs =>
    match fs[f]? with
    | some fd => match P.underlying fd.type with
      | some _ => match isAggT P fd.type with
        | true => K (.agg (cs.extract fd.offset (fd.offset + P.cellsOf fd.type)))
        | false => match cs[fd.offset]? with
          | some v => K v
          | none => False
      | none => False
    | none => False
  | _, _ => False

def fieldAddrD (P : Program) (t : TypeId) (x : Value) (f : Nat) (K : Value → Prop) : Prop :=
  match P.underlying t, x with
  | some (.struct fs), .pointer (some a) =>
    match fs[f]? with
    | some fd => match Nat.beq (P.cellsOf fd.type) 0 with
      | true => False
      | false => K (.pointer (some (a.add fd.offset)))
    | none => False
  | _, _ => False

def indexAddrD (P : Program) (t : TypeId) (x i : Value) (K : Value → Prop) : Prop :=
  match P.underlying t, x, i with
  | some (.slice el), .slice p n _, .int _ j => known P el (0 ≤ j ∧ j < (n : Int) ∧ NN p fun a => K (.pointer (some (a.add (j.toNat * P.cellsOf el)))))
  | some (.array n el), .pointer (some a), .int _ j => known P el (0 ≤ j ∧ j < (n : Int) ∧ K (.pointer (some (a.add (j.toNat * P.cellsOf el)))))
  | _, _, _ => False

def indexD (P : Program) (t : TypeId) (x i : Value) (K : Value → Prop) : Prop :=
  match P.underlying t, x, i with
  | some .string, .string s, .int _ j => 0 ≤ j ∧ ∃ b : UInt8, s[j.toNat]? = some b ∧ K (.int .u8 b.toNat)
  | some (.array n el), .agg cs, .int _ j =>
    match compOf P el with
    | .leaf l => match isAggT P el with
      | false => match P.underlying el with
        | some _ => 0 ≤ j ∧ j < (n : Int) ∧ l.ex fun v => cs[j.toNat * P.cellsOf el]? = some v ∧ K v
        | none => False
      | true => False
    | .agg _ => False
  | _, _, _ => False

def lenD (P : Program) (t : TypeId) (x : Value) (K : Value → Prop) : Prop :=
  match P.underlying t, x with
  | some .string, .string s => K (.int .i64 s.size)
  | some (.slice _), .slice _ n _ => K (.int .i64 n)
  | some (.array n _), _ => K (.int .i64 n)
  | _, _ => False

def minI (x y : Int) : Int := if y < x then y else x
def maxI (x y : Int) : Int := if y > x then y else x

def pickD (c a b : Value) (K : Value → Prop) : Prop :=
  match c, a, b with
  | .bool c, .bool a, .bool b => K (.bool (bif c then a else b))
  | _, _, _ => False

theorem pickD_sound {vc va vb : Value} {K : Value → Prop} (h : pickD vc va vb K) : ∃ c a b : Bool, vc = .bool c ∧ va = .bool a ∧ vb = .bool b ∧ K (.bool (bif c then a else b)) := by
  unfold pickD at h
  split at h
  · exact ⟨_, _, _, rfl, rfl, rfl, h⟩
  · exact h.elim

/-- The operations that yield a value and leave the world alone, and what they hand on. -/
def opV (P : Program) (e : Env) (w : World) (o : Oper) (K : Value → Prop) : Prop :=
  match o.op with
  | .move x => onV (ev e x) K
  | .assign x => onV (ev e x) K
  | .pick c a b =>
    match evK e c with
    | some true => onV (ev e a) K
    | some false => onV (ev e b) K
    | none => onV (ev e c) fun vc => onV (ev e a) fun va => onV (ev e b) fun vb => pickD vc va vb K
  | .nilCheck x => onV (ev e x) fun
    | .pointer p => NN p fun a => K (.pointer (some a))
    | _ => False
  | .fieldAddr t x f => onV (ev e x) fun v => fieldAddrD P t v f K
  | .field t x f => onV (ev e x) fun v => fieldD P t v f K
  | .indexAddr t x i => onV (ev e x) fun v => onV (ev e i) fun j => indexAddrD P t v j K
  | .index t x i => onV (ev e x) fun v => onV (ev e i) fun j => indexD P t v j K
  | .binOp op t x (.const .nilIface) _ => onV (ev e x) fun v => nilD P op t v K
  | .binOp op t x y _ => onV (ev e x) fun v => onV (ev e y) fun u => binD P op t v u K
  | .unOp op _ x => onV (ev e x) fun v => unD op v K
  | .convert src dst x => onV (ev e x) fun v => convD P src dst v K
  | .extract x i => onV (ev e x) fun
    | .tuple vs => match vs[i]? with
      | some v => K v
      | none => False
    | _ => False
  | .makeFunc fn first captured => evs e first.toList fun fs => evs e captured.toList fun cs => K (.func fn fs.toArray cs.toArray)
  | .build t parts => evParts e parts.toList fun ps => buildD P t ps K
  | .slice t x lo hi none => onV (ev e x) fun v => evO e lo fun l => evO e hi fun h => sliceD P t v l h K
  | .slice t x lo hi (some m) => onV (ev e x) fun v => evO e lo fun l => evO e hi fun h => onV (ev e m) fun u => slice3D P t v l h u K
  | .load t x => onV (ev e x) fun
    | .pointer (some a) => Ld P w t a K
    | _ => False
  | .call { callee := .builtin .len, args := as, argTypes := ts } =>
    match as.toList, ts.toList with
    | [x], [t] => onV (ev e x) fun v => lenD P t v K
    | _, _ => False
  | .call { callee := .builtin .cap, args := as, argTypes := ts } =>
    match as.toList, ts.toList with
    | [x], [t] => onV (ev e x) fun v => match P.underlying t, v with
      | some (.slice _), .slice _ _ c => K (.int .i64 c)
      | _, _ => False
    | _, _ => False
  | .call { callee := .builtin .min, args := as, argTypes := _ } =>
    match as.toList with
    | [x, y] => onV (ev e x) fun v => onV (ev e y) fun u => match v, u with
      | .int k a, .int _ b => K (.int k (minI a b))
      | _, _ => False
    | _ => False
  | .call { callee := .builtin .max, args := as, argTypes := _ } =>
    match as.toList with
    | [x, y] => onV (ev e x) fun v => onV (ev e y) fun u => match v, u with
      | .int k a, .int _ b => K (.int k (maxI a b))
      | _, _ => False
    | _ => False
  | _ => False

/-- What an operation has read is still there: it would yield the same. -/
def holdD (P : Program) (e : Env) (o : Oper) (w w' : World) : Prop :=
  match o.op with
  | .load t x => onV (ev e x) fun
    | .pointer (some a) => match compOf P t with
      | .leaf _ => w'.cell? a = w.cell? a
      | .agg ls => ∀ i, i < ls.length → w'.cell? (a.add i) = w.cell? (a.add i)
    | _ => False
  | _ => True

/-! ## Soundness of the value operations -/

/-- A piece of the model that yields this value in whatever world, and leaves it alone. -/
def Gives (P : Program) (s : Sem Value) (v : Value) : Prop := ∀ w, s.run P w = .ok v w

theorem onV_elim {o : Option Value} {K : Value → Prop} (h : onV o K) : ∃ v, o = some v ∧ K v := by
  cases o with
  | none => exact h.elim
  | some v => exact ⟨v, rfl, h⟩

theorem run_underlyingD {P : Program} {t : TypeId} {d : TypeDesc} (h : P.underlying t = some d) (w : World) : (underlying t).run P w = .ok d w := by
  simp [underlying, h]

theorem Addr_add_zero (a : Addr) : a.add 0 = a := by cases a; simp [Addr.add]

theorem cellsOf_info {P : Program} {t : TypeId} {n : Nat} (h : P.cellsOf t = n) (hn : n ≠ 0) : ∃ i, P.info? t = some i ∧ i.size = n := by
  unfold Program.cellsOf at h
  cases hi : P.info? t with
  | none => simp [hi] at h; exact absurd h.symm hn
  | some i => simp [hi] at h; exact ⟨i, rfl, h⟩

theorem underlying_info {P : Program} {t : TypeId} {d : TypeDesc} (h : P.underlying t = some d) : ∃ i, P.info? t = some i := by
  unfold Program.underlying at h
  cases hi : P.info? t with
  | none => simp [hi] at h
  | some i => exact ⟨i, rfl⟩

theorem run_isAgg {P : Program} {t : TypeId} {d : TypeDesc} (h : P.underlying t = some d) (w : World) : (isAgg t).run P w = .ok (isAggT P t) w := by
  unfold isAgg isAggT
  simp only [Sem.run_bind, run_underlyingD h, Result.andThen_ok, h]
  cases d <;> rfl

theorem run_sizeOf {P : Program} {t : TypeId} {i : TypeInfo} (h : P.info? t = some i) (w : World) : (sizeOf t).run P w = .ok (P.cellsOf t) w := by
  simp [sizeOf, typeInfo, h, Program.cellsOf]

theorem equal_succ (t : TypeId) (x y : Value) : Op.equal t x y = Op.equalIn (9999 + 1) t x y := rfl
section
variable {P : Program} {t : TypeId}
theorem equal_bool (ht : P.underlying t = some .bool) (a b : Bool) (w : World) : (Op.equal t (.bool a) (.bool b)).run P w = .ok (a == b) w := by
  rw [equal_succ]; generalize 9999 = d; simp [Op.equalIn, run_underlyingD ht]
theorem equal_ptr {el : TypeId} (ht : P.underlying t = some (.pointer el)) (p : Option Addr) (w : World) : (Op.equal t (.pointer p) (.pointer none)).run P w = .ok p.isNone w := by
  rw [equal_succ]; generalize 9999 = d; cases p <;> simp [Op.equalIn, run_underlyingD ht]
theorem equal_slice {el : TypeId} (ht : P.underlying t = some (.slice el)) (p : Option Addr) (n c n' c' : Nat) (w : World) : (Op.equal t (.slice p n c) (.slice none n' c')).run P w = .ok p.isNone w := by
  rw [equal_succ]; generalize 9999 = d; cases p <;> simp [Op.equalIn, run_underlyingD ht]
theorem equal_map {k el : TypeId} (ht : P.underlying t = some (.map k el)) (r : Option Nat) (w : World) : (Op.equal t (.map r) (.map none)).run P w = .ok r.isNone w := by
  rw [equal_succ]; generalize 9999 = d; cases r <;> simp [Op.equalIn, run_underlyingD ht]
end

theorem binD_sound {P : Program} {op : BinOp} {t : TypeId} {x y : Value} {K : Value → Prop} {xo yo : Operand} (h : binD P op t x y K) :
    ∃ v, K v ∧ Gives P (do eqGuard op t xo yo x y; binOp op t x y) v := by
  unfold binD at h
  split at h
  · rename_i k a k' b
    cases op <;> simp only [same] at h <;> first
      | (split at h
         · rename_i hk
           obtain rfl := kindEq_eq hk
           first
             | exact ⟨_, h, fun w => by simp [eqGuard, binOp, Op.intArith, Op.intBits, Op.intCmp, andI, orI, xorI, andNotI]⟩
             | exact ⟨_, h.2, fun w => by simp [eqGuard, binOp, Op.intDiv, h.1]⟩
         · exact h.elim)
      | (obtain ⟨h1, h2⟩ := h
         have : ¬ b < 0 := by omega
         exact ⟨_, h2, fun w => by simp [eqGuard, binOp, Op.shift, this, shlI, shrI]⟩)
  · rename_i a b
    cases op <;> simp only at h <;> first
      | exact h.elim
      | exact ⟨_, h, fun w => by simp [eqGuard, binOp, Op.stringOp]⟩
      | (obtain ⟨h1, h2⟩ := h
         have : ¬ ((a.size + b.size : Nat) : Int) > IntKind.i64.max := by omega
         exact ⟨_, h2, fun w => by simp only [eqGuard, binOp, Op.stringOp, this, if_false]; simp⟩)
  · rename_i a b
    split at h
    · rename_i ht
      have q := equal_bool ht a b
      cases op <;> simp only at h <;> first
        | exact h.elim
        | exact ⟨_, h, fun w => by simp [eqGuard, binOp, q]⟩
    · exact h.elim
  · rename_i p
    split at h
    · rename_i ht
      have q := equal_ptr ht p
      cases op <;> simp only at h <;> first
        | exact h.elim
        | exact ⟨_, h, fun w => by simp [eqGuard, binOp, q]⟩
    · exact h.elim
  · rename_i p n c n' c'
    split at h
    · rename_i ht
      have q := equal_slice ht p n c n' c'
      cases op <;> simp only at h <;> first
        | exact h.elim
        | exact ⟨_, h, fun w => by simp [eqGuard, binOp, q]⟩
    · exact h.elim
  · rename_i r
    split at h
    · rename_i ht
      have q := equal_map ht r
      cases op <;> simp only at h <;> first
        | exact h.elim
        | exact ⟨_, h, fun w => by simp [eqGuard, binOp, q]⟩
    · exact h.elim
  · split at h
    · exact h.elim
    · rename_i hg
      cases op <;> simp only at h <;> first
        | exact h.elim
        | (obtain ⟨b, h1, h2⟩ := h
           exact ⟨_, h2, fun w => by simp [eqGuard, hg, binOp, h1]⟩)
  · exact h.elim

theorem nilD_sound {P : Program} {op : BinOp} {t : TypeId} {x : Value} {K : Value → Prop} {xo : Operand} (h : nilD P op t x K) :
    ∃ v, K v ∧ Gives P (do eqGuard op t xo (.const .nilIface) x .nilIface; binOp op t x .nilIface) v := by
  unfold nilD at h
  split at h
  · rename_i ms ht
    obtain ⟨hx, h⟩ := h
    have q : ∀ w, (Op.equal t x .nilIface).run P w = .ok (isNilV x) w := fun w => by
      rw [equal_succ]
      generalize 9999 = d
      rcases hx with rfl | ⟨t', u, rfl⟩ <;> simp [Op.equalIn, run_underlyingD ht, isNilV]
    have g : ∀ w, (eqGuard op t xo (.const .nilIface) x .nilIface).run P w = .ok () w := fun w => by
      rcases hx with rfl | ⟨t', u, rfl⟩ <;> cases op <;> simp [eqGuard]
    rcases hx with rfl | ⟨t', u, rfl⟩ <;> cases op <;> simp only at h <;> first
      | exact h.elim
      | exact ⟨_, h, fun w => by simp [g, binOp, q]⟩
  · exact h.elim

theorem unD_sound {P : Program} {op : UnOp} {x : Value} {K : Value → Prop} (h : unD op x K) : ∃ v, K v ∧ Gives P (Op.unary op x) v := by
  unfold unD at h
  split at h
  · exact ⟨_, h, fun w => by simp [Op.unary]⟩
  · exact ⟨_, h, fun w => by simp [Op.unary, Op.intArith]⟩
  · rename_i k n
    refine ⟨_, h, fun w => ?_⟩
    cases hk : k.signed <;> simp [Op.unary, Op.intBits, hk, xorI]
  · exact h.elim

theorem convD_sound {P : Program} {src dst : TypeId} {x : Value} {K : Value → Prop} (h : convD P src dst x K) : ∃ v, K v ∧ Gives P (convert src dst x) v := by
  unfold convD at h
  split at h
  · rename_i h1 h2
    exact ⟨_, h, fun w => by simp [convert, run_underlyingD h1, run_underlyingD h2, Conv.intToInt]⟩
  · rename_i h1 h2
    exact ⟨_, h, fun w => by simp [convert, run_underlyingD h1, run_underlyingD h2]⟩
  · exact h.elim

theorem run_bound {P : Program} {k : IntKind} {i : Int} {y : Nat} {c : BoundsCode} (h0 : 0 ≤ i) (h1 : i ≤ (y : Int)) (w : World) :
    (Instr.sliceBound (.int k i) y c).run P w = .ok i.toNat w := by
  simp [Instr.sliceBound, asIntOf, h0, h1]

theorem adv_zero (p : Option Addr) (c size : Nat) : adv p c 0 size = p := by
  unfold adv; split
  · rfl
  · cases p <;> simp [Addr_add_zero]

theorem run_sizeOf' {P : Program} {el : TypeId} (w : World) (h : (P.info? el).isSome = true) : (sizeOf el).run P w = .ok (P.cellsOf el) w := by
  cases hi : P.info? el with
  | none => simp [hi] at h
  | some i => exact run_sizeOf hi w

theorem slice3D_sound {P : Program} {t : TypeId} {x m : Value} {lo hi : Option Value} {K : Value → Prop}
    (h : slice3D P t x lo hi m K) : ∃ v, K v ∧ Gives P (Instr.sliceAt t x lo hi (some m)) v := by
  unfold slice3D at h
  split at h
  · rename_i el p n c ht
    split at h
    · rename_i hsome
      cases hse : (P.info? el).isSome with
      | false => simp [hse] at hsome
      | true =>
      split at h
      · rename_i k hh k' m
        obtain ⟨h1, h2, h3, h4⟩ := h
        refine ⟨_, h4, fun w => ?_⟩
        have := adv_zero p m.toNat (P.cellsOf el)
        unfold adv at this
        have h5 : hh ≤ ((m.toNat : Nat) : Int) := by omega
        simp only [Instr.sliceAt, Instr.slice, Sem.run_bind, run_underlyingD ht, Result.andThen_ok, Instr.sliceBounds, Sem.run_pure, run_sizeOf' w hse, run_bound (show 0 ≤ m by omega) h3, run_bound h1 h5]
        rw [this]; simp
      · rename_i k l k' hh k'' m
        obtain ⟨h1, h2, h3, h4, h5⟩ := h
        refine ⟨_, h5, fun w => ?_⟩
        have h6 : hh ≤ ((m.toNat : Nat) : Int) := by omega
        have h7 : l ≤ ((hh.toNat : Nat) : Int) := by omega
        simp only [Instr.sliceAt, Instr.slice, Sem.run_bind, run_underlyingD ht, Result.andThen_ok, Instr.sliceBounds, Sem.run_pure, run_sizeOf' w hse, run_bound (show 0 ≤ m by omega) h4, run_bound (show 0 ≤ hh by omega) h6, run_bound h1 h7]
        rfl
      · exact h.elim
    · exact h.elim
  · exact h.elim

theorem sliceD_sound {P : Program} {t : TypeId} {x : Value} {lo hi : Option Value} {K : Value → Prop}
    (h : sliceD P t x lo hi K) : ∃ v, K v ∧ Gives P (Instr.sliceAt t x lo hi none) v := by
  unfold sliceD at h
  split at h
  · rename_i el p n c ht
    split at h
    · rename_i hsome
      cases hse : (P.info? el).isSome with
      | false => simp [hse] at hsome
      | true =>
      split at h
      · refine ⟨_, h, fun w => ?_⟩
        have := adv_zero p c (P.cellsOf el)
        unfold adv at this
        simp only [Instr.sliceAt, Instr.slice, Sem.run_bind, run_underlyingD ht, Result.andThen_ok, Instr.sliceBounds, Sem.run_pure, run_sizeOf' w hse]
        rw [this]; simp
      · rename_i k hh
        obtain ⟨h1, h2, h3⟩ := h
        refine ⟨_, h3, fun w => ?_⟩
        have := adv_zero p c (P.cellsOf el)
        unfold adv at this
        simp only [Instr.sliceAt, Instr.slice, Sem.run_bind, run_underlyingD ht, Result.andThen_ok, Instr.sliceBounds, Sem.run_pure, run_sizeOf' w hse, run_bound h1 h2]
        rw [this]; simp
      · rename_i k l
        obtain ⟨h1, h2, h3⟩ := h
        refine ⟨_, h3, fun w => ?_⟩
        simp only [Instr.sliceAt, Instr.slice, Sem.run_bind, run_underlyingD ht, Result.andThen_ok, Instr.sliceBounds, Sem.run_pure, run_sizeOf' w hse, run_bound h1 h2]
        rfl
      · rename_i k l k' hh
        obtain ⟨h1, h2, h3, h4⟩ := h
        refine ⟨_, h4, fun w => ?_⟩
        have h5 : l ≤ ((hh.toNat : Nat) : Int) := by omega
        simp only [Instr.sliceAt, Instr.slice, Sem.run_bind, run_underlyingD ht, Result.andThen_ok, Instr.sliceBounds, Sem.run_pure, run_sizeOf' w hse, run_bound (show 0 ≤ hh by omega) h3, run_bound h1 h5]
        rfl
      · exact h.elim
    · exact h.elim
  · rename_i s ht
    split at h
    · exact ⟨_, h, fun w => by simp [Instr.sliceAt, Instr.slice, run_underlyingD ht, Instr.sliceBounds]⟩
    · rename_i k hh
      obtain ⟨h1, h2, h3⟩ := h
      refine ⟨_, h3, fun w => ?_⟩
      simp [Instr.sliceAt, Instr.slice, run_underlyingD ht, Instr.sliceBounds, run_bound h1 h2]
    · rename_i k l
      obtain ⟨h1, h2, h3⟩ := h
      refine ⟨_, h3, fun w => ?_⟩
      simp [Instr.sliceAt, Instr.slice, run_underlyingD ht, Instr.sliceBounds, run_bound h1 h2]
    · rename_i k l k' hh
      obtain ⟨h1, h2, h3, h4⟩ := h
      refine ⟨_, h4, fun w => ?_⟩
      have h5 : l ≤ ((hh.toNat : Nat) : Int) := by omega
      simp [Instr.sliceAt, Instr.slice, run_underlyingD ht, Instr.sliceBounds, run_bound (show 0 ≤ hh by omega) h3, run_bound h1 h5]
    · exact h.elim
  · exact h.elim

theorem fieldAddrD_sound {P : Program} {t : TypeId} {x : Value} {f : Nat} {K : Value → Prop} (h : fieldAddrD P t x f K) :
    ∃ v, K v ∧ Gives P (Instr.fieldAt t x f) v := by
  unfold fieldAddrD at h
  split at h
  · rename_i fs a ht
    split at h
    · rename_i fd hf
      split at h
      · exact h.elim
      · rename_i hn
        have hn : P.cellsOf fd.type ≠ 0 := by intro e; simp [e] at hn
        obtain ⟨i, hi, hs⟩ := cellsOf_info rfl hn
        refine ⟨_, h, fun w => ?_⟩
        simp [Instr.fieldAt, run_underlyingD ht, hf, Instr.sureAddr, fieldPlace, run_sizeOf hi, hn]
    · exact h.elim
  · exact h.elim

theorem run_part {P : Program} {t : TypeId} {d : TypeDesc} {i : TypeInfo} (hu : P.underlying t = some d) (hi : P.info? t = some i) (cs : Array Value) (off : Nat) (w : World) :
    (part t cs off).run P w = if isAggT P t then .ok (.agg (cs.extract off (off + P.cellsOf t))) w else match cs[off]? with
      | some v => .ok v w
      | none => .halt (.stuck "part: no such cell") w := by
  simp only [part, Sem.run_bind, run_isAgg hu, Result.andThen_ok]
  cases isAggT P t with
  | true => simp [run_sizeOf hi]
  | false => simp; cases cs[off]? <;> simp

theorem fieldD_sound {P : Program} {t : TypeId} {x : Value} {f : Nat} {K : Value → Prop} (h : fieldD P t x f K) :
    ∃ v, K v ∧ Gives P (Instr.field t x f) v := by
  unfold fieldD at h
  split at h
  · rename_i fs cs ht
    split at h
    · rename_i fd hf
      split at h
      · rename_i d hu
        obtain ⟨i, hi⟩ := underlying_info hu
        split at h
        · rename_i ha
          refine ⟨_, h, fun w => ?_⟩
          simp [Instr.field, run_underlyingD ht, hf, asAgg, run_part hu hi, ha]
        · rename_i ha
          split at h
          · rename_i v hv
            refine ⟨_, h, fun w => ?_⟩
            simp [Instr.field, run_underlyingD ht, hf, asAgg, run_part hu hi, ha, hv]
          · exact h.elim
      · exact h.elim
    · exact h.elim
  · exact h.elim

theorem known_elim {P : Program} {t : TypeId} {A : Prop} (h : known P t A) : (P.info? t).isSome = true ∧ A := by
  unfold known at h
  split at h
  · rename_i hi; exact ⟨by simp [hi], h⟩
  · exact h.elim

theorem indexAddrD_sound {P : Program} {t : TypeId} {x i : Value} {K : Value → Prop} (h : indexAddrD P t x i K) :
    ∃ v, K v ∧ Gives P (Instr.indexAt t x i) v := by
  unfold indexAddrD at h
  split at h
  · rename_i el p n c k j ht
    obtain ⟨hs, h0, h1, a, rfl, hk⟩ := known_elim h
    refine ⟨_, hk, fun w => ?_⟩
    simp [Instr.indexAt, asIntOf, run_underlyingD ht, h0, h1, run_sizeOf' w hs]
  · rename_i n el a k j ht
    obtain ⟨hs, h0, h1, hk⟩ := known_elim h
    refine ⟨_, hk, fun w => ?_⟩
    simp [Instr.indexAt, asIntOf, run_underlyingD ht, h0, h1, run_sizeOf' w hs, Instr.sureAddr]
  · exact h.elim

theorem lenD_sound {P : Program} {t : TypeId} {x : Value} {ty : TypeId} {K : Value → Prop} (h : lenD P t x K) :
    ∃ v, K v ∧ Gives P (Builtin.len_ #[t] ty #[x]) v := by
  unfold lenD at h
  split at h
  · rename_i ht; exact ⟨_, h, fun w => by simp [Builtin.len_, run_underlyingD ht, goInt]⟩
  · rename_i ht; exact ⟨_, h, fun w => by simp [Builtin.len_, run_underlyingD ht, goInt]⟩
  · rename_i ht; exact ⟨_, h, fun w => by simp [Builtin.len_, run_underlyingD ht, goInt]⟩
  · exact h.elim

theorem ldCells_sound {P : Program} {w : World} {a : Addr} : ∀ {ls : List Lf} {i : Nat} {K : List Value → Prop}, ldCells w a ls i K →
    ∃ vs, K vs ∧ vs.length = ls.length ∧ ∀ j (h : j < vs.length), w.cell? (a.add (i + j)) = some vs[j]
  | [], i, K, h => ⟨[], h, rfl, fun j hj => absurd hj (by simp)⟩
  | l :: ls, i, K, h => by
    obtain ⟨v, hv, h⟩ := Lf.ex_sound h
    obtain ⟨vs, hk, hl, hc⟩ := ldCells_sound (P := P) h
    refine ⟨v :: vs, hk, by simp [hl], fun j hj => ?_⟩
    cases j with
    | zero => simpa using hv
    | succ j => have := hc j (by simpa using hj); simpa [Nat.add_assoc, Nat.add_comm 1 j] using this

theorem run_loadCellsFrom {P : Program} {w : World} {a : Addr} : ∀ (n i : Nat) (acc : Array Value) (vs : List Value), vs.length = n →
    (∀ j (h : j < vs.length), w.cell? (a.add (i + j)) = some vs[j]) → (loadCellsFrom a i n acc).run P w = .ok (acc ++ vs.toArray) w
  | 0, i, acc, vs, hl, _ => by
    obtain rfl : vs = [] := List.length_eq_zero_iff.1 hl
    simp [loadCellsFrom]
  | n + 1, i, acc, vs, hl, hc => by
    match vs, hl with
    | v :: vs, hl =>
      have h0 := hc 0 (by simp)
      simp only [Nat.add_zero, List.getElem_cons_zero] at h0
      have ih := run_loadCellsFrom (P := P) (w := w) (a := a) n (i + 1) (acc.push v) vs (by simpa using hl) (fun j hj => by
        have := hc (j + 1) (by simpa using hj)
        simpa [Nat.add_assoc, Nat.add_comm 1 j] using this)
      simp only [loadCellsFrom, Sem.run_bind, run_load, h0, Result.andThen_ok, ih]
      congr 1
      apply Array.ext'
      simp

theorem compOf_agg {P : Program} {t : TypeId} {ls : List Lf} (h : compOf P t = .agg ls) : isAggT P t = true := by
  unfold compOf at h
  cases ha : isAggT P t with
  | true => rfl
  | false => rw [ha] at h; simp only at h; split at h <;> cases h

theorem compOf_leaf {P : Program} {t : TypeId} {l : Lf} (h : compOf P t = .leaf l) : isAggT P t = false := by
  unfold compOf at h
  cases ha : isAggT P t with
  | true => rw [ha] at h; simp at h
  | false => rfl

theorem underlying_of_agg {P : Program} {t : TypeId} (h : isAggT P t = true) : ∃ d, P.underlying t = some d := by
  unfold isAggT at h
  cases hu : P.underlying t with
  | none => simp [hu] at h
  | some d => exact ⟨d, rfl⟩

theorem Ld_sound {P : Program} {w : World} {t : TypeId} {a : Addr} {K : Value → Prop} (h : Ld P w t a K) :
    ∃ v, K v ∧ ∀ w', (match compOf P t with
      | .leaf _ => w'.cell? a = w.cell? a
      | .agg ls => ∀ i, i < ls.length → w'.cell? (a.add i) = w.cell? (a.add i)) → (loadVar t a).run P w' = .ok v w' := by
  unfold Ld at h
  split at h
  · rename_i l hl
    split at h
    · rename_i d hu
      obtain ⟨v, hv, hk⟩ := Lf.ex_sound h
      refine ⟨v, hk, fun w' hw => ?_⟩
      simp [loadVar, run_isAgg hu, compOf_leaf hl, hw, hv]
    · exact h.elim
  · rename_i ls hl
    split at h
    · rename_i hn
      obtain ⟨vs, hk, hlen, hc⟩ := ldCells_sound (P := P) h
      have hn := Nat.eq_of_beq_eq_true hn
      have hag := compOf_agg hl
      obtain ⟨d, hu⟩ := underlying_of_agg hag
      obtain ⟨i, hi⟩ := underlying_info hu
      refine ⟨_, hk, fun w' hw => ?_⟩
      have := run_loadCellsFrom (P := P) (w := w') (a := a) (P.cellsOf t) 0 #[] vs (by omega) (fun j hj => by
        rw [Nat.zero_add, hw j (by omega)]; simpa using hc j hj)
      simp [loadVar, run_isAgg hu, hag, run_sizeOf hi, loadCells, this]
    · exact h.elim

theorem run_zero {P : Program} {t : TypeId} {K : Array Value → Prop} (h : zeroCellsD P t K) : ∃ v, K v.cells ∧ ∀ w, (zeroValue t).run P w = .ok v w := by
  unfold zeroCellsD at h
  split at h
  · rename_i i hi
    split at h
    · rename_i v hz
      exact ⟨v, h, fun w => by simp [zeroValue, typeInfo, hi, hz]⟩
    · exact h.elim
  · exact h.elim

theorem fillD_sound {place : Nat → Option (Nat × Nat)} {cells : Array Value} {parts : List (Nat × Value)} {K : Array Value → Prop} (h : fillD place cells parts K) :
    ∃ cs, Instr.fill place cells parts = some cs ∧ K cs := by
  unfold fillD at h
  split at h
  · rename_i cs hc; exact ⟨cs, hc, h⟩
  · exact h.elim

theorem run_placesL {P : Program} (w : World) : ∀ (fs : List Field), (∀ f ∈ fs, (P.info? f.type).isSome = true) →
    (fs.mapM fun f => (do pure (f.offset, ← sizeOf f.type) : Sem (Nat × Nat))).run P w = .ok (fs.map fun f => (f.offset, P.cellsOf f.type)) w
  | [], _ => rfl
  | f :: fs, h => by
    have h1 := h f (by simp)
    have ih := run_placesL w fs (fun g hg => h g (by simp [hg]))
    simp only [List.mapM_cons, Sem.run_bind, run_sizeOf' w h1, Result.andThen_ok, Sem.run_pure, List.map_cons]
    rw [ih]
    rfl

theorem run_places {P : Program} {fs : Array Field} (h : fs.all (fun f => (P.info? f.type).isSome) = true) (w : World) :
    (fs.mapM fun f => (do pure (f.offset, ← sizeOf f.type) : Sem (Nat × Nat))).run P w = .ok (fs.map fun f => (f.offset, P.cellsOf f.type)) w := by
  obtain ⟨fs⟩ := fs
  have q := run_placesL (P := P) w fs (by simpa using h)
  simp only [List.mapM_toArray, List.map_toArray]
  simp only [Functor.map, Sem.run_bind', q, Result.andThen_ok]
  rfl

theorem buildD_sound {P : Program} {t : TypeId} {parts : List (Nat × Value)} {K : Value → Prop} (h : buildD P t parts K) :
    ∃ v, K v ∧ Gives P (Instr.build t parts.toArray) v := by
  unfold buildD at h
  obtain ⟨z, h, hz⟩ := run_zero h
  split at h
  · rename_i fs ht
    split at h
    · rename_i hall
      obtain ⟨cs, hf, hk⟩ := fillD_sound h
      refine ⟨_, hk, fun w => ?_⟩
      have e : (fun i : Nat => (fs[i]?).map fun f : Field => (f.offset, P.cellsOf f.type)) = fun i : Nat => (fs.map fun f : Field => (f.offset, P.cellsOf f.type))[i]? := by
        funext i; simp
      rw [e] at hf
      have hp := run_places hall w
      simp only [Instr.build, Sem.run_bind, hz, Result.andThen_ok, run_underlyingD ht, hp, hf]
      rfl
    · exact h.elim
  · rename_i n el ht
    obtain ⟨hs, h⟩ := known_elim h
    obtain ⟨cs, hf, hk⟩ := fillD_sound h
    refine ⟨_, hk, fun w => ?_⟩
    simp only [Instr.build, Sem.run_bind, hz, Result.andThen_ok, run_underlyingD ht, run_sizeOf' w hs, hf]
    rfl
  · exact h.elim

theorem indexD_sound {P : Program} {t : TypeId} {x i : Value} {K : Value → Prop} (h : indexD P t x i K) :
    ∃ v, K v ∧ Gives P (Instr.index t x i) v := by
  unfold indexD at h
  split at h
  · rename_i s k j ht
    obtain ⟨h0, b, hb, hk⟩ := h
    refine ⟨_, hk, fun w => ?_⟩
    simp [Instr.index, asIntOf, run_underlyingD ht, h0, hb]
  · rename_i n el cs k j ht
    split at h
    · rename_i l hl
      split at h
      · rename_i ha
        split at h
        · rename_i d hu
          obtain ⟨h0, h1, h⟩ := h
          obtain ⟨v, hv, hk⟩ := Lf.ex_sound h
          obtain ⟨i, hi⟩ := underlying_info hu
          refine ⟨_, hk, fun w => ?_⟩
          simp [Instr.index, asIntOf, run_underlyingD ht, h0, h1, run_sizeOf hi, run_part hu hi, ha, hv]
        · exact h.elim
      · exact h.elim
    · exact h.elim
  · exact h.elim

theorem opV_sound {P : Program} {e : Env} {ρ : Operand → Value} {w : World} {o : Oper} {K : Value → Prop} (hρ : Agree ρ e) (h : opV P e w o K) :
    ∃ v, K v ∧ ∀ w', holdD P e o w w' → (execOp ρ o).run P w' = .ok (.value v) w' := by
  obtain ⟨dst, op, ty, pos, after, guard⟩ := o
  have lift : ∀ {s : Sem Value} {v : Value}, Gives P s v → ∀ w', ((do pure (Next.value (← s)) : Sem Next)).run P w' = .ok (.value v) w' := by
    intro s v hg w'
    simp [hg w']
  unfold opV at h
  dsimp only at h
  split at h
  · rename_i x
    obtain ⟨v, hv, h⟩ := onV_elim h
    exact ⟨v, h, fun w' _ => by simp [execOp, hρ.val _ _ hv]⟩
  · rename_i x
    obtain ⟨v, hv, h⟩ := onV_elim h
    exact ⟨v, h, fun w' _ => by simp [execOp, hρ.val _ _ hv]⟩
  · rename_i c a b
    split at h
    · rename_i hk
      obtain ⟨v, hv, h⟩ := onV_elim h
      exact ⟨v, h, fun w' _ => by simp [execOp, hρ.val _ _ hv, hρ.kn _ _ hk, asBool]⟩
    · rename_i hk
      obtain ⟨v, hv, h⟩ := onV_elim h
      exact ⟨v, h, fun w' _ => by simp [execOp, hρ.val _ _ hv, hρ.kn _ _ hk, asBool]⟩
    · obtain ⟨vc, hc, h⟩ := onV_elim h
      obtain ⟨va, ha, h⟩ := onV_elim h
      obtain ⟨vb, hb, h⟩ := onV_elim h
      obtain ⟨c, a, b, rfl, rfl, rfl, h⟩ := pickD_sound h
      exact ⟨_, h, fun w' _ => by simp only [execOp, hρ.val _ _ hc, hρ.val _ _ ha, hρ.val _ _ hb, asBool]; cases c <;> simp⟩
  · rename_i x
    obtain ⟨v, hv, h⟩ := onV_elim h
    split at h
    · obtain ⟨a, rfl, h⟩ := h
      exact ⟨_, h, fun w' _ => by simp [execOp, hρ.val _ _ hv]⟩
    · exact h.elim
  · obtain ⟨v, hv, h⟩ := onV_elim h
    obtain ⟨u, hk, hg⟩ := fieldAddrD_sound h
    exact ⟨u, hk, fun w' _ => by simp only [execOp, hρ.val _ _ hv]; exact lift hg w'⟩
  · obtain ⟨v, hv, h⟩ := onV_elim h
    obtain ⟨u, hk, hg⟩ := fieldD_sound h
    exact ⟨u, hk, fun w' _ => by simp only [execOp, hρ.val _ _ hv]; exact lift hg w'⟩
  · obtain ⟨v, hv, h⟩ := onV_elim h
    obtain ⟨j, hj, h⟩ := onV_elim h
    obtain ⟨u, hk, hg⟩ := indexAddrD_sound h
    exact ⟨u, hk, fun w' _ => by simp only [execOp, hρ.val _ _ hv, hρ.val _ _ hj]; exact lift hg w'⟩
  · obtain ⟨v, hv, h⟩ := onV_elim h
    obtain ⟨j, hj, h⟩ := onV_elim h
    obtain ⟨u, hk, hg⟩ := indexD_sound h
    exact ⟨u, hk, fun w' _ => by simp only [execOp, hρ.val _ _ hv, hρ.val _ _ hj]; exact lift hg w'⟩
  · rename_i op t x yt
    obtain ⟨v, hv, h⟩ := onV_elim h
    obtain ⟨u, hk, hg⟩ := nilD_sound (xo := x) h
    have hn : ρ (.const .nilIface) = .nilIface := hρ.val _ _ rfl
    exact ⟨u, hk, fun w' _ => by simp only [execOp, hρ.val _ _ hv, hn]; exact lift hg w'⟩
  · rename_i op t x y yt _
    obtain ⟨v, hv, h⟩ := onV_elim h
    obtain ⟨j, hj, h⟩ := onV_elim h
    obtain ⟨u, hk, hg⟩ := binD_sound (xo := x) (yo := y) h
    exact ⟨u, hk, fun w' _ => by simp only [execOp, hρ.val _ _ hv, hρ.val _ _ hj]; exact lift hg w'⟩
  · obtain ⟨v, hv, h⟩ := onV_elim h
    obtain ⟨u, hk, hg⟩ := unD_sound (P := P) h
    exact ⟨u, hk, fun w' _ => by simp only [execOp, hρ.val _ _ hv]; exact lift hg w'⟩
  · obtain ⟨v, hv, h⟩ := onV_elim h
    obtain ⟨u, hk, hg⟩ := convD_sound h
    exact ⟨u, hk, fun w' _ => by simp only [execOp, hρ.val _ _ hv]; exact lift hg w'⟩
  · rename_i x i
    obtain ⟨v, hv, h⟩ := onV_elim h
    split at h
    · rename_i vs
      split at h
      · rename_i u hu
        exact ⟨u, h, fun w' _ => by simp only [execOp, hρ.val _ _ hv]; exact lift (fun w => by simp [Instr.extract, hu]) w'⟩
      · exact h.elim
    · exact h.elim
  · rename_i fn first captured
    have h := evs_sound hρ (evs_sound hρ h)
    refine ⟨_, h, fun w' _ => ?_⟩
    simp only [execOp]
    refine lift (fun w => ?_) w'
    simp [Instr.makeFunc]
    constructor <;> apply Array.ext' <;> simp
  · rename_i t parts
    have h := evParts_sound hρ h
    obtain ⟨u, hk, hg⟩ := buildD_sound h
    refine ⟨u, hk, fun w' _ => ?_⟩
    simp only [execOp]
    refine lift (fun w => ?_) w'
    have := hg w
    rw [← this]
    congr 2
    apply Array.ext'; simp
  · rename_i t x lo hi
    obtain ⟨v, hv, h⟩ := onV_elim h
    have : ∀ {o : Option Operand} {K : Option Value → Prop}, evO e o K → K (o.map ρ) := by
      intro o K h
      cases o with
      | none => exact h
      | some x => obtain ⟨v, hv, h⟩ := onV_elim h; simpa [hρ.val _ _ hv] using h
    obtain ⟨u, hk, hg⟩ := sliceD_sound (this (this h))
    exact ⟨u, hk, fun w' _ => by simp only [execOp, hρ.val _ _ hv, Option.map_none]; exact lift hg w'⟩
  · rename_i t x lo hi m
    obtain ⟨v, hv, h⟩ := onV_elim h
    have : ∀ {o : Option Operand} {K : Option Value → Prop}, evO e o K → K (o.map ρ) := by
      intro o K h
      cases o with
      | none => exact h
      | some x => obtain ⟨v, hv, h⟩ := onV_elim h; simpa [hρ.val _ _ hv] using h
    obtain ⟨mv, hm, h⟩ := onV_elim (this (this h))
    obtain ⟨u, hk, hg⟩ := slice3D_sound h
    exact ⟨u, hk, fun w' _ => by simp only [execOp, hρ.val _ _ hv, hρ.val _ _ hm, Option.map_some]; exact lift hg w'⟩
  · rename_i t x
    obtain ⟨v, hv, h⟩ := onV_elim h
    split at h
    · rename_i a
      obtain ⟨u, hk, hg⟩ := Ld_sound h
      refine ⟨u, hk, fun w' hw => ?_⟩
      simp only [execOp, hρ.val _ _ hv]
      simp only [holdD, hv, onV] at hw
      have := hg w' hw
      simp [Instr.loadAt, Instr.sureAddr, this]
    · exact h.elim
  · rename_i as ts
    split at h
    · rename_i x t hx ht
      obtain ⟨v, hv, h⟩ := onV_elim h
      obtain ⟨u, hk, hg⟩ := lenD_sound (ty := ty) h
      obtain rfl : as = #[x] := Array.ext' (by simpa using hx)
      obtain rfl : ts = #[t] := Array.ext' (by simpa using ht)
      refine ⟨u, hk, fun w' _ => ?_⟩
      simp [execOp, resolve, invoke, builtin, hρ.val _ _ hv, hg w']
    · exact h.elim
  · rename_i as ts
    split at h
    · rename_i x t hx ht
      obtain ⟨v, hv, h⟩ := onV_elim h
      obtain rfl : as = #[x] := Array.ext' (by simpa using hx)
      obtain rfl : ts = #[t] := Array.ext' (by simpa using ht)
      split at h
      · rename_i hu
        exact ⟨_, h, fun w' _ => by simp [execOp, resolve, invoke, builtin, hρ.val _ _ hv, Builtin.cap_, run_underlyingD hu, goInt]⟩
      · exact h.elim
    · exact h.elim
  · rename_i as ts
    split at h
    · rename_i x y hx
      obtain ⟨v, hv, h⟩ := onV_elim h
      obtain ⟨u, hu, h⟩ := onV_elim h
      obtain rfl : as = #[x, y] := Array.ext' (by simpa using hx)
      split at h
      · exact ⟨_, h, fun w' _ => by simp [execOp, resolve, invoke, builtin, hρ.val _ _ hv, hρ.val _ _ hu, Builtin.min_, Builtin.min2, minI]⟩
      · exact h.elim
    · exact h.elim
  · rename_i as ts
    split at h
    · rename_i x y hx
      obtain ⟨v, hv, h⟩ := onV_elim h
      obtain ⟨u, hu, h⟩ := onV_elim h
      obtain rfl : as = #[x, y] := Array.ext' (by simpa using hx)
      split at h
      · exact ⟨_, h, fun w' _ => by simp [execOp, resolve, invoke, builtin, hρ.val _ _ hv, hρ.val _ _ hu, Builtin.max_, Builtin.max2, maxI]⟩
      · exact h.elim
    · exact h.elim
  · exact h.elim

end Go.D
